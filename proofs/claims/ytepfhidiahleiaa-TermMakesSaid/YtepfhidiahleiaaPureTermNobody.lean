/-
Nobody's terms make nothing: the plain law. For every input, no condition.
-/
import Derived.Test.YtepfhidiahleiaaMA
import Derived.Test.YtepfhidiahleiaaPl
import Derived.Test.YtepfhidiahleiaaVm40
set_option linter.unusedVariables false
set_option linter.unusedSimpArgs false
set_option maxRecDepth 100000
namespace Go.Proofs.Ytepfhidiahleiaa.M
open Go Go.Proofs.Ytepfhidiahleiaa.Vm Go.Proofs.Ytepfhidiahleiaa.Pl
namespace Term
theorem awake8 (k : Nat) : f8 (k + 30) () = some ((true, ()), ()) := by kernel_rfl
theorem awake8E : E fun k => f8 k () = some ((true, ()), ()) := ⟨30, fun k hk => by obtain ⟨j, rfl⟩ : ∃ j, k = j + 30 := ⟨k - 30, by omega⟩; exact awake8 j⟩
theorem here105 (k : Nat) (i w : Int) : f105 k i w [] = some ((true, ()), ()) := by
  unfold f105
  by_cases h : i < 0
  · rw [decide_eq_true h]; rfl
  · have e : decide (i ≥ (([] : List D_Term).length : Int)) = true := decide_eq_true (by simp; omega)
    rw [decide_eq_false h, cond_false, e]
theorem none81 (k : Nat) (a : Int) (r : List Int) (w : Int) : f81 (k + 1) (a :: r) w [] = some ((false, ()), ()) := by
  have h : l106_26 (k + 1) (k + 1) (a :: r) (((a :: r).length : Nat) : Int) 0 w [] = some (.inr ((0, ()), ((), (), ()))) := by
    show b106_26 (k + 1) (l106_26 (k + 1) k) (a :: r) (((a :: r).length : Nat) : Int) 0 w [] = _
    unfold b106_26
    have hx : (a :: r)[(0 : Int).toNat]? = some a := rfl
    rw [decide_eq_true (by simp : (0 : Int) < (((a :: r).length : Nat) : Int)), cond_true, ix_get (by omega) hx, here105]
    rfl
  unfold f81 f86 f106
  rw [h]
  rfl
theorem not89 (k : Nat) (a w : Int) : f89 (k + 1) a w [] = some ((false, ()), ()) := by unfold f89; rw [none81]; rfl
theorem not45 (k : Nat) (a b w : Int) : f45 (k + 1) a b w [] = some ((-1, ()), ((w, [], (), ()), ())) := by unfold f45; rw [not89]; rfl
theorem not46 (k : Nat) (a w : Int) : f46 (k + 1) a w [] = some ((-1, ()), ((w, [], (), ()), ())) := by unfold f46; rw [not89]; rfl
theorem read21 (k : Nat) (a w : Int) (l : List D_Term) : f21 k a w l = some ((-1, ()), ((w, l, (), ()), ())) := by
  unfold f21
  cases decide (a < 0) <;> cases decide (a ≥ 64) <;> rfl
theorem read21v2 (k : Nat) (a : Int) : f21v2 k a = some ((-1, ()), ()) := by
  unfold f21v2
  cases decide (a < 0) <;> cases decide (a ≥ 64) <;> rfl
theorem do16 (k : Nat) (x : D_Act) (w : Int) : f16 (k + 1) x w [] = some ((-1, ()), ((w, [], (), ()), ())) := by
  have e42 : ∀ op a, f42 (k + 1) op a w [] = some ((-1, ()), ((w, [], (), ()), ())) := fun op a => by unfold f42; rw [none81]; rfl
  have e37 : ∀ op a b, f37 (k + 1) op a b w [] = some ((-1, ()), ((w, [], (), ()), ())) := fun op a b => by unfold f37; rw [none81]; rfl
  have e43 : ∀ c a b, f43 (k + 1) c a b w [] = some ((-1, ()), ((w, [], (), ()), ())) := fun c a b => by unfold f43; rw [none81]; rfl
  have e44 : ∀ a, f44 (k + 1) a w [] = some ((-1, ()), ((w, [], (), ()), ())) := fun a => by unfold f44; rw [none81]; rfl
  have e47 : ∀ a b, f47 (k + 1) a b w [] = some ((-1, ()), ((w, [], (), ()), ())) := fun a b => by
    unfold f47
    simp only [not46, Option.bind_some, not45]
  unfold f16
  have e20 : f20v2 (k + 1) x.2.2.1 w [] = some ((-1, ()), ((w, [], (), ()), ())) := rfl
  simp only [e20, read21, e42, e37, e43, e44, not45, not46, e47, Option.bind_some]
  cases (x.1 == 0) <;> cases (x.1 == 1) <;> cases (x.1 == 2) <;> cases (x.1 == 3) <;> cases (x.1 == 4) <;> cases (x.1 == 5) <;> cases (x.1 == 6) <;> cases (x.1 == 7) <;> rfl
theorem do16v2 (k : Nat) (x : D_Act) : f16v2 k x = some ((-1, ()), ()) := by
  unfold f16v2
  simp only [read21v2, Option.bind_some]
  cases (x.1 == 0) <;> cases (x.1 == 1) <;> cases (x.1 == 2) <;> cases (x.1 == 3) <;> cases (x.1 == 4) <;> cases (x.1 == 5) <;> cases (x.1 == 6) <;> cases (x.1 == 7) <;> rfl
end Term
open Term in
theorem Pure.TermNobody (x : D_Act) (_ : Fit T_Act x) : ∃ k, f5 k x = some ((true, ()), ()) := by
  refine (awake8E.mono2 (E.ge 100) fun k e hk => ?_).ex
  obtain ⟨k, rfl⟩ : ∃ j, k = j + 3 := ⟨k - 3, by omega⟩
  obtain ⟨a, b, c, d, q, u⟩ := x
  have h19 : f19 (k + 3) 0 [] = some (([], ()), ()) := rfl
  have h : l5_26 (k + 3) (k + 3) 0 a b c d q = some (.inl ((), ((a, b, c, d, q, ()), ()))) := by
    show b5_26 (k + 3) (l5_26 (k + 3) (k + 2)) 0 a b c d q = _
    have h1 : l5_1682 (k + 3) 0 = some (.inr (((), ()), ())) := rfl
    have h2 : l5_1682 (k + 3) 1 = some (.inl (((), ()), ((0, [], (), ()), ()))) := rfl
    have h3 : l5_26 (k + 3) (k + 2) 1 a b c d q = some (.inl ((), ((a, b, c, d, q, ()), ()))) := by
      show b5_26 (k + 3) (l5_26 (k + 3) (k + 1)) 1 a b c d q = _
      have h4 : l5_26 (k + 3) (k + 1) 2 a b c d q = some (.inl ((), ((a, b, c, d, q, ()), ()))) := rfl
      have w2 : w64 (1 + 1) = 2 := rfl
      have h20 : f20v2 (k + 3) 1 0 [] = some ((-1, ()), ((0, [], (), ()), ())) := rfl
      unfold b5_26
      simp only [h2, Option.bind_some, do16, h20, read21, h19, w2, h4]
      rfl
    have w1 : w64 (0 + 1) = 1 := rfl
    have h20 : f20v3 (k + 3) 1 = some ((-1, ()), ()) := rfl
    have h19' : f19v2 (k + 3) () = some (([], ()), ()) := rfl
    unfold b5_26
    simp only [h1, Option.bind_some, do16v2, h20, read21v2, h19', w1, h3]
    rfl
  unfold f5
  simp only [h, Option.bind_some, e]
end Go.Proofs.Ytepfhidiahleiaa.M
