/-
Nobody's graph makes nothing: the plain law. For every input, no condition.
-/
import Derived.Test.YtgljnnokifggkaaMA
import Derived.Test.YtgljnnokifggkaaPl
import Derived.Test.YtgljnnokifggkaaVm40
set_option linter.unusedVariables false
set_option maxRecDepth 100000
namespace Go.Proofs.Ytgljnnokifggkaa.M
open Go.Proofs.Ytgljnnokifggkaa.Vm Go.Proofs.Ytgljnnokifggkaa.Pl
theorem awake15 (k : Nat) : f21 (k + 8) () = some ((true, ()), ()) := by kernel_rfl
theorem f89_any (k : Nat) (a : Int) : ∃ b, f89 k a = some ((b, ()), ()) := by
  unfold f89; cases decide (a < 0) <;> exact ⟨_, rfl⟩
theorem and2 (k : Nat) (a b : Int) (g : List D_Gate) : f19v2 (k + 1) a b g = some (((-1), ()), ((g, (), ()), ())) := by kernel_rfl
theorem and3 (k : Nat) (a b : Int) : f19v3 (k + 1) a b = some (((-1), ()), ()) := by kernel_rfl
theorem or2 (k : Nat) (a b : Int) (g : List D_Gate) : f26v2 (k + 1) a b g = some (((-1), ()), ((g, (), ()), ())) := by
  unfold f26v2
  obtain ⟨x, hx⟩ := f89_any (k + 1) a
  obtain ⟨y, hy⟩ := f89_any (k + 1) b
  rw [hx, hy]; simp only [Option.bind_some, and2]; rfl
theorem or3 (k : Nat) (a b : Int) : f26v3 (k + 1) a b = some (((-1), ()), ()) := by
  unfold f26v3
  obtain ⟨x, hx⟩ := f89_any (k + 1) a
  obtain ⟨y, hy⟩ := f89_any (k + 1) b
  rw [hx, hy]; simp only [Option.bind_some, and3]; rfl
theorem xor2 (k : Nat) (a b : Int) (g : List D_Gate) : f27v2 (k + 1) a b g = some (((-1), ()), ((g, (), ()), ())) := by
  unfold f27v2
  obtain ⟨x, hx⟩ := f89_any (k + 1) a
  obtain ⟨y, hy⟩ := f89_any (k + 1) b
  rw [hx, hy]; simp only [Option.bind_some, and2, or2]
theorem xor3 (k : Nat) (a b : Int) : f27v3 (k + 1) a b = some (((-1), ()), ()) := by
  unfold f27v3
  obtain ⟨x, hx⟩ := f89_any (k + 1) a
  obtain ⟨y, hy⟩ := f89_any (k + 1) b
  rw [hx, hy]; simp only [Option.bind_some, and3, or3]
theorem ite2 (k : Nat) (c a b : Int) (g : List D_Gate) : f28v2 (k + 1) c a b g = some (((-1), ()), ((g, (), ()), ())) := by
  unfold f28v2
  obtain ⟨x, hx⟩ := f89_any (k + 1) c
  rw [hx]; simp only [Option.bind_some, and2, or2]
theorem ite3 (k : Nat) (c a b : Int) : f28v3 (k + 1) c a b = some (((-1), ()), ()) := by
  unfold f28v3
  obtain ⟨x, hx⟩ := f89_any (k + 1) c
  rw [hx]; simp only [Option.bind_some, and3, or3]
theorem nobody_round0 (k : Nat) (rec : T5_26) (a b c d : Int) : b5_26 (k + 1) rec 0 a b c d = (rec 1 a b c d) := by
  have e : b5_26 (k + 1) rec 0 a b c d = ((rec 1 a b c d).bind fun y21 => match y21 with
      | .inl y21_0 => some (.inl ((), ((y21_0.2.1.1, y21_0.2.1.2.1, y21_0.2.1.2.2.1, y21_0.2.1.2.2.2.1, ()), ())))
      | .inr y21_1 => some (.inr ((y21_1.1.1, ()), ((y21_1.2.1.1, y21_1.2.1.2.1, y21_1.2.1.2.2.1, y21_1.2.1.2.2.2.1, ()), ())))) := by
    unfold b5_26
    have h1 : l5_1682 (k + 1) 0 = some (.inr (((), ()), ())) := rfl
    have h2 : f25v3 (k + 1) () = some (((-1), ()), ()) := rfl
    have h3 : f29v3 (k + 1) [b] = some (((-1), ()), ()) := rfl
    have h4 : f24v3 (k + 1) b = some ((false, ()), ()) := rfl
    have h5 : f23v3 (k + 1) () = some (([], ()), ()) := rfl
    have h6 : f20v3 (k + 1) () = some ((0, ()), ()) := rfl
    rw [h1]
    simp only [Option.bind_some, h2, h3, h4, h5, h6, and3, or3, xor3, ite3]
    rfl
  rw [e]
  cases rec 1 a b c d with
  | none => rfl
  | some y => cases y <;> rfl
theorem nobody_round1 (k : Nat) (rec : T5_26) (a b c d : Int) : b5_26 (k + 1) rec 1 a b c d = (rec 2 a b c d) := by
  have e : b5_26 (k + 1) rec 1 a b c d = ((rec 2 a b c d).bind fun y21 => match y21 with
      | .inl y21_0 => some (.inl ((), ((y21_0.2.1.1, y21_0.2.1.2.1, y21_0.2.1.2.2.1, y21_0.2.1.2.2.2.1, ()), ())))
      | .inr y21_1 => some (.inr ((y21_1.1.1, ()), ((y21_1.2.1.1, y21_1.2.1.2.1, y21_1.2.1.2.2.1, y21_1.2.1.2.2.2.1, ()), ())))) := by
    unfold b5_26
    have h1 : l5_1682 (k + 1) 1 = some (.inl (((), ()), (([], (), ()), ()))) := rfl
    have h2 : f25v2 (k + 1) [] = some (((-1), ()), (([], (), ()), ())) := rfl
    have h3 : f29v2 (k + 1) [b] [] = some (((-1), ()), (([], (), ()), ())) := rfl
    have h4 : f24v2 (k + 1) b [] = some ((false, ()), ()) := rfl
    have h5 : f23v2 (k + 1) [] = some (([], ()), ()) := by kernel_rfl
    have h6 : f20v2 (k + 1) [] = some ((0, ()), ()) := rfl
    rw [h1]
    simp only [Option.bind_some, h2, h3, h4, h5, h6, and2, or2, xor2, ite2]
    rfl
  rw [e]
  cases rec 2 a b c d with
  | none => rfl
  | some y => cases y <;> rfl
theorem Pure.AigNobody (a : D_Act) (_ : Fit T_Act a) : ∃ k, f5 k a = some ((true, ()), ()) := by
  refine ⟨9, ?_⟩
  have h : l5_26 9 9 0 a.1 a.2.1 a.2.2.1 a.2.2.2.1 = some (.inl ((), ((a.1, a.2.1, a.2.2.1, a.2.2.2.1, ()), ()))) :=
    (nobody_round0 8 (l5_26 9 8) _ _ _ _).trans ((nobody_round1 8 (l5_26 9 7) _ _ _ _).trans rfl)
  unfold f5
  rw [h]
  simp only [Option.bind_some, awake15 1]
end Go.Proofs.Ytgljnnokifggkaa.M
