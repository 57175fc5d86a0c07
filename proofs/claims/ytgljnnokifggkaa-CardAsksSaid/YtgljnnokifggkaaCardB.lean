/-
Counting: which literals can be counted, how many are true; the law's begin.
-/
import Derived.Test.YtgljnnokifggkaaCardA
set_option linter.unusedVariables false
set_option linter.unusedSimpArgs false
set_option maxRecDepth 100000
namespace Go.Proofs.Ytgljnnokifggkaa.M
open Go Go.Proofs.Ytgljnnokifggkaa.Vm Go.Proofs.Ytgljnnokifggkaa.Pl
namespace Card
open Aig Vec
variable {g : List D_Gate} {m : Mp} {ins : List Bool}
theorem awakeE : E fun k => f71 k () = some ((true, ()), ()) := awake71E
theorem is67 (k : Nat) (hg : g.length ≤ 1048576) (l : Int) : f67 k g l = some ((isL g l, ()), ()) := is24 (m := []) k hg l
/-- Can literals be counted? -/
def mayL (g : List D_Gate) (l : List Int) : Bool := l.all (isL g) && decide (l.length ≤ 64)
theorem may_loop74 (k : Nat) (hg : g.length ≤ 1000) {l : List Int} (hl : l.length ≤ 1000) : ∀ (d i : Nat), l.length - i = d → ∀ j, d < j → l74_26 k j g l i = if (l.drop i).all (isL g) then some (.inl ((), ())) else some (.inr ((false, ()), ())) := by
  intro d
  induction d with
  | zero =>
    intro i hi j hj
    obtain ⟨j, rfl, _⟩ := succ_of (n := 0) (by omega : 0 + 1 ≤ j)
    show b74_26 k (l74_26 k j) g l i = _
    unfold b74_26
    rw [decide_eq_false (by omega : ¬ (i : Int) < l.length), List.drop_of_length_le (by omega)]; rfl
  | succ d ih =>
    intro i hi j hj
    obtain ⟨j, rfl, hj2⟩ := succ_of (by omega : d + 1 + 1 ≤ j)
    show b74_26 k (l74_26 k j) g l i = _
    have hw1 : w64 ((i : Int) + 1) = ((i + 1 : Nat) : Int) := by rw [w_id (by omega) (by omega)]; omega
    have hlt : i < l.length := by omega
    have hx : l[i]? = some l[i] := List.getElem?_eq_getElem hlt
    unfold b74_26
    rw [decide_eq_true (by omega : (i : Int) < l.length), cond_true, ix_nat hx, is67 k (by omega)]
    simp only [Option.bind_some]
    rw [hw1, ih (i + 1) (by omega) j hj2, List.drop_eq_getElem_cons hlt, List.all_cons]
    cases isL g l[i] with
    | false => rfl
    | true =>
      simp only [Bool.not_true, cond_false, Bool.true_and]
      split <;> rfl
theorem may74 (k : Nat) (hk : 200 < k) (hg : g.length ≤ 1000) {l : List Int} (hl : l.length ≤ 100) : f74 k g l = some ((mayL g l, ()), ()) := by
  unfold f74 mayL
  have := may_loop74 k hg (l := l) (by omega) l.length 0 (by omega) k (by omega)
  rw [show ((0 : Nat) : Int) = 0 from rfl, List.drop_zero] at this
  rw [this]
  have e : decide ((l.length : Int) ≤ 64) = decide (l.length ≤ 64) := by
    by_cases h : l.length ≤ 64
    · rw [decide_eq_true h, decide_eq_true (by omega)]
    · rw [decide_eq_false h, decide_eq_false (by omega)]
  cases l.all (isL g) with
  | true => simp [e]
  | false => rfl
theorem may_loop113 (k : Nat) (hg : g.length ≤ 1000000) {l : List Int} (hl : l.length ≤ 1000) : ∀ (d i : Nat), l.length - i = d → ∀ j, d < j → ∃ r : Int, 0 ≤ r ∧ l113v2_26 k j l l.length i g m = if (l.drop i).all (isL g) then some (.inl ((), ((), (), (), ()))) else some (.inr ((r, ()), ((), (), (), ()))) := by
  intro d
  induction d with
  | zero =>
    intro i hi j hj
    obtain ⟨j, rfl, _⟩ := succ_of (n := 0) (by omega : 0 + 1 ≤ j)
    refine ⟨0, Int.le_refl _, ?_⟩
    show b113v2_26 k (l113v2_26 k j) l l.length i g m = _
    unfold b113v2_26
    rw [decide_eq_false (by omega : ¬ (i : Int) < l.length), List.drop_of_length_le (by omega)]; rfl
  | succ d ih =>
    intro i hi j hj
    obtain ⟨j, rfl, hj2⟩ := succ_of (by omega : d + 1 + 1 ≤ j)
    have hw1 : w64 ((i : Int) + 1) = ((i + 1 : Nat) : Int) := by rw [w_id (by omega) (by omega)]; omega
    have hlt : i < l.length := by omega
    have hx : l[i]? = some l[i] := List.getElem?_eq_getElem hlt
    obtain ⟨r, hr, e⟩ := ih (i + 1) (by omega) j hj2
    have main : l113v2_26 k (j + 1) l l.length i g m = cond (!isL g l[i]) (some (.inr (((i : Int), ()), ((), (), (), ())))) (if (l.drop (i + 1)).all (isL g) then some (.inl ((), ((), (), (), ()))) else some (.inr ((r, ()), ((), (), (), ())))) := by
      show b113v2_26 k (l113v2_26 k j) l l.length i g m = _
      unfold b113v2_26 f116
      rw [decide_eq_true (by omega : (i : Int) < l.length), cond_true, ix_nat hx, is24 k (by omega)]
      simp only [Option.bind_some]
      rw [hw1, e]
      cases isL g l[i] with
      | false => rfl
      | true =>
        simp only [Bool.not_true, cond_false]
        split <;> rfl
    rw [List.drop_eq_getElem_cons hlt, List.all_cons]
    cases h : isL g l[i] with
    | false => exact ⟨i, by omega, by rw [main, h]; rfl⟩
    | true => exact ⟨r, hr, by rw [main, h]; rfl⟩
theorem may109 (k : Nat) (hk : 200 < k) (hg : g.length ≤ 1000000) {l : List Int} (hl : l.length ≤ 100) : f109 k l g m = some ((mayL g l, ()), ()) := by
  unfold f109 mayL
  have h0 : isL g 0 = true := isL_iff.2 (by omega)
  obtain ⟨r, hr, e⟩ := may_loop113 (m := m) k hg (l := l) (by omega) l.length 0 (by omega) k (by omega)
  rw [show ((0 : Nat) : Int) = 0 from rfl, List.drop_zero] at e
  rw [is24 k (by omega), h0]
  simp only [Option.bind_some, cond_true]
  by_cases h : l.length ≤ 64
  · rw [decide_eq_true h, decide_eq_true (by omega : (l.length : Int) ≤ 64), cond_true]
    unfold f106v2 f113v2
    rw [e]
    cases l.all (isL g) with
    | true => rfl
    | false =>
      simp only [Bool.false_eq_true, if_false, Option.bind_some]
      rw [decide_eq_true (by omega : r ≥ 0)]; rfl
  · rw [decide_eq_false h, decide_eq_false (by omega : ¬ (l.length : Int) ≤ 64), Bool.and_false]; rfl

/-! ### how many are true -/
def cntL (v : Int → Bool) (l : List Int) : Nat := (l.filter v).length
theorem cntL_cons (v : Int → Bool) (x : Int) (l : List Int) : cntL v (x :: l) = (if v x then 1 else 0) + cntL v l := by
  unfold cntL
  rw [List.filter_cons]
  split
  · rw [List.length_cons]; omega
  · omega
theorem cntL_append (v : Int → Bool) (a b : List Int) : cntL v (a ++ b) = cntL v a + cntL v b := by unfold cntL; rw [List.filter_append, List.length_append]
theorem cntL_le (v : Int → Bool) (l : List Int) : cntL v l ≤ l.length := by unfold cntL; exact List.length_filter_le ..
theorem true_loop75 (k : Nat) (hv : Valid g) (hg : g.length ≤ 1000) (hk : 5000 ≤ k) {l : List Int} (hl : l.length ≤ 1000) (h : ∀ x ∈ l, isL g x = true) : ∀ (d i : Nat) (n : Nat), l.length - i = d → n ≤ 1000 + i → ∀ j, d < j → l75_58 k j g ins l n i = some ((((n + cntL (Aig.val ins g) (l.drop i) : Nat) : Int), ()), ()) := by
  intro d
  induction d with
  | zero =>
    intro i n hi hn j hj
    obtain ⟨j, rfl, _⟩ := succ_of (n := 0) (by omega : 0 + 1 ≤ j)
    show b75_58 k (l75_58 k j) g ins l n i = _
    unfold b75_58
    rw [decide_eq_false (by omega : ¬ (i : Int) < l.length), List.drop_of_length_le (by omega)]; rfl
  | succ d ih =>
    intro i n hi hn j hj
    obtain ⟨j, rfl, hj2⟩ := succ_of (by omega : d + 1 + 1 ≤ j)
    show b75_58 k (l75_58 k j) g ins l n i = _
    have hw1 : w64 ((i : Int) + 1) = ((i + 1 : Nat) : Int) := by rw [w_id (by omega) (by omega)]; omega
    have hw2 : w64 ((n : Int) + 1) = ((n + 1 : Nat) : Int) := by rw [w_id (by omega) (by omega)]; omega
    have hlt : i < l.length := by omega
    have hx : l[i]? = some l[i] := List.getElem?_eq_getElem hlt
    have hl1 := isL_iff.1 (h _ (List.getElem_mem hlt))
    have ht := true35 (ins := ins) hv (by omega) (l[i].toNat + 1) l[i] hl1.1 hl1.2 (by omega) k (by omega)
    unfold b75_58
    rw [decide_eq_true (by omega : (i : Int) < l.length), cond_true, ix_nat hx, ht]
    simp only [Option.bind_some]
    rw [hw1, hw2, ih (i + 1) (n + 1) (by omega) (by omega) j hj2, ih (i + 1) n (by omega) (by omega) j hj2, List.drop_eq_getElem_cons hlt, cntL_cons]
    cases Aig.val ins g l[i] with
    | true =>
      simp only [cond_true, Option.bind_some, if_true]
      congr 4; omega
    | false =>
      simp only [cond_false, Option.bind_some, Bool.false_eq_true, if_false]
      congr 4; omega
theorem true75 (k : Nat) (hv : Valid g) (hg : g.length ≤ 1000) (hk : 5000 ≤ k) {l : List Int} (hl : l.length ≤ 1000) (h : ∀ x ∈ l, isL g x = true) : f75 k g ins l = some ((((cntL (Aig.val ins g) l : Nat) : Int), ()), ()) := by
  unfold f75
  have := true_loop75 (ins := ins) k hv hg hk hl h l.length 0 0 (by omega) (by omega) k (by omega)
  rw [show ((0 : Nat) : Int) = 0 from rfl, List.drop_zero, Nat.zero_add] at this
  rw [this]; rfl

/-! ### the law's begin -/
theorem begin72 {l : List Int} : (∃ m, MapOk g m ∧ Valid g ∧ g.length ≤ 12 ∧ l.length ≤ 100 ∧ E fun k => f72 k g l = some (.inr (((), true, ()), ((g, (), ()), m, ())))) ∨ E fun k => f72 k g l = some (.inl (((), false, ()), ())) := by
  by_cases h1 : (g.length : Int) > 12
  · refine .inr (.all fun k => ?_)
    unfold f72; rw [decide_eq_true h1]; rfl
  · by_cases h2 : (l.length : Int) > 100
    · refine .inr (.all fun k => ?_)
      unfold f72; rw [decide_eq_false h1, decide_eq_true h2]; rfl
    · cases hm : okFrom 0 g with
      | false =>
        refine .inr ((E.ge 100).mono fun k hk => ?_)
        unfold f72
        rw [decide_eq_false h1, decide_eq_false h2, may32 k (by omega) (by omega), hm]; rfl
      | true =>
        have hv := valid_iff.1 hm
        obtain ⟨m, h3, h4⟩ := load30 hv (by omega)
        refine .inl ⟨m, h3, hv, by omega, by omega, (E.ge 100).mono fun k hk => ?_⟩
        unfold f72
        rw [decide_eq_false h1, decide_eq_false h2, may32 k (by omega) (by omega), hm]
        simp only [cond_false, Option.bind_some, Bool.not_true]
        rw [h4 k (by omega)]; rfl
end Card
end Go.Proofs.Ytgljnnokifggkaa.M
