/-
Which place is told of anything that is made, and all terms: the plain law. For every input, no condition.
-/
import Derived.Test.YtepfhidiahleiaaTermT
import Derived.Test.YtepfhidiahleiaaPureTermNobody
set_option linter.unusedVariables false
set_option linter.unusedSimpArgs false
set_option maxRecDepth 100000
namespace Go.Proofs.Ytepfhidiahleiaa.M
open Go Go.Proofs.Ytepfhidiahleiaa.Vm Go.Proofs.Ytepfhidiahleiaa.Pl
namespace Term
theorem light15 (k : Nat) (hk : 100 ≤ k) (l : List D_Act) : ∃ b : Bool, f15 k l = some ((b, ()), ()) := by
  have loop : ∀ (d i : Nat), 40 - i = d → ∀ j, d < j → (l15_26 k j l i = some (.inl ((), ()))) ∨ (l15_26 k j l i = some (.inr ((false, ()), ()))) := by
    intro d
    induction d with
    | zero =>
      intro i hi j hj
      obtain ⟨j, rfl, _⟩ := succ_of (n := 0) (by omega : 0 + 1 ≤ j)
      show (b15_26 k (l15_26 k j) l i = _) ∨ (b15_26 k (l15_26 k j) l i = _)
      unfold b15_26
      rw [decide_eq_false (by omega : ¬ (i : Int) < 40)]
      cases decide ((i : Int) < l.length) <;> exact .inl rfl
    | succ d ih =>
      intro i hi j hj
      obtain ⟨j, rfl, hj2⟩ := succ_of (by omega : d + 1 + 1 ≤ j)
      show (b15_26 k (l15_26 k j) l i = _) ∨ (b15_26 k (l15_26 k j) l i = _)
      have hw : w64 ((i : Int) + 1) = ((i + 1 : Nat) : Int) := by rw [w64_id (by omega) (by omega)]; omega
      have hrec := ih (i + 1) (by omega) j hj2
      unfold b15_26
      rw [decide_eq_true (by omega : (i : Int) < 40), hw]
      by_cases hil : i < l.length
      · have hx : l[i]? = some l[i] := List.getElem?_eq_getElem hil
        rw [decide_eq_true (by omega : (i : Int) < l.length), cond_true, cond_true, ix_nat hx]
        cases decide ((l[i].2.1.size : Int) > 20) with
        | true => exact .inr rfl
        | false =>
          rcases hrec with h | h <;> rw [h]
          · exact .inl rfl
          · exact .inr rfl
      · rw [decide_eq_false (by omega : ¬ (i : Int) < l.length)]; exact .inl rfl
  unfold f15
  have := loop 40 0 rfl k (by omega)
  rw [show ((0 : Nat) : Int) = 0 from rfl] at this
  rcases this with h | h <;> rw [h]
  · exact ⟨true, rfl⟩
  · exact ⟨false, rfl⟩
theorem acts_loop (k : Nat) (hk : 10000 ≤ k) {w : Nat} (h : Wd w) (acts : List D_Act) : ∀ (d i : Nat) (g : List D_Term) (m : Mp), 30 - i = d → i ≤ 30 → MapOk g m → Good w g → g.length ≤ 4 * i → ∀ j, d < j →
    ∃ (g' : List D_Term) (m' : Mp), g'.length ≤ 120 ∧ l4_1018 k j w acts g i w g m = some (.inl ((g', ()), (((w : Int), g', (), ()), m', ()))) := by
  intro d
  induction d with
  | zero =>
    intro i g m hi hi2 hm hg hl j hj
    obtain ⟨j, rfl, _⟩ := succ_of (n := 0) (by omega : 0 + 1 ≤ j)
    refine ⟨g, m, by omega, ?_⟩
    show b4_1018 k (l4_1018 k j) w acts g i w g m = _
    unfold b4_1018
    rw [decide_eq_false (by omega : ¬ (i : Int) < 30)]
    cases decide ((i : Int) < acts.length) <;> rfl
  | succ d ih =>
    intro i g m hi hi2 hm hg hl j hj
    obtain ⟨j, rfl, hj2⟩ := succ_of (by omega : d + 1 + 1 ≤ j)
    by_cases hil : i < acts.length
    · have hx : acts[i]? = some acts[i] := List.getElem?_eq_getElem hil
      obtain ⟨g1, r, m1, a1, a2, a3, a4, a5⟩ := do_sim (k := k) hk h hm (by omega) hg acts[i]
      obtain ⟨g', m', b1, b2⟩ := ih (i + 1) g1 m1 (by omega) (by omega) a3 a1 (by omega) j hj2
      refine ⟨g', m', b1, ?_⟩
      show b4_1018 k (l4_1018 k j) w acts g i w g m = _
      have hw : w64 ((i : Int) + 1) = ((i + 1 : Nat) : Int) := by rw [w64_id (by omega) (by omega)]; omega
      unfold b4_1018
      rw [decide_eq_true (by omega : (i : Int) < acts.length), cond_true, decide_eq_true (by omega : (i : Int) < 30), cond_true, ix_nat hx, a4]
      simp only [Option.bind_some]
      rw [ix_nat hx, a5]
      simp only [Option.bind_some, bne_self_eq_false, cond_false]
      rw [hw, b2]
      rfl
    · refine ⟨g, m, by omega, ?_⟩
      show b4_1018 k (l4_1018 k j) w acts g i w g m = _
      unfold b4_1018
      rw [decide_eq_false (by omega : ¬ (i : Int) < acts.length)]
      rfl
theorem same_loop (k : Nat) {g : List D_Term} (hg : g.length ≤ 1000) : ∀ (d i : Nat), g.length - i = d → ∀ j, d < j → l18_58 k j g g i = some (.inl ((), ())) := by
  intro d
  induction d with
  | zero =>
    intro i hi j hj
    obtain ⟨j, rfl, _⟩ := succ_of (n := 0) (by omega : 0 + 1 ≤ j)
    show b18_58 k (l18_58 k j) g g i = _
    unfold b18_58
    rw [decide_eq_false (by omega : ¬ (i : Int) < g.length)]
    rfl
  | succ d ih =>
    intro i hi j hj
    obtain ⟨j, rfl, hj2⟩ := succ_of (by omega : d + 1 + 1 ≤ j)
    show b18_58 k (l18_58 k j) g g i = _
    have hx : g[i]? = some g[i] := List.getElem?_eq_getElem (by omega)
    have hw : w64 ((i : Int) + 1) = ((i + 1 : Nat) : Int) := by rw [w64_id (by omega) (by omega)]; omega
    have hrec := ih (i + 1) (by omega) j hj2
    have hq : beqD T_Term g[i] g[i] = true := beq_refl g[i]
    unfold b18_58
    rw [decide_eq_true (by omega : (i : Int) < g.length), cond_true, ix_nat hx, ix_nat hx, hq, hw, hrec]
    rfl
theorem same18 (k : Nat) (hk : 2000 ≤ k) {g : List D_Term} (hg : g.length ≤ 1000) : f18 k g g = some ((true, ()), ()) := by
  have := same_loop k hg g.length 0 rfl k (by omega)
  rw [show ((0 : Nat) : Int) = 0 from rfl] at this
  unfold f18
  rw [this]
  simp only [bne_self_eq_false, cond_false]
  rfl
theorem all19 (k : Nat) {w : Int} {g : List D_Term} {m : Mp} (hg : g.length ≤ 1000) : f19v3 k w g m = some ((g, ()), ()) := by
  unfold f19v3 f57 f57v3
  rw [gd_dec (by unfold room; omega), List.nil_append]
  rfl
end Term
open Term in
theorem Pure.TermMakes (width : Int) (_ : Fit i64 width) (l : List D_Act) (_ : Fit (.slice T_Act) l) : ∃ k, f4 k width l = some ((true, ()), ()) := by
  refine (awake8E.mono2 (E.ge 20000) fun k e hk => ?_).ex
  obtain ⟨b, hb⟩ := light15 k (by omega) l
  unfold f4 f14 l4_28
  by_cases hw : 1 ≤ width ∧ width ≤ 8
  · obtain ⟨w, rfl⟩ : ∃ v : Nat, width = v := ⟨width.toNat, by omega⟩
    have h : Wd w := ⟨by omega, by omega⟩
    rw [wide40 k h]
    simp only [Option.bind_some, Bool.not_true, cond_false]
    rw [decide_eq_false (by omega : ¬ (w : Int) < 1), decide_eq_false (by omega : ¬ (w : Int) > 8)]
    simp only [cond_false, Option.bind_some]
    rw [hb]
    simp only [Option.bind_some]
    cases b with
    | false =>
      simp only [Bool.not_false, cond_true]
      rw [e]
      rfl
    | true =>
      obtain ⟨g', m', h1, h2⟩ := acts_loop k (by omega) h l 30 0 [] [] rfl (by omega) (fun x => rfl) (fun e he => by cases he) (by simp) k (by omega)
      rw [show ((0 : Nat) : Int) = 0 from rfl] at h2
      simp only [Bool.not_true, cond_false, bne_self_eq_false]
      rw [h2]
      simp only [Option.bind_some]
      rw [all19 k (by omega)]
      simp only [Option.bind_some]
      rw [same18 k (by omega) (by omega)]
      simp only [Option.bind_some, cond_true]
      rw [e]
      rfl
  · have h40 : f40 k width = some ((false, ()), ()) := by
      unfold f40
      by_cases h1 : width ≥ 1
      · rw [decide_eq_true h1, cond_true, decide_eq_false (by omega : ¬ width ≤ 8)]
      · rw [decide_eq_false h1]; rfl
    have h28 : (cond (decide (width < 1)) (some ((true, ()), ())) (some ((decide (width > 8), ()), ())) : Option R4_28) = some ((true, ()), ()) := by
      by_cases h1 : width < 1
      · rw [decide_eq_true h1]; rfl
      · rw [decide_eq_false h1, decide_eq_true (by omega : width > 8)]; rfl
    rw [h40]
    simp only [Option.bind_some, Bool.not_false, cond_true]
    rw [h28]
    simp only [Option.bind_some, cond_true]
    rw [e]
    rfl
end Go.Proofs.Ytepfhidiahleiaa.M
