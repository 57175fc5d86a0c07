/-
Shapes: which there may be, by the program and by the reference.
-/
import Derived.Test.YtnkjnbfaechiaaaMA
import Derived.Test.YtnkjnbfaechiaaaPl
set_option linter.unusedVariables false
set_option linter.unusedSimpArgs false
set_option maxRecDepth 100000
namespace Go.Proofs.Ytnkjnbfaechiaaa.M
open Go Go.Proofs.Ytnkjnbfaechiaaa.Vm Go.Proofs.Ytnkjnbfaechiaaa.Pl
namespace Sh
abbrev Ev := D_Event
/-! ### small words -/
theorem i_eq (a b : Int) : (a == b) = decide (a = b) := by
  by_cases h : a = b
  · subst h; simp
  · rw [decide_eq_false h]; exact beq_eq_false_iff_ne.2 h
theorem i_ne (a b : Int) : (a != b) = decide (a ≠ b) := by
  unfold bne; rw [i_eq]
  by_cases h : a = b <;> simp [h]
theorem ix_neg {A R : Type} {xs : List A} {n : Int} {K : A → Option R} (h : n < 0) : ix xs n K = none := by
  unfold ix; rw [decide_eq_false (by omega)]; rfl
/-! ### two lists of numbers -/
theorem drop_cons {l : List Int} {i : Nat} (h : i < l.length) : l.drop i = l[i] :: l.drop (i + 1) := List.drop_eq_getElem_cons h
theorem eq25 (k : Nat) {l m : List Int} (hl : l.length ≤ 100) (he : l.length = m.length) : ∀ (q i : Nat), l.length - i = q → ∀ j, q < j →
    l25_58 k j l m (l.length : Int) i = cond (decide (l.drop i = m.drop i)) (some (.inl ((), ()))) (some (.inr ((false, ()), ()))) := by
  intro q
  induction q with
  | zero =>
    intro i hi j hj
    obtain ⟨j, rfl, _⟩ := succ_of (n := 0) (by omega : 0 + 1 ≤ j)
    show b25_58 k (l25_58 k j) l m (l.length : Int) i = _
    unfold b25_58
    rw [decide_eq_false (by omega : ¬ (i : Int) < l.length), List.drop_of_length_le (by omega), List.drop_of_length_le (by omega)]; rfl
  | succ q ih =>
    intro i hi j hj
    obtain ⟨j, rfl, hj2⟩ := succ_of (by omega : q + 1 + 1 ≤ j)
    have hlt : i < l.length := by omega
    have hlt2 : i < m.length := by omega
    show b25_58 k (l25_58 k j) l m (l.length : Int) i = _
    unfold b25_58
    rw [decide_eq_true (by omega : (i : Int) < l.length), cond_true, ix_nat (List.getElem?_eq_getElem hlt), ix_nat (List.getElem?_eq_getElem hlt2), w1 (by omega), ih (i + 1) (by omega) j hj2, i_ne, drop_cons hlt, drop_cons hlt2]
    by_cases h1 : l[i] = m[i]
    · rw [decide_eq_false (by simpa using h1)]
      by_cases h2 : l.drop (i + 1) = m.drop (i + 1)
      · rw [decide_eq_true h2, decide_eq_true (by rw [h1, h2])]; rfl
      · rw [decide_eq_false h2, decide_eq_false (fun h => h2 (List.cons.inj h).2)]; rfl
    · rw [decide_eq_true h1, decide_eq_false (fun h => h1 (List.cons.inj h).1)]; rfl
theorem equal25 (k : Nat) {l m : List Int} (hl : l.length ≤ 100) (hk : l.length < k) : f25 k l m = some ((decide (l = m), ()), ()) := by
  unfold f25
  rw [i_ne]
  by_cases he : l.length = m.length
  · rw [decide_eq_false (by simp [he])]
    have := eq25 k hl he l.length 0 (by omega) k hk
    rw [List.drop_zero, List.drop_zero, show ((0 : Nat) : Int) = 0 from rfl] at this
    rw [cond_false, this]
    by_cases h : l = m
    · rw [decide_eq_true h]; rfl
    · rw [decide_eq_false h]; rfl
  · rw [decide_eq_true (by omega : (l.length : Int) ≠ m.length), decide_eq_false (fun h => he (by rw [h]))]; rfl
theorem eq18 (k : Nat) {l m : List Int} (hl : l.length ≤ 100) (he : l.length = m.length) : ∀ (q i : Nat), l.length - i = q → ∀ j, q < j →
    l18_58 k j l m i = cond (decide (l.drop i = m.drop i)) (some (.inl ((), ()))) (some (.inr ((false, ()), ()))) := by
  intro q
  induction q with
  | zero =>
    intro i hi j hj
    obtain ⟨j, rfl, _⟩ := succ_of (n := 0) (by omega : 0 + 1 ≤ j)
    show b18_58 k (l18_58 k j) l m i = _
    unfold b18_58
    rw [decide_eq_false (by omega : ¬ (i : Int) < l.length), List.drop_of_length_le (by omega), List.drop_of_length_le (by omega)]; rfl
  | succ q ih =>
    intro i hi j hj
    obtain ⟨j, rfl, hj2⟩ := succ_of (by omega : q + 1 + 1 ≤ j)
    have hlt : i < l.length := by omega
    have hlt2 : i < m.length := by omega
    show b18_58 k (l18_58 k j) l m i = _
    unfold b18_58
    rw [decide_eq_true (by omega : (i : Int) < l.length), cond_true, ix_nat (List.getElem?_eq_getElem hlt), ix_nat (List.getElem?_eq_getElem hlt2), w1 (by omega), ih (i + 1) (by omega) j hj2, i_ne, drop_cons hlt, drop_cons hlt2]
    by_cases h1 : l[i] = m[i]
    · rw [decide_eq_false (by simpa using h1)]
      by_cases h2 : l.drop (i + 1) = m.drop (i + 1)
      · rw [decide_eq_true h2, decide_eq_true (by rw [h1, h2])]; rfl
      · rw [decide_eq_false h2, decide_eq_false (fun h => h2 (List.cons.inj h).2)]; rfl
    · rw [decide_eq_true h1, decide_eq_false (fun h => h1 (List.cons.inj h).1)]; rfl
theorem ints18 (k : Nat) {l m : List Int} (hl : l.length ≤ 100) (hk : l.length < k) : f18 k l m = some ((decide (l = m), ()), ()) := by
  unfold f18
  rw [i_ne]
  by_cases he : l.length = m.length
  · rw [decide_eq_false (by simp [he])]
    have := eq18 k hl he l.length 0 (by omega) k hk
    rw [List.drop_zero, List.drop_zero, show ((0 : Nat) : Int) = 0 from rfl] at this
    rw [cond_false, this]
    by_cases h : l = m
    · rw [decide_eq_true h]; rfl
    · rw [decide_eq_false h]; rfl
  · rw [decide_eq_true (by omega : (l.length : Int) ≠ m.length), decide_eq_false (fun h => he (by rw [h]))]; rfl
/-! ### the reference -/
structure LocE (ev : List Ev) (st : List Int) (i : Nat) (e : Ev) : Prop where
  p0 : 0 ≤ e.1
  pm : e.1 < (st.length : Int)
  i0 : 0 ≤ e.2.1
  k1 : 1 ≤ e.2.2.1
  k2 : e.2.2.1 ≤ 11
  o0 : 0 ≤ e.2.2.2.1
  ord : ∀ p, 0 < i → ev[i - 1]? = some p → p.1 ≤ e.1 ∧ (e.1 = p.1 → p.2.1 < e.2.1)
  go : e.2.2.1 = 11 → e.1 < e.2.2.2.1 ∧ e.2.2.2.1 < (st.length : Int) ∧ st[e.2.2.2.1.toNat]? = some (i : Int)
  no : e.2.2.1 ≠ 11 → e.2.2.2.1 < 12
def LocS (ev : List Ev) (p : Nat) (x : Int) : Prop := -1 ≤ x ∧ x < (ev.length : Int) ∧ (0 ≤ x → ∃ e, ev[x.toNat]? = some e ∧ e.2.2.1 = 11 ∧ e.2.2.2.1 = (p : Int))
structure OK (ev : List Ev) (st : List Int) : Prop where
  n : ev.length ≤ 40
  m : 1 ≤ st.length ∧ st.length ≤ 6
  evs : ∀ i e, ev[i]? = some e → LocE ev st i e
  sts : ∀ p x, st[p]? = some x → LocS ev p x
theorem order6 (k : Nat) {ev : List Ev} {st : List Int} {i : Nat} (hi : i < ev.length) (hn : ev.length ≤ 40) (a b c d : Int) : ∃ x : Bool, l6_14924 k i ev st a b c d = some ((x, ()), ((ev, st, ()), (a, b, c, d, ()), ())) ∧ (x = false ↔ ∀ p, 0 < i → ev[i - 1]? = some p → p.1 ≤ a ∧ (a = p.1 → p.2.1 < b)) := by
  unfold l6_14924
  by_cases h0 : 0 < i
  · have hlt : i - 1 < ev.length := by omega
    have hw : w64 ((i : Int) - 1) = ((i - 1 : Nat) : Int) := by rw [w64_id (by omega) (by omega)]; omega
    have hix : ∀ {R : Type} {K : Ev → Option R}, ix ev ((i - 1 : Nat) : Int) K = K ev[i - 1] := fun {R K} => ix_nat (List.getElem?_eq_getElem hlt)
    rw [decide_eq_true (by omega : (i : Int) > 0), cond_true, hw]
    simp only [hix]
    have conv : (∀ p, 0 < i → ev[i - 1]? = some p → p.1 ≤ a ∧ (a = p.1 → p.2.1 < b)) ↔ (ev[i - 1].1 ≤ a ∧ (a = ev[i - 1].1 → ev[i - 1].2.1 < b)) := by
      rw [List.getElem?_eq_getElem hlt]
      exact ⟨fun h => h _ h0 rfl, fun h p _ hp => by obtain rfl := Option.some.inj hp; exact h⟩
    by_cases h1 : a < ev[i - 1].1
    · rw [decide_eq_true h1]
      exact ⟨true, rfl, by rw [conv]; simp; omega⟩
    · rw [decide_eq_false h1, i_eq]
      by_cases h2 : a = ev[i - 1].1
      · rw [decide_eq_true h2]
        by_cases h3 : b ≤ ev[i - 1].2.1
        · rw [decide_eq_true h3]
          exact ⟨true, rfl, by rw [conv]; simp; intro _; exact ⟨h2, by omega⟩⟩
        · rw [decide_eq_false h3]
          exact ⟨false, rfl, by rw [conv]; simp; exact ⟨by omega, fun _ => by omega⟩⟩
      · rw [decide_eq_false h2]
        exact ⟨false, rfl, by rw [conv]; simp; exact ⟨by omega, fun h => absurd h h2⟩⟩
  · rw [decide_eq_false (by omega : ¬ (i : Int) > 0)]
    exact ⟨false, rfl, by simp; intro _ _ _ h; omega⟩
theorem about6 (k : Nat) {ev : List Ev} {st : List Int} {i : Nat} (a b c d : Int) (hd : 0 ≤ d) : ∃ x : Bool, l6_14926 k i ev st a b c d = some ((x, ()), ((ev, st, ()), (a, b, c, d, ()), ())) ∧
    (x = false ↔ (c = 11 → a < d ∧ d < (st.length : Int) ∧ st[d.toNat]? = some (i : Int)) ∧ (c ≠ 11 → d < 12)) := by
  unfold l6_14926
  rw [i_eq, i_ne]
  by_cases h : c = 11
  · rw [decide_eq_true h, decide_eq_false (show ¬ (c ≠ 11) from fun hh => hh h)]
    by_cases h1 : d ≤ a
    · rw [decide_eq_true h1]
      exact ⟨true, rfl, by simp [h]; omega⟩
    · rw [decide_eq_false h1]
      by_cases h2 : d ≥ (st.length : Int)
      · rw [decide_eq_true h2]
        exact ⟨true, rfl, by simp [h]; omega⟩
      · rw [decide_eq_false h2]
        have hlt : d.toNat < st.length := by omega
        have hx := List.getElem?_eq_getElem hlt
        rw [cond_true, cond_false, cond_false, ix_get hd hx, i_ne]
        by_cases h3 : st[d.toNat] = (i : Int)
        · rw [decide_eq_false (by simpa using h3)]
          exact ⟨false, rfl, by simp [h, hx, h3]; omega⟩
        · rw [decide_eq_true h3]
          exact ⟨true, rfl, by simp [h, hx, h3]⟩
  · rw [decide_eq_false h, decide_eq_true (show c ≠ 11 from h)]
    by_cases h1 : d ≥ 12
    · rw [decide_eq_true h1]
      exact ⟨true, rfl, by simp [h]; omega⟩
    · rw [decide_eq_false h1]
      exact ⟨false, rfl, by simp [h]; omega⟩
theorem evs6 (k : Nat) {ev : List Ev} {st : List Int} (hn : ev.length ≤ 40) : ∀ (q i : Nat), ev.length - i = q → ∀ j, q < j →
    ∃ x : Bool, l6_58 k j i ev st = cond x (some (.inl ((), ((ev, st, ()), ())))) (some (.inr ((false, ()), ((ev, st, ()), ())))) ∧ (x = true ↔ ∀ p e, i ≤ p → ev[p]? = some e → LocE ev st p e) := by
  intro q
  induction q with
  | zero =>
    intro i hi j hj
    obtain ⟨j, rfl, _⟩ := succ_of (n := 0) (by omega : 0 + 1 ≤ j)
    refine ⟨true, ?_, ⟨fun _ p e hp he => (by rw [List.getElem?_eq_none (by omega)] at he; cases he), fun _ => rfl⟩⟩
    show b6_58 k (l6_58 k j) i ev st = _
    unfold b6_58
    rw [decide_eq_false (by omega : ¬ (i : Int) < ev.length)]; rfl
  | succ q ih =>
    intro i hi j hj
    obtain ⟨j, rfl, hj2⟩ := succ_of (by omega : q + 1 + 1 ≤ j)
    have hlt : i < ev.length := by omega
    have hx : ev[i]? = some ev[i] := List.getElem?_eq_getElem hlt
    obtain ⟨y, hy, hyi⟩ := ih (i + 1) (by omega) j hj2
    have fin : LocE ev st i ev[i] → ∀ z, z = y → (z = true ↔ ∀ p e, i ≤ p → ev[p]? = some e → LocE ev st p e) := by
      intro hL z hz
      rw [hz, hyi]
      refine ⟨fun h p e hp he => ?_, fun h p e hp he => h p e (by omega) he⟩
      rcases Nat.eq_or_lt_of_le hp with rfl | hp'
      · rw [hx] at he; obtain rfl := Option.some.inj he; exact hL
      · exact h p e hp' he
    have no : ¬ LocE ev st i ev[i] → (false = true ↔ ∀ p e, i ≤ p → ev[p]? = some e → LocE ev st p e) := fun hL => ⟨fun h => (by cases h), fun h => absurd (h i _ (Nat.le_refl _) hx) hL⟩
    show ∃ x : Bool, b6_58 k (l6_58 k j) i ev st = _ ∧ _
    unfold b6_58
    rw [decide_eq_true (by omega : (i : Int) < ev.length), cond_true, ix_nat hx, w1 (by omega)]
    generalize hE : ev[i] = e at *
    by_cases h1 : e.1 < 0
    · rw [decide_eq_true h1]; exact ⟨false, rfl, no fun h => by have := h.p0; omega⟩
    by_cases h2 : e.1 ≥ (st.length : Int)
    · rw [decide_eq_false h1, decide_eq_true h2]; exact ⟨false, rfl, no fun h => by have := h.pm; omega⟩
    by_cases h3 : e.2.1 < 0
    · rw [decide_eq_false h1, decide_eq_false h2, decide_eq_true h3]; exact ⟨false, rfl, no fun h => by have := h.i0; omega⟩
    by_cases h4 : e.2.2.1 < 1
    · rw [decide_eq_false h1, decide_eq_false h2, decide_eq_false h3, decide_eq_true h4]; exact ⟨false, rfl, no fun h => by have := h.k1; omega⟩
    by_cases h5 : e.2.2.1 > 11
    · rw [decide_eq_false h1, decide_eq_false h2, decide_eq_false h3, decide_eq_false h4, decide_eq_true h5]; exact ⟨false, rfl, no fun h => by have := h.k2; omega⟩
    by_cases h6 : e.2.2.2.1 < 0
    · rw [decide_eq_false h1, decide_eq_false h2, decide_eq_false h3, decide_eq_false h4, decide_eq_false h5, decide_eq_true h6]; exact ⟨false, rfl, no fun h => by have := h.o0; omega⟩
    rw [decide_eq_false h1, decide_eq_false h2, decide_eq_false h3, decide_eq_false h4, decide_eq_false h5, decide_eq_false h6]
    obtain ⟨x7, h7, h7i⟩ := order6 k (st := st) hlt hn e.1 e.2.1 e.2.2.1 e.2.2.2.1
    obtain ⟨x8, h8, h8i⟩ := about6 k (ev := ev) (st := st) (i := i) e.1 e.2.1 e.2.2.1 e.2.2.2.1 (by omega)
    rw [h7]
    simp only [cond_false, Option.bind_some]
    cases x7 with
    | true => exact ⟨false, rfl, no fun h => by have := h7i.2 h.ord; cases this⟩
    | false =>
      rw [cond_false, h8]
      simp only [Option.bind_some]
      cases x8 with
      | true => exact ⟨false, rfl, no fun h => by have := h8i.2 ⟨h.go, h.no⟩; cases this⟩
      | false =>
        obtain ⟨g1, g2⟩ := h8i.1 rfl
        rw [cond_false, hy]
        refine ⟨y, ?_, fin ⟨by omega, by omega, by omega, by omega, by omega, by omega, h7i.1 rfl, g1, g2⟩ y rfl⟩
        cases y <;> rfl
theorem sts6 (k : Nat) {ev : List Ev} {st : List Int} (hm : st.length ≤ 6) : ∀ (q i : Nat), st.length - i = q → ∀ j, q < j →
    ∃ x : Bool, l6_122 k j i ev st = cond x (some (.inl ((), ((ev, st, ()), ())))) (some (.inr ((false, ()), ((ev, st, ()), ())))) ∧ (x = true ↔ ∀ p z, i ≤ p → st[p]? = some z → LocS ev p z) := by
  intro q
  induction q with
  | zero =>
    intro i hi j hj
    obtain ⟨j, rfl, _⟩ := succ_of (n := 0) (by omega : 0 + 1 ≤ j)
    refine ⟨true, ?_, ⟨fun _ p e hp he => (by rw [List.getElem?_eq_none (by omega)] at he; cases he), fun _ => rfl⟩⟩
    show b6_122 k (l6_122 k j) i ev st = _
    unfold b6_122
    rw [decide_eq_false (by omega : ¬ (i : Int) < st.length)]; rfl
  | succ q ih =>
    intro i hi j hj
    obtain ⟨j, rfl, hj2⟩ := succ_of (by omega : q + 1 + 1 ≤ j)
    have hlt : i < st.length := by omega
    have hx : st[i]? = some st[i] := List.getElem?_eq_getElem hlt
    obtain ⟨y, hy, hyi⟩ := ih (i + 1) (by omega) j hj2
    have fin : LocS ev i st[i] → (y = true ↔ ∀ p e, i ≤ p → st[p]? = some e → LocS ev p e) := by
      intro hL
      rw [hyi]
      refine ⟨fun h p e hp he => ?_, fun h p e hp he => h p e (by omega) he⟩
      rcases Nat.eq_or_lt_of_le hp with rfl | hp'
      · rw [hx] at he; obtain rfl := Option.some.inj he; exact hL
      · exact h p e hp' he
    have no : ¬ LocS ev i st[i] → (false = true ↔ ∀ p e, i ≤ p → st[p]? = some e → LocS ev p e) := fun hL => ⟨fun h => (by cases h), fun h => absurd (h i _ (Nat.le_refl _) hx) hL⟩
    show ∃ x : Bool, b6_122 k (l6_122 k j) i ev st = _ ∧ _
    unfold b6_122
    rw [decide_eq_true (by omega : (i : Int) < st.length), cond_true, ix_nat hx, w1 (by omega), hy]
    generalize hE : st[i] = z at *
    by_cases h1 : z < -1
    · rw [decide_eq_true h1]; exact ⟨false, rfl, no fun h => by have := h.1; omega⟩
    by_cases h2 : z ≥ (ev.length : Int)
    · rw [decide_eq_false h1, decide_eq_true h2]; exact ⟨false, rfl, no fun h => by have := h.2.1; omega⟩
    rw [decide_eq_false h1, decide_eq_false h2]
    by_cases h3 : z ≥ 0
    · have hlt : z.toNat < ev.length := by omega
      have hx := List.getElem?_eq_getElem hlt
      rw [decide_eq_true h3, cond_false, cond_false, cond_true, ix_get h3 hx, i_ne]
      by_cases h4 : ev[z.toNat].2.2.1 = 11
      · rw [decide_eq_false (by simpa using h4), cond_false, ix_get h3 hx, i_ne]
        by_cases h5 : ev[z.toNat].2.2.2.1 = (i : Int)
        · rw [decide_eq_false (by simpa using h5)]
          refine ⟨y, ?_, fin ⟨by omega, by omega, fun _ => ⟨_, hx, h4, h5⟩⟩⟩
          cases y <;> rfl
        · rw [decide_eq_true h5]
          exact ⟨false, rfl, no fun h => by obtain ⟨e, g1, _, g2⟩ := h.2.2 h3; rw [hx] at g1; obtain rfl := Option.some.inj g1; exact h5 g2⟩
      · rw [decide_eq_true h4]
        exact ⟨false, rfl, no fun h => by obtain ⟨e, g1, g2, _⟩ := h.2.2 h3; rw [hx] at g1; obtain rfl := Option.some.inj g1; exact h4 g2⟩
    · rw [decide_eq_false h3]
      refine ⟨y, ?_, fin ⟨by omega, by omega, fun h => absurd h h3⟩⟩
      cases y <;> rfl
theorem may6 (k : Nat) (hk : 61 ≤ k) (ev : List Ev) (st : List Int) : ∃ x : Bool, f6 k (ev, st, ()) = some ((x, ()), ()) ∧ (x = true ↔ OK ev st) := by
  unfold f6
  by_cases h1 : (ev.length : Int) > 40
  · rw [decide_eq_true h1]; exact ⟨false, rfl, ⟨fun h => (by cases h), fun h => by have := h.n; omega⟩⟩
  by_cases h2 : (st.length : Int) < 1
  · rw [decide_eq_false h1, decide_eq_true h2]; exact ⟨false, rfl, ⟨fun h => (by cases h), fun h => by have := h.m; omega⟩⟩
  by_cases h3 : (st.length : Int) > 6
  · rw [decide_eq_false h1, decide_eq_false h2, decide_eq_true h3]; exact ⟨false, rfl, ⟨fun h => (by cases h), fun h => by have := h.m; omega⟩⟩
  rw [decide_eq_false h1, decide_eq_false h2, decide_eq_false h3]
  obtain ⟨x, hx, hxi⟩ := evs6 k (ev := ev) (st := st) (by omega) ev.length 0 (by omega) k (by omega)
  obtain ⟨y, hy, hyi⟩ := sts6 k (ev := ev) (st := st) (by omega) st.length 0 (by omega) k (by omega)
  rw [show ((0 : Nat) : Int) = 0 from rfl] at hx hy
  simp only [cond_false]
  rw [hx]
  cases x with
  | false => exact ⟨false, rfl, ⟨fun h => (by cases h), fun h => hxi.2 fun p e _ he => h.evs p e he⟩⟩
  | true =>
    simp only [cond_true, Option.bind_some]
    rw [hy]
    cases y with
    | false => exact ⟨false, rfl, ⟨fun h => (by cases h), fun h => hyi.2 fun p e _ he => h.sts p e he⟩⟩
    | true => exact ⟨true, rfl, ⟨fun _ => ⟨by omega, by omega, fun i e he => hxi.1 rfl i e (Nat.zero_le _) he, fun p z hz => hyi.1 rfl p z (Nat.zero_le _) hz⟩, fun _ => rfl⟩⟩
end Sh
end Go.Proofs.Ytnkjnbfaechiaaa.M
/-
Shapes: the program's check is the reference's.
-/
set_option linter.unusedVariables false
set_option linter.unusedSimpArgs false
set_option maxRecDepth 100000
namespace Go.Proofs.Ytnkjnbfaechiaaa.M
open Go Go.Proofs.Ytnkjnbfaechiaaa.Vm Go.Proofs.Ytnkjnbfaechiaaa.Pl
namespace Sh
theorem init13 (k : Nat) {m : Nat} (hm : m ≤ 6) : ∀ (q i : Nat) (o : List Int), m - i = q → i ≤ m → o.length = m → ∀ j, q < j → l13_122 k j m (m : Int) i o = some ((), (o.take i ++ List.replicate (m - i) (-1), ())) := by
  intro q
  induction q with
  | zero =>
    intro i o hi him ho j hj
    obtain ⟨j, rfl, _⟩ := succ_of (n := 0) (by omega : 0 + 1 ≤ j)
    show b13_122 k (l13_122 k j) m (m : Int) i o = _
    unfold b13_122
    rw [decide_eq_false (by omega : ¬ (i : Int) < m), hi, List.take_of_length_le (by omega)]
    simp
  | succ q ih =>
    intro i o hi him ho j hj
    obtain ⟨j, rfl, hj2⟩ := succ_of (by omega : q + 1 + 1 ≤ j)
    show b13_122 k (l13_122 k j) m (m : Int) i o = _
    unfold b13_122
    rw [decide_eq_true (by omega : (i : Int) < m), cond_true, gd_dec (by omega), gd_dec (by simp; omega), gd_dec (by simp; omega), w1 (by omega)]
    rw [ih (i + 1) _ (by omega) (by omega) (by simpa using ho) j hj2]
    have e : (o.set (0 + (i : Int).toNat) (-1)).take (i + 1) = o.take i ++ [-1] := by
      rw [show 0 + (i : Int).toNat = i from by omega]
      have hl : (o.take i).length = i := by simp; omega
      apply List.ext_getElem?
      intro p
      rw [List.getElem?_take, List.getElem?_set]
      rcases Nat.lt_trichotomy p i with h | h | h
      · rw [if_pos (by omega), if_neg (by omega), List.getElem?_append_left (by omega), List.getElem?_take, if_pos h]
      · subst h
        rw [if_pos (by omega), if_pos rfl, if_pos (by omega), List.getElem?_append_right (by omega), hl, Nat.sub_self]; rfl
      · rw [if_neg (by omega), List.getElem?_eq_none (by rw [List.length_append, hl]; simp; omega)]
    rw [e, show m - i = (m - (i + 1)) + 1 from by omega, List.replicate_succ, List.append_assoc]
    rfl
def objB (m : Nat) (e : Ev) : Bool := cond (decide (e.2.2.1 = 11)) (decide (e.2.2.2.1 > e.1) && decide (e.2.2.2.1 < (m : Int))) (decide (e.2.2.2.1 ≥ 0) && decide (e.2.2.2.1 < 12))
theorem obj24 (k : Nat) (ev : List Ev) (st : List Int) (e : Ev) : f24 k (ev, st, ()) e = some ((objB st.length e, ()), ()) := by
  unfold f24 objB
  rw [i_eq]
  cases decide (e.2.2.1 = 11) <;> cases decide (e.2.2.2.1 > e.1) <;> cases decide (e.2.2.2.1 ≥ 0) <;> rfl
structure LocP (m : Nat) (lp li : Int) (e : Ev) : Prop where
  p : lp ≤ e.1
  pm : e.1 < (m : Int)
  k1 : 1 ≤ e.2.2.1
  k2 : e.2.2.1 ≤ 11
  ob : objB m e = true
  i0 : 0 ≤ e.2.1
  ord : e.1 = lp → li < e.2.1
inductive Run (m : Nat) : Nat → Int → Int → List Int → List Ev → Option (List Int) → Prop
  | nil (i : Nat) (lp li : Int) (S : List Int) : Run m i lp li S [] (some S)
  | bad (i : Nat) (lp li : Int) (S : List Int) (e : Ev) (r : List Ev) : ¬ LocP m lp li e → Run m i lp li S (e :: r) none
  | two (i : Nat) (lp li : Int) (S : List Int) (e : Ev) (r : List Ev) (x : Int) : LocP m lp li e → e.2.2.1 = 11 → S[e.2.2.2.1.toNat]? = some x → 0 ≤ x → Run m i lp li S (e :: r) none
  | go (i : Nat) (lp li : Int) (S : List Int) (e : Ev) (r : List Ev) (x : Int) (R : Option (List Int)) : LocP m lp li e → e.2.2.1 = 11 → S[e.2.2.2.1.toNat]? = some x → x < 0 → Run m (i + 1) e.1 e.2.1 (S.set e.2.2.2.1.toNat i) r R → Run m i lp li S (e :: r) R
  | on (i : Nat) (lp li : Int) (S : List Int) (e : Ev) (r : List Ev) (R : Option (List Int)) : LocP m lp li e → e.2.2.1 ≠ 11 → Run m (i + 1) e.1 e.2.1 S r R → Run m i lp li S (e :: r) R
theorem loop13 (k : Nat) {ev : List Ev} {st : List Int} (hn : ev.length ≤ 40) : ∀ (q i : Nat) (S : List Int) (lp li lk lo : Int), ev.length - i = q → 0 ≤ lp → S.length = st.length → ∀ j, q < j →
    ∃ R, Run st.length i lp li S (ev.drop i) R ∧ ((∃ S' z, R = some S' ∧ S'.length = st.length ∧ l13_506 k j st.length ev (ev.length : Int) i ev st S lp li lk lo = some (.inl ((), ((ev, st, ()), S', z, ())))) ∨
      (R = none ∧ ∃ z, l13_506 k j st.length ev (ev.length : Int) i ev st S lp li lk lo = some (.inr ((1, ()), z)))) := by
  intro q
  induction q with
  | zero =>
    intro i S lp li lk lo hi hlp hS j hj
    obtain ⟨j, rfl, _⟩ := succ_of (n := 0) (by omega : 0 + 1 ≤ j)
    refine ⟨some S, by rw [List.drop_of_length_le (by omega)]; exact .nil .., .inl ⟨S, (lp, li, lk, lo, ()), rfl, hS, ?_⟩⟩
    show b13_506 k (l13_506 k j) _ _ _ _ _ _ _ _ _ _ _ = _
    unfold b13_506
    rw [decide_eq_false (by omega : ¬ (i : Int) < ev.length)]; rfl
  | succ q ih =>
    intro i S lp li lk lo hi hlp hS j hj
    obtain ⟨j, rfl, hj2⟩ := succ_of (by omega : q + 1 + 1 ≤ j)
    have hlt : i < ev.length := by omega
    rw [List.drop_eq_getElem_cons hlt]
    show ∃ R, _ ∧ ((∃ S' z, _ ∧ _ ∧ b13_506 k (l13_506 k j) _ _ _ _ _ _ _ _ _ _ _ = _) ∨ (_ ∧ ∃ z, b13_506 k (l13_506 k j) _ _ _ _ _ _ _ _ _ _ _ = _))
    unfold b13_506
    rw [decide_eq_true (by omega : (i : Int) < ev.length), cond_true, ix_nat (List.getElem?_eq_getElem hlt)]
    generalize ev[i] = e at *
    by_cases h1 : e.1 < lp
    · rw [decide_eq_true h1]; exact ⟨none, .bad _ _ _ _ _ _ fun h => by have := h.p; omega, .inr ⟨rfl, _, rfl⟩⟩
    by_cases h2 : e.1 ≥ (st.length : Int)
    · rw [decide_eq_false h1, decide_eq_true h2]; exact ⟨none, .bad _ _ _ _ _ _ fun h => by have := h.pm; omega, .inr ⟨rfl, _, rfl⟩⟩
    by_cases h3 : e.2.2.1 < 1
    · rw [decide_eq_false h1, decide_eq_false h2, decide_eq_true h3]; exact ⟨none, .bad _ _ _ _ _ _ fun h => by have := h.k1; omega, .inr ⟨rfl, _, rfl⟩⟩
    by_cases h4 : e.2.2.1 > 11
    · rw [decide_eq_false h1, decide_eq_false h2, decide_eq_false h3, decide_eq_true h4]; exact ⟨none, .bad _ _ _ _ _ _ fun h => by have := h.k2; omega, .inr ⟨rfl, _, rfl⟩⟩
    rw [decide_eq_false h1, decide_eq_false h2, decide_eq_false h3, decide_eq_false h4, obj24]
    simp only [cond_false, Option.bind_some]
    cases h5 : objB st.length e with
    | false => exact ⟨none, .bad _ _ _ _ _ _ (fun h => by have := h.ob; rw [h5] at this; cases this), .inr ⟨rfl, _, rfl⟩⟩
    | true =>
    simp only [Bool.not_true, cond_false]
    unfold l13_259276
    by_cases h6 : e.2.1 < 0
    · rw [decide_eq_true h6]; exact ⟨none, .bad _ _ _ _ _ _ fun h => by have := h.i0; omega, .inr ⟨rfl, _, rfl⟩⟩
    rw [decide_eq_false h6, i_eq]
    by_cases h7 : e.1 = lp ∧ e.2.1 ≤ li
    · rw [decide_eq_true h7.1, decide_eq_true h7.2]; exact ⟨none, .bad _ _ _ _ _ _ fun h => by have := h.ord h7.1; omega, .inr ⟨rfl, _, rfl⟩⟩
    have hL : LocP st.length lp li e := ⟨by omega, by omega, by omega, by omega, h5, by omega, fun h => by
      rcases Int.lt_or_le li e.2.1 with h' | h'
      · exact h'
      · exact absurd ⟨h, h'⟩ h7⟩
    have e7 : (cond (decide (e.1 = lp)) (some (((decide (e.2.1 ≤ li), ()), ((lp, li, lk, lo, ()), (e.1, e.2.1, e.2.2.1, e.2.2.2.1, ()), ())) : R13_259276)) (some ((false, ()), ((lp, li, lk, lo, ()), (e.1, e.2.1, e.2.2.1, e.2.2.2.1, ()), ())))) = some ((false, ()), ((lp, li, lk, lo, ()), (e.1, e.2.1, e.2.2.1, e.2.2.2.1, ()), ())) := by
      by_cases h8 : e.1 = lp
      · rw [decide_eq_true h8, decide_eq_false (fun h' => h7 ⟨h8, h'⟩)]; rfl
      · rw [decide_eq_false h8]; rfl
    simp only [cond_false]
    rw [e7]
    simp only [Option.bind_some, cond_false]
    unfold l13_518556
    simp only [Option.bind_some]
    rw [i_eq, w1 (by omega)]
    by_cases h9 : e.2.2.1 = 11
    · rw [decide_eq_true h9, cond_true]
      have hob := h5
      unfold objB at hob
      rw [decide_eq_true h9] at hob
      simp at hob
      have h0 : 0 ≤ e.2.2.2.1 := by omega
      have hlt2 : e.2.2.2.1.toNat < S.length := by omega
      have hx := List.getElem?_eq_getElem hlt2
      rw [gd_dec h0, gd_dec (by omega : e.2.2.2.1.toNat < st.length), Nat.zero_add, hx]
      simp only [Option.bind_some]
      by_cases h10 : S[e.2.2.2.1.toNat] ≥ 0
      · rw [decide_eq_true h10]; exact ⟨none, .two _ _ _ _ _ _ _ hL h9 hx h10, .inr ⟨rfl, _, rfl⟩⟩
      · rw [decide_eq_false h10, cond_false, gd_dec h0, gd_dec (by omega : e.2.2.2.1.toNat < st.length), gd_dec hlt2]
        obtain ⟨R, hR, hcase⟩ := ih (i + 1) (S.set e.2.2.2.1.toNat (i : Int)) e.1 e.2.1 e.2.2.1 e.2.2.2.1 (by omega) (by omega) (by simpa using hS) j hj2
        refine ⟨R, .go _ _ _ _ _ _ _ _ hL h9 hx (by omega) hR, ?_⟩
        rcases hcase with ⟨S', z, h11, h12, h13⟩ | ⟨h11, z, h13⟩
        · rw [h13]; exact .inl ⟨S', _, h11, h12, rfl⟩
        · rw [h13]; exact .inr ⟨h11, _, rfl⟩
    · rw [decide_eq_false h9, cond_false]
      obtain ⟨R, hR, hcase⟩ := ih (i + 1) S e.1 e.2.1 e.2.2.1 e.2.2.2.1 (by omega) (by omega) hS j hj2
      refine ⟨R, .on _ _ _ _ _ _ _ hL h9 hR, ?_⟩
      rcases hcase with ⟨S', z, h11, h12, h13⟩ | ⟨h11, z, h13⟩
      · rw [h13]; exact .inl ⟨S', _, h11, h12, rfl⟩
      · rw [h13]; exact .inr ⟨h11, _, rfl⟩
/-! ### both ways -/
def lastP (ev : List Ev) (i : Nat) : Int := if i = 0 then 0 else ((ev[i - 1]?).map fun e => e.1).getD 0
def lastI (ev : List Ev) (i : Nat) : Int := if i = 0 then -1 else ((ev[i - 1]?).map fun e => e.2.1).getD 0
theorem lastP_succ {ev : List Ev} {i : Nat} (h : i < ev.length) : lastP ev (i + 1) = ev[i].1 := by
  unfold lastP; rw [if_neg (by omega), Nat.add_sub_cancel, List.getElem?_eq_getElem h]; rfl
theorem lastI_succ {ev : List Ev} {i : Nat} (h : i < ev.length) : lastI ev (i + 1) = ev[i].2.1 := by
  unfold lastI; rw [if_neg (by omega), Nat.add_sub_cancel, List.getElem?_eq_getElem h]; rfl
structure FactA (ev : List Ev) (m i : Nat) (S S' : List Int) : Prop where
  len : S'.length = S.length
  loc : ∀ (p : Nat) (e : Ev), i ≤ p → ev[p]? = some e → LocP m (lastP ev p) (lastI ev p) e ∧ (e.2.2.1 = 11 → S'[e.2.2.2.1.toNat]? = some (p : Int))
  from_ : ∀ (p : Nat) (x : Int), S'[p]? = some x → S[p]? = some x ∨ ∃ (j : Nat) (e : Ev), i ≤ j ∧ ev[j]? = some e ∧ e.2.2.1 = 11 ∧ e.2.2.2.1.toNat = p ∧ x = (j : Int)
  stay : ∀ (p : Nat) (x : Int), S[p]? = some x → 0 ≤ x → S'[p]? = some x
theorem obj_lt {m : Nat} {lp li : Int} {e : Ev} (h : LocP m lp li e) (hk : e.2.2.1 = 11) : e.1 < e.2.2.2.1 ∧ e.2.2.2.1 < (m : Int) := by
  have := h.ob
  unfold objB at this
  rw [decide_eq_true hk] at this
  simp at this
  exact ⟨by omega, by omega⟩
theorem runA {ev : List Ev} {m : Nat} : ∀ (q i : Nat) (S S' : List Int), ev.length - i = q → S.length = m → Run m i (lastP ev i) (lastI ev i) S (ev.drop i) (some S') → FactA ev m i S S' := by
  intro q
  induction q with
  | zero =>
    intro i S S' hi hS h
    rw [List.drop_of_length_le (by omega)] at h
    cases h
    exact ⟨rfl, fun p e hp he => (by rw [List.getElem?_eq_none (by omega)] at he; cases he), fun p x h => .inl h, fun p x h _ => h⟩
  | succ q ih =>
    intro i S S' hi hS h
    have hlt : i < ev.length := by omega
    have hx : ev[i]? = some ev[i] := List.getElem?_eq_getElem hlt
    rw [List.drop_eq_getElem_cons hlt] at h
    cases h with
    | go _ _ _ _ _ _ x _ hL hk hSx hneg hr =>
      rw [← lastP_succ hlt, ← lastI_succ hlt] at hr
      have F := ih (i + 1) _ S' (by omega) (by simpa using hS) hr
      have hob : ev[i].2.2.2.1.toNat < S.length := by
        rcases Nat.lt_or_ge ev[i].2.2.2.1.toNat S.length with h' | h'
        · exact h'
        · rw [List.getElem?_eq_none h'] at hSx; cases hSx
      have hset : (S.set ev[i].2.2.2.1.toNat (i : Int))[ev[i].2.2.2.1.toNat]? = some (i : Int) := by rw [List.getElem?_set, if_pos rfl, if_pos hob]
      refine ⟨by rw [F.len]; simp, fun p e hp he => ?_, fun p y hy => ?_, fun p y hy h0 => ?_⟩
      · rcases Nat.eq_or_lt_of_le hp with rfl | hp'
        · rw [hx] at he; obtain rfl := Option.some.inj he
          exact ⟨hL, fun _ => F.stay _ _ hset (by omega)⟩
        · exact F.loc p e hp' he
      · rcases F.from_ p y hy with h1 | ⟨j, e, h1, h2⟩
        · rw [List.getElem?_set] at h1
          split at h1
          · rename_i hpe
            exact .inr ⟨i, _, Nat.le_refl _, hx, hk, hpe, (Option.some.inj h1).symm⟩
          · exact .inl h1
        · exact .inr ⟨j, e, by omega, h2⟩
      · refine F.stay p y ?_ h0
        rw [List.getElem?_set, if_neg (fun hpe => by rw [hpe] at hSx; rw [hSx] at hy; have := Option.some.inj hy; omega)]
        exact hy
    | on _ _ _ _ _ _ _ hL hk hr =>
      rw [← lastP_succ hlt, ← lastI_succ hlt] at hr
      have F := ih (i + 1) S S' (by omega) hS hr
      refine ⟨F.len, fun p e hp he => ?_, fun p y hy => (F.from_ p y hy).imp id fun ⟨j, e, h1, h2⟩ => ⟨j, e, by omega, h2⟩, F.stay⟩
      rcases Nat.eq_or_lt_of_le hp with rfl | hp'
      · rw [hx] at he; obtain rfl := Option.some.inj he
        exact ⟨hL, fun h => absurd h hk⟩
      · exact F.loc p e hp' he
theorem loc_of {ev : List Ev} {st : List Int} {i : Nat} {e : Ev} (h : LocE ev st i e) (he : ev[i]? = some e) (hlt : i < ev.length) : LocP st.length (lastP ev i) (lastI ev i) e := by
  refine ⟨?_, h.pm, h.k1, h.k2, ?_, h.i0, ?_⟩
  · unfold lastP
    split
    · exact h.p0
    · have hx : ev[i - 1]? = some (ev[i - 1]'(by omega)) := List.getElem?_eq_getElem _
      rw [hx]
      exact (h.ord _ (by omega) hx).1
  · unfold objB
    by_cases hk : e.2.2.1 = 11
    · rw [decide_eq_true hk]
      obtain ⟨h1, h2, _⟩ := h.go hk
      simp; exact ⟨by omega, by omega⟩
    · rw [decide_eq_false hk]
      have := h.no hk
      have := h.o0
      simp; exact ⟨by omega, by omega⟩
  · unfold lastP lastI
    split
    · intro _; have := h.i0; omega
    · have hx : ev[i - 1]? = some (ev[i - 1]'(by omega)) := List.getElem?_eq_getElem _
      rw [hx]
      exact (h.ord _ (by omega) hx).2
theorem run_det {m : Nat} {i : Nat} {lp li : Int} {S : List Int} {r : List Ev} {R R' : Option (List Int)} (h : Run m i lp li S r R) (h' : Run m i lp li S r R') : R = R' := by
  induction h generalizing R' with
  | nil => cases h'; rfl
  | bad _ _ _ _ _ _ hb => cases h' <;> first | rfl | (exact absurd (by assumption) hb)
  | two _ _ _ _ _ _ x hL hk hx h0 =>
    cases h' with
    | bad _ _ _ _ _ _ hb => rfl
    | two => rfl
    | go _ _ _ _ _ _ y _ _ _ hy h1 _ => rw [hx] at hy; have := Option.some.inj hy; omega
    | on _ _ _ _ _ _ _ _ h1 _ => exact absurd hk h1
  | go _ _ _ _ _ _ x _ hL hk hx h0 _ ih =>
    cases h' with
    | bad _ _ _ _ _ _ hb => exact absurd hL hb
    | two _ _ _ _ _ _ y _ _ hy h1 => rw [hx] at hy; have := Option.some.inj hy; omega
    | go _ _ _ _ _ _ y _ _ _ hy h1 h2 => exact ih h2
    | on _ _ _ _ _ _ _ _ h1 _ => exact absurd hk h1
  | on _ _ _ _ _ _ _ hL hk _ ih =>
    cases h' with
    | bad _ _ _ _ _ _ hb => exact absurd hL hb
    | two _ _ _ _ _ _ y _ hk' _ _ => exact absurd hk' hk
    | go _ _ _ _ _ _ y _ _ hk' _ _ _ => exact absurd hk' hk
    | on _ _ _ _ _ _ _ _ _ h2 => exact ih h2
theorem runB {ev : List Ev} {st : List Int} (hok : OK ev st) : ∀ (q i : Nat) (S : List Int), ev.length - i = q → i ≤ ev.length → S.length = st.length → (∀ (p : Nat) (x : Int), st[p]? = some x → S[p]? = some (if 0 ≤ x ∧ x < (i : Int) then x else -1)) →
    Run st.length i (lastP ev i) (lastI ev i) S (ev.drop i) (some st) := by
  intro q
  induction q with
  | zero =>
    intro i S hi hin hS h
    rw [List.drop_of_length_le (by omega)]
    have : S = st := by
      apply List.ext_getElem?
      intro p
      rcases Nat.lt_or_ge p st.length with hp | hp
      · have hx := List.getElem?_eq_getElem hp
        rw [h p _ hx, hx]
        obtain ⟨h1, h2, _⟩ := hok.sts p _ hx
        split
        · rfl
        · congr 1; omega
      · rw [List.getElem?_eq_none (by omega), List.getElem?_eq_none hp]
    rw [this]; exact .nil ..
  | succ q ih =>
    intro i S hi hin hS h
    have hlt : i < ev.length := by omega
    have hx : ev[i]? = some ev[i] := List.getElem?_eq_getElem hlt
    have hL := hok.evs i _ hx
    rw [List.drop_eq_getElem_cons hlt]
    by_cases hk : ev[i].2.2.1 = 11
    · obtain ⟨h1, h2, h3⟩ := hL.go hk
      have h4 := h _ _ h3
      rw [if_neg (by omega)] at h4
      refine .go _ _ _ _ _ _ _ _ (loc_of hL hx hlt) hk h4 (by omega) ?_
      rw [← lastP_succ hlt, ← lastI_succ hlt]
      have hob : ev[i].2.2.2.1.toNat < S.length := by have := hL.o0; omega
      refine ih (i + 1) _ (by omega) (by omega) (by simpa using hS) fun p x hp => ?_
      rw [List.getElem?_set]
      by_cases e : ev[i].2.2.2.1.toNat = p
      · rw [if_pos e, if_pos hob]
        rw [← e, h3] at hp
        obtain rfl := Option.some.inj hp
        rw [if_pos (by omega)]
      · rw [if_neg e, h p x hp]
        have hne : x ≠ (i : Int) := fun hxi => by
          obtain ⟨_, _, h7⟩ := hok.sts p x hp
          obtain ⟨e', h8, _, h9⟩ := h7 (by omega)
          rw [hxi, show ((i : Int)).toNat = i from by omega, hx] at h8
          obtain rfl := Option.some.inj h8
          rw [h9] at e; omega
        by_cases h8 : 0 ≤ x ∧ x < (i : Int)
        · rw [if_pos h8, if_pos (by omega)]
        · rw [if_neg h8, if_neg (by omega)]
    · refine .on _ _ _ _ _ _ _ (loc_of hL hx hlt) hk ?_
      rw [← lastP_succ hlt, ← lastI_succ hlt]
      refine ih (i + 1) S (by omega) (by omega) hS fun p x hp => ?_
      rw [h p x hp]
      have hne : x ≠ (i : Int) := fun hxi => by
        obtain ⟨_, _, h7⟩ := hok.sts p x hp
        obtain ⟨e', h8, h9, _⟩ := h7 (by omega)
        rw [hxi, show ((i : Int)).toNat = i from by omega, hx] at h8
        obtain rfl := Option.some.inj h8
        exact hk h9
      by_cases h8 : 0 ≤ x ∧ x < (i : Int)
      · rw [if_pos h8, if_pos (by omega)]
      · rw [if_neg h8, if_neg (by omega)]
theorem ok_of_run {ev : List Ev} {st : List Int} (hn : ev.length ≤ 40) (hm : 1 ≤ st.length ∧ st.length ≤ 6) (h : Run st.length 0 0 (-1) (List.replicate st.length (-1)) ev (some st)) : OK ev st := by
  have F := runA (ev := ev) ev.length 0 (List.replicate st.length (-1)) st (by omega) (by simp) h
  have hP : ∀ i, i ≤ ev.length → 0 ≤ lastP ev i := by
    intro i
    induction i with
    | zero => intro _; exact Int.le_refl 0
    | succ i ih =>
      intro hi
      have hlt : i < ev.length := by omega
      rw [lastP_succ hlt]
      have := (F.loc i _ (Nat.zero_le _) (List.getElem?_eq_getElem hlt)).1.p
      have := ih (by omega)
      omega
  have hlt : ∀ {i : Nat} {e : Ev}, ev[i]? = some e → i < ev.length := fun {i e} he => by
    rcases Nat.lt_or_ge i ev.length with h' | h'
    · exact h'
    · rw [List.getElem?_eq_none h'] at he; cases he
  refine ⟨hn, hm, fun i e he => ?_, fun p x hp => ?_⟩
  · obtain ⟨hL, hg⟩ := F.loc i e (Nat.zero_le _) he
    have h1 := hlt he
    have h2 := hP i (by omega)
    have hob : 0 ≤ e.2.2.2.1 ∧ (e.2.2.1 ≠ 11 → e.2.2.2.1 < 12) := by
      have := hL.ob
      unfold objB at this
      by_cases hk : e.2.2.1 = 11
      · have := obj_lt hL hk
        have := hL.p
        exact ⟨by omega, fun h => absurd hk h⟩
      · rw [decide_eq_false hk] at this
        simp at this
        exact ⟨by omega, fun _ => by omega⟩
    refine ⟨by have := hL.p; omega, hL.pm, hL.i0, hL.k1, hL.k2, hob.1, fun q hq0 hq => ?_, fun hk => ⟨(obj_lt hL hk).1, (obj_lt hL hk).2, hg hk⟩, hob.2⟩
    have hlp : lastP ev i = q.1 := by unfold lastP; rw [if_neg (by omega), hq]; rfl
    have hli : lastI ev i = q.2.1 := by unfold lastI; rw [if_neg (by omega), hq]; rfl
    have h3 := hL.p
    have h4 := hL.ord
    rw [hlp] at h3 h4
    rw [hli] at h4
    exact ⟨h3, h4⟩
  · rcases F.from_ p x hp with h1 | ⟨j, e, _, h2, h3, h4, h5⟩
    · rw [List.getElem?_replicate] at h1
      split at h1
      · obtain rfl := Option.some.inj h1
        exact ⟨by omega, by omega, fun h => by omega⟩
      · cases h1
    · have hj := hlt h2
      obtain ⟨hL, _⟩ := F.loc j e (Nat.zero_le _) h2
      have := obj_lt hL h3
      have := hL.p
      have := hP j (by omega)
      refine ⟨by omega, by omega, fun _ => ⟨e, ?_, h3, by omega⟩⟩
      rw [h5, show ((j : Int)).toNat = j from by omega]; exact h2
theorem check13 (k : Nat) (hk : 61 ≤ k) (ev : List Ev) (st : List Int) : ∃ x : Bool, f13 k (ev, st, ()) = some ((cond x 0 1, ()), ()) ∧ (x = true ↔ OK ev st) := by
  unfold f13
  by_cases h1 : (ev.length : Int) > 40
  · rw [decide_eq_true h1]; exact ⟨false, rfl, ⟨fun h => (by cases h), fun h => by have := h.n; omega⟩⟩
  by_cases h2 : (st.length : Int) < 1
  · rw [decide_eq_false h1, decide_eq_true h2]; exact ⟨false, rfl, ⟨fun h => (by cases h), fun h => by have := h.m; omega⟩⟩
  by_cases h3 : (st.length : Int) > 6
  · rw [decide_eq_false h1, decide_eq_false h2, decide_eq_true h3]; exact ⟨false, rfl, ⟨fun h => (by cases h), fun h => by have := h.m; omega⟩⟩
  rw [decide_eq_false h1, decide_eq_false h2, decide_eq_false h3]
  simp only [cond_false]
  rw [gd_dec (by omega), gd_dec (Int.le_refl _), gd_dec (by unfold room; omega), show ((st.length : Int)).toNat = st.length from by omega]
  have hi := init13 k (m := st.length) (by omega) st.length 0 (List.replicate st.length 0) (by omega) (by omega) (by simp) k (by omega)
  rw [show ((0 : Nat) : Int) = 0 from rfl, List.take_zero, Nat.sub_zero, List.nil_append] at hi
  rw [hi]
  simp only [Option.bind_some]
  obtain ⟨R, hR, hcase⟩ := loop13 k (ev := ev) (st := st) (by omega) ev.length 0 (List.replicate st.length (-1)) 0 (-1) 0 0 (by omega) (by omega) (by simp) k (by omega)
  rw [List.drop_zero] at hR
  rw [show ((0 : Nat) : Int) = 0 from rfl] at hcase
  have back : OK ev st → R = some st := fun hok => by
    refine run_det hR (runB hok ev.length 0 _ (by omega) (Nat.zero_le _) (by simp) fun p x hp => ?_)
    rw [if_neg (by omega), List.getElem?_replicate, if_pos]
    rcases Nat.lt_or_ge p st.length with h' | h'
    · exact h'
    · rw [List.getElem?_eq_none h'] at hp; cases hp
  rcases hcase with ⟨S', z, rfl, hl, hrun⟩ | ⟨rfl, z, hrun⟩
  · rw [hrun]
    simp only [Option.bind_some]
    rw [gd_dec (by omega), List.drop_zero, List.take_of_length_le (by omega), equal25 k (by omega) (by omega)]
    by_cases he : S' = st
    · rw [decide_eq_true he]
      refine ⟨true, rfl, ⟨fun _ => ?_, fun _ => rfl⟩⟩
      rw [he] at hR
      exact ok_of_run (by omega) (by omega) hR
    · rw [decide_eq_false he]
      exact ⟨false, rfl, ⟨fun h => (by cases h), fun h => absurd (Option.some.inj (back h)) he⟩⟩
  · rw [hrun]
    exact ⟨false, rfl, ⟨fun h => (by cases h), fun h => by cases back h⟩⟩
end Sh
end Go.Proofs.Ytnkjnbfaechiaaa.M
/-
Shapes: the law of checks.
-/
set_option linter.unusedVariables false
set_option linter.unusedSimpArgs false
set_option maxRecDepth 100000
namespace Go.Proofs.Ytnkjnbfaechiaaa.M
open Go Go.Proofs.Ytnkjnbfaechiaaa.Vm Go.Proofs.Ytnkjnbfaechiaaa.Pl
namespace Sh
theorem same13 : B.f13 = f13 := by kernel_rfl
theorem awake7 : f7 100 () = some ((true, ()), ()) := by kernel_rfl
theorem later {ev : List Ev} {st : List Int} (h : OK ev st) {i : Nat} {a : Ev} (ha : ev[i]? = some a) : ∀ (d : Nat) (b : Ev), ev[i + d + 1]? = some b → a.1 < b.1 ∨ (a.1 = b.1 ∧ a.2.1 < b.2.1) := by
  intro d
  induction d with
  | zero =>
    intro b hb
    have := (h.evs _ b hb).ord a (by omega) (by rw [show i + 0 + 1 - 1 = i from by omega]; exact ha)
    rcases Int.lt_or_le a.1 b.1 with h1 | h1
    · exact .inl h1
    · exact .inr ⟨by omega, this.2 (by omega)⟩
  | succ d ih =>
    intro b hb
    have hlt : i + (d + 1) + 1 < ev.length := by
      rcases Nat.lt_or_ge (i + (d + 1) + 1) ev.length with h' | h'
      · exact h'
      · rw [List.getElem?_eq_none h'] at hb; cases hb
    have hm : ev[i + d + 1]? = some (ev[i + d + 1]'(by omega)) := List.getElem?_eq_getElem _
    have h1 := ih _ hm
    have h2 := (h.evs _ b hb).ord _ (by omega) (by rw [show i + (d + 1) + 1 - 1 = i + d + 1 from by omega]; exact hm)
    rcases h1 with h1 | ⟨h1, h3⟩
    · exact .inl (by omega)
    · rcases Int.lt_or_le a.1 b.1 with h4 | h4
      · exact .inl h4
      · exact .inr ⟨by omega, by have := h2.2 (by omega); omega⟩
theorem find_one (k : Nat) {ev : List Ev} {st : List Int} (hok : OK ev st) (pr ins : Int) : ∀ (q i : Nat), ev.length - i = q → ∀ j, q < j →
    ((∀ y e, i ≤ y → ev[y]? = some e → ¬ (e.1 = pr ∧ e.2.1 = ins)) ∧ l22_26 k j ev (ev.length : Int) i pr ins = some (.inl ((), ((), (), ()))) ∧ ∀ want, l4_506 k j pr ins want i ev st = some ((want, ()), ((ev, st, ()), ()))) ∨
    (∃ x : Nat, i ≤ x ∧ (∃ e, ev[x]? = some e ∧ e.1 = pr ∧ e.2.1 = ins) ∧ l22_26 k j ev (ev.length : Int) i pr ins = some (.inr (((x : Int), ()), ((), (), ()))) ∧ ∀ want, l4_506 k j pr ins want i ev st = some (((x : Int), ()), ((ev, st, ()), ()))) := by
  have hn := hok.n
  intro q
  induction q with
  | zero =>
    intro i hi j hj
    obtain ⟨j, rfl, _⟩ := succ_of (n := 0) (by omega : 0 + 1 ≤ j)
    refine .inl ⟨fun y e hy he => (by rw [List.getElem?_eq_none (by omega)] at he; cases he), ?_, fun want => ?_⟩
    · show b22_26 k (l22_26 k j) _ _ _ _ _ = _
      unfold b22_26
      rw [decide_eq_false (by omega : ¬ (i : Int) < ev.length)]; rfl
    · show b4_506 k (l4_506 k j) _ _ _ _ _ _ = _
      unfold b4_506
      rw [decide_eq_false (by omega : ¬ (i : Int) < ev.length)]; rfl
  | succ q ih =>
    intro i hi j hj
    obtain ⟨j, rfl, hj2⟩ := succ_of (by omega : q + 1 + 1 ≤ j)
    have hlt : i < ev.length := by omega
    have hx : ev[i]? = some ev[i] := List.getElem?_eq_getElem hlt
    have e22 : l22_26 k (j + 1) ev (ev.length : Int) i pr ins = b22_26 k (l22_26 k j) ev (ev.length : Int) i pr ins := rfl
    have e4 : ∀ want, l4_506 k (j + 1) pr ins want i ev st = b4_506 k (l4_506 k j) pr ins want i ev st := fun _ => rfl
    have hix : ∀ {R : Type} {K : Ev → Option R}, ix ev (i : Int) K = K ev[i] := fun {R K} => ix_nat hx
    have step22 : l22_26 k (j + 1) ev (ev.length : Int) i pr ins = cond (decide (ev[i].1 = pr ∧ ev[i].2.1 = ins)) (some (.inr (((i : Int), ()), ((), (), ())))) (l22_26 k j ev (ev.length : Int) ((i + 1 : Nat) : Int) pr ins) := by
      rw [e22]; unfold b22_26
      rw [decide_eq_true (by omega : (i : Int) < ev.length), cond_true]
      simp only [hix]
      unfold f23
      rw [i_eq, i_eq, w1 (by omega)]
      by_cases h1 : ev[i].1 = pr
      · by_cases h2 : ev[i].2.1 = ins
        · rw [decide_eq_true h1, decide_eq_true h2, decide_eq_true (show ev[i].1 = pr ∧ ev[i].2.1 = ins from ⟨h1, h2⟩)]; rfl
        · rw [decide_eq_true h1, decide_eq_false h2, decide_eq_false (fun h : ev[i].1 = pr ∧ ev[i].2.1 = ins => h2 h.2)]
          simp only [cond_true, cond_false, Option.bind_some]
          rcases ih (i + 1) (by omega) j hj2 with ⟨_, h3, _⟩ | ⟨x, _, _, h3, _⟩ <;> rw [h3] <;> rfl
      · rw [decide_eq_false h1, decide_eq_false (fun h : ev[i].1 = pr ∧ ev[i].2.1 = ins => h1 h.1)]
        simp only [cond_true, cond_false, Option.bind_some]
        rcases ih (i + 1) (by omega) j hj2 with ⟨_, h3, _⟩ | ⟨x, _, _, h3, _⟩ <;> rw [h3] <;> rfl
    have step4 : ∀ want, l4_506 k (j + 1) pr ins want i ev st = l4_506 k j pr ins (cond (decide (ev[i].1 = pr ∧ ev[i].2.1 = ins)) (i : Int) want) ((i + 1 : Nat) : Int) ev st := by
      intro want
      rw [e4]; unfold b4_506
      rw [decide_eq_true (by omega : (i : Int) < ev.length), cond_true]
      simp only [hix]
      rw [i_eq, i_eq, w1 (by omega)]
      by_cases h1 : ev[i].1 = pr
      · by_cases h2 : ev[i].2.1 = ins
        · rw [decide_eq_true h1, decide_eq_true h2, decide_eq_true (show ev[i].1 = pr ∧ ev[i].2.1 = ins from ⟨h1, h2⟩)]
          simp only [cond_true, cond_false]
          rcases ih (i + 1) (by omega) j hj2 with ⟨_, _, h3⟩ | ⟨x, _, _, _, h3⟩ <;> rw [h3] <;> rfl
        · rw [decide_eq_true h1, decide_eq_false h2, decide_eq_false (fun h : ev[i].1 = pr ∧ ev[i].2.1 = ins => h2 h.2)]
          simp only [cond_true, cond_false]
          rcases ih (i + 1) (by omega) j hj2 with ⟨_, _, h3⟩ | ⟨x, _, _, _, h3⟩ <;> rw [h3] <;> rfl
      · rw [decide_eq_false h1, decide_eq_false (fun h : ev[i].1 = pr ∧ ev[i].2.1 = ins => h1 h.1)]
        simp only [cond_true, cond_false]
        rcases ih (i + 1) (by omega) j hj2 with ⟨_, _, h3⟩ | ⟨x, _, _, _, h3⟩ <;> rw [h3] <;> rfl
    by_cases h0 : ev[i].1 = pr ∧ ev[i].2.1 = ins
    · refine .inr ⟨i, Nat.le_refl _, ⟨_, hx, h0⟩, by rw [step22, decide_eq_true h0]; rfl, fun want => ?_⟩
      rw [step4, decide_eq_true h0, cond_true]
      rcases ih (i + 1) (by omega) j hj2 with ⟨_, _, h3⟩ | ⟨x, h4, ⟨e, h5, h6, h7⟩, _, _⟩
      · rw [h3]
      · exfalso
        have := later hok hx (x - (i + 1)) e (by rw [show i + (x - (i + 1)) + 1 = x from by omega]; exact h5)
        omega
    · rcases ih (i + 1) (by omega) j hj2 with ⟨h2, h3, h4⟩ | ⟨x, h4, h5, h6, h7⟩
      · refine .inl ⟨fun y e hy he => ?_, by rw [step22, decide_eq_false h0, cond_false, h3], fun want => by rw [step4, decide_eq_false h0, cond_false, h4]⟩
        rcases Nat.eq_or_lt_of_le hy with rfl | hy'
        · rw [hx] at he; obtain rfl := Option.some.inj he; exact h0
        · exact h2 y e hy' he
      · exact .inr ⟨x, by omega, h5, by rw [step22, decide_eq_false h0, cond_false, h6], fun want => by rw [step4, decide_eq_false h0, cond_false, h7]⟩
end Sh
open Sh
namespace Pure
theorem ShapeChecks (s : D_Shape) (hf : Fit T_Shape s) (pr : Int) (hp : Fit i64 pr) (ins : Int) (hi : Fit i64 ins) : ∃ k, f4 k s pr ins = some ((true, ()), ()) := by
  refine ⟨100, ?_⟩
  obtain ⟨ev, st, ⟨⟩⟩ := s
  unfold f4
  rw [awake7]
  by_cases h1 : (ev.length : Int) > 60
  · rw [decide_eq_true h1]; rfl
  by_cases h2 : (st.length : Int) > 60
  · rw [decide_eq_false h1, decide_eq_true h2]; rfl
  rw [decide_eq_false h1, decide_eq_false h2]
  simp only [cond_false]
  obtain ⟨x, hx, hxi⟩ := may6 100 (by omega) ev st
  obtain ⟨y, hy, hyi⟩ := check13 100 (by omega) ev st
  have hxy : x = y := by cases x <;> cases y <;> simp_all
  subst hxy
  rw [hx]
  unfold f12 f14 f10 f20 f8
  rw [same13, hy]
  cases x with
  | false => rfl
  | true =>
    have hok := hxi.1 rfl
    unfold f22
    simp only [Option.bind_some, cond_true, show ((0 : Int) != 0) = false from rfl, cond_false, Bool.not_true]
    have hn := hok.n
    rcases find_one 100 hok pr ins ev.length 0 (by omega) 100 (by omega) with ⟨_, h3, h4⟩ | ⟨x, _, _, h3, h4⟩
    · rw [show ((0 : Nat) : Int) = 0 from rfl] at h3 h4
      rw [h3, h4]
      simp only [Option.bind_some]
      rw [hy]; rfl
    · rw [show ((0 : Nat) : Int) = 0 from rfl] at h3 h4
      rw [h3, h4]
      simp only [Option.bind_some]
      rw [hy]
      simp only [Option.bind_some, cond_true, show ((0 : Int) == 0) = true from rfl, i_eq, decide_true]
end Pure
end Go.Proofs.Ytnkjnbfaechiaaa.M
