/-
Terms: places; what is added; the program's steps and the document's, side by side.
-/
import Derived.Test.YtepfhidiahleiaaTermB
set_option linter.unusedVariables false
set_option linter.unusedSimpArgs false
set_option maxRecDepth 100000
namespace Go.Proofs.Ytepfhidiahleiaa.M
open Go Go.Proofs.Ytepfhidiahleiaa.Vm Go.Proofs.Ytepfhidiahleiaa.Pl
namespace Term
abbrev Mp := List (D_Term × Int)
def eqT (e x : D_Term) : Bool := beqD T_Term e x
def fnd (l : List D_Term) (x : D_Term) : Option Nat := l.findIdx? fun e => eqT e x
def MapOk (l : List D_Term) (m : Mp) : Prop := ∀ x : D_Term, mget T_Term x m = (fnd l x).map fun (i : Nat) => (i : Int)
def Good (w : Nat) (l : List D_Term) : Prop := ∀ e ∈ l, e.1 = 1 → Nm w e.2.2.1
theorem beq_refl (x : D_Term) : eqT x x = true := (beqD_iff T_Term rfl x x).2 rfl
theorem beq_ne {x y : D_Term} (h : x ≠ y) : eqT x y = false := by
  cases hb : eqT x y with
  | true => exact absurd ((beqD_iff T_Term rfl x y).1 hb) h
  | false => rfl
theorem fnd_append {l : List D_Term} {e : D_Term} (h : fnd l e = none) (e' : D_Term) : (e' = e → fnd (l ++ [e]) e' = some l.length) ∧ (e' ≠ e → fnd (l ++ [e]) e' = fnd l e') := by
  unfold fnd at h ⊢
  rw [List.findIdx?_append]
  refine ⟨fun he => ?_, fun he => ?_⟩
  · subst he
    rw [h]
    simp [beq_refl]
  · cases hf : l.findIdx? fun x => eqT x e' with
    | some i => simp
    | none => simp [beq_ne (Ne.symm he)]
/-- Both sides come to the same list and the same place. -/
def Sim (w c : Nat) (l : List D_Term) (p : Option R58) (q : Option R49) : Prop := ∃ (l' : List D_Term) (r : Int) (m' : Mp), Good w l' ∧ l'.length ≤ l.length + c ∧ MapOk l' m' ∧ p = some ((r, ()), (((w : Int), l', (), ()), m', ())) ∧ q = some ((l', r, ()), ())
section
variable {k w : Nat} {l : List D_Term} {m : Mp}
theorem add58 (hm : MapOk l m) (hl : l.length ≤ 5000) (hg : Good w l) {x : D_Term} (hx : x.1 = 1 → Nm w x.2.2.1) :
    ∃ (l' : List D_Term) (r : Int) (m' : Mp), Good w l' ∧ l'.length ≤ l.length + 1 ∧ MapOk l' m' ∧ (f58 k x w l m = some ((r, ()), (((w : Int), l', (), ()), m', ()))) ∧ ((∃ i, fnd l x = some i ∧ l' = l ∧ r = (i : Int)) ∨ (fnd l x = none ∧ l' = l ++ [x] ∧ r = (l.length : Int))) := by
  unfold f58
  rw [hm x]
  cases hf : fnd l x with
  | some i => exact ⟨l, i, m, hg, by omega, hm, rfl, .inl ⟨i, rfl, rfl, rfl⟩⟩
  | none =>
    have hw : w64 (((l ++ [x]).length : Int) - 1) = (l.length : Int) := by
      rw [List.length_append, List.length_singleton, w64_id (by omega) (by omega)]; omega
    refine ⟨l ++ [x], l.length, mput T_Term x l.length m, ?_, by simp, ?_, ?_, .inr ⟨rfl, rfl, rfl⟩⟩
    · intro e he h1
      rcases List.mem_append.1 he with h | h
      · exact hg e h h1
      · have : e = x := by simpa using h
        subst this; exact hx h1
    · intro e'
      have h1 := mget_mput (kt := T_Term) rfl (k := x) (k' := e') (x := (l.length : Int)) m
      have h2 := fnd_append hf e'
      by_cases he : e' = x
      · rw [h2.1 he]; exact h1.1 he
      · rw [h2.2 he]; exact (h1.2 he).trans (hm e')
    · have e0 : (Option.map (fun i : Nat => (i : Int)) none).isSome = false := rfl
      rw [e0, cond_false, beq_int, decide_eq_false (by omega : ¬ (l.length : Int) = 8192), cond_false, gd_dec (by unfold room; omega), hw]
theorem add_loop {x : D_Term} : ∀ (d i : Nat), l.length - i = d → l.length ≤ 5000 → ∀ j, d < j →
    l49_26 k j l i x.1 x.2.1 x.2.2.1 x.2.2.2.1 x.2.2.2.2.1 x.2.2.2.2.2.1 = match (l.drop i).findIdx? fun e => eqT e x with
      | some t => some (.inr ((l, ((i + t : Nat) : Int), ()), (x, ())))
      | none => some (.inl ((), (x, ()))) := by
  intro d
  induction d with
  | zero =>
    intro i hi hl j hj
    obtain ⟨j, rfl, _⟩ := succ_of (n := 0) (by omega : 0 + 1 ≤ j)
    show b49_26 k (l49_26 k j) l i x.1 x.2.1 x.2.2.1 x.2.2.2.1 x.2.2.2.2.1 x.2.2.2.2.2.1 = _
    unfold b49_26
    rw [decide_eq_false (by omega : ¬ (i : Int) < l.length), List.drop_eq_nil_of_le (by omega)]
    rfl
  | succ d ih =>
    intro i hi hl j hj
    obtain ⟨j, rfl, hj2⟩ := succ_of (by omega : d + 1 + 1 ≤ j)
    show b49_26 k (l49_26 k j) l i x.1 x.2.1 x.2.2.1 x.2.2.2.1 x.2.2.2.2.1 x.2.2.2.2.2.1 = _
    have hx : l[i]? = some l[i] := List.getElem?_eq_getElem (by omega)
    have hw : w64 ((i : Int) + 1) = ((i + 1 : Nat) : Int) := by rw [w64_id (by omega) (by omega)]; omega
    have hrec := ih (i + 1) (by omega) hl j hj2
    have hq : beqD T_Term l[i] (x.1, x.2.1, x.2.2.1, x.2.2.2.1, x.2.2.2.2.1, x.2.2.2.2.2.1, ()) = eqT l[i] x := rfl
    unfold b49_26
    rw [decide_eq_true (by omega : (i : Int) < l.length), cond_true, ix_nat hx, hw, hrec, hq, List.drop_eq_getElem_cons (by omega : i < l.length), List.findIdx?_cons]
    cases hb : eqT l[i] x with
    | true => rfl
    | false =>
      simp only [cond_false]
      cases hf : (l.drop (i + 1)).findIdx? fun e => eqT e x with
      | none => rfl
      | some t =>
        have : i + 1 + t = i + (t + 1) := by omega
        simp only [Bool.false_eq_true, if_false, Option.map_some, this]
        rfl
theorem add_sim (hk : 10000 ≤ k) (hm : MapOk l m) (hl : l.length ≤ 5000) (hg : Good w l) {x : D_Term} (hx : x.1 = 1 → Nm w x.2.2.1) : Sim w 1 l (f58 k x w l m) (f49 k l x) := by
  obtain ⟨l', r, m', h1, h2, h3, h4, h5⟩ := add58 (k := k) hm hl hg hx
  refine ⟨l', r, m', h1, h2, h3, h4, ?_⟩
  have h := add_loop (k := k) (x := x) l.length 0 rfl hl k (by omega)
  rw [show ((0 : Nat) : Int) = 0 from rfl, List.drop_zero] at h
  unfold f49
  rw [h]
  rcases h5 with ⟨i, hf, rfl, rfl⟩ | ⟨hf, rfl, rfl⟩
  · unfold fnd at hf
    rw [hf]
    simp only [Option.bind_some, Nat.zero_add]
  · unfold fnd at hf
    rw [hf]
    simp only [Option.bind_some]
    rw [decide_eq_false (by omega : ¬ (l.length : Int) ≥ 8192), cond_false, gd_dec (by unfold room; omega), gd_dec (by unfold room; rw [List.nil_append]; omega), List.nil_append]
theorem num_sim (hk : 10000 ≤ k) (h : Wd w) (hm : MapOk l m) (hl : l.length ≤ 5000) (hg : Good w l) (n : Int) : Sim w 1 l (f20 k n w l m) (f48 k w l n) := by
  obtain ⟨l', r, m', h1, h2, h3, h4, h5⟩ := add_sim (k := k) hk hm hl hg (x := (1, ByteArray.empty, n % 2 ^ w, 0, 0, 0, ())) (fun _ => nm_mod n)
  refine ⟨l', r, m', h1, h2, h3, ?_, ?_⟩
  · unfold f20
    rw [decide_eq_false (by omega : ¬ (w : Int) < 0), cond_false, mask_txt h, and_mask h, h4]
    rfl
  · unfold f48
    rw [mod27 k n h]
    simp only [Option.bind_some]
    rw [h5]
    rfl
def isP (l : List D_Term) (i : Int) : Bool := decide (0 ≤ i ∧ i < l.length)
theorem isP_iff {i : Int} : isP l i = true ↔ 0 ≤ i ∧ i < l.length := decide_eq_true_iff
theorem p105 (i : Int) : f105v2 k i w l m = some ((!isP l i, ()), ()) := by
  unfold f105v2 isP
  by_cases h : i < 0
  · rw [decide_eq_true h, decide_eq_false (by omega : ¬ (0 ≤ i ∧ i < l.length))]; rfl
  · rw [decide_eq_false h, cond_false]
    by_cases h2 : i < l.length
    · rw [decide_eq_false (by omega : ¬ i ≥ (l.length : Int)), decide_eq_true (by omega : 0 ≤ i ∧ i < l.length)]; rfl
    · rw [decide_eq_true (by omega : i ≥ (l.length : Int)), decide_eq_false (by omega : ¬ (0 ≤ i ∧ i < l.length))]; rfl
theorem p106 {s : List Int} (hs : s.length ≤ 100) : ∀ (d i : Nat), s.length - i = d → ∀ j, d < j →
    ((s.drop i).all (isP l) = true → l106v2_26 k j s s.length i w l m = some (.inl ((), ((), (), (), ())))) ∧
    ((s.drop i).all (isP l) = false → ∃ t : Int, 0 ≤ t ∧ l106v2_26 k j s s.length i w l m = some (.inr ((t, ()), ((), (), (), ())))) := by
  intro d
  induction d with
  | zero =>
    intro i hi j hj
    obtain ⟨j, rfl, _⟩ := succ_of (n := 0) (by omega : 0 + 1 ≤ j)
    show (_ → b106v2_26 k (l106v2_26 k j) s s.length i w l m = _) ∧ (_ → ∃ t : Int, 0 ≤ t ∧ b106v2_26 k (l106v2_26 k j) s s.length i w l m = _)
    unfold b106v2_26
    rw [decide_eq_false (by omega : ¬ (i : Int) < s.length), List.drop_eq_nil_of_le (by omega)]
    exact ⟨fun _ => rfl, fun h => by cases h⟩
  | succ d ih =>
    intro i hi j hj
    obtain ⟨j, rfl, hj2⟩ := succ_of (by omega : d + 1 + 1 ≤ j)
    show (_ → b106v2_26 k (l106v2_26 k j) s s.length i w l m = _) ∧ (_ → ∃ t : Int, 0 ≤ t ∧ b106v2_26 k (l106v2_26 k j) s s.length i w l m = _)
    have hx : s[i]? = some s[i] := List.getElem?_eq_getElem (by omega)
    have hw : w64 ((i : Int) + 1) = ((i + 1 : Nat) : Int) := by rw [w64_id (by omega) (by omega)]; omega
    obtain ⟨r1, r2⟩ := ih (i + 1) (by omega) j hj2
    unfold b106v2_26
    rw [decide_eq_true (by omega : (i : Int) < s.length), cond_true, ix_nat hx, p105, hw, List.drop_eq_getElem_cons (by omega : i < s.length), List.all_cons]
    cases hb : isP l s[i] with
    | false => exact ⟨fun h => (by cases h), fun _ => ⟨i, by omega, rfl⟩⟩
    | true =>
      refine ⟨fun h => ?_, fun h => ?_⟩
      · rw [r1 (by simpa using h)]; rfl
      · obtain ⟨t, h0, ht⟩ := r2 (by simpa using h)
        exact ⟨t, h0, by rw [ht]; rfl⟩
theorem p81 (hk : 10000 ≤ k) {s : List Int} (hs : s.length ≤ 100) : f81v3 k s w l m = some ((s.all (isP l), ()), ()) := by
  obtain ⟨r1, r2⟩ := p106 (k := k) (w := w) (l := l) (m := m) hs s.length 0 rfl k (by omega)
  rw [show ((0 : Nat) : Int) = 0 from rfl, List.drop_zero] at r1 r2
  unfold f81v3 f86v2 f106v2
  cases hb : s.all (isP l) with
  | true => rw [r1 hb]; rfl
  | false =>
    obtain ⟨t, h0, ht⟩ := r2 hb
    rw [ht]
    simp only [Option.bind_some]
    rw [decide_eq_true (show t ≥ 0 from h0)]
    rfl
theorem p84 (i : Int) : f84 k i l.length = some ((isP l i, ()), ()) := by
  unfold f84 isP
  by_cases h : 0 ≤ i
  · rw [decide_eq_true (show i ≥ 0 from h), cond_true]
    by_cases h2 : i < l.length
    · rw [decide_eq_true h2, decide_eq_true (by omega : 0 ≤ i ∧ i < l.length)]
    · rw [decide_eq_false h2, decide_eq_false (by omega : ¬ (0 ≤ i ∧ i < l.length))]
  · rw [decide_eq_false (show ¬ i ≥ 0 from h), decide_eq_false (by omega : ¬ (0 ≤ i ∧ i < l.length))]; rfl
theorem p90_loop {s : List Int} (hs : s.length ≤ 100) : ∀ (d i : Nat), s.length - i = d → ∀ j, d < j →
    l90_26 k j l s i = cond ((s.drop i).all (isP l)) (some (.inl ((), ()))) (some (.inr ((false, ()), ()))) := by
  intro d
  induction d with
  | zero =>
    intro i hi j hj
    obtain ⟨j, rfl, _⟩ := succ_of (n := 0) (by omega : 0 + 1 ≤ j)
    show b90_26 k (l90_26 k j) l s i = _
    unfold b90_26
    rw [decide_eq_false (by omega : ¬ (i : Int) < s.length), List.drop_eq_nil_of_le (by omega)]
    rfl
  | succ d ih =>
    intro i hi j hj
    obtain ⟨j, rfl, hj2⟩ := succ_of (by omega : d + 1 + 1 ≤ j)
    show b90_26 k (l90_26 k j) l s i = _
    have hx : s[i]? = some s[i] := List.getElem?_eq_getElem (by omega)
    have hw : w64 ((i : Int) + 1) = ((i + 1 : Nat) : Int) := by rw [w64_id (by omega) (by omega)]; omega
    have hrec := ih (i + 1) (by omega) j hj2
    unfold b90_26
    rw [decide_eq_true (by omega : (i : Int) < s.length), cond_true, ix_nat hx, p84, hw, hrec, List.drop_eq_getElem_cons (by omega : i < s.length), List.all_cons]
    cases hb : isP l s[i] with
    | false => rfl
    | true =>
      cases hr : (s.drop (i + 1)).all (isP l) with
      | true => rfl
      | false => rfl
theorem p90 (hk : 10000 ≤ k) {s : List Int} (hs : s.length ≤ 100) : f90 k l s = some ((s.all (isP l), ()), ()) := by
  have h := p90_loop (k := k) (l := l) hs s.length 0 rfl k (by omega)
  rw [show ((0 : Nat) : Int) = 0 from rfl, List.drop_zero] at h
  unfold f90
  rw [h]
  cases s.all (isP l) with
  | true => rfl
  | false => rfl
theorem isP_get {i : Int} (h : isP l i = true) : ∃ e, l[i.toNat]? = some e ∧ 0 ≤ i ∧ e ∈ l := by
  have h' := isP_iff.1 h
  exact ⟨l[i.toNat], List.getElem?_eq_getElem (by omega), h'.1, List.getElem_mem _⟩
theorem num83 {i : Int} {e : D_Term} (h0 : 0 ≤ i) (hx : l[i.toNat]? = some e) : f83v3 k i w l m = some ((e.2.2.1, e.1 == 1, ()), ()) := by
  unfold f83v3
  rw [ix_get h0 hx, ix_get h0 hx]
theorem truly (hk : 10000 ≤ k) (i : Int) : ∃ b : Bool, f89v3 k i w l m = some ((b, ()), ()) ∧ f91 k l i = some ((b, ()), ()) ∧ (b = true → isP l i = true ∧ ∀ e, l[i.toNat]? = some e → e.1 = 1 → e.2.2.1 ≤ 1) := by
  unfold f89v3 f91
  rw [p81 hk (by simp), p90 hk (by simp)]
  simp only [Option.bind_some, List.all_cons, List.all_nil, Bool.and_true]
  cases hp : isP l i with
  | false => exact ⟨false, rfl, rfl, fun h => by cases h⟩
  | true =>
    obtain ⟨e, hx, h0, _⟩ := isP_get hp
    simp only [Bool.not_true, cond_false]
    obtain ⟨n, s1, s2, _⟩ := sign_eq k (by omega) e.2.1
    rw [ix_get h0 hx, ix_get h0 hx, s1, s2]
    simp only [Option.bind_some, beq_int]
    by_cases k1 : e.1 = 1
    · rw [decide_eq_true k1, decide_eq_false (by omega : ¬ e.1 = 3), decide_eq_false (by omega : ¬ e.1 = 4)]
      by_cases hle : e.2.2.1 ≤ 1
      · refine ⟨true, by rw [decide_eq_true hle]; rfl, by rw [decide_eq_true (by omega : e.2.2.1 < 2)]; rfl, fun _ => ⟨trivial, fun e' he' _ => ?_⟩⟩
        rw [hx] at he'; cases he'; exact hle
      · exact ⟨false, by rw [decide_eq_false hle]; rfl, by rw [decide_eq_false (by omega : ¬ e.2.2.1 < 2)]; rfl, fun h => by cases h⟩
    · have hk1 : ∀ e', l[i.toNat]? = some e' → e'.1 = 1 → e'.2.2.1 ≤ 1 := fun e' he' h => by rw [hx] at he'; cases he'; exact absurd h k1
      rw [decide_eq_false k1]
      by_cases k3 : e.1 = 3
      · rw [decide_eq_true k3, decide_eq_false (by omega : ¬ e.1 = 4)]
        cases hs : e.2.1.toList == (ByteArray.mk #[33]).toList with
        | true => exact ⟨true, rfl, rfl, fun _ => ⟨trivial, hk1⟩⟩
        | false => exact ⟨false, rfl, rfl, fun h => by cases h⟩
      · rw [decide_eq_false k3]
        by_cases k4 : e.1 = 4
        · rw [decide_eq_true k4]; exact ⟨decide (n ≤ 3), rfl, rfl, fun _ => ⟨trivial, hk1⟩⟩
        · rw [decide_eq_false k4]; exact ⟨false, rfl, rfl, fun h => by cases h⟩
end
end Term
end Go.Proofs.Ytepfhidiahleiaa.M
