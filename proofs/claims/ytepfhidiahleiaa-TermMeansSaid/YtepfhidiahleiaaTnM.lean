/-
Terms: each act makes what may be, nothing twice, and its worth is that of its makings.
-/
import Derived.Test.YtepfhidiahleiaaTnV
set_option linter.unusedVariables false
set_option linter.unusedSimpArgs false
set_option maxRecDepth 100000
namespace Go.Proofs.Ytepfhidiahleiaa.M
open Go Go.Proofs.Ytepfhidiahleiaa.Vm Go.Proofs.Ytepfhidiahleiaa.Pl
namespace Term
abbrev Mp := List (D_Term × Int)
def eqT (e x : D_Term) : Bool := beqD T_Term e x
def fnd (l : List D_Term) (x : D_Term) : Option Nat := l.findIdx? fun e => eqT e x
def MapOk (l : List D_Term) (m : Mp) : Prop := ∀ x : D_Term, mget T_Term x m = (fnd l x).map fun (i : Nat) => (i : Int)
theorem beq_refl (x : D_Term) : eqT x x = true := (beqD_iff T_Term rfl x x).2 rfl
theorem beq_ne {x y : D_Term} (h : x ≠ y) : eqT x y = false := by
  cases hb : eqT x y with
  | true => exact absurd ((beqD_iff T_Term rfl x y).1 hb) h
  | false => rfl
theorem fnd_append {l : List D_Term} {e : D_Term} (h : fnd l e = none) (e' : D_Term) : (e' = e → fnd (l ++ [e]) e' = some l.length) ∧ (e' ≠ e → fnd (l ++ [e]) e' = fnd l e') := by
  unfold fnd at h ⊢
  rw [List.findIdx?_append]
  refine ⟨fun he => ?_, fun he => ?_⟩
  · subst he
    rw [h]
    simp [beq_refl]
  · cases hf : l.findIdx? fun x => eqT x e' with
    | some i => simp
    | none => simp [beq_ne (Ne.symm he)]
theorem fnd_at {l : List D_Term} {x : D_Term} {i : Nat} (h : fnd l x = some i) : l[i]? = some x := by
  unfold fnd at h
  obtain ⟨hlt, h1, _⟩ := List.findIdx?_eq_some_iff_getElem.1 h
  rw [List.getElem?_eq_getElem hlt]
  exact congrArg some ((beqD_iff T_Term rfl _ _).1 h1)
structure Inv (k w : Nat) (l : List D_Term) (m : Mp) : Prop where
  mp : MapOk l m
  ex : AllEx k w l
  nd : ∀ (i : Nat) (x : D_Term), l[i]? = some x → fnd l x = some i
def isP (l : List D_Term) (i : Int) : Bool := decide (0 ≤ i ∧ i < l.length)
theorem isP_iff {l : List D_Term} {i : Int} : isP l i = true ↔ 0 ≤ i ∧ i < l.length := decide_eq_true_iff
theorem isP_get {l : List D_Term} {i : Int} (h : isP l i = true) : ∃ e, l[i.toNat]? = some e ∧ 0 ≤ i := by
  have h' := isP_iff.1 h
  exact ⟨l[i.toNat], List.getElem?_eq_getElem (by omega), h'.1⟩
theorem isP_app {l t : List D_Term} {i : Int} (h : isP l i = true) : isP (l ++ t) i = true := by
  have := isP_iff.1 h
  refine isP_iff.2 ⟨this.1, ?_⟩
  rw [List.length_append]
  omega
/-- What an act comes to. -/
def Made (k w c : Nat) (l : List D_Term) (p : Option R58) (P : List D_Term → Int → Prop) : Prop :=
  ∃ (t : List D_Term) (r : Int) (m' : Mp), Inv k w (l ++ t) m' ∧ t.length ≤ c ∧ p = some ((r, ()), (((w : Int), l ++ t, (), ()), m', ())) ∧ (r < 0 ∨ (isP (l ++ t) r = true ∧ P (l ++ t) r))
section
variable {k w c : Nat} {reads : List Int} {l : List D_Term} {m : Mp}
theorem Made.wrap {p : Option R58} {P : List D_Term → Int → Prop} (s : Made k w c l p P) : Made k w c l (p.bind fun y => some ((y.1.1, ()), ((y.2.1.1, y.2.1.2.1, (), ()), y.2.2.1, ()))) P := by
  obtain ⟨t, r, m', h1, h2, rfl, h4⟩ := s
  exact ⟨t, r, m', h1, h2, rfl, h4⟩
theorem Made.mono {c' : Nat} {p : Option R58} {P Q : List D_Term → Int → Prop} (s : Made k w c l p P) (hc : c ≤ c') (hQ : ∀ t r, isP (l ++ t) r = true → P (l ++ t) r → Q (l ++ t) r) : Made k w c' l p Q := by
  obtain ⟨t, r, m', h1, h2, h3, h4⟩ := s
  refine ⟨t, r, m', h1, by omega, h3, ?_⟩
  rcases h4 with h4 | ⟨h4, h5⟩
  · exact .inl h4
  · exact .inr ⟨h4, hQ t r h4 h5⟩
theorem no (hi : Inv k w l m) {P : List D_Term → Int → Prop} : Made k w c l (some ((-1, ()), (((w : Int), l, (), ()), m, ()))) P :=
  ⟨[], -1, m, by rw [List.append_nil]; exact hi, by simp, by rw [List.append_nil], .inl (by decide)⟩
theorem keep (hi : Inv k w l m) {P : List D_Term → Int → Prop} {r : Int} (hr : isP l r = true) (hP : P l r) : Made k w c l (some ((r, ()), (((w : Int), l, (), ()), m, ()))) P :=
  ⟨[], r, m, by rw [List.append_nil]; exact hi, by simp, by rw [List.append_nil], .inr (by rw [List.append_nil]; exact ⟨hr, hP⟩)⟩
theorem add58 (hi : Inv k w l m) (hl : l.length ≤ 900) {x : D_Term} (hx : Exact k w l.length x) : Made k w 1 l (f58 k x w l m) fun l' r => l'[r.toNat]? = some x := by
  have hm := hi.mp
  unfold f58
  rw [hm x]
  cases hf : fnd l x with
  | some i =>
    have h1 := fnd_at hf
    have h2 := getElem?_lt h1
    exact keep (r := (i : Int)) hi (isP_iff.2 ⟨by omega, by omega⟩) h1
  | none =>
    have hw : w64 (((l ++ [x]).length : Int) - 1) = (l.length : Int) := by
      rw [List.length_append, List.length_singleton, w64_id (by omega) (by omega)]; omega
    refine ⟨[x], l.length, mput T_Term x l.length m, ⟨?_, ?_, ?_⟩, by simp, ?_, .inr ⟨isP_iff.2 ⟨by omega, by simp; omega⟩, ?_⟩⟩
    · intro e'
      have h1 := mget_mput (kt := T_Term) rfl (k := x) (k' := e') (x := (l.length : Int)) m
      have h2 := fnd_append hf e'
      by_cases he : e' = x
      · rw [h2.1 he]; exact h1.1 he
      · rw [h2.2 he]; exact (h1.2 he).trans (hm e')
    · intro t e he
      rcases Nat.lt_or_ge t l.length with ht | ht
      · rw [List.getElem?_append_left ht] at he
        exact hi.ex t e he
      · have h2 := getElem?_lt he
        rw [List.length_append, List.length_singleton] at h2
        obtain rfl : t = l.length := by omega
        rw [List.getElem?_append_right (Nat.le_refl _), Nat.sub_self] at he
        cases he
        exact hx
    · intro i e he
      have h2 := fnd_append hf e
      rcases Nat.lt_or_ge i l.length with ht | ht
      · rw [List.getElem?_append_left ht] at he
        have h3 := hi.nd i e he
        have hne : e ≠ x := fun h => by rw [h, hf] at h3; cases h3
        rw [h2.2 hne]; exact h3
      · have h4 := getElem?_lt he
        rw [List.length_append, List.length_singleton] at h4
        obtain rfl : i = l.length := by omega
        rw [List.getElem?_append_right (Nat.le_refl _), Nat.sub_self] at he
        cases he
        exact h2.1 rfl
    · have e0 : (Option.map (fun i : Nat => (i : Int)) none).isSome = false := rfl
      rw [e0, cond_false, beq_int, decide_eq_false (by omega : ¬ (l.length : Int) = 8192), cond_false, gd_dec (by unfold room; omega), hw]
    · show (l ++ [x])[((l.length : Int)).toNat]? = some x
      rw [show ((l.length : Int)).toNat = l.length by omega, List.getElem?_append_right (Nat.le_refl _), Nat.sub_self]; rfl
/-- What is found is worth what it is made of. -/
theorem Made.worth {p : Option R58} {x : D_Term} (s : Made k w c l p fun l' r => l'[r.toNat]? = some x) : Made k w c l p fun l' r => va (vals k w reads l') r = vx k w reads (vals k w reads l') x := by
  obtain ⟨t, r, m', h1, h2, h3, h4⟩ := s
  refine ⟨t, r, m', h1, h2, h3, ?_⟩
  rcases h4 with h4 | ⟨h4, h5⟩
  · exact .inl h4
  · exact .inr ⟨h4, va_at h1.ex (isP_iff.1 h4).1 h5⟩
theorem num20 (h : Wd w) (hi : Inv k w l m) (hl : l.length ≤ 900) (n : Int) : Made k w 1 l (f20 k n w l m) fun l' r => va (vals k w reads l') r = n % 2 ^ w := by
  have s := (add58 hi hl (x := (1, ByteArray.empty, n % 2 ^ w, 0, 0, 0, ())) (.num (nm_mod n))).worth (reads := reads)
  unfold f20
  rw [decide_eq_false (by omega : ¬ (w : Int) < 0), cond_false, mask_txt h, and_mask h]
  exact s.wrap
theorem p105 (i : Int) : f105 k i w l m = some ((!isP l i, ()), ()) := by
  unfold f105 isP
  by_cases h : i < 0
  · rw [decide_eq_true h, decide_eq_false (by omega : ¬ (0 ≤ i ∧ i < l.length))]; rfl
  · rw [decide_eq_false h, cond_false]
    by_cases h2 : i < l.length
    · rw [decide_eq_false (by omega : ¬ i ≥ (l.length : Int)), decide_eq_true (by omega : 0 ≤ i ∧ i < l.length)]; rfl
    · rw [decide_eq_true (by omega : i ≥ (l.length : Int)), decide_eq_false (by omega : ¬ (0 ≤ i ∧ i < l.length))]; rfl
theorem p106 {s : List Int} (hs : s.length ≤ 100) : ∀ (d i : Nat), s.length - i = d → ∀ j, d < j →
    ((s.drop i).all (isP l) = true → l106_26 k j s s.length i w l m = some (.inl ((), ((), (), (), ())))) ∧
    ((s.drop i).all (isP l) = false → ∃ t : Int, 0 ≤ t ∧ l106_26 k j s s.length i w l m = some (.inr ((t, ()), ((), (), (), ())))) := by
  intro d
  induction d with
  | zero =>
    intro i hi j hj
    obtain ⟨j, rfl, _⟩ := succ_of (n := 0) (by omega : 0 + 1 ≤ j)
    show (_ → b106_26 k (l106_26 k j) s s.length i w l m = _) ∧ (_ → ∃ t : Int, 0 ≤ t ∧ b106_26 k (l106_26 k j) s s.length i w l m = _)
    unfold b106_26
    rw [decide_eq_false (by omega : ¬ (i : Int) < s.length), List.drop_eq_nil_of_le (by omega)]
    exact ⟨fun _ => rfl, fun h => by cases h⟩
  | succ d ih =>
    intro i hi j hj
    obtain ⟨j, rfl, hj2⟩ := succ_of (by omega : d + 1 + 1 ≤ j)
    show (_ → b106_26 k (l106_26 k j) s s.length i w l m = _) ∧ (_ → ∃ t : Int, 0 ≤ t ∧ b106_26 k (l106_26 k j) s s.length i w l m = _)
    have hx : s[i]? = some s[i] := List.getElem?_eq_getElem (by omega)
    have hw : w64 ((i : Int) + 1) = ((i + 1 : Nat) : Int) := by rw [w64_id (by omega) (by omega)]; omega
    obtain ⟨r1, r2⟩ := ih (i + 1) (by omega) j hj2
    unfold b106_26
    rw [decide_eq_true (by omega : (i : Int) < s.length), cond_true, ix_nat hx, p105, hw, List.drop_eq_getElem_cons (by omega : i < s.length), List.all_cons]
    cases hb : isP l s[i] with
    | false => exact ⟨fun h => (by cases h), fun _ => ⟨i, by omega, rfl⟩⟩
    | true =>
      refine ⟨fun h => ?_, fun h => ?_⟩
      · rw [r1 (by simpa using h)]; rfl
      · obtain ⟨t, h0, ht⟩ := r2 (by simpa using h)
        exact ⟨t, h0, by rw [ht]; rfl⟩
theorem p81 (hk : 10000 ≤ k) {s : List Int} (hs : s.length ≤ 100) : f81v2 k s w l m = some ((s.all (isP l), ()), ()) := by
  obtain ⟨r1, r2⟩ := p106 (k := k) (w := w) (l := l) (m := m) hs s.length 0 rfl k (by omega)
  rw [show ((0 : Nat) : Int) = 0 from rfl, List.drop_zero] at r1 r2
  unfold f81v2 f86 f106
  cases hb : s.all (isP l) with
  | true => rw [r1 hb]; rfl
  | false =>
    obtain ⟨t, h0, ht⟩ := r2 hb
    rw [ht]
    simp only [Option.bind_some]
    rw [decide_eq_true (show t ≥ 0 from h0)]
    rfl
theorem num83 {i : Int} {e : D_Term} (h0 : 0 ≤ i) (hx : l[i.toNat]? = some e) : f83v2 k i w l m = some ((e.2.2.1, e.1 == 1, ()), ()) := by
  unfold f83v2
  rw [ix_get h0 hx, ix_get h0 hx]
theorem pl_isP {i : Int} (h : isP l i = true) : pl i (l.length : Int) = true := pl_iff.2 (isP_iff.1 h)
theorem va_nm (hk : 10000 ≤ k) (h : Wd w) (he : AllEx k w l) {i : Int} (hp : isP l i = true) : Nm w (va (vals k w reads l) i) := by
  have hh := isP_iff.1 hp
  have h1 : i.toNat < (vals k w reads l).length := by rw [vals_len]; omega
  unfold va
  rw [List.getElem?_eq_getElem h1]
  exact vals_nm hk h he l.length (Nat.le_refl _) _ (by rw [List.take_length]; exact List.getElem_mem _)
theorem va_app' {t : List D_Term} {i : Int} (hp : isP l i = true) : va (vals k w reads (l ++ t)) i = va (vals k w reads l) i := va_app k w reads (by have := isP_iff.1 hp; omega)
/-- A number's worth. -/
theorem num_of (he : AllEx k w l) {i : Int} {e : D_Term} (h0 : 0 ≤ i) (hx : l[i.toNat]? = some e) (k1 : e.1 = 1) : va (vals k w reads l) i = e.2.2.1 ∧ Nm w e.2.2.1 := by
  have hE := he _ _ hx
  rw [va_at he h0 hx]
  cases hE with
  | num hn => exact ⟨rfl, hn⟩
  | read => cases k1
  | un => cases k1
  | bin => cases k1
  | ite => cases k1
theorem un42 (hk : 10000 ≤ k) (h : Wd w) (hi : Inv k w l m) (hl : l.length ≤ 900) (op : ByteArray) (a : Int) : Made k w 1 l (f42v2 k op a w l m) fun l' r => isP l a = true ∧ va (vals k w reads l') r = on k w op (va (vals k w reads l) a) := by
  unfold f42v2
  rw [p81 hk (by simp)]
  simp only [Option.bind_some, List.all_cons, List.all_nil, Bool.and_true]
  cases hp : isP l a with
  | false => exact no hi
  | true =>
    obtain ⟨e, hx, h0⟩ := isP_get hp
    have h88 : ∃ b : Bool, f88 k op = some ((b, ()), ()) := by
      unfold f88
      cases op.toList == (ByteArray.mk #[45]).toList with
      | true => exact ⟨true, rfl⟩
      | false => cases op.toList == (ByteArray.mk #[126]).toList with
        | true => exact ⟨true, rfl⟩
        | false => exact ⟨_, rfl⟩
    obtain ⟨b, e1⟩ := h88
    simp only [Bool.not_true, cond_false]
    rw [e1]
    simp only [Option.bind_some]
    cases b with
    | false => exact no hi
    | true =>
      simp only [Bool.not_true, cond_false]
      rw [num83 h0 hx]
      simp only [Option.bind_some, beq_int]
      by_cases k1 : e.1 = 1
      · obtain ⟨v1, v2⟩ := num_of (reads := reads) hi.ex h0 hx k1
        rw [decide_eq_true k1, cond_true]
        obtain ⟨o0, o1, _⟩ := on_eq k h v2 op
        rw [o1]
        simp only [Option.bind_some]
        refine ((num20 (reads := reads) h hi hl (on k w op e.2.2.1)).wrap).mono (Nat.le_refl _) fun t r _ hr => ⟨trivial, ?_⟩
        rw [hr, o0.mod, v1]
      · rw [decide_eq_false k1, cond_false]
        refine (((add58 hi hl (x := (3, op, 0, a, 0, 0, ())) (.un e1 (pl_isP hp))).worth (reads := reads)).wrap).mono (Nat.le_refl _) fun t r _ hr => ⟨trivial, ?_⟩
        rw [hr]
        show on k w op (va (vals k w reads (l ++ t)) a) = _
        rw [va_app' hp]
theorem bin37 (hk : 10000 ≤ k) (h : Wd w) (hi : Inv k w l m) (hl : l.length ≤ 900) (op : ByteArray) (a b : Int) : Made k w 1 l (f37v2 k op a b w l m) fun l' r => isP l a = true ∧ isP l b = true ∧ va (vals k w reads l') r = ap k w op (va (vals k w reads l) a) (va (vals k w reads l) b) := by
  unfold f37v2
  rw [p81 hk (by simp)]
  simp only [Option.bind_some, List.all_cons, List.all_nil, Bool.and_true]
  cases hp : isP l a with
  | false => exact no hi
  | true =>
    cases hp2 : isP l b with
    | false => exact no hi
    | true =>
      obtain ⟨e, hx, h0⟩ := isP_get hp
      obtain ⟨e', hx', h0'⟩ := isP_get hp2
      obtain ⟨n, s1, s2, s3, _⟩ := sign_all k (by omega) op
      simp only [Bool.and_self, Bool.not_true, cond_false]
      rw [s1]
      simp only [Option.bind_some, beq_int]
      by_cases hn : n = 0
      · rw [decide_eq_true hn]; exact no hi
      · rw [decide_eq_false hn, cond_false, num83 h0 hx, num83 h0' hx']
        simp only [Option.bind_some, beq_int]
        have hadd : Made k w 1 l ((f58 k (4, op, 0, a, b, 0, ()) w l m).bind fun y => some ((y.1.1, ()), ((y.2.1.1, y.2.1.2.1, (), ()), y.2.2.1, ()))) fun l' r => True ∧ True ∧ va (vals k w reads l') r = ap k w op (va (vals k w reads l) a) (va (vals k w reads l) b) := by
          refine (((add58 hi hl (x := (4, op, 0, a, b, 0, ())) (.bin s1 hn (pl_isP hp) (pl_isP hp2))).worth (reads := reads)).wrap).mono (Nat.le_refl _) fun t r _ hr => ⟨trivial, trivial, ?_⟩
          rw [hr]
          show ap k w op (va (vals k w reads (l ++ t)) a) (va (vals k w reads (l ++ t)) b) = _
          rw [va_app' hp, va_app' hp2]
        by_cases k1 : e.1 = 1
        · rw [decide_eq_true k1, cond_true]
          by_cases k2 : e'.1 = 1
          · obtain ⟨v1, v2⟩ := num_of (reads := reads) hi.ex h0 hx k1
            obtain ⟨v1', v2'⟩ := num_of (reads := reads) hi.ex h0' hx' k2
            rw [decide_eq_true k2, cond_true]
            obtain ⟨o0, o1, _⟩ := ap_eq k (by omega) h v2 v2' op
            rw [o1]
            simp only [Option.bind_some]
            refine ((num20 (reads := reads) h hi hl (ap k w op e.2.2.1 e'.2.2.1)).wrap).mono (Nat.le_refl _) fun t r _ hr => ⟨trivial, trivial, ?_⟩
            rw [hr, o0.mod, v1, v1']
          · rw [decide_eq_false k2, cond_false]; exact hadd
        · rw [decide_eq_false k1, cond_false]; exact hadd
theorem ite43 (hk : 10000 ≤ k) (h : Wd w) (hi : Inv k w l m) (hl : l.length ≤ 900) (i a b : Int) : Made k w 1 l (f43v2 k i a b w l m) fun l' r => isP l i = true ∧ isP l a = true ∧ isP l b = true ∧ va (vals k w reads l') r = if va (vals k w reads l) i = 0 then va (vals k w reads l) b else va (vals k w reads l) a := by
  unfold f43v2
  rw [p81 hk (by simp)]
  simp only [Option.bind_some, List.all_cons, List.all_nil, Bool.and_true]
  cases hp : isP l i with
  | false => exact no hi
  | true =>
    cases hpa : isP l a with
    | false => exact no hi
    | true =>
      cases hpb : isP l b with
      | false => exact no hi
      | true =>
        obtain ⟨e, hx, h0⟩ := isP_get hp
        simp only [Bool.and_self, Bool.not_true, cond_false]
        rw [num83 h0 hx]
        simp only [Option.bind_some, bne, beq_int]
        by_cases k1 : e.1 = 1
        · obtain ⟨v1, v2⟩ := num_of (reads := reads) hi.ex h0 hx k1
          rw [decide_eq_true k1, v1]
          by_cases hn : e.2.2.1 = 0
          · rw [decide_eq_true hn, if_pos hn]; exact keep hi hpb ⟨trivial, trivial, trivial, rfl⟩
          · rw [decide_eq_false hn, if_neg hn]; exact keep hi hpa ⟨trivial, trivial, trivial, rfl⟩
        · rw [decide_eq_false k1]
          by_cases hab : a = b
          · rw [decide_eq_true hab]; exact keep hi hpa ⟨trivial, trivial, trivial, by rw [hab]; split <;> rfl⟩
          · rw [decide_eq_false hab]
            refine (((add58 hi hl (x := (5, ByteArray.empty, 0, i, a, b, ())) (.ite (pl_isP hp) (pl_isP hpa) (pl_isP hpb))).worth (reads := reads)).wrap).mono (Nat.le_refl _) fun t r _ hr => ⟨trivial, trivial, trivial, ?_⟩
            rw [hr]
            show (if va (vals k w reads (l ++ t)) i = 0 then va (vals k w reads (l ++ t)) b else va (vals k w reads (l ++ t)) a) = _
            rw [va_app' hp, va_app' hpa, va_app' hpb]
/-- A truth is 0 or 1. -/
def tv (n : Int) : Prop := n = 0 ∨ n = 1
theorem truly (hk : 10000 ≤ k) (he : AllEx k w l) (i : Int) : ∃ b : Bool, f89v2 k i w l m = some ((b, ()), ()) ∧ (b = true → isP l i = true ∧ tv (va (vals k w reads l) i) ∧ ∀ e, l[i.toNat]? = some e → e.1 = 3 → e.2.1 = ByteArray.mk #[33]) := by
  unfold f89v2
  rw [p81 hk (by simp)]
  simp only [Option.bind_some, List.all_cons, List.all_nil, Bool.and_true]
  cases hp : isP l i with
  | false => exact ⟨false, rfl, fun h => by cases h⟩
  | true =>
    obtain ⟨e, hx, h0⟩ := isP_get hp
    simp only [Bool.not_true, cond_false]
    rw [ix_get h0 hx]
    have hE := he _ _ hx
    have hv := va_at (reads := reads) he h0 hx
    rw [hv]
    cases hE with
    | @num n hn =>
      refine ⟨decide (n ≤ 1), rfl, fun hb => ⟨trivial, ?_, fun e he h3 => by rw [hx] at he; cases he; cases h3⟩⟩
      have h1 := of_decide_eq_true hb
      have h2 := hn.1
      show tv n
      unfold tv
      omega
    | read => exact ⟨false, rfl, fun h => by cases h⟩
    | @un op a hop hpl =>
      refine ⟨op.toList == (ByteArray.mk #[33]).toList, rfl, fun hb => ?_⟩
      have h1 : op.toList = [33] := by rw [lit1] at hb; exact eq_of_beq hb
      have h2 : op = ByteArray.mk #[33] := of_list h1
      refine ⟨trivial, ?_, fun e he h3 => by rw [hx] at he; cases he; exact h2⟩
      show tv (on k w op _)
      rw [h2, on_not]
      unfold tv
      cases va (vals k w reads l) a == 0
      · exact .inl rfl
      · exact .inr rfl
    | @bin op n a b hop hn hpa hpb =>
      obtain ⟨n', s1, s2, s3, s4⟩ := sign_all k (by omega) op
      rw [hop] at s1
      cases s1
      refine ⟨decide (n ≤ 3), ?_, fun hb => ⟨trivial, ap_cmp k w _ _ (s4 hn (of_decide_eq_true hb)), fun e he h3 => by rw [hx] at he; cases he; cases h3⟩⟩
      refine Eq.trans (b := (f82 k op).bind fun y3 => some ((decide (y3.1.1 ≤ 3), ()), ())) rfl ?_
      rw [hop]; rfl
    | ite => exact ⟨false, rfl, fun h => by cases h⟩
theorem truth44 (hk : 10000 ≤ k) (h : Wd w) (hi : Inv k w l m) (hl : l.length ≤ 800) (a : Int) : Made k w 2 l (f44v2 k a w l m) fun l' r => isP l a = true ∧ va (vals k w reads l') r = ap k w (ByteArray.mk #[33, 61]) (va (vals k w reads l) a) 0 := by
  unfold f44v2
  rw [p81 hk (by simp)]
  simp only [Option.bind_some, List.all_cons, List.all_nil, Bool.and_true]
  cases hp : isP l a with
  | false => exact no hi
  | true =>
    obtain ⟨b, t1, t2⟩ := truly (reads := reads) (m := m) hk hi.ex a
    simp only [Bool.not_true, cond_false]
    rw [t1]
    simp only [Option.bind_some]
    cases b with
    | true =>
      obtain ⟨_, hv, _⟩ := t2 rfl
      refine keep hi hp ⟨trivial, ?_⟩
      rw [ap_ne]
      rcases hv with hv | hv <;> rw [hv] <;> rfl
    | false =>
      simp only [cond_false]
      obtain ⟨t, r, m', h1, h2, h3, h4⟩ := num20 (reads := reads) h hi (by omega) 0
      rw [h3]
      simp only [Option.bind_some]
      obtain ⟨t2, r2, m2, g1, g2, g3, g4⟩ := (bin37 (reads := reads) hk h h1 (by rw [List.length_append]; omega) (ByteArray.mk #[33, 61]) a r).wrap
      rw [List.append_assoc] at g1 g3 g4
      refine ⟨t ++ t2, r2, m2, g1, by rw [List.length_append]; omega, g3, ?_⟩
      rcases g4 with g4 | ⟨g4, g5, g6, g7⟩
      · exact .inl g4
      · refine .inr ⟨g4, trivial, ?_⟩
        rcases h4 with h4 | ⟨_, h5⟩
        · have := (isP_iff.1 g6).1; omega
        · rw [g7, h5, va_app' hp, Int.zero_emod]
theorem both45 (hk : 10000 ≤ k) (h : Wd w) (hi : Inv k w l m) (hl : l.length ≤ 900) (a b : Int) : Made k w 1 l (f45v2 k a b w l m) fun l' r => isP l a = true ∧ isP l b = true ∧ va (vals k w reads l') r = ap k w (ByteArray.mk #[38, 38]) (va (vals k w reads l) a) (va (vals k w reads l) b) := by
  unfold f45v2
  obtain ⟨x, t1, t2⟩ := truly (reads := reads) (m := m) hk hi.ex a
  obtain ⟨y, u1, u2⟩ := truly (reads := reads) (m := m) hk hi.ex b
  rw [t1]
  simp only [Option.bind_some]
  cases x with
  | false => exact no hi
  | true =>
    rw [u1]
    simp only [Option.bind_some, Bool.not_true, cond_false]
    cases y with
    | false => exact no hi
    | true =>
      obtain ⟨p1, q1, _⟩ := t2 rfl
      obtain ⟨p2, q2, _⟩ := u2 rfl
      obtain ⟨e, hx, h0⟩ := isP_get p1
      obtain ⟨e', hx', h0'⟩ := isP_get p2
      have hnum : (va (vals k w reads l) a = 0 ∨ va (vals k w reads l) b = 0) → Made k w 1 l ((f20 k 0 w l m).bind fun y => some ((y.1.1, ()), ((y.2.1.1, y.2.1.2.1, (), ()), y.2.2.1, ()))) fun l' r => isP l a = true ∧ isP l b = true ∧ va (vals k w reads l') r = ap k w (ByteArray.mk #[38, 38]) (va (vals k w reads l) a) (va (vals k w reads l) b) := fun hz => by
        refine ((num20 (reads := reads) h hi hl 0).wrap).mono (Nat.le_refl _) fun t r _ hr => ⟨p1, p2, ?_⟩
        rw [hr, ap_and, Int.zero_emod]
        rcases hz with hz | hz <;> rw [hz]
        · rfl
        · rw [show ((0 : Int) != 0) = false from rfl, Bool.and_false]; rfl
      have hbin := (bin37 (reads := reads) hk h hi hl (ByteArray.mk #[38, 38]) a b).wrap
      have hsa : va (vals k w reads l) b = 1 ∨ a = b → Made k w 1 l (some ((a, ()), (((w : Int), l, (), ()), m, ()))) fun l' r => isP l a = true ∧ isP l b = true ∧ va (vals k w reads l') r = ap k w (ByteArray.mk #[38, 38]) (va (vals k w reads l) a) (va (vals k w reads l) b) := fun hz => by
        refine keep hi p1 ⟨p1, p2, ?_⟩
        rw [ap_and]
        rcases hz with hz | hz
        · rw [hz]; rcases q1 with q1 | q1 <;> rw [q1] <;> rfl
        · subst hz; rcases q1 with q1 | q1 <;> rw [q1] <;> rfl
      have hsb : va (vals k w reads l) a = 1 → Made k w 1 l (some ((b, ()), (((w : Int), l, (), ()), m, ()))) fun l' r => isP l a = true ∧ isP l b = true ∧ va (vals k w reads l') r = ap k w (ByteArray.mk #[38, 38]) (va (vals k w reads l) a) (va (vals k w reads l) b) := fun hz => by
        refine keep hi p2 ⟨p1, p2, ?_⟩
        rw [ap_and, hz]
        rcases q2 with q2 | q2 <;> rw [q2] <;> rfl
      unfold l45v2_248 l45v2_998 l45v2_3998
      rw [num83 h0 hx, num83 h0' hx']
      simp only [Option.bind_some, beq_int]
      by_cases k1 : e.1 = 1
      · obtain ⟨v1, v2⟩ := num_of (reads := reads) hi.ex h0 hx k1
        rw [decide_eq_true k1]
        by_cases n1 : e.2.2.1 = 0
        · rw [decide_eq_true n1]; exact hnum (.inl (by rw [v1, n1]))
        · have va1 : va (vals k w reads l) a = 1 := by rcases q1 with q1 | q1; exact absurd (v1 ▸ q1) n1; exact q1
          rw [decide_eq_false n1]
          by_cases k2 : e'.1 = 1
          · obtain ⟨v1', v2'⟩ := num_of (reads := reads) hi.ex h0' hx' k2
            rw [decide_eq_true k2]
            by_cases n2 : e'.2.2.1 = 0
            · rw [decide_eq_true n2]; exact hnum (.inr (by rw [v1', n2]))
            · rw [decide_eq_false n2]; exact hsb va1
          · rw [decide_eq_false k2]; exact hsb va1
      · rw [decide_eq_false k1]
        by_cases k2 : e'.1 = 1
        · obtain ⟨v1', v2'⟩ := num_of (reads := reads) hi.ex h0' hx' k2
          rw [decide_eq_true k2]
          by_cases n2 : e'.2.2.1 = 0
          · rw [decide_eq_true n2]; exact hnum (.inr (by rw [v1', n2]))
          · have va2 : va (vals k w reads l) b = 1 := by rcases q2 with q2 | q2; exact absurd (v1' ▸ q2) n2; exact q2
            rw [decide_eq_false n2]; exact hsa (.inl va2)
        · rw [decide_eq_false k2]
          by_cases hab : a = b
          · rw [decide_eq_true hab]; exact hsa (.inr hab)
          · rw [decide_eq_false hab]; exact hbin
theorem not46 (hk : 10000 ≤ k) (h : Wd w) (hi : Inv k w l m) (hl : l.length ≤ 900) (a : Int) : Made k w 1 l (f46v2 k a w l m) fun l' r => isP l a = true ∧ tv (va (vals k w reads l) a) ∧ va (vals k w reads l') r = on k w (ByteArray.mk #[33]) (va (vals k w reads l) a) := by
  unfold f46v2
  obtain ⟨x, t1, t2⟩ := truly (reads := reads) (m := m) hk hi.ex a
  rw [t1]
  simp only [Option.bind_some]
  cases x with
  | false => exact no hi
  | true =>
    obtain ⟨p1, q1, z1⟩ := t2 rfl
    obtain ⟨e, hx, h0⟩ := isP_get p1
    have hun : Made k w 1 l ((f42v2 k (ByteArray.mk #[33]) a w l m).bind fun y => some ((y.1.1, ()), ((y.2.1.1, y.2.1.2.1, (), ()), y.2.2.1, ()))) fun l' r => isP l a = true ∧ tv (va (vals k w reads l) a) ∧ va (vals k w reads l') r = on k w (ByteArray.mk #[33]) (va (vals k w reads l) a) :=
      ((un42 (reads := reads) hk h hi hl (ByteArray.mk #[33]) a).wrap).mono (Nat.le_refl _) fun t r _ hr => ⟨p1, q1, hr.2⟩
    simp only [Bool.not_true, cond_false]
    rw [ix_get h0 hx]
    simp only [beq_int]
    by_cases k3 : e.1 = 3
    · rw [decide_eq_true k3]
      obtain ⟨y, u1, u2⟩ := truly (reads := reads) (m := m) hk hi.ex e.2.2.2.1
      simp only [cond_true]
      rw [u1]
      simp only [Option.bind_some]
      cases y with
      | true =>
        obtain ⟨p2, q2, _⟩ := u2 rfl
        refine keep hi p2 ⟨p1, q1, ?_⟩
        have hv := va_at (reads := reads) hi.ex h0 hx
        have hop := z1 e hx k3
        have hvx : vx k w reads (vals k w reads l) e = on k w e.2.1 (va (vals k w reads l) e.2.2.2.1) := by
          unfold vx
          rw [if_neg (by omega), if_neg (by omega), if_pos k3]
        rw [hv, hvx, hop, on_not, on_not]
        rcases q2 with q2 | q2 <;> rw [q2] <;> rfl
      | false => exact hun
    · rw [decide_eq_false k3]; exact hun
theorem either47 (hk : 10000 ≤ k) (h : Wd w) (hi : Inv k w l m) (hl : l.length ≤ 800) (a b : Int) : Made k w 4 l (f47v2 k a b w l m) fun l' r => isP l' a = true ∧ isP l' b = true ∧ va (vals k w reads l') r = ap k w (ByteArray.mk #[124, 124]) (va (vals k w reads l') a) (va (vals k w reads l') b) := by
  unfold f47v2
  obtain ⟨t1, r1, m1, a1, a2, a3, a4⟩ := not46 (reads := reads) hk h hi (by omega) a
  rw [a3]
  simp only [Option.bind_some]
  obtain ⟨t2, r2, m2, b1, b2, b3, b4⟩ := not46 (reads := reads) hk h a1 (by rw [List.length_append]; omega) b
  rw [b3]
  simp only [Option.bind_some]
  obtain ⟨t3, r3, m3, c1, c2, c3, c4⟩ := both45 (reads := reads) hk h b1 (by rw [List.length_append, List.length_append]; omega) r1 r2
  rw [c3]
  simp only [Option.bind_some]
  obtain ⟨t4, r4, m4, d1, d2, d3, d4⟩ := (not46 (reads := reads) hk h c1 (by rw [List.length_append, List.length_append, List.length_append]; omega) r3).wrap
  refine ⟨t1 ++ (t2 ++ (t3 ++ t4)), r4, m4, ?_, by simp only [List.length_append]; omega, ?_, ?_⟩
  · rw [← List.append_assoc, ← List.append_assoc, ← List.append_assoc]; exact d1
  · rw [d3, ← List.append_assoc, ← List.append_assoc, ← List.append_assoc]
  · rw [← List.append_assoc, ← List.append_assoc, ← List.append_assoc]
    rcases d4 with d4 | ⟨d4, d5, d6, d7⟩
    · exact .inl d4
    · rcases c4 with c4 | ⟨c4, c5, c6, c7⟩
      · have := (isP_iff.1 d5).1; omega
      · rcases b4 with b4 | ⟨b4, b5, b6, b7⟩
        · have := (isP_iff.1 c6).1; omega
        · rcases a4 with a4 | ⟨a4, a5, a6, a7⟩
          · have := (isP_iff.1 c5).1; omega
          · have pa : isP (l ++ t1 ++ t2 ++ t3 ++ t4) a = true := isP_app (isP_app (isP_app (isP_app a5)))
            have pb : isP (l ++ t1 ++ t2 ++ t3 ++ t4) b = true := isP_app (isP_app (isP_app b5))
            refine .inr ⟨d4, pa, pb, ?_⟩
            have ea : va (vals k w reads (l ++ t1 ++ t2 ++ t3 ++ t4)) a = va (vals k w reads l) a := by
              rw [va_app' (isP_app (isP_app (isP_app a5))), va_app' (isP_app (isP_app a5)), va_app' (isP_app a5), va_app' a5]
            have eb : va (vals k w reads (l ++ t1 ++ t2 ++ t3 ++ t4)) b = va (vals k w reads (l ++ t1)) b := by
              rw [va_app' (isP_app (isP_app b5)), va_app' (isP_app b5), va_app' b5]
            rw [d7, c7, b7, va_app' a4, a7, ea, eb]
            simp only [on_not, ap_and, ap_or]
            rcases a6 with a6 | a6 <;> rcases b6 with b6 | b6 <;> rw [a6, b6] <;> rfl
end
end Term
end Go.Proofs.Ytepfhidiahleiaa.M
