/-
Whatever is made may be, nothing is made twice, and what is made is worth what it is made of: the plain law. For every input, no condition.
-/
import Derived.Test.YtepfhidiahleiaaTnM
set_option linter.unusedVariables false
set_option linter.unusedSimpArgs false
set_option maxRecDepth 100000
namespace Go.Proofs.Ytepfhidiahleiaa.M
open Go Go.Proofs.Ytepfhidiahleiaa.Vm Go.Proofs.Ytepfhidiahleiaa.Pl
namespace Term
theorem light15 (k : Nat) (hk : 100 ≤ k) (l : List D_Act) : ∃ b : Bool, f15 k l = some ((b, ()), ()) := by
  have loop : ∀ (d i : Nat), 40 - i = d → ∀ j, d < j → (l15_26 k j l i = some (.inl ((), ()))) ∨ (l15_26 k j l i = some (.inr ((false, ()), ()))) := by
    intro d
    induction d with
    | zero =>
      intro i hi j hj
      obtain ⟨j, rfl, _⟩ := succ_of (n := 0) (by omega : 0 + 1 ≤ j)
      show (b15_26 k (l15_26 k j) l i = _) ∨ (b15_26 k (l15_26 k j) l i = _)
      unfold b15_26
      rw [decide_eq_false (by omega : ¬ (i : Int) < 40)]
      cases decide ((i : Int) < l.length) <;> exact .inl rfl
    | succ d ih =>
      intro i hi j hj
      obtain ⟨j, rfl, hj2⟩ := succ_of (by omega : d + 1 + 1 ≤ j)
      show (b15_26 k (l15_26 k j) l i = _) ∨ (b15_26 k (l15_26 k j) l i = _)
      have hw : w64 ((i : Int) + 1) = ((i + 1 : Nat) : Int) := by rw [w64_id (by omega) (by omega)]; omega
      have hrec := ih (i + 1) (by omega) j hj2
      unfold b15_26
      rw [decide_eq_true (by omega : (i : Int) < 40), hw]
      by_cases hil : i < l.length
      · have hx : l[i]? = some l[i] := List.getElem?_eq_getElem hil
        rw [decide_eq_true (by omega : (i : Int) < l.length), cond_true, cond_true, ix_nat hx]
        cases decide ((l[i].2.1.size : Int) > 20) with
        | true => exact .inr rfl
        | false =>
          rcases hrec with h | h <;> rw [h]
          · exact .inl rfl
          · exact .inr rfl
      · rw [decide_eq_false (by omega : ¬ (i : Int) < l.length)]; exact .inl rfl
  unfold f15
  have := loop 40 0 rfl k (by omega)
  rw [show ((0 : Nat) : Int) = 0 from rfl] at this
  rcases this with h | h <;> rw [h]
  · exact ⟨true, rfl⟩
  · exact ⟨false, rfl⟩
section
variable {k w c : Nat} {reads : List Int} {l : List D_Term} {m : Mp}
noncomputable def at' (v : List Int) (i : Int) : Int := if i < 0 then 0 else va v i
theorem at22 (k : Nat) (v : List Int) (i : Int) : f22 k v i = some ((at' v i, ()), ()) := by
  unfold f22 at'
  by_cases h : i < 0
  · rw [decide_eq_true h, if_pos h]; rfl
  · rw [decide_eq_false h, if_neg h, cond_false]
    by_cases h2 : i ≥ (v.length : Int)
    · rw [decide_eq_true h2]
      unfold va
      rw [List.getElem?_eq_none (by omega)]; rfl
    · have hx : v[i.toNat]? = some v[i.toNat] := List.getElem?_eq_getElem (by omega)
      rw [decide_eq_false h2, cond_false, ix_get (by omega) hx]
      unfold va
      rw [hx]; rfl
theorem at_isP {v : List Int} {i : Int} (h : isP l i = true) : at' v i = va v i := by
  have := (isP_iff.1 h).1
  unfold at'
  rw [if_neg (by omega)]
theorem at_nm (hk : 10000 ≤ k) (h : Wd w) (he : AllEx k w l) (i : Int) : Nm w (at' (vals k w reads l) i) := by
  unfold at'
  split
  · exact (nm_bool h).1
  · rename_i h0
    by_cases hp : isP l i = true
    · exact va_nm hk h he hp
    · have : ¬ (i < l.length) := fun hh => hp (isP_iff.2 ⟨by omega, hh⟩)
      unfold va
      rw [List.getElem?_eq_none (by rw [vals_len]; omega)]
      exact (nm_bool h).1
noncomputable def want (k w : Nat) (x : D_Act) (a b c : Int) : Int :=
  if x.1 = 2 then on k w x.2.1 a else if x.1 = 3 then ap k w x.2.1 a b else if x.1 = 4 then (if c = 0 then b else a)
  else if x.1 = 5 then ap k w (ByteArray.mk #[33, 61]) a 0 else if x.1 = 6 then ap k w (ByteArray.mk #[38, 38]) a b else if x.1 = 7 then on k w (ByteArray.mk #[33]) a
  else ap k w (ByteArray.mk #[124, 124]) a b
theorem want_eq (hk : 10000 ≤ k) (h : Wd w) {a b c : Int} (ha : Nm w a) (hb : Nm w b) (x : D_Act) (h2 : ¬ x.1 < 2) (h8 : ¬ x.1 > 8) :
    l6_512638 k w a b c 0 x.1 x.2.1 x.2.2.1 x.2.2.2.1 x.2.2.2.2.1 = some ((want k w x a b c, ()), ((x.1, x.2.1, x.2.2.1, x.2.2.2.1, x.2.2.2.2.1, ()), ())) := by
  have n0 := (nm_bool h).1
  unfold l6_512638 want
  rw [(on_eq k h ha x.2.1).2.2, (ap_eq k (by omega) h ha hb x.2.1).2.2, (ap_eq k (by omega) h ha n0 (ByteArray.mk #[33, 61])).2.2, (ap_eq k (by omega) h ha hb (ByteArray.mk #[38, 38])).2.2, (on_eq k h ha (ByteArray.mk #[33])).2.2, (ap_eq k (by omega) h ha hb (ByteArray.mk #[124, 124])).2.2]
  simp only [Option.bind_some, beq_int, bne]
  by_cases d2 : x.1 = 2
  · rw [decide_eq_true d2, if_pos d2]; rfl
  rw [decide_eq_false d2, if_neg d2, cond_false]
  by_cases d3 : x.1 = 3
  · rw [decide_eq_true d3, if_pos d3]; rfl
  rw [decide_eq_false d3, if_neg d3, cond_false]
  by_cases d4 : x.1 = 4
  · rw [decide_eq_true d4, if_pos d4]
    by_cases hc : c = 0
    · rw [decide_eq_true hc, if_pos hc]; rfl
    · rw [decide_eq_false hc, if_neg hc]; rfl
  rw [decide_eq_false d4, if_neg d4, cond_false]
  by_cases d5 : x.1 = 5
  · rw [decide_eq_true d5, if_pos d5]; rfl
  rw [decide_eq_false d5, if_neg d5, cond_false]
  by_cases d6 : x.1 = 6
  · rw [decide_eq_true d6, if_pos d6]; rfl
  rw [decide_eq_false d6, if_neg d6, cond_false]
  by_cases d7 : x.1 = 7
  · rw [decide_eq_true d7, if_pos d7]; rfl
  rw [decide_eq_false d7, if_neg d7, cond_false, decide_eq_true (by omega : x.1 = 8)]
  rfl
/-- Any act. -/
theorem do16 (hk : 10000 ≤ k) (h : Wd w) (hi : Inv k w l m) (hl : l.length ≤ 800) (x : D_Act) : Made k w 4 l (f16v2 k x w l m) fun l' r => ¬ x.1 < 2 → ¬ x.1 > 8 → va (vals k w reads l') r = want k w x (at' (vals k w reads l') x.2.2.1) (at' (vals k w reads l') x.2.2.2.1) (at' (vals k w reads l') x.2.2.2.2.1) := by
  have at1 : ∀ {t : List D_Term} {i : Int}, isP l i = true → at' (vals k w reads (l ++ t)) i = va (vals k w reads l) i := fun {t i} hp => by
    rw [at_isP hp, va_app' hp]
  unfold f16v2
  simp only [beq_int]
  by_cases d0 : x.1 = 0
  · rw [decide_eq_true d0]
    exact ((num20 (reads := reads) h hi (by omega) _).wrap).mono (by omega) fun t r _ _ hh => absurd (by omega) hh
  rw [decide_eq_false d0, cond_false]
  by_cases d1 : x.1 = 1
  · rw [decide_eq_true d1, cond_true]
    unfold f21v2
    by_cases q1 : x.2.2.1 < 0
    · rw [decide_eq_true q1]; exact no hi
    · rw [decide_eq_false q1]
      by_cases q2 : x.2.2.1 ≥ 64
      · rw [decide_eq_true q2]; exact no hi
      · rw [decide_eq_false q2]
        simp only [cond_false]
        exact (((add58 hi (by omega) (x := (2, ByteArray.empty, x.2.2.1, 0, 0, 0, ())) (.read (by omega) (by omega))).wrap).wrap).mono (by omega) fun t r _ _ hh => absurd (by omega) hh
  rw [decide_eq_false d1, cond_false]
  by_cases d2 : x.1 = 2
  · rw [decide_eq_true d2]
    refine ((un42 (reads := reads) hk h hi (by omega) _ _).wrap).mono (by omega) fun t r _ ⟨hp, hr⟩ _ _ => ?_
    unfold want
    rw [if_pos d2, hr, at1 hp]
  rw [decide_eq_false d2, cond_false]
  by_cases d3 : x.1 = 3
  · rw [decide_eq_true d3]
    refine ((bin37 (reads := reads) hk h hi (by omega) _ _ _).wrap).mono (by omega) fun t r _ ⟨hp, hp2, hr⟩ _ _ => ?_
    unfold want
    rw [if_neg d2, if_pos d3, hr, at1 hp, at1 hp2]
  rw [decide_eq_false d3, cond_false]
  by_cases d4 : x.1 = 4
  · rw [decide_eq_true d4]
    refine ((ite43 (reads := reads) hk h hi (by omega) _ _ _).wrap).mono (by omega) fun t r _ ⟨hp, hp2, hp3, hr⟩ _ _ => ?_
    unfold want
    rw [if_neg d2, if_neg d3, if_pos d4, hr, at1 hp, at1 hp2, at1 hp3]
  rw [decide_eq_false d4, cond_false]
  by_cases d5 : x.1 = 5
  · rw [decide_eq_true d5]
    refine ((truth44 (reads := reads) hk h hi (by omega) _).wrap).mono (by omega) fun t r _ ⟨hp, hr⟩ _ _ => ?_
    unfold want
    rw [if_neg d2, if_neg d3, if_neg d4, if_pos d5, hr, at1 hp]
  rw [decide_eq_false d5, cond_false]
  by_cases d6 : x.1 = 6
  · rw [decide_eq_true d6]
    refine ((both45 (reads := reads) hk h hi (by omega) _ _).wrap).mono (by omega) fun t r _ ⟨hp, hp2, hr⟩ _ _ => ?_
    unfold want
    rw [if_neg d2, if_neg d3, if_neg d4, if_neg d5, if_pos d6, hr, at1 hp, at1 hp2]
  rw [decide_eq_false d6, cond_false]
  by_cases d7 : x.1 = 7
  · rw [decide_eq_true d7]
    refine ((not46 (reads := reads) hk h hi (by omega) _).wrap).mono (by omega) fun t r _ ⟨hp, _, hr⟩ _ _ => ?_
    unfold want
    rw [if_neg d2, if_neg d3, if_neg d4, if_neg d5, if_neg d6, if_pos d7, hr, at1 hp]
  rw [decide_eq_false d7, cond_false]
  refine ((either47 (reads := reads) hk h hi hl _ _).wrap).mono (by omega) fun t r _ ⟨hp, hp2, hr⟩ _ _ => ?_
  unfold want
  rw [if_neg d2, if_neg d3, if_neg d4, if_neg d5, if_neg d6, if_neg d7, hr, at_isP hp, at_isP hp2]
theorem all19 (k : Nat) {w : Int} {g : List D_Term} {m : Mp} (hg : g.length ≤ 1000) : f19v2 k w g m = some ((g, ()), ()) := by
  unfold f19v2 f57 f57v3
  rw [gd_dec (by unfold room; omega), List.nil_append]
  rfl
theorem round6 (hk : 10000 ≤ k) (h : Wd w) (hi : Inv k w l m) (hl : l.length ≤ 800) {acts : List D_Act} {i : Nat} {x : D_Act} (hx : acts[i]? = some x) :
    ∃ (t : List D_Term) (m' : Mp), Inv k w (l ++ t) m' ∧ t.length ≤ 4 ∧ l6_2002s1 k acts reads w i w l m = some (.inl ((), (((w : Int), l ++ t, (), ()), m', ()))) := by
  obtain ⟨t, r, m', h1, h2, h3, h4⟩ := do16 (reads := reads) hk h hi hl x
  refine ⟨t, m', h1, h2, ?_⟩
  have hlen : (l ++ t).length ≤ 1000 := by rw [List.length_append]; omega
  unfold l6_2002s1
  rw [ix_nat hx, h3]
  simp only [Option.bind_some]
  rw [all19 k hlen]
  simp only [Option.bind_some]
  rw [eval9 hk h hlen h1.ex]
  simp only [Option.bind_some, at22]
  by_cases c1 : r < 0
  · rw [decide_eq_true c1]; rfl
  rw [decide_eq_false c1, cond_false]
  by_cases c2 : r ≥ ((vals k w reads (l ++ t)).length : Int)
  · rw [decide_eq_true c2]; rfl
  rw [decide_eq_false c2, cond_false]
  by_cases c3 : x.1 < 2
  · rw [decide_eq_true c3]; rfl
  rw [decide_eq_false c3, cond_false]
  by_cases c4 : x.1 > 8
  · rw [decide_eq_true c4]; rfl
  rw [decide_eq_false c4, cond_false, want_eq hk h (at_nm hk h h1.ex _) (at_nm hk h h1.ex _) x c3 c4]
  simp only [Option.bind_some]
  rcases h4 with h4 | ⟨h4, h5⟩
  · omega
  have hw := h5 c3 c4
  have hx2 : (vals k w reads (l ++ t))[r.toNat]? = some (vals k w reads (l ++ t))[r.toNat] := List.getElem?_eq_getElem (by omega)
  have hv : va (vals k w reads (l ++ t)) r = (vals k w reads (l ++ t))[r.toNat] := by unfold va; rw [hx2]; rfl
  unfold l6_1025278
  rw [ix_get (by omega) hx2, ← hw, hv, bne_self_eq_false]
  rfl
theorem rounds6 (hk : 10000 ≤ k) (h : Wd w) (acts : List D_Act) : ∀ (d i : Nat) (l : List D_Term) (m : Mp), 25 - i = d → i ≤ 25 → Inv k w l m → l.length ≤ 4 * i → ∀ j, d < j →
    ∃ (l' : List D_Term) (m' : Mp), Inv k w l' m' ∧ l'.length ≤ 100 ∧ l6_250s1 k j acts reads w i w l m = some (.inl ((), (((w : Int), l', (), ()), m', ()))) := by
  intro d
  induction d with
  | zero =>
    intro i l m hd hi2 hi hl j hj
    obtain ⟨j, rfl, _⟩ := succ_of (n := 0) (by omega : 0 + 1 ≤ j)
    refine ⟨l, m, hi, by omega, ?_⟩
    rw [l6_250s1_succ]
    unfold b6_250s1
    rw [decide_eq_false (by omega : ¬ (i : Int) < 25)]
    cases decide ((i : Int) < acts.length) <;> rfl
  | succ d ih =>
    intro i l m hd hi2 hi hl j hj
    obtain ⟨j, rfl, hj2⟩ := succ_of (by omega : d + 1 + 1 ≤ j)
    rw [l6_250s1_succ]
    unfold b6_250s1
    by_cases hil : i < acts.length
    · have hx : acts[i]? = some acts[i] := List.getElem?_eq_getElem hil
      obtain ⟨t, m1, a1, a2, a3⟩ := round6 (reads := reads) hk h hi (by omega) hx
      obtain ⟨l', m', b1, b2, b3⟩ := ih (i + 1) (l ++ t) m1 (by omega) (by omega) a1 (by rw [List.length_append]; omega) j hj2
      refine ⟨l', m', b1, b2, ?_⟩
      have hw : w64 ((i : Int) + 1) = ((i + 1 : Nat) : Int) := by rw [w64_id (by omega) (by omega)]; omega
      rw [decide_eq_true (by omega : (i : Int) < acts.length), cond_true, decide_eq_true (by omega : (i : Int) < 25), cond_true, a3]
      simp only [Option.bind_some]
      rw [hw, b3]
      rfl
    · refine ⟨l, m, hi, by omega, ?_⟩
      rw [decide_eq_false (by omega : ¬ (i : Int) < acts.length)]
      rfl
theorem apart_loop (k : Nat) (nd : ∀ (i : Nat) (x : D_Term), l[i]? = some x → fnd l x = some i) (hl : l.length ≤ 1000) {i : Nat} (hi : i < l.length) : ∀ (d q : Nat), i - q = d → q ≤ i → ∀ j, d < j → l6_65170 k j l i q = some (.inl ((), ())) := by
  intro d
  induction d with
  | zero =>
    intro q hd hq j hj
    obtain ⟨j, rfl, _⟩ := succ_of (n := 0) (by omega : 0 + 1 ≤ j)
    show b6_65170 k (l6_65170 k j) l i q = _
    unfold b6_65170
    rw [decide_eq_false (by omega : ¬ (q : Int) < i)]; rfl
  | succ d ih =>
    intro q hd hq j hj
    obtain ⟨j, rfl, hj2⟩ := succ_of (by omega : d + 1 + 1 ≤ j)
    have hx : l[i]? = some l[i] := List.getElem?_eq_getElem hi
    have hy : l[q]? = some l[q] := List.getElem?_eq_getElem (by omega)
    have hw : w64 ((q : Int) + 1) = ((q + 1 : Nat) : Int) := by rw [w64_id (by omega) (by omega)]; omega
    have hne : beqD T_Term l[i] l[q] = false := by
      refine beq_ne fun he => ?_
      have h1 := nd i _ hx
      have h2 := nd q _ hy
      rw [he, h2] at h1
      injection h1 with h1
      omega
    show b6_65170 k (l6_65170 k j) l i q = _
    unfold b6_65170
    rw [decide_eq_true (by omega : (q : Int) < i), cond_true, ix_nat hx, ix_nat hy, hne, cond_false, hw, ih (q + 1) (by omega) (by omega) j hj2]
    rfl
theorem aparts (k : Nat) (hk : 2000 ≤ k) (nd : ∀ (i : Nat) (x : D_Term), l[i]? = some x → fnd l x = some i) (hl : l.length ≤ 1000) : ∀ (d i : Nat), l.length - i = d → ∀ j, d < j → l6_1018 k j l i = some (.inl ((), ())) := by
  intro d
  induction d with
  | zero =>
    intro i hd j hj
    obtain ⟨j, rfl, _⟩ := succ_of (n := 0) (by omega : 0 + 1 ≤ j)
    show b6_1018 k (l6_1018 k j) l i = _
    unfold b6_1018
    rw [decide_eq_false (by omega : ¬ (i : Int) < l.length)]; rfl
  | succ d ih =>
    intro i hd j hj
    obtain ⟨j, rfl, hj2⟩ := succ_of (by omega : d + 1 + 1 ≤ j)
    have hw : w64 ((i : Int) + 1) = ((i + 1 : Nat) : Int) := by rw [w64_id (by omega) (by omega)]; omega
    have h1 := apart_loop k nd hl (i := i) (by omega) i 0 (by omega) (by omega) k (by omega)
    rw [show ((0 : Nat) : Int) = 0 from rfl] at h1
    show b6_1018 k (l6_1018 k j) l i = _
    unfold b6_1018
    rw [decide_eq_true (by omega : (i : Int) < l.length), cond_true, h1, Option.bind_some]
    dsimp only
    rw [hw, ih (i + 1) (by omega) j hj2]
    rfl
end
end Term
open Term in
theorem Pure.TermMeans (width : Int) (hwd : Fit (.int .u8) width) (l : List D_Act) (_ : Fit (.slice T_Act) l) (reads : List Int) (_ : Fit (.slice i64) reads) : ∃ k, f6 k width l reads = some ((true, ()), ()) := by
  refine (awake8E.mono2 (E.ge 20000) fun k e hk => ?_).ex
  obtain ⟨b, hb⟩ := light15 k (by omega) l
  have hwd2 := bounds_u8 (show (Lit.int .u8 width).wf = true from hwd.inv)
  obtain ⟨w, hw, h⟩ : ∃ w : Nat, w64 (1 + w64 (Int.tmod width 8)) = (w : Int) ∧ Wd w := by
    refine ⟨(1 + width % 8).toNat, ?_, ⟨by omega, by omega⟩⟩
    rw [tmod_pos hwd2.1, w64_id (n := width % 8) (by omega) (by omega), w64_id (by omega) (by omega)]
    omega
  unfold f6
  rw [hb, hw, e]
  simp only [Option.bind_some]
  cases b with
  | false => rfl
  | true =>
    by_cases hr : (reads.length : Int) > 100
    · rw [decide_eq_true hr]; rfl
    rw [decide_eq_false hr]
    have h14 : f14 k w = some (.inr (((), 0, ()), (((w : Int), [], (), ()), [], ()))) := by
      unfold f14
      rw [wide40 k h]; rfl
    have hi0 : Inv k w [] [] := ⟨fun x => rfl, fun t x hx => by simp at hx, fun t x hx => by simp at hx⟩
    obtain ⟨l', m', h1, h2, h3⟩ := rounds6 (reads := reads) (by omega) h l 25 0 [] [] rfl (by omega) hi0 (by simp) k (by omega)
    rw [show ((0 : Nat) : Int) = 0 from rfl] at h3
    have h4 := aparts k (by omega) h1.nd (by omega) l'.length 0 rfl k (by omega)
    rw [show ((0 : Nat) : Int) = 0 from rfl] at h4
    simp only [Bool.not_true, cond_false]
    rw [h14]
    simp only [Option.bind_some]
    rw [h3]
    simp only [Option.bind_some]
    rw [all19 k (by omega)]
    simp only [Option.bind_some]
    rw [h4]
    simp only [Option.bind_some]
    rw [(may10 (by omega) h (by omega) h1.ex).1]
    rfl
end Go.Proofs.Ytepfhidiahleiaa.M
