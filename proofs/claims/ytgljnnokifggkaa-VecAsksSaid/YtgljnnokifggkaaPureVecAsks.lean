/-
The theorem of questions: the plain law. For every input, no condition.
-/
import Derived.Test.YtgljnnokifggkaaVecZ
set_option linter.unusedVariables false
set_option linter.unusedSimpArgs false
set_option maxRecDepth 100000
namespace Go.Proofs.Ytgljnnokifggkaa.M
open Go Go.Proofs.Ytgljnnokifggkaa.Vm Go.Proofs.Ytgljnnokifggkaa.Pl
namespace Vec
open Aig
variable {g : List D_Gate} {m : Mp} {ins : List Bool}
theorem fit_u16 {n : Int} (h : Fit (.int .u16) n) : 0 ≤ n ∧ n ≤ 65535 := by
  have h : (Lit.int .u16 n).wf = true := h.inv
  simpa [Lit.wf, IntKind.min, IntKind.max, IntKind.signed, IntKind.bits] using h
theorem fit_u8 {n : Int} (h : Fit (.int .u8) n) : 0 ≤ n ∧ n ≤ 255 := by
  have h : (Lit.int .u8 n).wf = true := h.inv
  simpa [Lit.wf, IntKind.min, IntKind.max, IntKind.signed, IntKind.bits] using h
theorem fit_two {t : D_Two} (h : Fit T_Two t) : 0 ≤ t.1 ∧ t.1 ≤ 65535 ∧ 0 ≤ t.2.1 ∧ t.2.1 ≤ 65535 := by
  have h1 := h.inv
  have h2 := fit_u16 h1.1
  have h3 := fit_u16 h1.2.inv.1
  exact ⟨h2.1, h2.2, h3.1, h3.2⟩
/-- The law's width. -/
theorem width_of {n : Int} (h : Fit (.int .u8) n) : ∃ w : Nat, 1 ≤ w ∧ w ≤ 8 ∧ w64 (1 + (w64 ((Int.tmod n 8)))) = (w : Int) := by
  have h := fit_u8 h
  refine ⟨1 + (n % 8).toNat, by omega, by omega, ?_⟩
  rw [tmod_pos h.1, w_id (n := n % 8) (by omega) (by omega), w_id (by omega) (by omega)]
  omega
theorem told_loop (k : Nat) {told : List Int} {want v : List Bool} (hl : told.length = want.length) (hn : told.length ≤ 1000) (h : ∀ (i : Nat) (t : Int) (w : Bool), told[i]? = some t → want[i]? = some w → 0 ≤ t ∧ I64 t ∧ value v t = w) :
    ∀ (d i : Nat), want.length - i = d → ∀ j, d < j → l12_16378 k j told want v i = some (.inl ((), ())) := by
  intro d
  induction d with
  | zero =>
    intro i hi j hj
    obtain ⟨j, rfl, _⟩ := succ_of (n := 0) (by omega : 0 + 1 ≤ j)
    show b12_16378 k (l12_16378 k j) told want v i = _
    unfold b12_16378
    rw [decide_eq_false (by omega : ¬ (i : Int) < want.length)]; rfl
  | succ d ih =>
    intro i hi j hj
    obtain ⟨j, rfl, hj2⟩ := succ_of (by omega : d + 1 + 1 ≤ j)
    show b12_16378 k (l12_16378 k j) told want v i = _
    have hw1 : w64 ((i : Int) + 1) = ((i + 1 : Nat) : Int) := by rw [w_id (by omega) (by omega)]; omega
    have hx : told[i]? = some told[i] := List.getElem?_eq_getElem (by omega)
    have hy : want[i]? = some want[i] := List.getElem?_eq_getElem (by omega)
    obtain ⟨h0, h1, h2⟩ := h i _ _ hx hy
    unfold b12_16378
    rw [decide_eq_true (by omega : (i : Int) < want.length), cond_true, ix_nat hx, decide_eq_false (by omega : ¬ told[i] < 0), cond_false, ix_nat hx, value34 k h1]
    simp only [Option.bind_some]
    rw [ix_nat hy, h2, beq_self_eq_true, Bool.not_true, cond_false, hw1, ih (i + 1) (by omega) j hj2]; rfl
end Vec
open Aig Vec in
theorem Pure.VecAsks (t : D_Two) (ht : Fit T_Two t) (width : Int) (hwd : Fit (.int .u8) width) (c : Bool) (_ : Fit .bool c) : ∃ k, f12 k t width c = some ((true, ()), ()) := by
  obtain ⟨w, hw1, hw8, hwe⟩ := width_of hwd
  obtain ⟨ha0, ha1, hb0, hb1⟩ := fit_two ht
  obtain ⟨g, m, ins, a, b, hv, hm, hc, hg, hil, hwa, hwb, hE1⟩ := words44 ha0 ha1 hb0 hb1 hw1 (by omega : w ≤ 16)
  have hal : a.length = w := by rw [hwa.len, bitsB_len]
  have hbl : b.length = w := by rw [hwb.len, bitsB_len]
  -- the input that asks
  obtain ⟨lq, vq⟩ := in_val (g := g) hc c
  have hgr : Grow ins g (ins ++ [c]) (g ++ [inp]) := ⟨⟨_, rfl⟩, ⟨_, rfl⟩⟩
  have hwa1 := hgr.word (by omega) hwa
  have hwb1 := hgr.word (by omega) hwb
  have hg1 : (g ++ [inp]).length ≤ 41 := by rw [List.length_append]; simp; omega
  obtain ⟨g2, m2, out, he2, hv2, hm2, hl2, hwo, hE2⟩ := ite63 (ins := ins ++ [c]) (valid_inp hv) (map_inp hm) (by omega) lq vq hwa1 hwb1 (by omega) (by omega) (by omega)
  obtain ⟨g3, m3, r3, he3, hv3, hm3, hl3, l3, v3, hE3⟩ := eq64 (ins := ins ++ [c]) hv2 hm2 (by omega) (old_word he2 hwa1) (old_word he2 hwb1) (by omega) (by omega) (by omega)
  obtain ⟨g4, m4, r4, he4, hv4, hm4, hl4, l4, v4, hE4⟩ := less65 (ins := ins ++ [c]) hv3 hm3 (by omega) (old_word (ext_trans he2 he3) hwa1) (old_word (ext_trans he2 he3) hwb1) (by omega) (by omega) (by omega)
  obtain ⟨g5, m5, r5, he5, hv5, hm5, hl5, l5, v5, hE5⟩ := any66 (ins := ins ++ [c]) hv4 hm4 (by omega) (old_word (ext_trans (ext_trans he2 he3) he4) hwa1) (by omega) (by omega)
  have n1 : num (bitsB w (t.1 % 2 ^ w)) = t.1 % 2 ^ w := by rw [num_bits, Int.emod_emod]
  have n2 : num (bitsB w (t.2.1 % 2 ^ w)) = t.2.1 % 2 ^ w := by rw [num_bits, Int.emod_emod]
  rw [n1, n2] at v3 v4
  rw [n1] at v5
  have k3 := old_lit (ins := ins ++ [c]) (ext_trans he4 he5) l3
  have k4 := old_lit (ins := ins ++ [c]) he5 l4
  have hwo5 := old_word (ext_trans (ext_trans he3 he4) he5) hwo
  refine ((hE1.and (hE2.and hE3)).mono3 (hE4.and hE5) (awake40E.and (E.ge 1000)) fun k e e' e'' => ?_).ex
  obtain ⟨e1, e2, e3⟩ := e
  obtain ⟨e4, e5⟩ := e'
  obtain ⟨e6, hk⟩ := e''
  dsimp only at e2 e3 e4 e5
  have i0 : isL g5 r3 = true := k3.1
  have j3 := isL_iff.1 k3.1
  have j4 := isL_iff.1 k4.1
  have j5 := isL_iff.1 l5
  have htold := told_loop k (told := [r3, r4, r5]) (want := [decide (t.1 % 2 ^ w = t.2.1 % 2 ^ w), decide (t.1 % 2 ^ w < t.2.1 % 2 ^ w), !decide (t.1 % 2 ^ w = 0)]) (v := Ev g5 (ins ++ [c])) rfl (by show 3 ≤ 1000; omega) (fun i x b hx hb => by
    match i with
    | 0 =>
      simp only [List.getElem?_cons_zero, Option.some.injEq] at hx hb
      subst hx; subst hb
      exact ⟨j3.1, lit_i64 (by omega) k3.1, by rw [← v3, ← k3.2]; rfl⟩
    | 1 =>
      simp only [List.getElem?_cons_succ, List.getElem?_cons_zero, Option.some.injEq] at hx hb
      subst hx; subst hb
      exact ⟨j4.1, lit_i64 (by omega) k4.1, by rw [← v4, ← k4.2]; rfl⟩
    | 2 =>
      simp only [List.getElem?_cons_succ, List.getElem?_cons_zero, Option.some.injEq] at hx hb
      subst hx; subst hb
      exact ⟨j5.1, lit_i64 (by omega) l5, by rw [← v5]; rfl⟩
    | i + 3 => simp at hx) 3 0 rfl k (by omega)
  rw [show ((0 : Nat) : Int) = 0 from rfl] at htold
  unfold f12
  rw [hwe, e1]
  simp only [Option.bind_some]
  rw [w_id (n := t.1) (by omega) (by omega), mod42 k ha0 (by omega)]
  simp only [Option.bind_some]
  rw [w_id (n := t.2.1) (by omega) (by omega), mod42 k hb0 (by omega)]
  simp only [Option.bind_some]
  rw [in25 k (by omega)]
  simp only [Option.bind_some, List.nil_append]
  rw [gd_dec (by unfold room; omega), gd_dec (by unfold room; omega), e2]
  simp only [Option.bind_some]
  rw [e3]
  simp only [Option.bind_some]
  rw [e4]
  simp only [Option.bind_some]
  rw [e5]
  simp only [Option.bind_some]
  rw [nodes23 k (by omega)]
  simp only [Option.bind_some]
  rw [eval31 (ins := ins ++ [c]) k hv5 (by omega) (by omega)]
  simp only [Option.bind_some, beq_int, bne, htold]
  have hlen : (cond c (bitsB w (t.1 % 2 ^ w)) (bitsB w (t.2.1 % 2 ^ w))).length = w := by cases c <;> exact bitsB_len _ _
  have his : ∀ n : Int, n = num (cond c (bitsB w (t.1 % 2 ^ w)) (bitsB w (t.2.1 % 2 ^ w))) → f45 k (ins ++ [c]) out w n g5 m5 = some ((true, ()), ()) := fun n hn =>
    is45 k (by omega) hv5 (by omega) hwo5 hw1 (by omega) hlen hn
  cases c with
  | true =>
    rw [cond_true, his _ n1.symm]
    simp only [Option.bind_some, cond_true]
    rw [e6]; rfl
  | false =>
    rw [cond_false, his _ n2.symm]
    simp only [Option.bind_some, cond_true]
    rw [e6]; rfl
end Go.Proofs.Ytgljnnokifggkaa.M
