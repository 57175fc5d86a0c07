/-
The theorem of bits: the plain law. For every input, no condition.
-/
import Derived.Test.YtgljnnokifggkaaVecB
set_option linter.unusedVariables false
set_option linter.unusedSimpArgs false
set_option maxRecDepth 100000
namespace Go.Proofs.Ytgljnnokifggkaa.M
open Go Go.Proofs.Ytgljnnokifggkaa.Vm Go.Proofs.Ytgljnnokifggkaa.Pl
namespace Vec
open Aig
theorem shl57 (k : Nat) {x y : Int} {w : Nat} (h1 : 1 ≤ w) (hw : w ≤ 8) (hx0 : 0 ≤ x) (hx1 : x ≤ 256) (hy0 : 0 ≤ y) (hy1 : y < 2 ^ w) : f57 k x y w = some (((x * 2 ^ (y % 2 ^ w).toNat) % 2 ^ w, ()), ()) := by
  rw [Int.emod_eq_of_lt hy0 hy1]
  obtain ⟨q, rfl⟩ : ∃ q : Nat, y = (q : Int) := ⟨y.toNat, by omega⟩
  rw [Int.toNat_natCast]
  unfold f57
  by_cases h : w ≤ q
  · rw [decide_eq_true (by omega : (q : Int) ≥ w), cond_true]
    rw [show q = w + (q - w) by omega, Int.pow_add, Int.mul_left_comm, Int.mul_emod_right]
  · rw [decide_eq_false (by omega : ¬ (q : Int) ≥ w), cond_false, power55 k (by omega)]
    simp only [Option.bind_some]
    have h2 : (2 : Int) ^ q ≤ 65536 := (two_pow16 (i := q) (by omega)).2
    have h3 := Int.mul_nonneg hx0 (Int.le_of_lt (pow_pos2 q))
    have h4 : x * 2 ^ q ≤ 256 * 65536 := Int.mul_le_mul hx1 h2 (Int.le_of_lt (pow_pos2 q)) (by omega)
    rw [w_id (by omega) (by omega), mod_any k (by omega)]; rfl
theorem shr59 (k : Nat) {x y : Int} {w : Nat} (h1 : 1 ≤ w) (hw : w ≤ 8) (hx0 : 0 ≤ x) (hx1 : x < 2 ^ w) (hx2 : x ≤ 256) (hy0 : 0 ≤ y) (hy1 : y < 2 ^ w) : f59 k x y w = some (((x / 2 ^ (y % 2 ^ w).toNat) % 2 ^ w, ()), ()) := by
  rw [Int.emod_eq_of_lt hy0 hy1]
  obtain ⟨q, rfl⟩ : ∃ q : Nat, y = (q : Int) := ⟨y.toNat, by omega⟩
  rw [Int.toNat_natCast]
  have hp := pow_pos2 q
  have k0 : 0 ≤ x / 2 ^ q := Int.ediv_nonneg hx0 (by omega)
  have k2 : x / 2 ^ q ≤ x := Int.ediv_le_self _ hx0
  rw [Int.emod_eq_of_lt k0 (by omega)]
  unfold f59
  by_cases h : w ≤ q
  · rw [decide_eq_true (by omega : (q : Int) ≥ w), cond_true]
    rw [Int.ediv_eq_zero_of_lt hx0]
    refine Int.lt_of_lt_of_le hx1 ?_
    have : (2 : Nat) ^ w ≤ 2 ^ q := Nat.pow_le_pow_right (by omega) (by omega)
    have h2 : ((2 ^ w : Nat) : Int) ≤ ((2 ^ q : Nat) : Int) := by omega
    simpa using h2
  · rw [decide_eq_false (by omega : ¬ (q : Int) ≥ w), cond_false, power55 k (by omega)]
    simp only [Option.bind_some]
    rw [decide_eq_false (by omega : ¬ (2 : Int) ^ q = 0), cond_false, tdiv_pos hx0, w_id (by omega) (by omega)]
end Vec
open Aig Vec in
theorem Pure.VecBits (t : D_Two) (ht : Fit T_Two t) (width : Int) (hwd : Fit (.int .u8) width) : ∃ k, f10 k t width = some ((true, ()), ()) := by
  obtain ⟨w, hw1, hw8, hwe⟩ := width_of hwd
  obtain ⟨ha0, ha1, hb0, hb1⟩ := fit_two ht
  obtain ⟨g, m, ins, a, b, hv, hm, hc, hg, hil, hwa, hwb, hE1⟩ := words44 ha0 ha1 hb0 hb1 hw1 (by omega : w ≤ 16)
  have hp := pow_pos2 w
  have hp8 : (2 : Int) ^ w ≤ 256 := by
    have : (2 : Nat) ^ w ≤ 2 ^ 8 := Nat.pow_le_pow_right (by omega) hw8
    have h2 : ((2 ^ w : Nat) : Int) ≤ 256 := by omega
    simpa using h2
  have xa0 := Int.emod_nonneg t.1 (show (2 : Int) ^ w ≠ 0 by omega)
  have xa1 := Int.emod_lt_of_pos t.1 hp
  have xb0 := Int.emod_nonneg t.2.1 (show (2 : Int) ^ w ≠ 0 by omega)
  have xb1 := Int.emod_lt_of_pos t.2.1 hp
  have e42a : ∀ k, f42 k (w64 t.1) w = some ((t.1 % 2 ^ w, ()), ()) := fun k => by rw [w_id (n := t.1) (by omega) (by omega)]; exact mod_any k (by omega)
  have e42b : ∀ k, f42 k (w64 t.2.1) w = some ((t.2.1 % 2 ^ w, ()), ()) := fun k => by rw [w_id (n := t.2.1) (by omega) (by omega)]; exact mod_any k (by omega)
  generalize t.1 % 2 ^ w = x at *
  generalize t.2.1 % 2 ^ w = y at *
  have la : a.length = w := by rw [hwa.len, bitsB_len]
  have lb : b.length = w := by rw [hwb.len, bitsB_len]
  have hzl : ∀ f : Bool → Bool → Bool, (zipB f (bitsB w x) (bitsB w y)).length = w := fun f => by rw [zipB_len _ _ _ (by rw [bitsB_len, bitsB_len]), bitsB_len]
  obtain ⟨g1, m1, o1, he1, hv1, hm1, hl1, w1, hE2⟩ := and50 (ins := ins) hv hm (by omega) hwa hwb (by omega) (by omega) (by omega)
  obtain ⟨g2, m2, o2, he2, hv2, hm2, hl2, w2, hE3⟩ := or52 (ins := ins) hv1 hm1 (by omega) (old_word he1 hwa) (old_word he1 hwb) (by omega) (by omega) (by omega)
  obtain ⟨g3, m3, o3, he3, hv3, hm3, hl3, w3, hE4⟩ := xor53 (ins := ins) hv2 hm2 (by omega) (old_word (ext_trans he1 he2) hwa) (old_word (ext_trans he1 he2) hwb) (by omega) (by omega) (by omega)
  have hwa3 := old_word (ext_trans (ext_trans he1 he2) he3) hwa
  have hwb3 := old_word (ext_trans (ext_trans he1 he2) he3) hwb
  obtain ⟨g4, m4, o4, he4, hv4, hm4, hl4, w4, hE5⟩ := shl56 (ins := ins) hv3 hm3 (by omega) hw1 (by omega) hwa3 hwb3
  obtain ⟨g5, m5, o5, he5, hv5, hm5, hl5, w5, hE6⟩ := shr58 (ins := ins) hv4 hm4 (by omega) xa0 xa1 hw1 (by omega) (old_word he4 hwa3) (old_word he4 hwb3)
  refine ((hE1.and (hE2.and hE3)).mono3 (hE4.and (hE5.and hE6)) (awake40E.and (E.ge 10000)) fun k e e' e'' => ?_).ex
  obtain ⟨e1, e2, e3⟩ := e
  obtain ⟨e4, e5, e6⟩ := e'
  obtain ⟨e7, hk⟩ := e''
  dsimp only at e2 e3 e4 e5 e6
  have his : ∀ {g : List D_Gate} {m : Mp} {o : List Int} {n : Int} {bs : List Bool}, Valid g → g.length ≤ 6000 → Word ins g o bs → bs.length = w → n = num bs → f45 k ins o w n g m = some ((true, ()), ()) := fun hv hl hw hb hn =>
    is45 k (by omega) hv (by omega) hw hw1 (by omega) hb hn
  have h51 : ∀ c : Nat, c ≤ 2 → f51 k c x y w = some ((num (zipB (kindS c) (bitsB w x) (bitsB w y)), ()), ()) := fun c hc => bits51 k (by omega) hc xa0 (by omega) xb0 (by omega) (by omega)
  have q0 : f51 k 0 x y w = some ((num (zipB (fun x y => x && y) (bitsB w x) (bitsB w y)), ()), ()) := h51 0 (by omega)
  have q1 : f51 k 1 x y w = some ((num (zipB (fun x y => x || y) (bitsB w x) (bitsB w y)), ()), ()) := h51 1 (by omega)
  have q2 : f51 k 2 x y w = some ((num (zipB (fun x y => !(x == y)) (bitsB w x) (bitsB w y)), ()), ()) := h51 2 (by omega)
  have lo4 : o4.length = w := by rw [w4.len, bitsB_len]
  have lo5 : o5.length = w := by rw [w5.len, bitsB_len]
  unfold f10
  rw [hwe, e1]
  simp only [Option.bind_some]
  rw [e42a, e42b]
  simp only [Option.bind_some]
  rw [e2]
  simp only [Option.bind_some]
  rw [q0]
  simp only [Option.bind_some]
  rw [his hv1 (by omega) w1 (hzl _) rfl]
  simp only [Option.bind_some, Bool.not_true, cond_false]
  rw [e3]
  simp only [Option.bind_some]
  rw [q1]
  simp only [Option.bind_some]
  rw [his hv2 (by omega) w2 (hzl _) rfl]
  simp only [Option.bind_some, Bool.not_true, cond_false]
  rw [e4]
  simp only [Option.bind_some]
  rw [q2]
  simp only [Option.bind_some]
  rw [his hv3 (by omega) w3 (hzl _) rfl]
  simp only [Option.bind_some, Bool.not_true, cond_false]
  rw [not54 k (by omega) (by omega) (by omega) (by omega) hwa3.lit]
  simp only [Option.bind_some]
  rw [power55 k (by omega)]
  simp only [Option.bind_some]
  rw [his hv3 (by omega) hwa3.nots (by unfold notS; rw [List.length_map, bitsB_len]) (by rw [num_not, num_bits, bitsB_len, Int.emod_eq_of_lt xa0 xa1, w_id (n := 2 ^ w - 1) (by omega) (by omega), w_id (by omega) (by omega)])]
  simp only [Option.bind_some, cond_true]
  rw [e5]
  simp only [Option.bind_some]
  rw [shl57 k hw1 hw8 xa0 (by omega) xb0 xb1]
  simp only [Option.bind_some]
  rw [gd_dec (by omega), List.drop_zero, List.take_of_length_le (Nat.le_refl _), his hv4 (by omega) w4 (bitsB_len _ _) (num_bits _ _).symm]
  simp only [Option.bind_some, cond_true]
  rw [e6]
  simp only [Option.bind_some]
  rw [shr59 k hw1 hw8 xa0 xa1 (by omega) xb0 xb1]
  simp only [Option.bind_some]
  rw [gd_dec (by omega), List.drop_zero, List.take_of_length_le (Nat.le_refl _), his hv5 (by omega) w5 (bitsB_len _ _) (num_bits _ _).symm]
  simp only [Option.bind_some, cond_true]
  rw [e7]; rfl
end Go.Proofs.Ytgljnnokifggkaa.M
