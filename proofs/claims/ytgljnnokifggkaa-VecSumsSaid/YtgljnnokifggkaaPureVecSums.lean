/-
The theorem of sums: the plain law. For every input, no condition.
-/
import Derived.Test.YtgljnnokifggkaaVec
set_option linter.unusedVariables false
set_option linter.unusedSimpArgs false
set_option maxRecDepth 100000
namespace Go.Proofs.Ytgljnnokifggkaa.M
open Go Go.Proofs.Ytgljnnokifggkaa.Vm Go.Proofs.Ytgljnnokifggkaa.Pl
open Aig Vec in
theorem Pure.VecSums (t : D_Two) (ht : Fit T_Two t) (width : Int) (hwd : Fit (.int .u8) width) : ∃ k, f9 k t width = some ((true, ()), ()) := by
  obtain ⟨w, hw1, hw8, hwe⟩ := width_of hwd
  obtain ⟨ha0, ha1, hb0, hb1⟩ := fit_two ht
  obtain ⟨g, m, ins, a, b, hv, hm, hc, hg, hil, hwa, hwb, hE1⟩ := words44 ha0 ha1 hb0 hb1 hw1 (by omega : w ≤ 16)
  have hp := pow_pos2 w
  have hp8 : (2 : Int) ^ w ≤ 256 := by
    have : (2 : Nat) ^ w ≤ 2 ^ 8 := Nat.pow_le_pow_right (by omega) hw8
    have h2 : ((2 ^ w : Nat) : Int) ≤ 256 := by omega
    simpa using h2
  have xa0 := Int.emod_nonneg t.1 (show (2 : Int) ^ w ≠ 0 by omega)
  have xa1 := Int.emod_lt_of_pos t.1 hp
  have xb0 := Int.emod_nonneg t.2.1 (show (2 : Int) ^ w ≠ 0 by omega)
  have xb1 := Int.emod_lt_of_pos t.2.1 hp
  have e42a : ∀ k, f42 k (w64 t.1) w = some ((t.1 % 2 ^ w, ()), ()) := fun k => by rw [w_id (n := t.1) (by omega) (by omega)]; exact mod_any k (by omega)
  have e42b : ∀ k, f42 k (w64 t.2.1) w = some ((t.2.1 % 2 ^ w, ()), ()) := fun k => by rw [w_id (n := t.2.1) (by omega) (by omega)]; exact mod_any k (by omega)
  generalize t.1 % 2 ^ w = x at *
  generalize t.2.1 % 2 ^ w = y at *
  obtain ⟨g1, m1, o1, he1, hv1, hm1, hl1, w1, hE2⟩ := add46 (ins := ins) hv hm (by omega) hw1 (by omega) hwa hwb
  obtain ⟨g2, m2, o2, he2, hv2, hm2, hl2, w2, hE3⟩ := sub47 (ins := ins) hv1 hm1 (by omega) hw1 (by omega) (old_word he1 hwa) (old_word he1 hwb)
  obtain ⟨g3, m3, o3, he3, hv3, hm3, hl3, w3, hE4⟩ := neg48 (ins := ins) hv2 hm2 (by omega) hw1 (by omega) (old_word (ext_trans he1 he2) hwa)
  obtain ⟨g4, m4, o4, he4, hv4, hm4, hl4, w4, hE5⟩ := mul49 (ins := ins) hv3 hm3 (by omega) hw1 (by omega) (old_word (ext_trans (ext_trans he1 he2) he3) hwa) (old_word (ext_trans (ext_trans he1 he2) he3) hwb)
  refine ((hE1.and (hE2.and hE3)).mono3 (hE4.and hE5) (awake40E.and (E.ge 10000)) fun k e e' e'' => ?_).ex
  obtain ⟨e1, e2, e3⟩ := e
  obtain ⟨e4, e5⟩ := e'
  obtain ⟨e6, hk⟩ := e''
  dsimp only at e2 e3 e4 e5
  have his : ∀ {g : List D_Gate} {m : Mp} {o : List Int} {n n' : Int}, Valid g → g.length ≤ 6000 → Word ins g o (bitsB w n) → n' = n % 2 ^ w → f45 k ins o w n' g m = some ((true, ()), ()) := fun hv hl hw hn =>
    is45 k (by omega) hv (by omega) hw hw1 (by omega) (bitsB_len _ _) (by rw [num_bits]; exact hn)
  have hxy0 := Int.mul_nonneg xa0 xb0
  have hxy1 : x * y ≤ 256 * 256 := Int.mul_le_mul (by omega) (by omega) xb0 (by omega)
  unfold f9
  rw [hwe, e1]
  simp only [Option.bind_some]
  rw [e42a, e42b]
  simp only [Option.bind_some]
  rw [his hv (by omega) hwa (Int.emod_eq_of_lt xa0 xa1).symm]
  simp only [Option.bind_some, cond_true]
  rw [e2]
  simp only [Option.bind_some]
  rw [mod_any k (by omega)]
  simp only [Option.bind_some]
  rw [his hv1 (by omega) w1 (by rw [w_id (by omega) (by omega)])]
  simp only [Option.bind_some, cond_true]
  rw [e3]
  simp only [Option.bind_some]
  rw [mod_any k (by omega)]
  simp only [Option.bind_some]
  rw [his hv2 (by omega) w2 (by rw [w_id (by omega) (by omega)])]
  simp only [Option.bind_some, cond_true]
  rw [e4]
  simp only [Option.bind_some]
  rw [mod_any k (by omega)]
  simp only [Option.bind_some]
  rw [his hv3 (by omega) w3 (by rw [w_id (by omega) (by omega)])]
  simp only [Option.bind_some, cond_true]
  rw [e5]
  simp only [Option.bind_some]
  rw [mod_any k (by omega)]
  simp only [Option.bind_some]
  rw [his hv4 (by omega) w4 (by rw [w_id (by omega) (by omega)])]
  simp only [Option.bind_some, cond_true]
  rw [e6]; rfl
end Go.Proofs.Ytgljnnokifggkaa.M
