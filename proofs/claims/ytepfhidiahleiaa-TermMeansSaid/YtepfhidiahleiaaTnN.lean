/-
Terms: numbers of a width; what the signs tell, by the program and by the document.
-/
import Derived.Test.YtepfhidiahleiaaMM
import Derived.Test.YtepfhidiahleiaaPl
import Derived.Test.YtepfhidiahleiaaVm40
set_option linter.unusedVariables false
set_option linter.unusedSimpArgs false
set_option maxRecDepth 100000
namespace Go.Proofs.Ytepfhidiahleiaa.M
open Go Go.Proofs.Ytepfhidiahleiaa.Vm Go.Proofs.Ytepfhidiahleiaa.Pl
namespace Term
/-- A width, and its power. -/
structure Wd (w : Nat) : Prop where
  lo : 1 ≤ w
  hi : w ≤ 8
theorem Wd.pw {w : Nat} (h : Wd w) : ((2 : Int) ^ w) = ((2 ^ w : Nat) : Int) ∧ 2 ≤ 2 ^ w ∧ 2 ^ w ≤ 256 := by
  refine ⟨by simp, ?_, ?_⟩
  · exact Nat.pow_le_pow_right (show 0 < 2 by omega) h.lo
  · exact Nat.pow_le_pow_right (show 0 < 2 by omega) h.hi
theorem power59 (k : Nat) {w : Nat} (h : w ≤ 8) : f59 k w = some (((2 ^ w : Int), ()), ()) := by
  have e : ((2 : Int) ^ w) = ((2 ^ w : Nat) : Int) := by simp
  have hp : 2 ^ w ≤ 256 := Nat.pow_le_pow_right (show 0 < 2 by omega) h
  have hmin : min ((w : Int).toNat) 64 = w := by omega
  unfold f59
  rw [decide_eq_false (by omega : ¬ (w : Int) < 0), cond_false, hmin, Int.one_mul, e]
  generalize 2 ^ w = q at hp
  rw [w64_id (by omega) (by omega)]
theorem and_mask {n : Int} {w : Nat} (h : Wd w) : ibits .and .i64 n ((2 : Int) ^ w - 1) = n % 2 ^ w := by
  obtain ⟨e, h1, h2⟩ := h.pw
  have hd : (2 ^ w : Nat) ∣ 2 ^ 64 := Nat.pow_dvd_pow 2 (by have := h.hi; omega)
  have e1 : (BitVec.ofInt 64 n &&& BitVec.ofInt 64 ((2 : Int) ^ w - 1)).toNat = (n % 2 ^ w).toNat := by
    rw [BitVec.toNat_and]
    have h3 : (BitVec.ofInt 64 ((2 : Int) ^ w - 1)).toNat = 2 ^ w - 1 := by
      rw [BitVec.toNat_ofInt, e]
      generalize 2 ^ w = q at h1 h2
      omega
    rw [h3, Nat.and_two_pow_sub_one_eq_mod, BitVec.toNat_ofInt]
    have h4 : n % 2 ^ w = (n % ((2 ^ 64 : Nat) : Int)) % 2 ^ w := by
      rw [e]
      exact (Int.emod_emod_of_dvd n (Int.natCast_dvd_natCast.2 hd)).symm
    have h5 := Int.emod_nonneg n (show ((2 ^ 64 : Nat) : Int) ≠ 0 by decide)
    rw [h4, e]
    generalize n % ((2 ^ 64 : Nat) : Int) = r at h5
    obtain ⟨s, rfl⟩ := Int.eq_ofNat_of_zero_le h5
    rw [Int.toNat_natCast, ← Int.natCast_emod, Int.toNat_natCast]
  show IntKind.i64.wrap ((BitVec.ofInt 64 n &&& BitVec.ofInt 64 ((2 : Int) ^ w - 1)).toNat : Int) = _
  rw [e1, e]
  generalize 2 ^ w = q at h1 h2
  have h6 := Int.emod_nonneg n (show (q : Int) ≠ 0 by omega)
  have h7 := Int.emod_lt_of_pos n (show (0 : Int) < q by omega)
  have := w64_id (n := (((n % q).toNat : Nat) : Int)) (by omega) (by omega)
  unfold w64 at this
  rw [this]; omega
theorem mask_txt {w : Nat} (h : Wd w) : w64 (w64 (1 * 2 ^ (min (w : Int).toNat 64)) - 1) = (2 : Int) ^ w - 1 := by
  obtain ⟨e, h1, h2⟩ := h.pw
  have hmin : min ((w : Int).toNat) 64 = w := by have := h.hi; omega
  rw [hmin, Int.one_mul, e]
  generalize 2 ^ w = q at h1 h2
  rw [w64_id (n := (q : Int)) (by omega) (by omega), w64_id (by omega) (by omega)]
theorem mod27 (k : Nat) (n : Int) {w : Nat} (h : Wd w) : f27 k n w = some ((n % 2 ^ w, ()), ()) := by
  obtain ⟨e, hp1, hp⟩ := h.pw
  unfold f27
  rw [power59 k h.hi, e]
  simp only [Option.bind_some]
  generalize 2 ^ w = q at hp1 hp
  rw [decide_eq_false (by omega : ¬ (q : Int) = 0), cond_false]
  have h1 := Int.emod_nonneg n (show (q : Int) ≠ 0 by omega)
  have h2 := Int.emod_lt_of_pos n (show (0 : Int) < q by omega)
  by_cases hn : 0 ≤ n
  · rw [tmod_pos hn, decide_eq_false (by omega : ¬ n % q < 0), cond_false]
  · have ht : Int.tmod n q = -((-n) % q) := by
      have := Int.neg_tmod (-n) q
      rw [Int.neg_neg] at this
      rw [this, tmod_pos (by omega)]
    have h3 := Int.emod_nonneg (-n) (show (q : Int) ≠ 0 by omega)
    have h4 := Int.emod_lt_of_pos (-n) (show (0 : Int) < q by omega)
    have h5 := Int.mul_ediv_add_emod n q
    have h6 := Int.mul_ediv_add_emod (-n) q
    rw [ht]
    by_cases hz : (-n) % q = 0
    · rw [hz, decide_eq_false (by omega), cond_false]
      have : n % q = 0 := by
        have hd : (q : Int) ∣ -n := Int.dvd_of_emod_eq_zero hz
        exact Int.emod_eq_zero_of_dvd (Int.dvd_neg.1 hd)
      rw [this]; rfl
    · rw [decide_eq_true (by omega), cond_true, w64_id (by omega) (by omega)]
      have : n % q = -((-n) % q) + q := by
        have e : n % q = (-((-n) % q) + q) % q := by
          have e1 : n = -((-n) % q) + q + q * (-((-n) / q) - 1) := by
            rw [Int.mul_sub, Int.mul_neg]; omega
          conv => lhs; rw [e1]
          rw [Int.add_mul_emod_self_left]
        rw [e, Int.emod_eq_of_lt (by omega) (by omega)]
      rw [this]
/-- A number of a width. -/
def Nm (w : Nat) (n : Int) : Prop := 0 ≤ n ∧ n < 2 ^ w
theorem Nm.mod {w : Nat} {n : Int} (h : Nm w n) : n % 2 ^ w = n := Int.emod_eq_of_lt h.1 h.2
theorem nm_mod {w : Nat} (n : Int) : Nm w (n % 2 ^ w) := by
  have hp : (0 : Int) < 2 ^ w := Int.pow_pos (by decide)
  exact ⟨Int.emod_nonneg n (by omega), Int.emod_lt_of_pos n hp⟩

/-! ### bits -/
theorem bit_loop93 (k : Nat) {b : Nat} (hb : b ≤ 8) : ∀ (d i : Nat) (n : Nat), n ≤ 65536 → b - i = d → ∀ j, d < j → l93_26 k j (n : Int) b i = some ((((n / 2 ^ d : Nat) : Int), ()), ()) := by
  intro d
  induction d with
  | zero =>
    intro i n h1 hi j hj
    obtain ⟨j, rfl, _⟩ := succ_of (n := 0) (by omega : 0 + 1 ≤ j)
    show b93_26 k (l93_26 k j) n b i = _
    unfold b93_26
    rw [decide_eq_false (by omega : ¬ (i : Int) < b)]
    simp
  | succ d ih =>
    intro i n h1 hi j hj
    obtain ⟨j, rfl, hj2⟩ := succ_of (by omega : d + 1 + 1 ≤ j)
    show b93_26 k (l93_26 k j) n b i = _
    have hw1 : w64 ((i : Int) + 1) = ((i + 1 : Nat) : Int) := by rw [w64_id (by omega) (by omega)]; omega
    have hw2 : w64 (Int.tdiv (n : Int) 2) = ((n / 2 : Nat) : Int) := by rw [tdiv_pos (by omega), w64_id (by omega) (by omega)]; omega
    unfold b93_26
    rw [decide_eq_true (by omega : (i : Int) < b), cond_true, hw2, hw1, ih (i + 1) (n / 2) (by omega) (by omega) j hj2, Option.bind_some]
    have : n / 2 / 2 ^ d = n / 2 ^ (d + 1) := by rw [Nat.div_div_eq_div_mul, Nat.pow_succ, Nat.mul_comm]
    rw [this]
theorem bit93 (k : Nat) {n i : Nat} (h1 : n ≤ 65536) (hi : i ≤ 8) (hk : 16 < k) : f93 k (n : Int) i = some ((((n / 2 ^ i % 2 : Nat) : Int), ()), ()) := by
  unfold f93
  have := bit_loop93 k hi i 0 n h1 (by omega) k (by omega)
  rw [show ((0 : Nat) : Int) = 0 from rfl] at this
  rw [this]
  simp only [Option.bind_some]
  rw [tmod_pos (Int.natCast_nonneg _)]
  rfl
/-- The three signs of bits. -/
def bop (kind : Nat) (a b : Nat) : Nat := if kind = 0 then a &&& b else if kind = 1 then a ||| b else a ^^^ b
theorem bop_div (kind a b i : Nat) : bop kind a b / 2 ^ i = bop kind (a / 2 ^ i) (b / 2 ^ i) := by
  unfold bop
  split
  · exact Nat.and_div_two_pow
  · split
    · exact Nat.or_div_two_pow
    · exact Nat.xor_div_two_pow
theorem bop_mod (kind a b : Nat) : bop kind a b % 2 = bop kind (a % 2) (b % 2) := by
  unfold bop
  have e : ∀ x : Nat, x % 2 = x % 2 ^ 1 := fun x => by rw [Nat.pow_one]
  split
  · rw [e, Nat.and_mod_two_pow]
  · split
    · rw [e, Nat.or_mod_two_pow]
    · rw [e, Nat.xor_mod_two_pow]
theorem bop_lt {kind a b w : Nat} (ha : a < 2 ^ w) (hb : b < 2 ^ w) : bop kind a b < 2 ^ w := by
  unfold bop
  split
  · exact Nat.and_lt_two_pow _ hb
  · split
    · exact Nat.or_lt_two_pow ha hb
    · exact Nat.xor_lt_two_pow ha hb
theorem l14924 (k : Nat) {kind : Nat} (hk : kind ≤ 2) {x y : Nat} (hx : x < 2) (hy : y < 2) : l65_14924 k (kind : Int) (x : Int) (y : Int) = some ((decide (bop kind x y = 1), ()), ()) := by
  rcases (by omega : kind = 0 ∨ kind = 1 ∨ kind = 2) with rfl | rfl | rfl <;> rcases (by omega : x = 0 ∨ x = 1) with rfl | rfl <;> rcases (by omega : y = 0 ∨ y = 1) with rfl | rfl <;> rfl
theorem bits_loop65 (k : Nat) {kind a b w : Nat} (hk : 16 < k) (hkind : kind ≤ 2) (hw : w ≤ 8) (ha : a < 2 ^ w) (hb : b < 2 ^ w) : ∀ (i : Nat), i ≤ w → ∀ j, i < j → l65_58 k j (kind : Int) (a : Int) (b : Int) ((bop kind a b / 2 ^ i : Nat) : Int) ((i : Int) - 1) = some ((((bop kind a b : Nat) : Int), ()), ()) := by
  have hp : 2 ^ w ≤ 256 := Nat.pow_le_pow_right (show 0 < 2 by omega) hw
  have hr := bop_lt (kind := kind) ha hb
  intro i
  induction i with
  | zero =>
    intro _ j hj
    obtain ⟨j, rfl, _⟩ := succ_of (n := 0) (by omega : 0 + 1 ≤ j)
    show b65_58 k (l65_58 k j) _ _ _ _ _ = _
    unfold b65_58
    rw [decide_eq_false (by omega : ¬ (((0 : Nat) : Int) - 1) ≥ 0)]
    simp
  | succ i ih =>
    intro hi j hj
    obtain ⟨j, rfl, hj2⟩ := succ_of (by omega : i + 1 + 1 ≤ j)
    show b65_58 k (l65_58 k j) _ _ _ _ _ = _
    have e1 : (((i + 1 : Nat) : Int) - 1) = (i : Int) := by omega
    unfold b65_58
    rw [e1, decide_eq_true (by omega : (i : Int) ≥ 0), cond_true, bit93 k (by omega) (by omega) hk]
    simp only [Option.bind_some]
    rw [bit93 k (by omega) (by omega) hk]
    simp only [Option.bind_some]
    rw [l14924 k hkind (Nat.mod_lt _ (by decide)) (Nat.mod_lt _ (by decide))]
    simp only [Option.bind_some]
    have hm : bop kind (a / 2 ^ i % 2) (b / 2 ^ i % 2) = bop kind a b / 2 ^ i % 2 := by rw [bop_div, bop_mod]
    rw [hm]
    have hd : bop kind a b / 2 ^ (i + 1) = bop kind a b / 2 ^ i / 2 := by rw [Nat.div_div_eq_div_mul, Nat.pow_succ]
    have hle : bop kind a b / 2 ^ i ≤ bop kind a b := Nat.div_le_self _ _
    rw [hd]
    have hrec := ih (by omega) j hj2
    generalize bop kind a b / 2 ^ i = q at hrec hle
    have hw2 : w64 ((i : Int) - 1) = (i : Int) - 1 := w64_id (by omega) (by omega)
    by_cases hq : q % 2 = 1
    · rw [decide_eq_true hq, cond_true, w64_id (n := 2 * ((q / 2 : Nat) : Int)) (by omega) (by omega), w64_id (by omega) (by omega), hw2, show 2 * ((q / 2 : Nat) : Int) + 1 = (q : Int) by omega, hrec]
      rfl
    · rw [decide_eq_false hq, cond_false, w64_id (n := 2 * ((q / 2 : Nat) : Int)) (by omega) (by omega), w64_id (by omega) (by omega), hw2, show 2 * ((q / 2 : Nat) : Int) + 0 = (q : Int) by omega, hrec]
      rfl
theorem bits65 (k : Nat) {kind a b w : Nat} (hk : 16 < k) (hkind : kind ≤ 2) (hw1 : 1 ≤ w) (hw : w ≤ 8) (ha : a < 2 ^ w) (hb : b < 2 ^ w) : f65 k (kind : Int) (a : Int) (b : Int) (w : Int) = some ((((bop kind a b : Nat) : Int), ()), ()) := by
  have h := bits_loop65 k (kind := kind) hk hkind hw ha hb w (Nat.le_refl _) k (by omega)
  rw [Nat.div_eq_of_lt (bop_lt ha hb)] at h
  have hw2 : w64 ((w : Int) - 1) = (w : Int) - 1 := w64_id (by omega) (by omega)
  unfold f65
  rw [hw2]
  rw [show ((0 : Nat) : Int) = 0 from rfl] at h
  rw [h]
  rfl
theorem ibits_nat {a b : Nat} (ha : a < 256) (hb : b < 256) : ibits .and .i64 (a : Int) (b : Int) = ((a &&& b : Nat) : Int) ∧ ibits .or .i64 (a : Int) (b : Int) = ((a ||| b : Nat) : Int) ∧ ibits .xor .i64 (a : Int) (b : Int) = ((a ^^^ b : Nat) : Int) := by
  have h1 : ∀ x : Nat, x < 256 → (BitVec.ofInt 64 (x : Int)).toNat = x := fun x hx => by rw [BitVec.toNat_ofInt]; omega
  have hw : ∀ x : Nat, x < 256 → IntKind.i64.wrap (x : Int) = x := fun x hx => by
    have := w64_id (n := (x : Int)) (by omega) (by omega)
    unfold w64 at this; exact this
  have l1 : a &&& b < 2 ^ 8 := Nat.and_lt_two_pow _ hb
  have l2 : a ||| b < 2 ^ 8 := Nat.or_lt_two_pow ha hb
  have l3 : a ^^^ b < 2 ^ 8 := Nat.xor_lt_two_pow ha hb
  refine ⟨?_, ?_, ?_⟩
  · show IntKind.i64.wrap ((BitVec.ofInt 64 (a : Int) &&& BitVec.ofInt 64 (b : Int)).toNat : Int) = _
    rw [BitVec.toNat_and, h1 a ha, h1 b hb, hw _ l1]
  · show IntKind.i64.wrap ((BitVec.ofInt 64 (a : Int) ||| BitVec.ofInt 64 (b : Int)).toNat : Int) = _
    rw [BitVec.toNat_or, h1 a ha, h1 b hb, hw _ l2]
  · show IntKind.i64.wrap ((BitVec.ofInt 64 (a : Int) ^^^ BitVec.ofInt 64 (b : Int)).toNat : Int) = _
    rw [BitVec.toNat_xor, h1 a ha, h1 b hb, hw _ l3]
end Term
end Go.Proofs.Ytepfhidiahleiaa.M
