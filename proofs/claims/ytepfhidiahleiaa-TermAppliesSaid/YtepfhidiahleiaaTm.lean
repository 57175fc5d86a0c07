/-
Terms: numbers of a width; what the signs tell, by the program and by the document.
-/
import Derived.Test.YtepfhidiahleiaaMO
import Derived.Test.YtepfhidiahleiaaPl
import Derived.Test.YtepfhidiahleiaaVm40
set_option linter.unusedVariables false
set_option linter.unusedSimpArgs false
set_option maxRecDepth 100000
namespace Go.Proofs.Ytepfhidiahleiaa.M
open Go Go.Proofs.Ytepfhidiahleiaa.Vm Go.Proofs.Ytepfhidiahleiaa.Pl
namespace Term
/-- A width, and its power. -/
structure Wd (w : Nat) : Prop where
  lo : 1 ≤ w
  hi : w ≤ 8
theorem Wd.pw {w : Nat} (h : Wd w) : ((2 : Int) ^ w) = ((2 ^ w : Nat) : Int) ∧ 2 ≤ 2 ^ w ∧ 2 ^ w ≤ 256 := by
  refine ⟨by simp, ?_, ?_⟩
  · exact Nat.pow_le_pow_right (show 0 < 2 by omega) h.lo
  · exact Nat.pow_le_pow_right (show 0 < 2 by omega) h.hi
theorem power59 (k : Nat) {w : Nat} (h : w ≤ 8) : f59 k w = some (((2 ^ w : Int), ()), ()) := by
  have e : ((2 : Int) ^ w) = ((2 ^ w : Nat) : Int) := by simp
  have hp : 2 ^ w ≤ 256 := Nat.pow_le_pow_right (show 0 < 2 by omega) h
  have hmin : min ((w : Int).toNat) 64 = w := by omega
  unfold f59
  rw [decide_eq_false (by omega : ¬ (w : Int) < 0), cond_false, hmin, Int.one_mul, e]
  generalize 2 ^ w = q at hp
  rw [w64_id (by omega) (by omega)]
theorem and_mask {n : Int} {w : Nat} (h : Wd w) : ibits .and .i64 n ((2 : Int) ^ w - 1) = n % 2 ^ w := by
  obtain ⟨e, h1, h2⟩ := h.pw
  have hd : (2 ^ w : Nat) ∣ 2 ^ 64 := Nat.pow_dvd_pow 2 (by have := h.hi; omega)
  have e1 : (BitVec.ofInt 64 n &&& BitVec.ofInt 64 ((2 : Int) ^ w - 1)).toNat = (n % 2 ^ w).toNat := by
    rw [BitVec.toNat_and]
    have h3 : (BitVec.ofInt 64 ((2 : Int) ^ w - 1)).toNat = 2 ^ w - 1 := by
      rw [BitVec.toNat_ofInt, e]
      generalize 2 ^ w = q at h1 h2
      omega
    rw [h3, Nat.and_two_pow_sub_one_eq_mod, BitVec.toNat_ofInt]
    have h4 : n % 2 ^ w = (n % ((2 ^ 64 : Nat) : Int)) % 2 ^ w := by
      rw [e]
      exact (Int.emod_emod_of_dvd n (Int.natCast_dvd_natCast.2 hd)).symm
    have h5 := Int.emod_nonneg n (show ((2 ^ 64 : Nat) : Int) ≠ 0 by decide)
    rw [h4, e]
    generalize n % ((2 ^ 64 : Nat) : Int) = r at h5
    obtain ⟨s, rfl⟩ := Int.eq_ofNat_of_zero_le h5
    rw [Int.toNat_natCast, ← Int.natCast_emod, Int.toNat_natCast]
  show IntKind.i64.wrap ((BitVec.ofInt 64 n &&& BitVec.ofInt 64 ((2 : Int) ^ w - 1)).toNat : Int) = _
  rw [e1, e]
  generalize 2 ^ w = q at h1 h2
  have h6 := Int.emod_nonneg n (show (q : Int) ≠ 0 by omega)
  have h7 := Int.emod_lt_of_pos n (show (0 : Int) < q by omega)
  have := w64_id (n := (((n % q).toNat : Nat) : Int)) (by omega) (by omega)
  unfold w64 at this
  rw [this]; omega
theorem mask_txt {w : Nat} (h : Wd w) : w64 (w64 (1 * 2 ^ (min (w : Int).toNat 64)) - 1) = (2 : Int) ^ w - 1 := by
  obtain ⟨e, h1, h2⟩ := h.pw
  have hmin : min ((w : Int).toNat) 64 = w := by have := h.hi; omega
  rw [hmin, Int.one_mul, e]
  generalize 2 ^ w = q at h1 h2
  rw [w64_id (n := (q : Int)) (by omega) (by omega), w64_id (by omega) (by omega)]
theorem mod27 (k : Nat) (n : Int) {w : Nat} (h : Wd w) : f27 k n w = some ((n % 2 ^ w, ()), ()) := by
  obtain ⟨e, hp1, hp⟩ := h.pw
  unfold f27
  rw [power59 k h.hi, e]
  simp only [Option.bind_some]
  generalize 2 ^ w = q at hp1 hp
  rw [decide_eq_false (by omega : ¬ (q : Int) = 0), cond_false]
  have h1 := Int.emod_nonneg n (show (q : Int) ≠ 0 by omega)
  have h2 := Int.emod_lt_of_pos n (show (0 : Int) < q by omega)
  by_cases hn : 0 ≤ n
  · rw [tmod_pos hn, decide_eq_false (by omega : ¬ n % q < 0), cond_false]
  · have ht : Int.tmod n q = -((-n) % q) := by
      have := Int.neg_tmod (-n) q
      rw [Int.neg_neg] at this
      rw [this, tmod_pos (by omega)]
    have h3 := Int.emod_nonneg (-n) (show (q : Int) ≠ 0 by omega)
    have h4 := Int.emod_lt_of_pos (-n) (show (0 : Int) < q by omega)
    have h5 := Int.mul_ediv_add_emod n q
    have h6 := Int.mul_ediv_add_emod (-n) q
    rw [ht]
    by_cases hz : (-n) % q = 0
    · rw [hz, decide_eq_false (by omega), cond_false]
      have : n % q = 0 := by
        have hd : (q : Int) ∣ -n := Int.dvd_of_emod_eq_zero hz
        exact Int.emod_eq_zero_of_dvd (Int.dvd_neg.1 hd)
      rw [this]; rfl
    · rw [decide_eq_true (by omega), cond_true, w64_id (by omega) (by omega)]
      have : n % q = -((-n) % q) + q := by
        have e : n % q = (-((-n) % q) + q) % q := by
          have e1 : n = -((-n) % q) + q + q * (-((-n) / q) - 1) := by
            rw [Int.mul_sub, Int.mul_neg]; omega
          conv => lhs; rw [e1]
          rw [Int.add_mul_emod_self_left]
        rw [e, Int.emod_eq_of_lt (by omega) (by omega)]
      rw [this]
/-- A number of a width. -/
def Nm (w : Nat) (n : Int) : Prop := 0 ≤ n ∧ n < 2 ^ w
theorem Nm.mod {w : Nat} {n : Int} (h : Nm w n) : n % 2 ^ w = n := Int.emod_eq_of_lt h.1 h.2
theorem nm_mod {w : Nat} (n : Int) : Nm w (n % 2 ^ w) := by
  have hp : (0 : Int) < 2 ^ w := Int.pow_pos (by decide)
  exact ⟨Int.emod_nonneg n (by omega), Int.emod_lt_of_pos n hp⟩

/-! ### bits -/
theorem bit_loop93 (k : Nat) {b : Nat} (hb : b ≤ 8) : ∀ (d i : Nat) (n : Nat), n ≤ 65536 → b - i = d → ∀ j, d < j → l93_26 k j (n : Int) b i = some ((((n / 2 ^ d : Nat) : Int), ()), ()) := by
  intro d
  induction d with
  | zero =>
    intro i n h1 hi j hj
    obtain ⟨j, rfl, _⟩ := succ_of (n := 0) (by omega : 0 + 1 ≤ j)
    show b93_26 k (l93_26 k j) n b i = _
    unfold b93_26
    rw [decide_eq_false (by omega : ¬ (i : Int) < b)]
    simp
  | succ d ih =>
    intro i n h1 hi j hj
    obtain ⟨j, rfl, hj2⟩ := succ_of (by omega : d + 1 + 1 ≤ j)
    show b93_26 k (l93_26 k j) n b i = _
    have hw1 : w64 ((i : Int) + 1) = ((i + 1 : Nat) : Int) := by rw [w64_id (by omega) (by omega)]; omega
    have hw2 : w64 (Int.tdiv (n : Int) 2) = ((n / 2 : Nat) : Int) := by rw [tdiv_pos (by omega), w64_id (by omega) (by omega)]; omega
    unfold b93_26
    rw [decide_eq_true (by omega : (i : Int) < b), cond_true, hw2, hw1, ih (i + 1) (n / 2) (by omega) (by omega) j hj2, Option.bind_some]
    have : n / 2 / 2 ^ d = n / 2 ^ (d + 1) := by rw [Nat.div_div_eq_div_mul, Nat.pow_succ, Nat.mul_comm]
    rw [this]
theorem bit93 (k : Nat) {n i : Nat} (h1 : n ≤ 65536) (hi : i ≤ 8) (hk : 16 < k) : f93 k (n : Int) i = some ((((n / 2 ^ i % 2 : Nat) : Int), ()), ()) := by
  unfold f93
  have := bit_loop93 k hi i 0 n h1 (by omega) k (by omega)
  rw [show ((0 : Nat) : Int) = 0 from rfl] at this
  rw [this]
  simp only [Option.bind_some]
  rw [tmod_pos (Int.natCast_nonneg _)]
  rfl
/-- The three signs of bits. -/
def bop (kind : Nat) (a b : Nat) : Nat := if kind = 0 then a &&& b else if kind = 1 then a ||| b else a ^^^ b
theorem bop_div (kind a b i : Nat) : bop kind a b / 2 ^ i = bop kind (a / 2 ^ i) (b / 2 ^ i) := by
  unfold bop
  split
  · exact Nat.and_div_two_pow
  · split
    · exact Nat.or_div_two_pow
    · exact Nat.xor_div_two_pow
theorem bop_mod (kind a b : Nat) : bop kind a b % 2 = bop kind (a % 2) (b % 2) := by
  unfold bop
  have e : ∀ x : Nat, x % 2 = x % 2 ^ 1 := fun x => by rw [Nat.pow_one]
  split
  · rw [e, Nat.and_mod_two_pow]
  · split
    · rw [e, Nat.or_mod_two_pow]
    · rw [e, Nat.xor_mod_two_pow]
theorem bop_lt {kind a b w : Nat} (ha : a < 2 ^ w) (hb : b < 2 ^ w) : bop kind a b < 2 ^ w := by
  unfold bop
  split
  · exact Nat.and_lt_two_pow _ hb
  · split
    · exact Nat.or_lt_two_pow ha hb
    · exact Nat.xor_lt_two_pow ha hb
theorem l14924 (k : Nat) {kind : Nat} (hk : kind ≤ 2) {x y : Nat} (hx : x < 2) (hy : y < 2) : l65_14924 k (kind : Int) (x : Int) (y : Int) = some ((decide (bop kind x y = 1), ()), ()) := by
  rcases (by omega : kind = 0 ∨ kind = 1 ∨ kind = 2) with rfl | rfl | rfl <;> rcases (by omega : x = 0 ∨ x = 1) with rfl | rfl <;> rcases (by omega : y = 0 ∨ y = 1) with rfl | rfl <;> rfl
theorem bits_loop65 (k : Nat) {kind a b w : Nat} (hk : 16 < k) (hkind : kind ≤ 2) (hw : w ≤ 8) (ha : a < 2 ^ w) (hb : b < 2 ^ w) : ∀ (i : Nat), i ≤ w → ∀ j, i < j → l65_58 k j (kind : Int) (a : Int) (b : Int) ((bop kind a b / 2 ^ i : Nat) : Int) ((i : Int) - 1) = some ((((bop kind a b : Nat) : Int), ()), ()) := by
  have hp : 2 ^ w ≤ 256 := Nat.pow_le_pow_right (show 0 < 2 by omega) hw
  have hr := bop_lt (kind := kind) ha hb
  intro i
  induction i with
  | zero =>
    intro _ j hj
    obtain ⟨j, rfl, _⟩ := succ_of (n := 0) (by omega : 0 + 1 ≤ j)
    show b65_58 k (l65_58 k j) _ _ _ _ _ = _
    unfold b65_58
    rw [decide_eq_false (by omega : ¬ (((0 : Nat) : Int) - 1) ≥ 0)]
    simp
  | succ i ih =>
    intro hi j hj
    obtain ⟨j, rfl, hj2⟩ := succ_of (by omega : i + 1 + 1 ≤ j)
    show b65_58 k (l65_58 k j) _ _ _ _ _ = _
    have e1 : (((i + 1 : Nat) : Int) - 1) = (i : Int) := by omega
    unfold b65_58
    rw [e1, decide_eq_true (by omega : (i : Int) ≥ 0), cond_true, bit93 k (by omega) (by omega) hk]
    simp only [Option.bind_some]
    rw [bit93 k (by omega) (by omega) hk]
    simp only [Option.bind_some]
    rw [l14924 k hkind (Nat.mod_lt _ (by decide)) (Nat.mod_lt _ (by decide))]
    simp only [Option.bind_some]
    have hm : bop kind (a / 2 ^ i % 2) (b / 2 ^ i % 2) = bop kind a b / 2 ^ i % 2 := by rw [bop_div, bop_mod]
    rw [hm]
    have hd : bop kind a b / 2 ^ (i + 1) = bop kind a b / 2 ^ i / 2 := by rw [Nat.div_div_eq_div_mul, Nat.pow_succ]
    have hle : bop kind a b / 2 ^ i ≤ bop kind a b := Nat.div_le_self _ _
    rw [hd]
    have hrec := ih (by omega) j hj2
    generalize bop kind a b / 2 ^ i = q at hrec hle
    have hw2 : w64 ((i : Int) - 1) = (i : Int) - 1 := w64_id (by omega) (by omega)
    by_cases hq : q % 2 = 1
    · rw [decide_eq_true hq, cond_true, w64_id (n := 2 * ((q / 2 : Nat) : Int)) (by omega) (by omega), w64_id (by omega) (by omega), hw2, show 2 * ((q / 2 : Nat) : Int) + 1 = (q : Int) by omega, hrec]
      rfl
    · rw [decide_eq_false hq, cond_false, w64_id (n := 2 * ((q / 2 : Nat) : Int)) (by omega) (by omega), w64_id (by omega) (by omega), hw2, show 2 * ((q / 2 : Nat) : Int) + 0 = (q : Int) by omega, hrec]
      rfl
theorem bits65 (k : Nat) {kind a b w : Nat} (hk : 16 < k) (hkind : kind ≤ 2) (hw1 : 1 ≤ w) (hw : w ≤ 8) (ha : a < 2 ^ w) (hb : b < 2 ^ w) : f65 k (kind : Int) (a : Int) (b : Int) (w : Int) = some ((((bop kind a b : Nat) : Int), ()), ()) := by
  have h := bits_loop65 k (kind := kind) hk hkind hw ha hb w (Nat.le_refl _) k (by omega)
  rw [Nat.div_eq_of_lt (bop_lt ha hb)] at h
  have hw2 : w64 ((w : Int) - 1) = (w : Int) - 1 := w64_id (by omega) (by omega)
  unfold f65
  rw [hw2]
  rw [show ((0 : Nat) : Int) = 0 from rfl] at h
  rw [h]
  rfl
theorem ibits_nat {a b : Nat} (ha : a < 256) (hb : b < 256) : ibits .and .i64 (a : Int) (b : Int) = ((a &&& b : Nat) : Int) ∧ ibits .or .i64 (a : Int) (b : Int) = ((a ||| b : Nat) : Int) ∧ ibits .xor .i64 (a : Int) (b : Int) = ((a ^^^ b : Nat) : Int) := by
  have h1 : ∀ x : Nat, x < 256 → (BitVec.ofInt 64 (x : Int)).toNat = x := fun x hx => by rw [BitVec.toNat_ofInt]; omega
  have hw : ∀ x : Nat, x < 256 → IntKind.i64.wrap (x : Int) = x := fun x hx => by
    have := w64_id (n := (x : Int)) (by omega) (by omega)
    unfold w64 at this; exact this
  have l1 : a &&& b < 2 ^ 8 := Nat.and_lt_two_pow _ hb
  have l2 : a ||| b < 2 ^ 8 := Nat.or_lt_two_pow ha hb
  have l3 : a ^^^ b < 2 ^ 8 := Nat.xor_lt_two_pow ha hb
  refine ⟨?_, ?_, ?_⟩
  · show IntKind.i64.wrap ((BitVec.ofInt 64 (a : Int) &&& BitVec.ofInt 64 (b : Int)).toNat : Int) = _
    rw [BitVec.toNat_and, h1 a ha, h1 b hb, hw _ l1]
  · show IntKind.i64.wrap ((BitVec.ofInt 64 (a : Int) ||| BitVec.ofInt 64 (b : Int)).toNat : Int) = _
    rw [BitVec.toNat_or, h1 a ha, h1 b hb, hw _ l2]
  · show IntKind.i64.wrap ((BitVec.ofInt 64 (a : Int) ^^^ BitVec.ofInt 64 (b : Int)).toNat : Int) = _
    rw [BitVec.toNat_xor, h1 a ha, h1 b hb, hw _ l3]
end Term
end Go.Proofs.Ytepfhidiahleiaa.M
/-
Terms: the signs; what they are worth by the program and by the document.
-/
set_option linter.unusedVariables false
set_option linter.unusedSimpArgs false
set_option maxRecDepth 100000
namespace Go.Proofs.Ytepfhidiahleiaa.M
open Go Go.Proofs.Ytepfhidiahleiaa.Vm Go.Proofs.Ytepfhidiahleiaa.Pl
namespace Term
theorem tl (l : List UInt8) : (ByteArray.mk l.toArray).toList = l := by rw [ByteArray.toList_eq]
theorem lit1 (a : UInt8) : (ByteArray.mk #[a]).toList = [a] := tl [a]
theorem lit2 (a b : UInt8) : (ByteArray.mk #[a, b]).toList = [a, b] := tl [a, b]
theorem of_list {op : ByteArray} {l : List UInt8} (h : op.toList = l) : op = ByteArray.mk l.toArray := by
  rw [ByteArray.toList_eq] at h
  exact ByteArray.ext (by rw [← h])
def signs : List (List UInt8) := [[42], [47], [37], [60, 60], [62, 62], [38], [43], [45], [124], [94], [61, 61], [33, 61], [60], [60, 61], [62], [62, 61], [38, 38], [124, 124]]
def tab : List (List ByteArray) := [[(ByteArray.mk #[124, 124])], [(ByteArray.mk #[38, 38])], [(ByteArray.mk #[61, 61]), (ByteArray.mk #[33, 61]), (ByteArray.mk #[60]), (ByteArray.mk #[60, 61]), (ByteArray.mk #[62]), (ByteArray.mk #[62, 61])], [(ByteArray.mk #[43]), (ByteArray.mk #[45]), (ByteArray.mk #[124]), (ByteArray.mk #[94])], [(ByteArray.mk #[42]), (ByteArray.mk #[47]), (ByteArray.mk #[37]), (ByteArray.mk #[60, 60]), (ByteArray.mk #[62, 62]), (ByteArray.mk #[38])]]
theorem row_none (k : Nat) {op : ByteArray} {l3 : List (List ByteArray)} {i : Nat} {r : List ByteArray} (hi : l3[i]? = some r) (hr : r.length ≤ 100) (h : ∀ e ∈ r, (e.toList == op.toList) = false) : ∀ (d kk : Nat), r.length - kk = d → ∀ j, d < j → l26_3730 k j op l3 i kk = some (.inl ((l3, ()), ())) := by
  intro d
  induction d with
  | zero =>
    intro kk hd j hj
    obtain ⟨j, rfl, _⟩ := succ_of (n := 0) (by omega : 0 + 1 ≤ j)
    show b26_3730 k (l26_3730 k j) op l3 i kk = _
    unfold b26_3730
    rw [ix_nat hi, decide_eq_false (by omega : ¬ (kk : Int) < r.length)]
    rfl
  | succ d ih =>
    intro kk hd j hj
    obtain ⟨j, rfl, hj2⟩ := succ_of (by omega : d + 1 + 1 ≤ j)
    show b26_3730 k (l26_3730 k j) op l3 i kk = _
    have hx : r[kk]? = some r[kk] := List.getElem?_eq_getElem (by omega)
    have hw : w64 ((kk : Int) + 1) = ((kk + 1 : Nat) : Int) := by rw [w64_id (by omega) (by omega)]; omega
    unfold b26_3730
    rw [ix_nat hi, decide_eq_true (by omega : (kk : Int) < r.length), cond_true, ix_nat hi, ix_nat hx, h _ (List.getElem_mem _), cond_false, hw, ih (kk + 1) (by omega) j hj2]
    rfl
theorem tab_none (k : Nat) {op : ByteArray} {l3 : List (List ByteArray)} (hk : 100 < k) (hl : l3.length ≤ 100) (h : ∀ r ∈ l3, r.length ≤ 100 ∧ ∀ e ∈ r, (e.toList == op.toList) = false) : ∀ (d i : Nat), l3.length - i = d → ∀ j, d < j → l26_58 k j op l3 i = some (.inl ((), ())) := by
  intro d
  induction d with
  | zero =>
    intro i hd j hj
    obtain ⟨j, rfl, _⟩ := succ_of (n := 0) (by omega : 0 + 1 ≤ j)
    show b26_58 k (l26_58 k j) op l3 i = _
    unfold b26_58
    rw [decide_eq_false (by omega : ¬ (i : Int) < l3.length)]
    rfl
  | succ d ih =>
    intro i hd j hj
    obtain ⟨j, rfl, hj2⟩ := succ_of (by omega : d + 1 + 1 ≤ j)
    show b26_58 k (l26_58 k j) op l3 i = _
    have hx : l3[i]? = some l3[i] := List.getElem?_eq_getElem (by omega)
    have hw : w64 ((i : Int) + 1) = ((i + 1 : Nat) : Int) := by rw [w64_id (by omega) (by omega)]; omega
    obtain ⟨hr1, hr2⟩ := h _ (List.getElem_mem (by omega : i < l3.length))
    have := row_none k hx hr1 hr2 l3[i].length 0 rfl k (by omega)
    rw [show ((0 : Nat) : Int) = 0 from rfl] at this
    unfold b26_58
    rw [decide_eq_true (by omega : (i : Int) < l3.length), cond_true, this]
    simp only [Option.bind_some]
    rw [hw, ih (i + 1) (by omega) j hj2]
    rfl
/-- How strongly a sign binds; 0: it is none. -/
theorem sign_eq (k : Nat) (hk : 200 ≤ k) (op : ByteArray) : ∃ n : Int, f82 k op = some ((n, ()), ()) ∧ f26 k op = some ((n, ()), ()) ∧ (op.toList ∉ signs → n = 0) := by
  by_cases hm : op.toList ∈ signs
  · obtain ⟨j, rfl⟩ : ∃ j, k = j + 200 := ⟨k - 200, by omega⟩
    have hn : ∀ {n : Int}, op.toList ∉ signs → n = 0 := fun h => absurd hm h
    simp only [signs, List.mem_cons, List.not_mem_nil, or_false] at hm
    rcases hm with h | h | h | h | h | h | h | h | h | h | h | h | h | h | h | h | h | h <;> have := of_list h <;> subst this
    · exact ⟨5, by kernel_rfl, by kernel_rfl, hn⟩
    · exact ⟨5, by kernel_rfl, by kernel_rfl, hn⟩
    · exact ⟨5, by kernel_rfl, by kernel_rfl, hn⟩
    · exact ⟨5, by kernel_rfl, by kernel_rfl, hn⟩
    · exact ⟨5, by kernel_rfl, by kernel_rfl, hn⟩
    · exact ⟨5, by kernel_rfl, by kernel_rfl, hn⟩
    · exact ⟨4, by kernel_rfl, by kernel_rfl, hn⟩
    · exact ⟨4, by kernel_rfl, by kernel_rfl, hn⟩
    · exact ⟨4, by kernel_rfl, by kernel_rfl, hn⟩
    · exact ⟨4, by kernel_rfl, by kernel_rfl, hn⟩
    · exact ⟨3, by kernel_rfl, by kernel_rfl, hn⟩
    · exact ⟨3, by kernel_rfl, by kernel_rfl, hn⟩
    · exact ⟨3, by kernel_rfl, by kernel_rfl, hn⟩
    · exact ⟨3, by kernel_rfl, by kernel_rfl, hn⟩
    · exact ⟨3, by kernel_rfl, by kernel_rfl, hn⟩
    · exact ⟨3, by kernel_rfl, by kernel_rfl, hn⟩
    · exact ⟨2, by kernel_rfl, by kernel_rfl, hn⟩
    · exact ⟨1, by kernel_rfl, by kernel_rfl, hn⟩
  · refine ⟨0, ?_, ?_, fun _ => rfl⟩
    · have hb : ∀ c ∈ signs, (op.toList == c) = false := fun c hc => beq_eq_false_iff_ne.2 fun h => hm (h ▸ hc)
      simp only [signs, List.mem_cons, List.not_mem_nil, or_false, forall_eq_or_imp, forall_eq] at hb
      obtain ⟨h1, h2, h3, h4, h5, h6, h7, h8, h9, h10, h11, h12, h13, h14, h15, h16, h17, h18⟩ := hb
      unfold f82 l82_52 l82_214 l82_862 l82_3454 l82_13822 l82_428 l82_1718 l82_1724 l82_6878 l82_6902 l82_27614 l82_110462 l82_441854
      simp only [lit1, lit2, h1, h2, h3, h4, h5, h6, h7, h8, h9, h10, h11, h12, h13, h14, h15, h16, h17, h18, cond_false, Option.bind_some]
    · have hb : ∀ c ∈ signs, (c == op.toList) = false := fun c hc => beq_eq_false_iff_ne.2 fun h => hm (h ▸ hc)
      simp only [signs, List.mem_cons, List.not_mem_nil, or_false, forall_eq_or_imp, forall_eq] at hb
      have := tab_none k (op := op) (l3 := tab) (by omega) (by decide) (by
        simp only [tab, List.mem_cons, List.not_mem_nil, or_false, forall_eq_or_imp, forall_eq, lit1, lit2, List.length_cons, List.length_nil]
        simp only [hb, and_self, and_true]
        decide) tab.length 0 rfl k (by have : tab.length = 5 := rfl; omega)
      unfold f26
      rw [show ((0 : Nat) : Int) = 0 from rfl] at this
      have e : (l26_58 k k op tab 0).bind (fun y1 => match y1 with
        | .inl y1_0 => some ((0, ()), ())
        | .inr y1_1 => some ((y1_1.1.1, ()), ())) = (some ((0, ()), ()) : Option R26) := by rw [this]; rfl
      exact e
theorem wide40 (k : Nat) {w : Nat} (h : Wd w) : f40 k w = some ((true, ()), ()) := by
  have h1 := h.lo
  have h2 := h.hi
  unfold f40
  rw [decide_eq_true (by omega : (w : Int) ≥ 1), decide_eq_true (by omega : (w : Int) ≤ 8)]
  rfl
end Term
end Go.Proofs.Ytepfhidiahleiaa.M
/-
Terms: what a binary sign is worth, by the program and by the document.
-/
set_option linter.unusedVariables false
set_option linter.unusedSimpArgs false
set_option maxRecDepth 100000
namespace Go.Proofs.Ytepfhidiahleiaa.M
open Go Go.Proofs.Ytepfhidiahleiaa.Vm Go.Proofs.Ytepfhidiahleiaa.Pl
namespace Term
theorem beq_int (a b : Int) : (a == b) = decide (a = b) := by
  by_cases h : a = b
  · subst h; simp
  · simp [h]
theorem nm_nat {w : Nat} {x : Nat} (h : x < 2 ^ w) : Nm w (x : Int) := ⟨by omega, by
  have e : ((2 : Int) ^ w) = ((2 ^ w : Nat) : Int) := by simp
  rw [e]; omega⟩
theorem nm_bool {w : Nat} (h : Wd w) : Nm w 0 ∧ Nm w 1 := by
  obtain ⟨e, h1, h2⟩ := h.pw
  unfold Nm; rw [e]; omega
theorem apply_eq (k : Nat) (hk : 200 ≤ k) {w : Nat} (h : Wd w) {a b : Int} (ha : Nm w a) (hb : Nm w b) (op : ByteArray) : ∃ n : Int, Nm w n ∧ f25 k w op a b = some ((n, ()), ()) ∧ f24 k w op a b = some ((n, ()), ()) := by
  obtain ⟨e, hp1, hp⟩ := h.pw
  obtain ⟨n0, n1⟩ := nm_bool h
  have hw1 := h.lo
  have hw2 := h.hi
  obtain ⟨x, rfl⟩ := Int.eq_ofNat_of_zero_le ha.1
  obtain ⟨y, rfl⟩ := Int.eq_ofNat_of_zero_le hb.1
  have hx : x < 2 ^ w := by have := ha.2; rw [e] at this; omega
  have hy : y < 2 ^ w := by have := hb.2; rw [e] at this; omega
  have hw64 : ∀ q : Nat, q ≤ x → w64 (q : Int) = q := fun q hq => w64_id (by omega) (by omega)
  have h25 : f25 k w op x y = cond (op.toList == (ByteArray.mk #[61, 61]).toList) ((f66 k ((x : Int) == y)).bind fun y => some ((y.1.1, ()), ()))
      (cond (op.toList == (ByteArray.mk #[33, 61]).toList) ((f66 k ((x : Int) != y)).bind fun y => some ((y.1.1, ()), ()))
      (cond (op.toList == (ByteArray.mk #[60]).toList) ((f66 k (decide ((x : Int) < y))).bind fun y => some ((y.1.1, ()), ()))
      (cond (op.toList == (ByteArray.mk #[60, 61]).toList) ((f66 k (decide ((x : Int) ≤ y))).bind fun y => some ((y.1.1, ()), ()))
      (cond (op.toList == (ByteArray.mk #[62]).toList) ((f66 k (decide ((x : Int) > y))).bind fun y => some ((y.1.1, ()), ()))
      (cond (op.toList == (ByteArray.mk #[62, 61]).toList) ((f66 k (decide ((x : Int) ≥ y))).bind fun y => some ((y.1.1, ()), ()))
      (cond (op.toList == (ByteArray.mk #[38, 38]).toList) (cond ((x : Int) != 0) ((f66 k ((y : Int) != 0)).bind fun y => some ((y.1.1, ()), ())) ((f66 k false).bind fun y => some ((y.1.1, ()), ())))
      (cond (op.toList == (ByteArray.mk #[124, 124]).toList) (cond ((x : Int) != 0) ((f66 k true).bind fun y => some ((y.1.1, ()), ())) ((f66 k ((y : Int) != 0)).bind fun y => some ((y.1.1, ()), ())))
        ((f67 k w op x y).bind fun y => some ((y.1.1 % 2 ^ w, ()), ())))))))))  := by
    unfold f25
    rw [wide40 k h, decide_eq_false (by omega : ¬ (w : Int) < 0)]
    simp only [Option.bind_some, Bool.not_true, cond_false, mask_txt h, and_mask h, ha.mod, hb.mod]
  rw [h25]
  by_cases hm : op.toList ∈ signs
  · simp only [signs, List.mem_cons, List.not_mem_nil, or_false] at hm
    rcases hm with h' | h' | h' | h' | h' | h' | h' | h' | h' | h' | h' | h' | h' | h' | h' | h' | h' | h' <;> have := of_list h' <;> subst this <;> clear h25 h'
    · -- *
      refine ⟨_, nm_mod (w64 ((x : Int) * y)), by kernel_rfl, Eq.trans (b := (f27 k (w64 ((x : Int) * y)) w).bind fun y => some ((y.1.1, ()), ())) (by kernel_rfl) ?_⟩
      rw [mod27 k _ h]; rfl
    · -- /
      by_cases hy0 : y = 0
      · subst hy0
        have hn : (-1 : Int) % 2 ^ w = 2 ^ w - 1 := by
          rw [e]
          generalize 2 ^ w = q at hp hp1
          have : (-1 : Int) = ((q : Int) - 1) + q * (-1) := by omega
          rw [this, Int.add_mul_emod_self_left, Int.emod_eq_of_lt (by omega) (by omega)]
        refine ⟨_, nm_mod (-1), by kernel_rfl, Eq.trans (b := ((f59 k w).bind fun y => some ((w64 (y.1.1 - 1), ()), ()) : Option R61).bind fun y => some ((y.1.1, ()), ())) (by kernel_rfl) ?_⟩
        rw [power59 k hw2, hn]
        simp only [Option.bind_some]
        rw [e]
        generalize 2 ^ w = q at hp hp1
        rw [w64_id (by omega) (by omega)]
      · have hq : w64 (Int.tdiv (x : Int) y) = ((x / y : Nat) : Int) := by
          have := Nat.div_le_self x y
          rw [tdiv_pos (by omega), ← Int.natCast_ediv, hw64 _ this]
        have hnm : Nm w ((x / y : Nat) : Int) := nm_nat (Nat.lt_of_le_of_lt (Nat.div_le_self x y) hx)
        refine ⟨_, hnm, Eq.trans (b := (cond ((y : Int) == 0) (some (((-1), ()), ())) (cond (decide ((y : Int) = 0)) none (some ((w64 (Int.tdiv (x : Int) y), ()), ()))) : Option R67).bind fun y => some ((y.1.1 % 2 ^ w, ()), ())) (by kernel_rfl) ?_,
          Eq.trans (b := (cond ((y : Int) == 0) ((f59 k w).bind fun y => some ((w64 (y.1.1 - 1), ()), ())) (cond (decide ((y : Int) = 0)) none (some ((w64 (Int.tdiv (x : Int) y), ()), ()))) : Option R61).bind fun y => some ((y.1.1, ()), ())) (by kernel_rfl) ?_⟩
        · rw [beq_int, decide_eq_false (by omega : ¬ (y : Int) = 0), cond_false, cond_false, hq, Option.bind_some, hnm.mod]
        · rw [beq_int, decide_eq_false (by omega : ¬ (y : Int) = 0), cond_false, cond_false, hq, Option.bind_some]
    · -- %
      by_cases hy0 : y = 0
      · subst hy0
        refine ⟨_, nm_mod x, by kernel_rfl, ?_⟩
        rw [ha.mod]; kernel_rfl
      · have hq : Int.tmod (x : Int) y = ((x % y : Nat) : Int) := by rw [tmod_pos (by omega)]; rfl
        have hnm : Nm w ((x % y : Nat) : Int) := nm_nat (Nat.lt_of_le_of_lt (Nat.mod_le x y) hx)
        refine ⟨_, hnm, Eq.trans (b := (cond ((y : Int) == 0) (some (((x : Int), ()), ())) (cond (decide ((y : Int) = 0)) none (some ((Int.tmod (x : Int) y, ()), ()))) : Option R67).bind fun y => some ((y.1.1 % 2 ^ w, ()), ())) (by kernel_rfl) ?_,
          Eq.trans (b := (cond ((y : Int) == 0) (some (((x : Int), ()), ())) (cond (decide ((y : Int) = 0)) none (some ((Int.tmod (x : Int) y, ()), ()))) : Option R62).bind fun y => some ((y.1.1, ()), ())) (by kernel_rfl) ?_⟩
        · rw [beq_int, decide_eq_false (by omega : ¬ (y : Int) = 0), cond_false, cond_false, hq, Option.bind_some, hnm.mod]
        · rw [beq_int, decide_eq_false (by omega : ¬ (y : Int) = 0), cond_false, cond_false, hq, Option.bind_some]
    · -- <<
      by_cases hyw : w ≤ y
      · refine ⟨0, n0, Eq.trans (b := (cond (decide ((y : Int) ≥ w)) (some ((0, ()), ())) (cond (decide ((y : Int) < 0)) none (some ((w64 ((x : Int) * 2 ^ (min (y : Int).toNat 64)), ()), ()))) : Option R67).bind fun y => some ((y.1.1 % 2 ^ w, ()), ())) (by kernel_rfl) ?_,
          Eq.trans (b := (f63 k x y w).bind fun y => some ((y.1.1, ()), ())) (by kernel_rfl) ?_⟩
        · rw [decide_eq_true (by omega : (y : Int) ≥ w), cond_true, Option.bind_some, Int.zero_emod]
        · unfold f63
          rw [decide_eq_true (by omega : (y : Int) ≥ w), cond_true, Option.bind_some]
      · have hmin : min ((y : Int).toNat) 64 = y := by omega
        refine ⟨_, nm_mod (w64 ((x : Int) * 2 ^ y)), Eq.trans (b := (cond (decide ((y : Int) ≥ w)) (some ((0, ()), ())) (cond (decide ((y : Int) < 0)) none (some ((w64 ((x : Int) * 2 ^ (min (y : Int).toNat 64)), ()), ()))) : Option R67).bind fun y => some ((y.1.1 % 2 ^ w, ()), ())) (by kernel_rfl) ?_,
          Eq.trans (b := (f63 k x y w).bind fun y => some ((y.1.1, ()), ())) (by kernel_rfl) ?_⟩
        · rw [decide_eq_false (by omega : ¬ (y : Int) ≥ w), cond_false, decide_eq_false (by omega : ¬ (y : Int) < 0), cond_false, hmin, Option.bind_some]
        · unfold f63
          rw [decide_eq_false (by omega : ¬ (y : Int) ≥ w), cond_false, power59 k (by omega)]
          simp only [Option.bind_some]
          rw [mod27 k _ h]
          rfl
    · -- >>
      by_cases hyw : w ≤ y
      · refine ⟨0, n0, Eq.trans (b := (cond (decide ((y : Int) ≥ w)) (some ((0, ()), ())) (cond (decide ((y : Int) < 0)) none (some ((Int.fdiv (x : Int) (2 ^ (min (y : Int).toNat 64)), ()), ()))) : Option R67).bind fun y => some ((y.1.1 % 2 ^ w, ()), ())) (by kernel_rfl) ?_,
          Eq.trans (b := (f64 k x y w).bind fun y => some ((y.1.1, ()), ())) (by kernel_rfl) ?_⟩
        · rw [decide_eq_true (by omega : (y : Int) ≥ w), cond_true, Option.bind_some, Int.zero_emod]
        · unfold f64
          rw [decide_eq_true (by omega : (y : Int) ≥ w), cond_true, Option.bind_some]
      · have hmin : min ((y : Int).toNat) 64 = y := by omega
        have e2 : ((2 : Int) ^ y) = ((2 ^ y : Nat) : Int) := by simp
        have hp2 : 0 < 2 ^ y := Nat.pow_pos (by decide)
        have hle := Nat.div_le_self x (2 ^ y)
        have hnm : Nm w ((x / 2 ^ y : Nat) : Int) := nm_nat (Nat.lt_of_le_of_lt hle hx)
        refine ⟨_, hnm, Eq.trans (b := (cond (decide ((y : Int) ≥ w)) (some ((0, ()), ())) (cond (decide ((y : Int) < 0)) none (some ((Int.fdiv (x : Int) (2 ^ (min (y : Int).toNat 64)), ()), ()))) : Option R67).bind fun y => some ((y.1.1 % 2 ^ w, ()), ())) (by kernel_rfl) ?_,
          Eq.trans (b := (f64 k x y w).bind fun y => some ((y.1.1, ()), ())) (by kernel_rfl) ?_⟩
        · rw [decide_eq_false (by omega : ¬ (y : Int) ≥ w), cond_false, decide_eq_false (by omega : ¬ (y : Int) < 0), cond_false, hmin, Option.bind_some]
          dsimp only
          rw [Int.fdiv_eq_ediv_of_nonneg _ (by rw [e2]; omega), e2, ← Int.natCast_ediv, hnm.mod]
        · unfold f64
          rw [decide_eq_false (by omega : ¬ (y : Int) ≥ w), cond_false, power59 k (by omega)]
          simp only [Option.bind_some]
          rw [e2, decide_eq_false (by omega), cond_false, Option.bind_some]
          dsimp only
          rw [tdiv_pos (by omega), ← Int.natCast_ediv, hw64 _ hle]
    · -- &
      have hnm : Nm w ((x &&& y : Nat) : Int) := nm_nat (Nat.and_lt_two_pow _ hy)
      refine ⟨_, hnm, Eq.trans (b := some ((ibits .and .i64 (x : Int) y % 2 ^ w, ()), ())) (by kernel_rfl) (by rw [(ibits_nat (by omega) (by omega)).1, hnm.mod]), Eq.trans (b := (f65 k ((0 : Nat) : Int) x y w).bind fun y => some ((y.1.1, ()), ())) (by kernel_rfl) ?_⟩
      rw [bits65 k (by omega) (by omega) hw1 hw2 hx hy]; rfl
    · -- +
      refine ⟨_, nm_mod (w64 ((x : Int) + y)), by kernel_rfl, Eq.trans (b := (f27 k (w64 ((x : Int) + y)) w).bind fun y => some ((y.1.1, ()), ())) (by kernel_rfl) ?_⟩
      rw [mod27 k _ h]; rfl
    · -- -
      refine ⟨_, nm_mod (w64 ((x : Int) - y)), by kernel_rfl, Eq.trans (b := (f27 k (w64 ((x : Int) - y)) w).bind fun y => some ((y.1.1, ()), ())) (by kernel_rfl) ?_⟩
      rw [mod27 k _ h]; rfl
    · -- |
      have hnm : Nm w ((x ||| y : Nat) : Int) := nm_nat (Nat.or_lt_two_pow hx hy)
      refine ⟨_, hnm, Eq.trans (b := some ((ibits .or .i64 (x : Int) y % 2 ^ w, ()), ())) (by kernel_rfl) (by rw [(ibits_nat (by omega) (by omega)).2.1, hnm.mod]), Eq.trans (b := (f65 k ((1 : Nat) : Int) x y w).bind fun y => some ((y.1.1, ()), ())) (by kernel_rfl) ?_⟩
      rw [bits65 k (by omega) (by omega) hw1 hw2 hx hy]; rfl
    · -- ^
      have hnm : Nm w ((x ^^^ y : Nat) : Int) := nm_nat (Nat.xor_lt_two_pow hx hy)
      refine ⟨_, hnm, Eq.trans (b := some ((ibits .xor .i64 (x : Int) y % 2 ^ w, ()), ())) (by kernel_rfl) (by rw [(ibits_nat (by omega) (by omega)).2.2, hnm.mod]), Eq.trans (b := (f65 k ((2 : Nat) : Int) x y w).bind fun y => some ((y.1.1, ()), ())) (by kernel_rfl) ?_⟩
      rw [bits65 k (by omega) (by omega) hw1 hw2 hx hy]; rfl
    · -- ==
      unfold f24
      cases hz : ((x : Int) == y) with
      | true => exact ⟨1, n1, by kernel_rfl, by kernel_rfl⟩
      | false => exact ⟨0, n0, by kernel_rfl, by kernel_rfl⟩
    · -- !=
      unfold f24
      cases hz : ((x : Int) != y) with
      | true => exact ⟨1, n1, by kernel_rfl, by kernel_rfl⟩
      | false => exact ⟨0, n0, by kernel_rfl, by kernel_rfl⟩
    · -- <
      unfold f24
      cases hz : decide ((x : Int) < y) with
      | true => exact ⟨1, n1, by kernel_rfl, by kernel_rfl⟩
      | false => exact ⟨0, n0, by kernel_rfl, by kernel_rfl⟩
    · -- <=
      unfold f24
      cases hz : decide ((x : Int) ≤ y) with
      | true => exact ⟨1, n1, by kernel_rfl, by kernel_rfl⟩
      | false => exact ⟨0, n0, by kernel_rfl, by kernel_rfl⟩
    · -- >
      unfold f24
      cases hz : decide ((x : Int) > y) with
      | true => exact ⟨1, n1, by kernel_rfl, by kernel_rfl⟩
      | false => exact ⟨0, n0, by kernel_rfl, by kernel_rfl⟩
    · -- >=
      unfold f24
      cases hz : decide ((x : Int) ≥ y) with
      | true => exact ⟨1, n1, by kernel_rfl, by kernel_rfl⟩
      | false => exact ⟨0, n0, by kernel_rfl, by kernel_rfl⟩
    · -- &&
      unfold f24
      cases hz : ((x : Int) != 0) with
      | true => cases hz2 : ((y : Int) != 0) with
        | true => exact ⟨1, n1, by kernel_rfl, by kernel_rfl⟩
        | false => exact ⟨0, n0, by kernel_rfl, by kernel_rfl⟩
      | false => exact ⟨0, n0, by kernel_rfl, by kernel_rfl⟩
    · -- ||
      unfold f24
      cases hz : ((x : Int) != 0) with
      | true => exact ⟨1, n1, by kernel_rfl, by kernel_rfl⟩
      | false => cases hz2 : ((y : Int) != 0) with
        | true => exact ⟨1, n1, by kernel_rfl, by kernel_rfl⟩
        | false => exact ⟨0, n0, by kernel_rfl, by kernel_rfl⟩
  · have hb : ∀ c ∈ signs, (op.toList == c) = false := fun c hc => beq_eq_false_iff_ne.2 fun h => hm (h ▸ hc)
    simp only [signs, List.mem_cons, List.not_mem_nil, or_false, forall_eq_or_imp, forall_eq] at hb
    obtain ⟨h1, h2, h3, h4, h5, h6, h7, h8, h9, h10, h11, h12, h13, h14, h15, h16, h17, h18⟩ := hb
    refine ⟨0, n0, ?_, ?_⟩
    · unfold f67
      simp only [lit1, lit2, h1, h2, h3, h4, h5, h6, h7, h8, h9, h10, h11, h12, h13, h14, h15, h16, h17, h18, cond_false, Option.bind_some, Int.zero_emod]
    · unfold f24
      simp only [lit1, lit2, h1, h2, h3, h4, h5, h6, h7, h8, h9, h10, h11, h12, h13, h14, h15, h16, h17, h18, cond_false, Option.bind_some]
end Term
end Go.Proofs.Ytepfhidiahleiaa.M
