/-
Constants and inputs: the plain law. For every input, no condition.
-/
import Derived.Test.YtgljnnokifggkaaPureAigMakes
set_option linter.unusedVariables false
set_option linter.unusedSimpArgs false
set_option maxRecDepth 100000
namespace Go.Proofs.Ytgljnnokifggkaa.M
open Go Go.Proofs.Ytgljnnokifggkaa.Vm Go.Proofs.Ytgljnnokifggkaa.Pl
namespace Vec
open Aig
theorem awake40 (k : Nat) : f40 (k + 20) () = some ((true, ()), ()) := by kernel_rfl
theorem awake40E : E fun k => f40 k () = some ((true, ()), ()) := ⟨20, fun k hk => by obtain ⟨j, rfl⟩ : ∃ j, k = j + 20 := ⟨k - 20, by omega⟩; exact awake40 j⟩
/-- The bit at a place. -/
def bit (n : Int) (i : Nat) : Int := n / 2 ^ i % 2
theorem two_pow_pos (i : Nat) : (0 : Int) < 2 ^ i := Int.pow_pos (by decide)
theorem bit01 (n : Int) (i : Nat) : bit n i = 0 ∨ bit n i = 1 := by unfold bit; omega
theorem ibits_and1 (x : Int) : ibits .and .i64 x 1 = x % 2 := by
  have e1 : (BitVec.ofInt 64 x &&& BitVec.ofInt 64 1).toNat = (x % 2).toNat := by
    rw [BitVec.toNat_and]
    have h1 : (BitVec.ofInt 64 1).toNat = 1 := rfl
    rw [h1, Nat.and_one_is_mod, BitVec.toNat_ofInt]
    omega
  show IntKind.i64.wrap ((BitVec.ofInt 64 x &&& BitVec.ofInt 64 1).toNat : Int) = _
  rw [e1]
  have := w64_id (n := (((x % 2).toNat : Nat) : Int)) (by omega) (by omega)
  unfold w64 at this
  rw [this]; omega
theorem ibits_or_pow {a : Int} {i : Nat} (h0 : 0 ≤ a) (h : a < 2 ^ i) (hi : i ≤ 16) : ibits .or .i64 a (2 ^ i) = a + 2 ^ i := by
  obtain ⟨n, rfl⟩ := Int.eq_ofNat_of_zero_le h0
  have hn : n < 2 ^ i := by exact_mod_cast h
  have hp : 2 ^ i ≤ 65536 := by
    have := Nat.pow_le_pow_right (show 0 < 2 by omega) hi
    simpa using this
  have e2 : ((2 : Int) ^ i) = ((2 ^ i : Nat) : Int) := by simp
  rw [e2]
  have e1 : (BitVec.ofInt 64 (n : Int) ||| BitVec.ofInt 64 ((2 ^ i : Nat) : Int)).toNat = n + 2 ^ i := by
    rw [BitVec.toNat_or, BitVec.toNat_ofInt, BitVec.toNat_ofInt]
    have h1 : ((n : Int) % 2 ^ 64).toNat = n := by omega
    have h2 : ((((2 ^ i : Nat) : Int)) % 2 ^ 64).toNat = 2 ^ i := by
      generalize 2 ^ i = q at hp hn; omega
    have c1 : (((2 ^ 64 : Nat)) : Int) = 2 ^ 64 := rfl
    rw [c1, h1, h2, Nat.or_comm, Nat.add_comm]
    have h3 := Nat.two_pow_add_eq_or_of_lt hn 1
    rw [Nat.mul_one] at h3
    exact h3.symm
  show IntKind.i64.wrap ((BitVec.ofInt 64 (n : Int) ||| BitVec.ofInt 64 ((2 ^ i : Nat) : Int)).toNat : Int) = _
  rw [e1]
  have := w64_id (n := ((n + 2 ^ i : Nat) : Int)) (by omega) (by generalize 2 ^ i = q at hp hn; omega)
  unfold w64 at this
  rw [this]; simp
theorem const_loop (k : Nat) (n : Int) {w : Nat} (hw : w ≤ 16) : ∀ (d i : Nat) (a : List Int), w - i = d → a.length = i → i ≤ w → ∀ j, d < j → l37_122 k j n a w i = some ((a ++ (List.range' i d).map (bit n), ()), ()) := by
  intro d
  induction d with
  | zero =>
    intro i a hi ha hiw j hj
    obtain ⟨j, rfl, _⟩ := succ_of (n := 0) (by omega : 0 + 1 ≤ j)
    show b37_122 k (l37_122 k j) n a w i = _
    unfold b37_122
    rw [decide_eq_false (by omega : ¬ (i : Int) < w)]
    simp
  | succ d ih =>
    intro i a hi ha hiw j hj
    obtain ⟨j, rfl, hj2⟩ := succ_of (by omega : d + 1 + 1 ≤ j)
    show b37_122 k (l37_122 k j) n a w i = _
    have hw1 : w64 ((i : Int) + 1) = ((i + 1 : Nat) : Int) := by rw [w_id (by omega) (by omega)]; omega
    have hmin : min ((i : Int).toNat) 64 = i := by omega
    unfold b37_122
    rw [decide_eq_true (by omega : (i : Int) < w), cond_true, decide_eq_false (by omega : ¬ (i : Int) < 0), cond_false, gd_dec (by unfold room; omega), hw1, hmin, ibits_and1, Int.fdiv_eq_ediv_of_nonneg _ (Int.le_of_lt (two_pow_pos i)),
      ih (i + 1) _ (by omega) (by simp; omega) (by omega) j hj2, Option.bind_some, List.append_assoc, List.range'_succ]
    rfl
def constS (n : Int) (w : Nat) : List Int := (List.range w).map (bit n)
theorem const37 (k : Nat) (n : Int) {w : Nat} (h1 : 1 ≤ w) (hw : w ≤ 16) (hk : 16 < k) : f37 k n w = some ((constS n w, ()), ()) := by
  unfold f37
  have := const_loop k n hw w 0 [] (by omega) rfl (by omega) k (by omega)
  rw [show ((0 : Nat) : Int) = 0 from rfl] at this
  rw [decide_eq_false (by omega : ¬ (w : Int) < 1), decide_eq_false (by omega : ¬ (w : Int) > 16), cond_false, cond_false, this]
  simp [constS, List.range_eq_range']
def insS (w : Nat) : List Int := (List.range w).map fun (i : Nat) => (2 * i + 2 : Int)
theorem in_loop (k : Nat) {w : Nat} (hw : w ≤ 16) : ∀ (d i : Nat) (a : List Int) (g : List D_Gate) (m : Mp), w - i = d → a.length = i → g.length = i → i ≤ w → ∀ j, d < j →
    ∃ g', g'.length = w ∧ l39_122 k j a w i g m = some ((a ++ (List.range' i d).map (fun (i : Nat) => (2 * i + 2 : Int)), ()), ((g', (), ()), m, ())) := by
  intro d
  induction d with
  | zero =>
    intro i a g m hi ha hg hiw j hj
    obtain ⟨j, rfl, _⟩ := succ_of (n := 0) (by omega : 0 + 1 ≤ j)
    refine ⟨g, by omega, ?_⟩
    show b39_122 k (l39_122 k j) a w i g m = _
    unfold b39_122
    rw [decide_eq_false (by omega : ¬ (i : Int) < w)]
    simp
  | succ d ih =>
    intro i a g m hi ha hg hiw j hj
    obtain ⟨j, rfl, hj2⟩ := succ_of (by omega : d + 1 + 1 ≤ j)
    have hw1 : w64 ((i : Int) + 1) = ((i + 1 : Nat) : Int) := by rw [w_id (by omega) (by omega)]; omega
    obtain ⟨g', h1, h2⟩ := ih (i + 1) (a ++ [(2 * i + 2 : Int)]) (g ++ [inp]) m (by omega) (by simp; omega) (by simp; omega) (by omega) j hj2
    refine ⟨g', h1, ?_⟩
    show b39_122 k (l39_122 k j) a w i g m = _
    unfold b39_122
    rw [decide_eq_true (by omega : (i : Int) < w), cond_true, in25 k (by omega), Option.bind_some, gd_dec (by unfold room; omega), hw1]
    dsimp only
    rw [hg, h2, Option.bind_some, List.append_assoc, List.range'_succ]
    rfl
theorem index_loop (k : Nat) {a : List Int} (ha : a.length ≤ 16) (h : ∀ x ∈ a, x ≠ -1) : ∀ (d i : Nat), a.length - i = d → ∀ j, d < j → l118_26 k j a (-1) a.length i = some (.inl ((), ())) := by
  intro d
  induction d with
  | zero =>
    intro i hi j hj
    obtain ⟨j, rfl, _⟩ := succ_of (n := 0) (by omega : 0 + 1 ≤ j)
    show b118_26 k (l118_26 k j) a (-1) a.length i = _
    unfold b118_26
    rw [decide_eq_false (by omega : ¬ (i : Int) < a.length)]
    rfl
  | succ d ih =>
    intro i hi j hj
    obtain ⟨j, rfl, hj2⟩ := succ_of (by omega : d + 1 + 1 ≤ j)
    show b118_26 k (l118_26 k j) a (-1) a.length i = _
    have hw1 : w64 ((i : Int) + 1) = ((i + 1 : Nat) : Int) := by rw [w_id (by omega) (by omega)]; omega
    have hx : a[i]? = some a[i] := List.getElem?_eq_getElem (by omega)
    have hne := h a[i] (List.getElem_mem _)
    unfold b118_26
    rw [decide_eq_true (by omega : (i : Int) < a.length), cond_true, ix_nat hx, beq_int, decide_eq_false (by omega : ¬ (-1 : Int) = a[i]), cond_false, hw1, ih (i + 1) (by omega) j hj2]
    rfl
theorem whole92 (k : Nat) {a : List Int} (ha : a.length ≤ 16) (h : ∀ x ∈ a, x ≠ -1) (hk : 16 < k) : f92 k a = some ((a, ()), ()) := by
  unfold f92 f112 f118
  have := index_loop k ha h a.length 0 (by omega) k (by omega)
  rw [show ((0 : Nat) : Int) = 0 from rfl] at this
  rw [this]
  rfl
theorem in39 (k : Nat) {w : Nat} (h1 : 1 ≤ w) (hw : w ≤ 16) (hk : 16 < k) : ∃ g m, g.length = w ∧ f39 k w [] [] = some ((insS w, ()), ((g, (), ()), m, ())) := by
  obtain ⟨g', h2, h3⟩ := in_loop k hw w 0 [] [] [] (by omega) rfl rfl (by omega) k (by omega)
  refine ⟨g', [], h2, ?_⟩
  unfold f39
  rw [show ((0 : Nat) : Int) = 0 from rfl] at h3
  have e : (List.range' 0 w).map (fun (i : Nat) => (2 * i + 2 : Int)) = insS w := by rw [insS, List.range_eq_range']
  rw [List.nil_append, e] at h3
  rw [decide_eq_false (by omega : ¬ (w : Int) < 1), decide_eq_false (by omega : ¬ (w : Int) > 16), cond_false, cond_false, h3]
  simp only [Option.bind_some]
  rw [whole92 k (by simp [insS]; omega) (fun x hx => by unfold insS at hx; obtain ⟨i, _, rfl⟩ := List.mem_map.1 hx; omega) hk]
  rfl
theorem power55 (k : Nat) {w : Nat} (hw : w ≤ 16) : f55 k w = some (((2 ^ w : Int), ()), ()) := by
  unfold f55
  have hp : (2 : Int) ^ w ≤ 65536 := by
    have := Nat.pow_le_pow_right (show 0 < 2 by omega) hw
    have e2 : ((2 : Int) ^ w) = ((2 ^ w : Nat) : Int) := by simp
    rw [e2]; omega
  have hmin : min ((w : Int).toNat) 64 = w := by omega
  have h0 := two_pow_pos w
  rw [decide_eq_false (by omega : ¬ (w : Int) < 0), cond_false, hmin, Int.one_mul, w_id (by omega) (by omega)]
theorem mod42 (k : Nat) (n : Int) {w : Nat} (hw : w ≤ 16) : f42 k n w = some ((n % 2 ^ w, ()), ()) := by
  unfold f42
  have hp : (2 : Int) ^ w ≤ 65536 := by
    have := Nat.pow_le_pow_right (show 0 < 2 by omega) hw
    have e2 : ((2 : Int) ^ w) = ((2 ^ w : Nat) : Int) := by simp
    rw [e2]; omega
  have h0 := two_pow_pos w
  rw [power55 k hw]
  simp only [Option.bind_some]
  generalize (2 : Int) ^ w = q at hp h0
  rw [decide_eq_false (by omega : ¬ q = 0), cond_false]
  have h1 := Int.emod_nonneg n (show q ≠ 0 by omega)
  have h2 := Int.emod_lt_of_pos n h0
  by_cases hn : 0 ≤ n
  · rw [tmod_pos hn, decide_eq_false (by omega : ¬ n % q < 0), cond_false]
  · have ht : Int.tmod n q = -((-n) % q) := by
      have := Int.neg_tmod (-n) q
      rw [Int.neg_neg] at this
      rw [this, tmod_pos (by omega)]
    have h3 := Int.emod_nonneg (-n) (show q ≠ 0 by omega)
    have h4 := Int.emod_lt_of_pos (-n) h0
    have h5 := Int.mul_ediv_add_emod n q
    have h6 := Int.mul_ediv_add_emod (-n) q
    rw [ht]
    by_cases hz : (-n) % q = 0
    · rw [hz, decide_eq_false (by omega), cond_false]
      have : n % q = 0 := by
        have hd : q ∣ -n := Int.dvd_of_emod_eq_zero hz
        exact Int.emod_eq_zero_of_dvd (Int.dvd_neg.1 hd)
      rw [this]; rfl
    · rw [decide_eq_true (by omega), cond_true, w_id (by omega) (by omega)]
      have : n % q = -((-n) % q) + q := by
        have e : n % q = (-((-n) % q) + q) % q := by
          have e1 : n = -((-n) % q) + q + q * (-((-n) / q) - 1) := by
            rw [Int.mul_sub, Int.mul_neg]; omega
          conv => lhs; rw [e1]
          rw [Int.add_mul_emod_self_left]
        rw [e, Int.emod_eq_of_lt (by omega) (by omega)]
      rw [this]
theorem bit_loop (k : Nat) {b : Nat} (hb : b ≤ 16) : ∀ (d i : Nat) (n : Int), 0 ≤ n → n ≤ 65536 → b - i = d → ∀ j, d < j → l41_26 k j n b i = some ((n / 2 ^ d, ()), ()) := by
  intro d
  induction d with
  | zero =>
    intro i n h0 h1 hi j hj
    obtain ⟨j, rfl, _⟩ := succ_of (n := 0) (by omega : 0 + 1 ≤ j)
    show b41_26 k (l41_26 k j) n b i = _
    unfold b41_26
    rw [decide_eq_false (by omega : ¬ (i : Int) < b)]
    simp
  | succ d ih =>
    intro i n h0 h1 hi j hj
    obtain ⟨j, rfl, hj2⟩ := succ_of (by omega : d + 1 + 1 ≤ j)
    show b41_26 k (l41_26 k j) n b i = _
    have hw1 : w64 ((i : Int) + 1) = ((i + 1 : Nat) : Int) := by rw [w_id (by omega) (by omega)]; omega
    unfold b41_26
    rw [decide_eq_true (by omega : (i : Int) < b), cond_true, tdiv_pos h0, w_id (n := n / 2) (by omega) (by omega), hw1, ih (i + 1) (n / 2) (by omega) (by omega) (by omega) j hj2, Option.bind_some]
    have : n / 2 / 2 ^ d = n / 2 ^ (d + 1) := by
      rw [Int.ediv_ediv_of_nonneg (by decide), Int.pow_succ, Int.mul_comm]
    rw [this]
theorem bit41 (k : Nat) {n : Int} {i : Nat} (h0 : 0 ≤ n) (h1 : n ≤ 65536) (hi : i ≤ 16) (hk : 16 < k) : f41 k n i = some ((bit n i, ()), ()) := by
  unfold f41
  have := bit_loop k hi i 0 n h0 h1 (by omega) k (by omega)
  rw [show ((0 : Nat) : Int) = 0 from rfl] at this
  rw [this]
  simp only [Option.bind_some]
  rw [tmod_pos (Int.ediv_nonneg h0 (Int.le_of_lt (two_pow_pos i)))]
  rfl
theorem bit_mod (n : Int) {i w : Nat} (h : i < w) : bit (n % 2 ^ w) i = bit n i := by
  unfold bit
  obtain ⟨d, rfl⟩ : ∃ d, w = i + (d + 1) := ⟨w - i - 1, by omega⟩
  have hp := two_pow_pos i
  have e1 : (2 : Int) ^ (i + (d + 1)) = 2 ^ i * (2 * 2 ^ d) := by rw [Int.pow_add, Int.pow_succ, Int.mul_comm (2 ^ d) 2]
  have e2 : n % 2 ^ (i + (d + 1)) = n - 2 ^ i * (2 * 2 ^ d) * (n / 2 ^ (i + (d + 1))) := by
    have := Int.mul_ediv_add_emod n (2 ^ (i + (d + 1)))
    rw [← e1]; omega
  rw [e2]
  have e3 : n - 2 ^ i * (2 * 2 ^ d) * (n / 2 ^ (i + (d + 1))) = n + 2 ^ i * (-(2 * 2 ^ d * (n / 2 ^ (i + (d + 1))))) := by
    rw [Int.mul_neg, Int.sub_eq_add_neg, Int.mul_assoc (2 ^ i)]
  rw [e3, Int.add_mul_ediv_left _ _ (Int.ne_of_gt hp)]
  have e4 : -(2 * 2 ^ d * (n / 2 ^ (i + (d + 1)))) = 2 * (-(2 ^ d * (n / 2 ^ (i + (d + 1))))) := by
    rw [Int.mul_neg, Int.mul_assoc]
  rw [e4, Int.add_mul_emod_self_left]
theorem mod_succ (n : Int) (i : Nat) : n % 2 ^ (i + 1) = n % 2 ^ i + bit n i * 2 ^ i := by
  unfold bit
  have hp := two_pow_pos i
  have h1 := Int.mul_ediv_add_emod n (2 ^ i)
  have h2 := Int.mul_ediv_add_emod (n / 2 ^ i) 2
  have hm0 := Int.emod_nonneg n (Int.ne_of_gt hp)
  have hm1 := Int.emod_lt_of_pos n hp
  have e : n = (n % 2 ^ i + n / 2 ^ i % 2 * 2 ^ i) + 2 ^ (i + 1) * (n / 2 ^ i / 2) := by
    rw [Int.pow_succ]
    have e1 : 2 ^ i * 2 * (n / 2 ^ i / 2) = 2 ^ i * (2 * (n / 2 ^ i / 2)) := by rw [Int.mul_assoc]
    rw [e1]
    have e2 : n / 2 ^ i % 2 * 2 ^ i = 2 ^ i * (n / 2 ^ i % 2) := Int.mul_comm _ _
    rw [e2, Int.add_assoc, ← Int.mul_add]
    have e3 : n / 2 ^ i % 2 + 2 * (n / 2 ^ i / 2) = n / 2 ^ i := by omega
    rw [e3]; omega
  conv => lhs; rw [e]
  rw [Int.add_mul_emod_self_left]
  have hq : n / 2 ^ i % 2 = 0 ∨ n / 2 ^ i % 2 = 1 := by omega
  apply Int.emod_eq_of_lt
  · rcases hq with h | h <;> rw [h] <;> omega
  · rw [Int.pow_succ]; rcases hq with h | h <;> rw [h] <;> omega
theorem number_loop (k : Nat) (n : Int) {w : Nat} (hw : w ≤ 16) : ∀ (d i : Nat), w - i = d → i ≤ w → ∀ j, d < j → l43_122 k j [] (n % 2 ^ i) (constS n w) w i = some ((n % 2 ^ w, ()), ()) := by
  intro d
  induction d with
  | zero =>
    intro i hi hiw j hj
    obtain ⟨j, rfl, _⟩ := succ_of (n := 0) (by omega : 0 + 1 ≤ j)
    show b43_122 k (l43_122 k j) [] (n % 2 ^ i) (constS n w) w i = _
    unfold b43_122
    rw [decide_eq_false (by omega : ¬ (i : Int) < w), show i = w by omega]
    rfl
  | succ d ih =>
    intro i hi hiw j hj
    obtain ⟨j, rfl, hj2⟩ := succ_of (by omega : d + 1 + 1 ≤ j)
    show b43_122 k (l43_122 k j) [] (n % 2 ^ i) (constS n w) w i = _
    have hw1 : w64 ((i : Int) + 1) = ((i + 1 : Nat) : Int) := by rw [w_id (by omega) (by omega)]; omega
    have hx : (constS n w)[i]? = some (bit n i) := by
      unfold constS
      rw [List.getElem?_map, List.getElem?_range (by omega)]; rfl
    have hmin : min ((i : Int).toNat) 64 = i := by omega
    have hp := two_pow_pos i
    have hp2 : (2 : Int) ^ i ≤ 65536 := by
      have := Nat.pow_le_pow_right (show 0 < 2 by omega) (show i ≤ 16 by omega)
      have e2 : ((2 : Int) ^ i) = ((2 ^ i : Nat) : Int) := by simp
      rw [e2]; omega
    have hm0 := Int.emod_nonneg n (Int.ne_of_gt hp)
    have hm1 := Int.emod_lt_of_pos n hp
    have hs := mod_succ n i
    have hrec := ih (i + 1) (by omega) (by omega) j hj2
    unfold b43_122
    rw [decide_eq_true (by omega : (i : Int) < w), cond_true, ix_nat hx]
    have f34s : f34 k [] (bit n i) = some ((decide (bit n i = 1), ()), ()) := by
      rcases bit01 n i with h | h <;> rw [h] <;> rfl
    rw [f34s]
    simp only [Option.bind_some]
    rcases bit01 n i with h | h
    · rw [h] at hs ⊢
      rw [show decide ((0 : Int) = 1) = false from rfl, cond_false, hw1]
      rw [hs] at hrec
      simp only [Int.zero_mul, Int.add_zero] at hrec
      rw [hrec]; rfl
    · rw [h] at hs ⊢
      rw [show decide ((1 : Int) = 1) = true from rfl, cond_true, decide_eq_false (by omega : ¬ (i : Int) < 0), cond_false, hmin, Int.one_mul, w_id (n := 2 ^ i) (by omega) (by omega), ibits_or_pow hm0 hm1 (by omega), hw1]
      rw [hs] at hrec
      simp only [Int.one_mul] at hrec
      rw [hrec]; rfl
theorem bits_loop (k : Nat) (n : Int) {w : Nat} (hw : w ≤ 16) (hk : 16 < k) : ∀ (d i : Nat), w - i = d → ∀ j, d < j → l8_1018 k j n w (constS n w) (insS w) i = some (.inl ((), ())) := by
  intro d
  induction d with
  | zero =>
    intro i hi j hj
    obtain ⟨j, rfl, _⟩ := succ_of (n := 0) (by omega : 0 + 1 ≤ j)
    show b8_1018 k (l8_1018 k j) n w (constS n w) (insS w) i = _
    unfold b8_1018
    rw [decide_eq_false (by omega : ¬ (i : Int) < w)]
    rfl
  | succ d ih =>
    intro i hi j hj
    obtain ⟨j, rfl, hj2⟩ := succ_of (by omega : d + 1 + 1 ≤ j)
    show b8_1018 k (l8_1018 k j) n w (constS n w) (insS w) i = _
    have hw1 : w64 ((i : Int) + 1) = ((i + 1 : Nat) : Int) := by rw [w_id (by omega) (by omega)]; omega
    have hx : (constS n w)[i]? = some (bit n i) := by
      unfold constS
      rw [List.getElem?_map, List.getElem?_range (by omega)]; rfl
    have hy : (insS w)[i]? = some (2 * i + 2 : Int) := by
      unfold insS
      rw [List.getElem?_map, List.getElem?_range (by omega)]; rfl
    have hp := two_pow_pos w
    have hp2 : (2 : Int) ^ w ≤ 65536 := by
      have := Nat.pow_le_pow_right (show 0 < 2 by omega) hw
      have e2 : ((2 : Int) ^ w) = ((2 ^ w : Nat) : Int) := by simp
      rw [e2]; omega
    have hm0 := Int.emod_nonneg n (Int.ne_of_gt hp)
    have hm1 := Int.emod_lt_of_pos n hp
    unfold b8_1018
    rw [decide_eq_true (by omega : (i : Int) < w), cond_true, ix_nat hx, mod42 k n hw]
    simp only [Option.bind_some]
    rw [bit41 k hm0 (by omega) (by omega) hk, bit_mod n (by omega)]
    simp only [Option.bind_some, bne_self_eq_false, cond_false, ix_nat hy]
    rw [w_id (n := 2 * (i : Int)) (by omega) (by omega), w_id (by omega) (by omega), hw1, ih (i + 1) (by omega) j hj2]
    simp
end Vec
open Aig Vec in
theorem Pure.VecConsts (n : Int) (_ : Fit i64 n) (w : Int) (_ : Fit i64 w) : ∃ k, f8 k n w = some ((true, ()), ()) := by
  refine (awake40E.mono2 (E.ge 100) fun k e hk => ?_).ex
  have h38 : f38 k () = some (((), ()), (([], (), ()), [], ())) := rfl
  unfold f8
  by_cases h1 : w < 1
  · have h37 : f37 k n w = some (([], ()), ()) := by unfold f37; rw [decide_eq_true h1]; rfl
    have h39 : f39 k w [] [] = some (([], ()), (([], (), ()), [], ())) := by unfold f39; rw [decide_eq_true h1]; rfl
    simp only [h37, h38, h39, Option.bind_some, decide_eq_true h1, cond_true, e]
    rfl
  by_cases h2 : w > 16
  · have h37 : f37 k n w = some (([], ()), ()) := by unfold f37; rw [decide_eq_false h1, decide_eq_true h2]; rfl
    have h39 : f39 k w [] [] = some (([], ()), (([], (), ()), [], ())) := by unfold f39; rw [decide_eq_false h1, decide_eq_true h2]; rfl
    simp only [h37, h38, h39, Option.bind_some, decide_eq_false h1, decide_eq_true h2, cond_true, cond_false, e]
    rfl
  obtain ⟨w, rfl⟩ : ∃ v : Nat, w = v := ⟨w.toNat, by omega⟩
  obtain ⟨g, m, hg, h39⟩ := in39 k (w := w) (by omega) (by omega) (by omega)
  have h37 := const37 k n (w := w) (by omega) (by omega) (by omega)
  have hbl := bits_loop k n (w := w) (by omega) (by omega) w 0 (by omega) k (by omega)
  rw [show ((0 : Nat) : Int) = 0 from rfl] at hbl
  have hnum : f43 k [] (constS n w) = some ((n % 2 ^ w, ()), ()) := by
    unfold f43
    have hl : (constS n w).length = w := by simp [constS]
    have := number_loop k n (w := w) (by omega) w 0 (by omega) (by omega) k (by omega)
    rw [show ((0 : Nat) : Int) = 0 from rfl, Int.pow_zero, Int.emod_one] at this
    rw [hl, decide_eq_false (by omega : ¬ (w : Int) > 16), cond_false, this]
    rfl
  have l1 : (((constS n w).length : Nat) : Int) = w := by simp [constS]
  have l2 : (((insS w).length : Nat) : Int) = w := by simp [insS]
  have h20 : f20 k g m = some (((g.length : Int), ()), ()) := rfl
  simp only [h37, h38, h39, Option.bind_some, decide_eq_false h1, decide_eq_false h2, cond_false, l1, l2, bne_self_eq_false, h20, hg, hbl, hnum, mod42 k n (show w ≤ 16 by omega), beq_self_eq_true, cond_true, e]
end Go.Proofs.Ytgljnnokifggkaa.M
