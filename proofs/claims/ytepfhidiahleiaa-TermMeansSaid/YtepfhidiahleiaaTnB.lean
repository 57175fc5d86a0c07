/-
Terms: what a binary sign is worth, by the program and by the document.
-/
import Derived.Test.YtepfhidiahleiaaTnA
set_option linter.unusedVariables false
set_option linter.unusedSimpArgs false
set_option maxRecDepth 100000
namespace Go.Proofs.Ytepfhidiahleiaa.M
open Go Go.Proofs.Ytepfhidiahleiaa.Vm Go.Proofs.Ytepfhidiahleiaa.Pl
namespace Term
theorem beq_int (a b : Int) : (a == b) = decide (a = b) := by
  by_cases h : a = b
  · subst h; simp
  · simp [h]
theorem nm_nat {w : Nat} {x : Nat} (h : x < 2 ^ w) : Nm w (x : Int) := ⟨by omega, by
  have e : ((2 : Int) ^ w) = ((2 ^ w : Nat) : Int) := by simp
  rw [e]; omega⟩
theorem nm_bool {w : Nat} (h : Wd w) : Nm w 0 ∧ Nm w 1 := by
  obtain ⟨e, h1, h2⟩ := h.pw
  unfold Nm; rw [e]; omega
theorem apply_eq (k : Nat) (hk : 200 ≤ k) {w : Nat} (h : Wd w) {a b : Int} (ha : Nm w a) (hb : Nm w b) (op : ByteArray) : ∃ n : Int, Nm w n ∧ f25 k w op a b = some ((n, ()), ()) ∧ f24 k w op a b = some ((n, ()), ()) := by
  obtain ⟨e, hp1, hp⟩ := h.pw
  obtain ⟨n0, n1⟩ := nm_bool h
  have hw1 := h.lo
  have hw2 := h.hi
  obtain ⟨x, rfl⟩ := Int.eq_ofNat_of_zero_le ha.1
  obtain ⟨y, rfl⟩ := Int.eq_ofNat_of_zero_le hb.1
  have hx : x < 2 ^ w := by have := ha.2; rw [e] at this; omega
  have hy : y < 2 ^ w := by have := hb.2; rw [e] at this; omega
  have hw64 : ∀ q : Nat, q ≤ x → w64 (q : Int) = q := fun q hq => w64_id (by omega) (by omega)
  have h25 : f25 k w op x y = cond (op.toList == (ByteArray.mk #[61, 61]).toList) ((f66 k ((x : Int) == y)).bind fun y => some ((y.1.1, ()), ()))
      (cond (op.toList == (ByteArray.mk #[33, 61]).toList) ((f66 k ((x : Int) != y)).bind fun y => some ((y.1.1, ()), ()))
      (cond (op.toList == (ByteArray.mk #[60]).toList) ((f66 k (decide ((x : Int) < y))).bind fun y => some ((y.1.1, ()), ()))
      (cond (op.toList == (ByteArray.mk #[60, 61]).toList) ((f66 k (decide ((x : Int) ≤ y))).bind fun y => some ((y.1.1, ()), ()))
      (cond (op.toList == (ByteArray.mk #[62]).toList) ((f66 k (decide ((x : Int) > y))).bind fun y => some ((y.1.1, ()), ()))
      (cond (op.toList == (ByteArray.mk #[62, 61]).toList) ((f66 k (decide ((x : Int) ≥ y))).bind fun y => some ((y.1.1, ()), ()))
      (cond (op.toList == (ByteArray.mk #[38, 38]).toList) (cond ((x : Int) != 0) ((f66 k ((y : Int) != 0)).bind fun y => some ((y.1.1, ()), ())) ((f66 k false).bind fun y => some ((y.1.1, ()), ())))
      (cond (op.toList == (ByteArray.mk #[124, 124]).toList) (cond ((x : Int) != 0) ((f66 k true).bind fun y => some ((y.1.1, ()), ())) ((f66 k ((y : Int) != 0)).bind fun y => some ((y.1.1, ()), ())))
        ((f67 k w op x y).bind fun y => some ((y.1.1 % 2 ^ w, ()), ())))))))))  := by
    unfold f25
    rw [wide40 k h, decide_eq_false (by omega : ¬ (w : Int) < 0)]
    simp only [Option.bind_some, Bool.not_true, cond_false, mask_txt h, and_mask h, ha.mod, hb.mod]
  rw [h25]
  by_cases hm : op.toList ∈ signs
  · simp only [signs, List.mem_cons, List.not_mem_nil, or_false] at hm
    rcases hm with h' | h' | h' | h' | h' | h' | h' | h' | h' | h' | h' | h' | h' | h' | h' | h' | h' | h' <;> have := of_list h' <;> subst this <;> clear h25 h'
    · -- *
      refine ⟨_, nm_mod (w64 ((x : Int) * y)), by kernel_rfl, Eq.trans (b := (f27 k (w64 ((x : Int) * y)) w).bind fun y => some ((y.1.1, ()), ())) (by kernel_rfl) ?_⟩
      rw [mod27 k _ h]; rfl
    · -- /
      by_cases hy0 : y = 0
      · subst hy0
        have hn : (-1 : Int) % 2 ^ w = 2 ^ w - 1 := by
          rw [e]
          generalize 2 ^ w = q at hp hp1
          have : (-1 : Int) = ((q : Int) - 1) + q * (-1) := by omega
          rw [this, Int.add_mul_emod_self_left, Int.emod_eq_of_lt (by omega) (by omega)]
        refine ⟨_, nm_mod (-1), by kernel_rfl, Eq.trans (b := ((f59 k w).bind fun y => some ((w64 (y.1.1 - 1), ()), ()) : Option R61).bind fun y => some ((y.1.1, ()), ())) (by kernel_rfl) ?_⟩
        rw [power59 k hw2, hn]
        simp only [Option.bind_some]
        rw [e]
        generalize 2 ^ w = q at hp hp1
        rw [w64_id (by omega) (by omega)]
      · have hq : w64 (Int.tdiv (x : Int) y) = ((x / y : Nat) : Int) := by
          have := Nat.div_le_self x y
          rw [tdiv_pos (by omega), ← Int.natCast_ediv, hw64 _ this]
        have hnm : Nm w ((x / y : Nat) : Int) := nm_nat (Nat.lt_of_le_of_lt (Nat.div_le_self x y) hx)
        refine ⟨_, hnm, Eq.trans (b := (cond ((y : Int) == 0) (some (((-1), ()), ())) (cond (decide ((y : Int) = 0)) none (some ((w64 (Int.tdiv (x : Int) y), ()), ()))) : Option R67).bind fun y => some ((y.1.1 % 2 ^ w, ()), ())) (by kernel_rfl) ?_,
          Eq.trans (b := (cond ((y : Int) == 0) ((f59 k w).bind fun y => some ((w64 (y.1.1 - 1), ()), ())) (cond (decide ((y : Int) = 0)) none (some ((w64 (Int.tdiv (x : Int) y), ()), ()))) : Option R61).bind fun y => some ((y.1.1, ()), ())) (by kernel_rfl) ?_⟩
        · rw [beq_int, decide_eq_false (by omega : ¬ (y : Int) = 0), cond_false, cond_false, hq, Option.bind_some, hnm.mod]
        · rw [beq_int, decide_eq_false (by omega : ¬ (y : Int) = 0), cond_false, cond_false, hq, Option.bind_some]
    · -- %
      by_cases hy0 : y = 0
      · subst hy0
        refine ⟨_, nm_mod x, by kernel_rfl, ?_⟩
        rw [ha.mod]; kernel_rfl
      · have hq : Int.tmod (x : Int) y = ((x % y : Nat) : Int) := by rw [tmod_pos (by omega)]; rfl
        have hnm : Nm w ((x % y : Nat) : Int) := nm_nat (Nat.lt_of_le_of_lt (Nat.mod_le x y) hx)
        refine ⟨_, hnm, Eq.trans (b := (cond ((y : Int) == 0) (some (((x : Int), ()), ())) (cond (decide ((y : Int) = 0)) none (some ((Int.tmod (x : Int) y, ()), ()))) : Option R67).bind fun y => some ((y.1.1 % 2 ^ w, ()), ())) (by kernel_rfl) ?_,
          Eq.trans (b := (cond ((y : Int) == 0) (some (((x : Int), ()), ())) (cond (decide ((y : Int) = 0)) none (some ((Int.tmod (x : Int) y, ()), ()))) : Option R62).bind fun y => some ((y.1.1, ()), ())) (by kernel_rfl) ?_⟩
        · rw [beq_int, decide_eq_false (by omega : ¬ (y : Int) = 0), cond_false, cond_false, hq, Option.bind_some, hnm.mod]
        · rw [beq_int, decide_eq_false (by omega : ¬ (y : Int) = 0), cond_false, cond_false, hq, Option.bind_some]
    · -- <<
      by_cases hyw : w ≤ y
      · refine ⟨0, n0, Eq.trans (b := (cond (decide ((y : Int) ≥ w)) (some ((0, ()), ())) (cond (decide ((y : Int) < 0)) none (some ((w64 ((x : Int) * 2 ^ (min (y : Int).toNat 64)), ()), ()))) : Option R67).bind fun y => some ((y.1.1 % 2 ^ w, ()), ())) (by kernel_rfl) ?_,
          Eq.trans (b := (f63 k x y w).bind fun y => some ((y.1.1, ()), ())) (by kernel_rfl) ?_⟩
        · rw [decide_eq_true (by omega : (y : Int) ≥ w), cond_true, Option.bind_some, Int.zero_emod]
        · unfold f63
          rw [decide_eq_true (by omega : (y : Int) ≥ w), cond_true, Option.bind_some]
      · have hmin : min ((y : Int).toNat) 64 = y := by omega
        refine ⟨_, nm_mod (w64 ((x : Int) * 2 ^ y)), Eq.trans (b := (cond (decide ((y : Int) ≥ w)) (some ((0, ()), ())) (cond (decide ((y : Int) < 0)) none (some ((w64 ((x : Int) * 2 ^ (min (y : Int).toNat 64)), ()), ()))) : Option R67).bind fun y => some ((y.1.1 % 2 ^ w, ()), ())) (by kernel_rfl) ?_,
          Eq.trans (b := (f63 k x y w).bind fun y => some ((y.1.1, ()), ())) (by kernel_rfl) ?_⟩
        · rw [decide_eq_false (by omega : ¬ (y : Int) ≥ w), cond_false, decide_eq_false (by omega : ¬ (y : Int) < 0), cond_false, hmin, Option.bind_some]
        · unfold f63
          rw [decide_eq_false (by omega : ¬ (y : Int) ≥ w), cond_false, power59 k (by omega)]
          simp only [Option.bind_some]
          rw [mod27 k _ h]
          rfl
    · -- >>
      by_cases hyw : w ≤ y
      · refine ⟨0, n0, Eq.trans (b := (cond (decide ((y : Int) ≥ w)) (some ((0, ()), ())) (cond (decide ((y : Int) < 0)) none (some ((Int.fdiv (x : Int) (2 ^ (min (y : Int).toNat 64)), ()), ()))) : Option R67).bind fun y => some ((y.1.1 % 2 ^ w, ()), ())) (by kernel_rfl) ?_,
          Eq.trans (b := (f64 k x y w).bind fun y => some ((y.1.1, ()), ())) (by kernel_rfl) ?_⟩
        · rw [decide_eq_true (by omega : (y : Int) ≥ w), cond_true, Option.bind_some, Int.zero_emod]
        · unfold f64
          rw [decide_eq_true (by omega : (y : Int) ≥ w), cond_true, Option.bind_some]
      · have hmin : min ((y : Int).toNat) 64 = y := by omega
        have e2 : ((2 : Int) ^ y) = ((2 ^ y : Nat) : Int) := by simp
        have hp2 : 0 < 2 ^ y := Nat.pow_pos (by decide)
        have hle := Nat.div_le_self x (2 ^ y)
        have hnm : Nm w ((x / 2 ^ y : Nat) : Int) := nm_nat (Nat.lt_of_le_of_lt hle hx)
        refine ⟨_, hnm, Eq.trans (b := (cond (decide ((y : Int) ≥ w)) (some ((0, ()), ())) (cond (decide ((y : Int) < 0)) none (some ((Int.fdiv (x : Int) (2 ^ (min (y : Int).toNat 64)), ()), ()))) : Option R67).bind fun y => some ((y.1.1 % 2 ^ w, ()), ())) (by kernel_rfl) ?_,
          Eq.trans (b := (f64 k x y w).bind fun y => some ((y.1.1, ()), ())) (by kernel_rfl) ?_⟩
        · rw [decide_eq_false (by omega : ¬ (y : Int) ≥ w), cond_false, decide_eq_false (by omega : ¬ (y : Int) < 0), cond_false, hmin, Option.bind_some]
          dsimp only
          rw [Int.fdiv_eq_ediv_of_nonneg _ (by rw [e2]; omega), e2, ← Int.natCast_ediv, hnm.mod]
        · unfold f64
          rw [decide_eq_false (by omega : ¬ (y : Int) ≥ w), cond_false, power59 k (by omega)]
          simp only [Option.bind_some]
          rw [e2, decide_eq_false (by omega), cond_false, Option.bind_some]
          dsimp only
          rw [tdiv_pos (by omega), ← Int.natCast_ediv, hw64 _ hle]
    · -- &
      have hnm : Nm w ((x &&& y : Nat) : Int) := nm_nat (Nat.and_lt_two_pow _ hy)
      refine ⟨_, hnm, Eq.trans (b := some ((ibits .and .i64 (x : Int) y % 2 ^ w, ()), ())) (by kernel_rfl) (by rw [(ibits_nat (by omega) (by omega)).1, hnm.mod]), Eq.trans (b := (f65 k ((0 : Nat) : Int) x y w).bind fun y => some ((y.1.1, ()), ())) (by kernel_rfl) ?_⟩
      rw [bits65 k (by omega) (by omega) hw1 hw2 hx hy]; rfl
    · -- +
      refine ⟨_, nm_mod (w64 ((x : Int) + y)), by kernel_rfl, Eq.trans (b := (f27 k (w64 ((x : Int) + y)) w).bind fun y => some ((y.1.1, ()), ())) (by kernel_rfl) ?_⟩
      rw [mod27 k _ h]; rfl
    · -- -
      refine ⟨_, nm_mod (w64 ((x : Int) - y)), by kernel_rfl, Eq.trans (b := (f27 k (w64 ((x : Int) - y)) w).bind fun y => some ((y.1.1, ()), ())) (by kernel_rfl) ?_⟩
      rw [mod27 k _ h]; rfl
    · -- |
      have hnm : Nm w ((x ||| y : Nat) : Int) := nm_nat (Nat.or_lt_two_pow hx hy)
      refine ⟨_, hnm, Eq.trans (b := some ((ibits .or .i64 (x : Int) y % 2 ^ w, ()), ())) (by kernel_rfl) (by rw [(ibits_nat (by omega) (by omega)).2.1, hnm.mod]), Eq.trans (b := (f65 k ((1 : Nat) : Int) x y w).bind fun y => some ((y.1.1, ()), ())) (by kernel_rfl) ?_⟩
      rw [bits65 k (by omega) (by omega) hw1 hw2 hx hy]; rfl
    · -- ^
      have hnm : Nm w ((x ^^^ y : Nat) : Int) := nm_nat (Nat.xor_lt_two_pow hx hy)
      refine ⟨_, hnm, Eq.trans (b := some ((ibits .xor .i64 (x : Int) y % 2 ^ w, ()), ())) (by kernel_rfl) (by rw [(ibits_nat (by omega) (by omega)).2.2, hnm.mod]), Eq.trans (b := (f65 k ((2 : Nat) : Int) x y w).bind fun y => some ((y.1.1, ()), ())) (by kernel_rfl) ?_⟩
      rw [bits65 k (by omega) (by omega) hw1 hw2 hx hy]; rfl
    · -- ==
      unfold f24
      cases hz : ((x : Int) == y) with
      | true => exact ⟨1, n1, by kernel_rfl, by kernel_rfl⟩
      | false => exact ⟨0, n0, by kernel_rfl, by kernel_rfl⟩
    · -- !=
      unfold f24
      cases hz : ((x : Int) != y) with
      | true => exact ⟨1, n1, by kernel_rfl, by kernel_rfl⟩
      | false => exact ⟨0, n0, by kernel_rfl, by kernel_rfl⟩
    · -- <
      unfold f24
      cases hz : decide ((x : Int) < y) with
      | true => exact ⟨1, n1, by kernel_rfl, by kernel_rfl⟩
      | false => exact ⟨0, n0, by kernel_rfl, by kernel_rfl⟩
    · -- <=
      unfold f24
      cases hz : decide ((x : Int) ≤ y) with
      | true => exact ⟨1, n1, by kernel_rfl, by kernel_rfl⟩
      | false => exact ⟨0, n0, by kernel_rfl, by kernel_rfl⟩
    · -- >
      unfold f24
      cases hz : decide ((x : Int) > y) with
      | true => exact ⟨1, n1, by kernel_rfl, by kernel_rfl⟩
      | false => exact ⟨0, n0, by kernel_rfl, by kernel_rfl⟩
    · -- >=
      unfold f24
      cases hz : decide ((x : Int) ≥ y) with
      | true => exact ⟨1, n1, by kernel_rfl, by kernel_rfl⟩
      | false => exact ⟨0, n0, by kernel_rfl, by kernel_rfl⟩
    · -- &&
      unfold f24
      cases hz : ((x : Int) != 0) with
      | true => cases hz2 : ((y : Int) != 0) with
        | true => exact ⟨1, n1, by kernel_rfl, by kernel_rfl⟩
        | false => exact ⟨0, n0, by kernel_rfl, by kernel_rfl⟩
      | false => exact ⟨0, n0, by kernel_rfl, by kernel_rfl⟩
    · -- ||
      unfold f24
      cases hz : ((x : Int) != 0) with
      | true => exact ⟨1, n1, by kernel_rfl, by kernel_rfl⟩
      | false => cases hz2 : ((y : Int) != 0) with
        | true => exact ⟨1, n1, by kernel_rfl, by kernel_rfl⟩
        | false => exact ⟨0, n0, by kernel_rfl, by kernel_rfl⟩
  · have hb : ∀ c ∈ signs, (op.toList == c) = false := fun c hc => beq_eq_false_iff_ne.2 fun h => hm (h ▸ hc)
    simp only [signs, List.mem_cons, List.not_mem_nil, or_false, forall_eq_or_imp, forall_eq] at hb
    obtain ⟨h1, h2, h3, h4, h5, h6, h7, h8, h9, h10, h11, h12, h13, h14, h15, h16, h17, h18⟩ := hb
    refine ⟨0, n0, ?_, ?_⟩
    · unfold f67
      simp only [lit1, lit2, h1, h2, h3, h4, h5, h6, h7, h8, h9, h10, h11, h12, h13, h14, h15, h16, h17, h18, cond_false, Option.bind_some, Int.zero_emod]
    · unfold f24
      simp only [lit1, lit2, h1, h2, h3, h4, h5, h6, h7, h8, h9, h10, h11, h12, h13, h14, h15, h16, h17, h18, cond_false, Option.bind_some]
end Term
end Go.Proofs.Ytepfhidiahleiaa.M
