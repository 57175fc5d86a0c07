/-
How many bits are enough: the plain law. For every input, no condition.
-/
import Derived.Test.YtgljnnokifggkaaMA
import Derived.Test.YtgljnnokifggkaaPl
import Derived.Test.YtgljnnokifggkaaVm40
set_option linter.unusedVariables false
set_option linter.unusedSimpArgs false
set_option maxRecDepth 100000
namespace Go.Proofs.Ytgljnnokifggkaa.M
open Go Go.Proofs.Ytgljnnokifggkaa.Vm Go.Proofs.Ytgljnnokifggkaa.Pl
namespace Card
theorem awake71 (k : Nat) : f71 (k + 30) () = some ((true, ()), ()) := by kernel_rfl
theorem awake71E : E fun k => f71 k () = some ((true, ()), ()) := ⟨30, fun k hk => by obtain ⟨j, rfl⟩ : ∃ j, k = j + 30 := ⟨k - 30, by omega⟩; exact awake71 j⟩
/-- The table's entry is the least number of bits. -/
def tabOk (i : Nat) : Bool := match s_0.data.toList[i]? with
  | some c => decide ((i = 0 ∧ c.toNat = 0) ∨ (0 < i ∧ 1 ≤ c.toNat ∧ c.toNat ≤ 8 ∧ 2 ^ (c.toNat - 1) ≤ i ∧ i < 2 ^ c.toNat))
  | none => false
theorem tab_all : (List.range 256).all tabOk = true := by decide +kernel
theorem tab_at {i : Nat} (h : i < 256) : ∃ c : UInt8, s_0.data.toList[i]? = some c ∧ ((i = 0 ∧ c.toNat = 0) ∨ (0 < i ∧ 1 ≤ c.toNat ∧ c.toNat ≤ 8 ∧ 2 ^ (c.toNat - 1) ≤ i ∧ i < 2 ^ c.toNat)) := by
  have := List.all_eq_true.1 tab_all i (List.mem_range.2 h)
  unfold tabOk at this
  split at this
  · rename_i c hc
    exact ⟨c, hc, of_decide_eq_true this⟩
  · cases this
theorem ixs_at {R : Type} {s : ByteArray} {i : Nat} {c : UInt8} {K : Int → Option R} (h : s.data.toList[i]? = some c) : ixs s (i : Int) K = K (c.toNat : Int) := by
  unfold ixs
  rw [decide_eq_true (by omega), Int.toNat_natCast, h]; rfl
theorem u8_id {n : Int} (h : 0 ≤ n) (h' : n ≤ 255) : IntKind.u8.wrap n = n := by
  simp [IntKind.wrap, IntKind.signed, IntKind.bits]; omega
theorem u64_id {n : Int} (h : 0 ≤ n) (h' : n ≤ 65535) : IntKind.u64.wrap n = n := by
  simp [IntKind.wrap, IntKind.signed, IntKind.bits]; omega
/-- Bits of a number. -/
def Bits (n : Nat) (r : Nat) : Prop := (n = 0 ∧ r = 0) ∨ (0 < n ∧ 1 ≤ r ∧ r ≤ 16 ∧ 2 ^ (r - 1) ≤ n ∧ n < 2 ^ r)
theorem len115 (k : Nat) {n : Nat} (h : n ≤ 65535) : ∃ r : Nat, Bits n r ∧ f115 k (n : Int) = some (((r : Int), ()), ()) := by
  unfold f115 l115_14 l115_60
  rw [decide_eq_false (by omega : ¬ (n : Int) ≥ 4294967296), decide_eq_false (by omega : ¬ (n : Int) ≥ 65536)]
  simp only [cond_false, Option.bind_some]
  by_cases h2 : n < 256
  · rw [decide_eq_false (by omega : ¬ (n : Int) ≥ 256), cond_false, u8_id (by omega) (by omega)]
    obtain ⟨c, hc, hb⟩ := tab_at h2
    have hc8 : c.toNat ≤ 8 := by omega
    refine ⟨c.toNat, ?_, ?_⟩
    · unfold Bits; omega
    · rw [ixs_at hc, w64_id (n := (c.toNat : Int)) (by omega) (by omega), w64_id (by omega) (by omega), Int.zero_add]
  · have hf : Int.fdiv (n : Int) (2 ^ 8) = ((n / 256 : Nat) : Int) := by
      rw [Int.fdiv_eq_ediv_of_nonneg _ (by decide)]; omega
    rw [decide_eq_true (by omega : (n : Int) ≥ 256), cond_true, hf, u8_id (by omega) (by omega)]
    obtain ⟨c, hc, hb⟩ := tab_at (i := n / 256) (by omega)
    have hc8 : c.toNat ≤ 8 := by omega
    refine ⟨c.toNat + 8, ?_, ?_⟩
    · rcases hb with hb | ⟨b1, b2, b3, b4, b5⟩
      · omega
      · right
        have e1 : 2 ^ (c.toNat + 8 - 1) = 2 ^ (c.toNat - 1) * 256 := by
          rw [show c.toNat + 8 - 1 = (c.toNat - 1) + 8 by omega, Nat.pow_add]
        have e2 : 2 ^ (c.toNat + 8) = 2 ^ c.toNat * 256 := by rw [Nat.pow_add]
        rw [e1, e2]
        generalize 2 ^ (c.toNat - 1) = p at b4
        generalize 2 ^ c.toNat = q at b5
        omega
    · rw [ixs_at hc, w64_id (n := (c.toNat : Int)) (by omega) (by omega), w64_id (n := (0 : Int) + 8) (by omega) (by omega), w64_id (by omega) (by omega)]
      congr 4; omega
theorem enough_loop (k : Nat) {n r : Nat} (hn : n ≤ 65535) (hr : r ≤ 16) (hp : ∀ i, 1 ≤ i → i < r → 2 ^ i ≤ n) (hlt : n < 2 ^ r) : ∀ (d w : Nat), r - w = d → w ≤ r → ∀ j, d < j → (1 ≤ w → l70_60 k j (n : Int) (w : Int) = some (((r : Int), ()), ())) := by
  intro d
  induction d with
  | zero =>
    intro w hw hle j hj h1
    obtain ⟨j, rfl, _⟩ := succ_of (n := 0) (by omega : 0 + 1 ≤ j)
    show b70_60 k (l70_60 k j) (n : Int) (w : Int) = _
    obtain rfl : w = r := by omega
    have hmin : min ((w : Int).toNat) 64 = w := by omega
    have hb := Nat.pow_le_pow_right (show 0 < 2 by omega) hr
    have e : ((2 : Int) ^ w) = ((2 ^ w : Nat) : Int) := by simp
    generalize 2 ^ w = q at hb e hlt
    unfold b70_60
    rw [decide_eq_false (by omega : ¬ (w : Int) < 0), cond_false, hmin, e, Int.one_mul, w64_id (n := (q : Int)) (by omega) (by omega), decide_eq_false (by omega), cond_false]
  | succ d ih =>
    intro w hw hle j hj h1
    obtain ⟨j, rfl, hj2⟩ := succ_of (by omega : d + 1 + 1 ≤ j)
    show b70_60 k (l70_60 k j) (n : Int) (w : Int) = _
    have hmin : min ((w : Int).toNat) 64 = w := by omega
    have hb := hp w h1 (by omega)
    have e : ((2 : Int) ^ w) = ((2 ^ w : Nat) : Int) := by simp
    generalize 2 ^ w = q at hb e
    have hw1 : w64 ((w : Int) + 1) = ((w + 1 : Nat) : Int) := by rw [w64_id (by omega) (by omega)]; omega
    unfold b70_60
    rw [decide_eq_false (by omega : ¬ (w : Int) < 0), cond_false, hmin, e, Int.one_mul, w64_id (n := (q : Int)) (by omega) (by omega), decide_eq_true (by omega), cond_true, hw1, ih (w + 1) (by omega) (by omega) j hj2 (by omega)]
    rfl
theorem enough (k : Nat) (n : Int) (hk : 20 ≤ k) : ∃ r : Int, f69 k n = some ((r, ()), ()) ∧ f70 k n = some ((r, ()), ()) := by
  unfold f69 f70
  by_cases h0 : n < 0
  · rw [decide_eq_true h0]; exact ⟨0, rfl, rfl⟩
  · rw [decide_eq_false h0]
    by_cases h1 : n > 65535
    · rw [decide_eq_true h1]; exact ⟨0, rfl, rfl⟩
    · rw [decide_eq_false h1]
      obtain ⟨m, rfl⟩ : ∃ m : Nat, n = m := ⟨n.toNat, by omega⟩
      obtain ⟨r, hb, hr⟩ := len115 k (n := m) (by omega)
      have hmm : minmax true 1 (r : Int) = ((max 1 r : Nat) : Int) := by
        unfold minmax; simp only [if_true]; split <;> omega
      refine ⟨((max 1 r : Nat) : Int), ?_, ?_⟩
      · simp only [cond_false]
        unfold f108
        rw [u64_id (by omega) (by omega), hr]
        simp only [Option.bind_some, hmm]
      · have := enough_loop k (n := m) (r := max 1 r) (by omega) (by unfold Bits at hb; omega) (fun i h1i hi => by
            rcases hb with ⟨rfl, rfl⟩ | ⟨b1, b2, b3, b4, b5⟩
            · omega
            · exact Nat.le_trans (Nat.pow_le_pow_right (by omega) (by omega)) b4) (by
            rcases hb with ⟨rfl, rfl⟩ | ⟨b1, b2, b3, b4, b5⟩
            · decide
            · rw [show max 1 r = r by omega]; exact b5) (max 1 r - 1) 1 rfl (by omega) k (by unfold Bits at hb; omega) (by omega)
        rw [show ((1 : Nat) : Int) = 1 from rfl] at this
        simp only [cond_false]
        rw [this]
        rfl
end Card
open Card in
theorem Pure.CardEnough (n : Int) (_ : Fit i64 n) : ∃ k, f14 k n = some ((true, ()), ()) := by
  refine (awake71E.mono2 (E.ge 100) fun k e hk => ?_).ex
  obtain ⟨r, h1, h2⟩ := enough k n (by omega)
  unfold f14
  rw [h1, h2]
  simp only [Option.bind_some, beq_self_eq_true, cond_true, e]
end Go.Proofs.Ytgljnnokifggkaa.M
