/-
Which clauses there may be: 'lit.Check', plainly.
-/
import Derived.Test.YteciockojllonaaPre
import Derived.Test.Yteciockojllonaafm
namespace Go.Proofs.Yteciockojllonaa.Lit
open Go.RowKit Go.Proofs.Yteciockojllonaa.G Go.Proofs.YteciockojllonaaW.PrintWords Go.Proofs.YteciockojllonaaW.PrintLast Go.Proofs.Yteciockojllonaa.Pre

def isLit (a : Int) : Bool := decide (a ≠ 0 ∧ -1048576 ≤ a ∧ a ≤ 1048576)
def mayC (l : List Int) : Bool := decide (l.length ≤ 4096) && l.all isLit
theorem isLit_iff (a : Int) : isLit a = true ↔ a ≠ 0 ∧ -1048576 ≤ a ∧ a ≤ 1048576 := by simp [isLit]

theorem is_spec (a : Int) : lit_is.f a = some (isLit a) := by
  unfold lit_is.f isLit
  by_cases h : a = 0
  · rw [if_pos h]; simp [h]
  · rw [if_neg h]
    by_cases h1 : a ≥ -1048576
    · rw [if_pos h1]; simp [h, h1]
    · rw [if_neg h1]; simp; omega
theorem is1_spec (a : Int) : lit_Check_1.f a = some (!isLit a) := by unfold lit_Check_1.f; rw [is_spec]; rfl

theorem idx_spec (l : List Int) (hl : l.length ≤ 9223372036854775807) (d : Nat) : ∀ (k i : Nat), i ≤ l.length → l.length - i = d → d < k →
    ∃ r, slices_IndexFunc_int_int_38_at_30.l0 k l (l.length : Int) (i : Int) = some r ∧ decide (r ≥ 0) = (l.drop i).any (fun x => !isLit x) := by
  induction d with
  | zero =>
    intro k i h1 hd hk
    obtain ⟨k, rfl⟩ : ∃ m, k = m + 1 := ⟨k - 1, by omega⟩
    refine ⟨-1, ?_, ?_⟩
    · simp only [slices_IndexFunc_int_int_38_at_30.l0]; rw [if_neg (by omega)]
    · rw [List.drop_of_length_le (by omega)]; rfl
  | succ d ih =>
    intro k i h1 hd hk
    obtain ⟨k, rfl⟩ : ∃ m, k = m + 1 := ⟨k - 1, by omega⟩
    have hi : i < l.length := by omega
    simp only [slices_IndexFunc_int_int_38_at_30.l0]
    rw [if_pos (by omega), if_pos (by omega), if_pos (by omega), rd_nat hi, is1_spec, drop_cons hi]
    simp only [Option.bind_some, List.any_cons]
    by_cases h : isLit l[i] = true
    · rw [if_neg (by simp [h]), w64 (by omega) (by omega)]
      obtain ⟨r, hr, h2⟩ := ih k (i + 1) (by omega) (by omega) (by omega)
      exact ⟨r, by exact_mod_cast hr, by simp [h, h2]⟩
    · rw [if_pos (by simp [h])]
      exact ⟨_, rfl, by simp [h]⟩

theorem Check_spec (l : List Int) (hl : l.length ≤ 9223372036854775807) (k : Nat) (hk : l.length < k) : lit_Check.f k l = some (if mayC l then 0 else 1) := by
  unfold lit_Check.f mayC
  by_cases h : (l.length : Int) > 4096
  · rw [if_pos h]; simp; omega
  · rw [if_neg h]
    unfold slices_ContainsFunc_int_int_29_at_30.f slices_IndexFunc_int_int_38_at_30.f
    obtain ⟨r, hr, h2⟩ := idx_spec l hl l.length k 0 (by omega) (by omega) hk
    have hr' : slices_IndexFunc_int_int_38_at_30.l0 k l (l.length : Int) 0 = some r := hr
    rw [hr']; simp only [Option.bind_some, h2, List.drop_zero]
    have hle : l.length ≤ 4096 := by omega
    cases hb : l.all isLit with
    | true =>
      have : l.any (fun x => !isLit x) = false := by
        rw [List.any_eq_false]; intro x hx; rw [List.all_eq_true] at hb; simp [hb x hx]
      rw [this]; simp [hle]
    | false =>
      have : l.any (fun x => !isLit x) = true := by
        rw [List.all_eq_false] at hb; obtain ⟨x, hx, hn⟩ := hb
        rw [List.any_eq_true]; exact ⟨x, hx, by simp [hn]⟩
      rw [this]; simp
/-- Of one number. -/
theorem Check_one (n : Int) (k : Nat) (hk : 1 < k) : lit_Check.f k [n] = some (if isLit n then 0 else 1) := by
  rw [Check_spec [n] (by simp) k (by simpa using hk)]
  simp [mayC]

end Go.Proofs.Yteciockojllonaa.Lit
