/-
Terms: the signs; what they are worth by the program and by the document.
-/
import Derived.Test.YtepfhidiahleiaaTnN
set_option linter.unusedVariables false
set_option linter.unusedSimpArgs false
set_option maxRecDepth 100000
namespace Go.Proofs.Ytepfhidiahleiaa.M
open Go Go.Proofs.Ytepfhidiahleiaa.Vm Go.Proofs.Ytepfhidiahleiaa.Pl
namespace Term
theorem tl (l : List UInt8) : (ByteArray.mk l.toArray).toList = l := by rw [ByteArray.toList_eq]
theorem lit1 (a : UInt8) : (ByteArray.mk #[a]).toList = [a] := tl [a]
theorem lit2 (a b : UInt8) : (ByteArray.mk #[a, b]).toList = [a, b] := tl [a, b]
theorem of_list {op : ByteArray} {l : List UInt8} (h : op.toList = l) : op = ByteArray.mk l.toArray := by
  rw [ByteArray.toList_eq] at h
  exact ByteArray.ext (by rw [← h])
def signs : List (List UInt8) := [[42], [47], [37], [60, 60], [62, 62], [38], [43], [45], [124], [94], [61, 61], [33, 61], [60], [60, 61], [62], [62, 61], [38, 38], [124, 124]]
def tab : List (List ByteArray) := [[(ByteArray.mk #[124, 124])], [(ByteArray.mk #[38, 38])], [(ByteArray.mk #[61, 61]), (ByteArray.mk #[33, 61]), (ByteArray.mk #[60]), (ByteArray.mk #[60, 61]), (ByteArray.mk #[62]), (ByteArray.mk #[62, 61])], [(ByteArray.mk #[43]), (ByteArray.mk #[45]), (ByteArray.mk #[124]), (ByteArray.mk #[94])], [(ByteArray.mk #[42]), (ByteArray.mk #[47]), (ByteArray.mk #[37]), (ByteArray.mk #[60, 60]), (ByteArray.mk #[62, 62]), (ByteArray.mk #[38])]]
theorem row_none (k : Nat) {op : ByteArray} {l3 : List (List ByteArray)} {i : Nat} {r : List ByteArray} (hi : l3[i]? = some r) (hr : r.length ≤ 100) (h : ∀ e ∈ r, (e.toList == op.toList) = false) : ∀ (d kk : Nat), r.length - kk = d → ∀ j, d < j → l26_3730 k j op l3 i kk = some (.inl ((l3, ()), ())) := by
  intro d
  induction d with
  | zero =>
    intro kk hd j hj
    obtain ⟨j, rfl, _⟩ := succ_of (n := 0) (by omega : 0 + 1 ≤ j)
    show b26_3730 k (l26_3730 k j) op l3 i kk = _
    unfold b26_3730
    rw [ix_nat hi, decide_eq_false (by omega : ¬ (kk : Int) < r.length)]
    rfl
  | succ d ih =>
    intro kk hd j hj
    obtain ⟨j, rfl, hj2⟩ := succ_of (by omega : d + 1 + 1 ≤ j)
    show b26_3730 k (l26_3730 k j) op l3 i kk = _
    have hx : r[kk]? = some r[kk] := List.getElem?_eq_getElem (by omega)
    have hw : w64 ((kk : Int) + 1) = ((kk + 1 : Nat) : Int) := by rw [w64_id (by omega) (by omega)]; omega
    unfold b26_3730
    rw [ix_nat hi, decide_eq_true (by omega : (kk : Int) < r.length), cond_true, ix_nat hi, ix_nat hx, h _ (List.getElem_mem _), cond_false, hw, ih (kk + 1) (by omega) j hj2]
    rfl
theorem tab_none (k : Nat) {op : ByteArray} {l3 : List (List ByteArray)} (hk : 100 < k) (hl : l3.length ≤ 100) (h : ∀ r ∈ l3, r.length ≤ 100 ∧ ∀ e ∈ r, (e.toList == op.toList) = false) : ∀ (d i : Nat), l3.length - i = d → ∀ j, d < j → l26_58 k j op l3 i = some (.inl ((), ())) := by
  intro d
  induction d with
  | zero =>
    intro i hd j hj
    obtain ⟨j, rfl, _⟩ := succ_of (n := 0) (by omega : 0 + 1 ≤ j)
    show b26_58 k (l26_58 k j) op l3 i = _
    unfold b26_58
    rw [decide_eq_false (by omega : ¬ (i : Int) < l3.length)]
    rfl
  | succ d ih =>
    intro i hd j hj
    obtain ⟨j, rfl, hj2⟩ := succ_of (by omega : d + 1 + 1 ≤ j)
    show b26_58 k (l26_58 k j) op l3 i = _
    have hx : l3[i]? = some l3[i] := List.getElem?_eq_getElem (by omega)
    have hw : w64 ((i : Int) + 1) = ((i + 1 : Nat) : Int) := by rw [w64_id (by omega) (by omega)]; omega
    obtain ⟨hr1, hr2⟩ := h _ (List.getElem_mem (by omega : i < l3.length))
    have := row_none k hx hr1 hr2 l3[i].length 0 rfl k (by omega)
    rw [show ((0 : Nat) : Int) = 0 from rfl] at this
    unfold b26_58
    rw [decide_eq_true (by omega : (i : Int) < l3.length), cond_true, this]
    simp only [Option.bind_some]
    rw [hw, ih (i + 1) (by omega) j hj2]
    rfl
/-- How strongly a sign binds; 0: it is none. -/
theorem sign_eq (k : Nat) (hk : 200 ≤ k) (op : ByteArray) : ∃ n : Int, f82 k op = some ((n, ()), ()) ∧ f26 k op = some ((n, ()), ()) ∧ (op.toList ∉ signs → n = 0) := by
  by_cases hm : op.toList ∈ signs
  · obtain ⟨j, rfl⟩ : ∃ j, k = j + 200 := ⟨k - 200, by omega⟩
    have hn : ∀ {n : Int}, op.toList ∉ signs → n = 0 := fun h => absurd hm h
    simp only [signs, List.mem_cons, List.not_mem_nil, or_false] at hm
    rcases hm with h | h | h | h | h | h | h | h | h | h | h | h | h | h | h | h | h | h <;> have := of_list h <;> subst this
    · exact ⟨5, by kernel_rfl, by kernel_rfl, hn⟩
    · exact ⟨5, by kernel_rfl, by kernel_rfl, hn⟩
    · exact ⟨5, by kernel_rfl, by kernel_rfl, hn⟩
    · exact ⟨5, by kernel_rfl, by kernel_rfl, hn⟩
    · exact ⟨5, by kernel_rfl, by kernel_rfl, hn⟩
    · exact ⟨5, by kernel_rfl, by kernel_rfl, hn⟩
    · exact ⟨4, by kernel_rfl, by kernel_rfl, hn⟩
    · exact ⟨4, by kernel_rfl, by kernel_rfl, hn⟩
    · exact ⟨4, by kernel_rfl, by kernel_rfl, hn⟩
    · exact ⟨4, by kernel_rfl, by kernel_rfl, hn⟩
    · exact ⟨3, by kernel_rfl, by kernel_rfl, hn⟩
    · exact ⟨3, by kernel_rfl, by kernel_rfl, hn⟩
    · exact ⟨3, by kernel_rfl, by kernel_rfl, hn⟩
    · exact ⟨3, by kernel_rfl, by kernel_rfl, hn⟩
    · exact ⟨3, by kernel_rfl, by kernel_rfl, hn⟩
    · exact ⟨3, by kernel_rfl, by kernel_rfl, hn⟩
    · exact ⟨2, by kernel_rfl, by kernel_rfl, hn⟩
    · exact ⟨1, by kernel_rfl, by kernel_rfl, hn⟩
  · refine ⟨0, ?_, ?_, fun _ => rfl⟩
    · have hb : ∀ c ∈ signs, (op.toList == c) = false := fun c hc => beq_eq_false_iff_ne.2 fun h => hm (h ▸ hc)
      simp only [signs, List.mem_cons, List.not_mem_nil, or_false, forall_eq_or_imp, forall_eq] at hb
      obtain ⟨h1, h2, h3, h4, h5, h6, h7, h8, h9, h10, h11, h12, h13, h14, h15, h16, h17, h18⟩ := hb
      unfold f82 l82_52 l82_214 l82_862 l82_3454 l82_13822 l82_428 l82_1718 l82_1724 l82_6878 l82_6902 l82_27614 l82_110462 l82_441854
      simp only [lit1, lit2, h1, h2, h3, h4, h5, h6, h7, h8, h9, h10, h11, h12, h13, h14, h15, h16, h17, h18, cond_false, Option.bind_some]
    · have hb : ∀ c ∈ signs, (c == op.toList) = false := fun c hc => beq_eq_false_iff_ne.2 fun h => hm (h ▸ hc)
      simp only [signs, List.mem_cons, List.not_mem_nil, or_false, forall_eq_or_imp, forall_eq] at hb
      have := tab_none k (op := op) (l3 := tab) (by omega) (by decide) (by
        simp only [tab, List.mem_cons, List.not_mem_nil, or_false, forall_eq_or_imp, forall_eq, lit1, lit2, List.length_cons, List.length_nil]
        simp only [hb, and_self, and_true]
        decide) tab.length 0 rfl k (by have : tab.length = 5 := rfl; omega)
      unfold f26
      rw [show ((0 : Nat) : Int) = 0 from rfl] at this
      have e : (l26_58 k k op tab 0).bind (fun y1 => match y1 with
        | .inl y1_0 => some ((0, ()), ())
        | .inr y1_1 => some ((y1_1.1.1, ()), ())) = (some ((0, ()), ()) : Option R26) := by rw [this]; rfl
      exact e
theorem wide40 (k : Nat) {w : Nat} (h : Wd w) : f40 k w = some ((true, ()), ()) := by
  have h1 := h.lo
  have h2 := h.hi
  unfold f40
  rw [decide_eq_true (by omega : (w : Int) ≥ 1), decide_eq_true (by omega : (w : Int) ≤ 8)]
  rfl
/-- A unary sign's worth. -/
theorem one_eq (k : Nat) {w : Nat} (h : Wd w) {a : Int} (ha : Nm w a) (op : ByteArray) : ∃ n : Int, Nm w n ∧ f38 k w op a = some ((n, ()), ()) ∧ f23 k w op a = some ((n, ()), ()) := by
  obtain ⟨e, hp1, hp⟩ := h.pw
  have ha2 := ha.2
  rw [e] at ha2
  have ha1 := ha.1
  unfold f38 f23
  rw [decide_eq_false (by omega : ¬ (w : Int) < 0)]
  simp only [cond_false, mask_txt h, and_mask h, lit1]
  cases op.toList == [45] with
  | true => exact ⟨_, nm_mod _, rfl, by rw [cond_true, mod27 k _ h]; rfl⟩
  | false =>
    simp only [cond_false]
    cases op.toList == [126] with
    | true =>
      refine ⟨2 ^ w - 1 - a, ?_, ?_, ?_⟩
      · unfold Nm; rw [e]; generalize 2 ^ w = q at hp hp1 ha2; omega
      · have hx : ibits .xor .i64 (-1) a = -1 - a := by
          obtain ⟨x, rfl⟩ := Int.eq_ofNat_of_zero_le ha1
          have hx : x < 256 := by omega
          have e1 : (BitVec.ofInt 64 (-1) ^^^ BitVec.ofInt 64 (x : Int)) = BitVec.ofInt 64 (-1 - (x : Int)) := by
            have e2 : BitVec.ofInt 64 (-1) = BitVec.allOnes 64 := rfl
            rw [e2, BitVec.allOnes_xor]
            apply BitVec.eq_of_toNat_eq
            rw [BitVec.toNat_not, BitVec.toNat_ofInt, BitVec.toNat_ofInt]
            omega
          show IntKind.i64.wrap ((BitVec.ofInt 64 (-1) ^^^ BitVec.ofInt 64 (x : Int)).toNat : Int) = _
          rw [e1, BitVec.toNat_ofInt]
          simp [IntKind.wrap, IntKind.signed, IntKind.bits]
          omega
        rw [hx]
        have : (-1 - a) % 2 ^ w = 2 ^ w - 1 - a := by
          rw [e]
          generalize 2 ^ w = q at hp hp1 ha2
          have : (-1 - a) = ((q : Int) - 1 - a) + q * (-1) := by omega
          rw [this, Int.add_mul_emod_self_left, Int.emod_eq_of_lt (by omega) (by omega)]
        rw [cond_true, this]
      · rw [cond_true, power59 k h.hi]
        simp only [Option.bind_some]
        rw [e]
        generalize 2 ^ w = q at hp hp1 ha2
        rw [w64_id (n := (q : Int) - 1) (by omega) (by omega), w64_id (by omega) (by omega)]
    | false =>
      cases hz : a == 0 with
      | true => exact ⟨1, by unfold Nm; rw [e]; omega, rfl, rfl⟩
      | false => exact ⟨0, by unfold Nm; rw [e]; omega, rfl, rfl⟩
end Term
end Go.Proofs.Ytepfhidiahleiaa.M
