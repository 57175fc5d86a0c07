/-
Key words and names: what the program and the reference tell of any text.
-/
import Derived.Test.YticelgnmcjkknaaMA
import Derived.Test.YticelgnmcjkknaaPl
import Derived.Test.YticelgnmcjkknaaVm40
import Derived.Lib.IndexAny
set_option linter.unusedVariables false
set_option linter.unusedSimpArgs false
set_option maxRecDepth 100000
namespace Go.Proofs.Yticelgnmcjkknaa.M
open Go Go.Proofs.Yticelgnmcjkknaa.Vm Go.Proofs.Yticelgnmcjkknaa.Pl
namespace Lex
abbrev Bs := List UInt8
def L (s : ByteArray) : Bs := s.data.toList
theorem toL (s : ByteArray) : s.toList = L s := by unfold L; simpa using ByteArray.toList_eq s
theorem beqL (a b : ByteArray) : (a.toList == b.toList) = decide (L a = L b) := by
  rw [toL, toL]
  by_cases h : L a = L b
  · rw [decide_eq_true h, h]; exact beq_self_eq_true _
  · rw [decide_eq_false h]; exact beq_eq_false_iff_ne.2 h
theorem w_id {n : Int} (h : -9223372036854775808 ≤ n) (h' : n ≤ 9223372036854775807) : w64 n = n := w64_id h h'
def words : List Bs := [[119, 105, 100, 116, 104], [118, 97, 114], [97, 116, 111, 109, 105, 99], [109, 117, 116, 101, 120], [99, 104, 97, 110], [112, 114, 111, 99], [115, 101, 116], [108, 111, 97, 100], [115, 116, 111, 114, 101], [103, 101, 116], [112, 117, 116], [97, 100, 100], [99, 97, 115], [108, 111, 99, 107], [115, 101, 110, 100], [114, 101, 99, 118], [103, 111], [105, 102], [101, 108, 115, 101], [119, 104, 105, 108, 101], [98, 114, 101, 97, 107], [99, 111, 110, 116, 105, 110, 117, 101], [97, 115, 115, 101, 114, 116]]

/-! ### the reference's key words -/
theorem key_loop (k : Nat) (s : ByteArray) (l : List ByteArray) (hl : l.length ≤ 1000) : ∀ (d i : Nat), l.length - i = d → ∀ j, d < j → l18_58 k j s l i = if (l.drop i).any (fun e => decide (L e = L s)) then some (.inr ((true, ()), ())) else some (.inl ((), ())) := by
  intro d
  induction d with
  | zero =>
    intro i hi j hj
    obtain ⟨j, rfl, _⟩ := succ_of (n := 0) (by omega : 0 + 1 ≤ j)
    show b18_58 k (l18_58 k j) s l i = _
    unfold b18_58
    rw [decide_eq_false (by omega : ¬ (i : Int) < l.length), List.drop_of_length_le (by omega)]
    rfl
  | succ d ih =>
    intro i hi j hj
    obtain ⟨j, rfl, hj2⟩ := succ_of (by omega : d + 1 + 1 ≤ j)
    show b18_58 k (l18_58 k j) s l i = _
    have hw1 : w64 ((i : Int) + 1) = ((i + 1 : Nat) : Int) := by rw [w_id (by omega) (by omega)]; omega
    have hlt : i < l.length := by omega
    have hx : l[i]? = some l[i] := List.getElem?_eq_getElem hlt
    unfold b18_58
    rw [decide_eq_true (by omega : (i : Int) < l.length), cond_true, ix_nat hx, beqL, hw1, ih (i + 1) (by omega) j hj2, List.drop_eq_getElem_cons hlt, List.any_cons]
    by_cases h : L l[i] = L s
    · rw [decide_eq_true h]; rfl
    · rw [decide_eq_false h]
      simp only [cond_false, Bool.false_or]
      split <;> rfl
theorem any_L (s : ByteArray) : ∀ l : List ByteArray, l.any (fun e => decide (L e = L s)) = decide (L s ∈ l.map L)
  | [] => by simp
  | w :: ws => by
    rw [List.any_cons, any_L s ws, List.map_cons]
    by_cases h : L w = L s
    · simp [h]
    · have h' : ¬ L s = L w := fun e => h e.symm
      simp [h, h']
theorem key18 (k : Nat) (s : ByteArray) (hk : 30 < k) : f18 k s = some ((decide (L s ∈ words), ()), ()) := by
  unfold f18 f56
  simp only [Option.bind_some]
  have := key_loop k s [s_1, s_2, s_3, s_4, s_5, s_6, s_7, s_8, s_9, s_10, s_11, s_12, s_13, s_14, s_15, s_16, (ByteArray.mk #[103, 111]), (ByteArray.mk #[105, 102]), s_17, s_18, s_19, s_20, s_21] (by decide) 23 0 rfl k (by omega)
  rw [show ((0 : Nat) : Int) = 0 from rfl, List.drop_zero] at this
  rw [this]
  have e : ([s_1, s_2, s_3, s_4, s_5, s_6, s_7, s_8, s_9, s_10, s_11, s_12, s_13, s_14, s_15, s_16, (ByteArray.mk #[103, 111]), (ByteArray.mk #[105, 102]), s_17, s_18, s_19, s_20, s_21] : List ByteArray).any (fun e => decide (L e = L s)) = decide (L s ∈ words) := by
    have e1 : ([s_1, s_2, s_3, s_4, s_5, s_6, s_7, s_8, s_9, s_10, s_11, s_12, s_13, s_14, s_15, s_16, (ByteArray.mk #[103, 111]), (ByteArray.mk #[105, 102]), s_17, s_18, s_19, s_20, s_21] : List ByteArray).map L = words := rfl
    rw [any_L, e1]
  rw [e]
  by_cases h : L s ∈ words
  · rw [decide_eq_true h]; rfl
  · rw [decide_eq_false h]; rfl

/-! ### the program's key words: a text between blanks -/
def occ : Bs → Bs → Bool
  | [], sub => sub.isEmpty
  | b :: l, sub => sub.isPrefixOf (b :: l) || occ l sub
theorem contains_occ : ∀ (l sub : Bs), Lib.contains l sub = occ l sub
  | [], sub => by unfold Lib.contains Lib.index occ; cases sub <;> rfl
  | b :: l, sub => by
    have ih := contains_occ l sub
    have hg := Lib.index_ge l sub
    unfold Lib.contains at ih ⊢
    unfold Lib.index occ
    rw [← ih]
    cases hp : sub.isPrefixOf (b :: l) with
    | true => simp
    | false =>
      simp only [Bool.false_or, Bool.false_eq_true, if_false]
      by_cases h : Lib.index l sub = -1
      · rw [h]; rfl
      · have : (Lib.index l sub == -1) = false := by simp [h]
        rw [this]
        simp only [Bool.false_eq_true, if_false]
        by_cases h2 : 0 ≤ Lib.index l sub
        · rw [decide_eq_true h2, decide_eq_true (by omega)]
        · omega
def cand : Bs → List Bs
  | [] => []
  | b :: l => if b = 32 then l.takeWhile (fun c => c != 32) :: cand l else cand l
theorem take_word {s l : Bs} (hs : (32 : UInt8) ∉ s) (h : (s ++ [32]).isPrefixOf l = true) : l.takeWhile (fun c => c != 32) = s := by
  obtain ⟨t, rfl⟩ := List.isPrefixOf_iff_prefix.1 h
  clear h
  induction s with
  | nil => simp
  | cons c s ih =>
    have h1 : c ≠ 32 := fun e => hs (by rw [e]; exact List.mem_cons_self ..)
    have h2 : (32 : UInt8) ∉ s := fun e => hs (List.mem_cons_of_mem _ e)
    simp only [List.cons_append, List.takeWhile_cons]
    have h3 : (c != 32) = true := by simp [h1]
    rw [if_pos h3]
    have := ih h2
    simp only [List.append_assoc, List.cons_append, List.nil_append] at this ⊢
    rw [this]
theorem occ_cand {s : Bs} (hs : (32 : UInt8) ∉ s) : ∀ l : Bs, occ l (32 :: (s ++ [32])) = true → s ∈ cand l
  | [], h => by simp [occ] at h
  | b :: l, h => by
    unfold occ at h
    unfold cand
    rcases Bool.or_eq_true_iff.1 h with h | h
    · rw [List.isPrefixOf_cons_cons] at h
      obtain ⟨h1, h2⟩ := Bool.and_eq_true_iff.1 h
      have hb : b = 32 := (beq_iff_eq.1 h1).symm
      rw [if_pos hb, take_word hs h2]
      exact List.mem_cons_self ..
    · have := occ_cand hs l h
      split
      · exact List.mem_cons_of_mem _ this
      · exact this
theorem words_occ : ∀ w ∈ words, occ (L s_0) (32 :: (w ++ [32])) = true := by decide +kernel
theorem words_cand : cand (L s_0) = words ++ [[]] := by decide +kernel
theorem words_nb : ∀ w ∈ words, (32 : UInt8) ∉ w ∧ w ≠ [] := by decide +kernel
theorem L_append (a b : ByteArray) : L (a ++ b) = L a ++ L b := by unfold L; simp
theorem key_iff {s : Bs} (h0 : s ≠ []) (h1 : (32 : UInt8) ∉ s) : occ (L s_0) (32 :: (s ++ [32])) = decide (s ∈ words) := by
  by_cases h : s ∈ words
  · rw [decide_eq_true h]; exact words_occ s h
  · rw [decide_eq_false h]
    cases ho : occ (L s_0) (32 :: (s ++ [32])) with
    | false => rfl
    | true =>
      have := occ_cand h1 _ ho
      rw [words_cand] at this
      rcases List.mem_append.1 this with h2 | h2
      · exact absurd h2 h
      · exact absurd (List.mem_singleton.1 h2) h0
theorem key17 (k : Nat) (s : ByteArray) (hs : s.size ≤ 1000000) : f17 k s = some ((decide (L s ∈ words), ()), ()) := by
  unfold f17
  rw [beqL]
  by_cases h0 : L s = L ByteArray.empty
  · rw [decide_eq_true h0]
    simp only [Bool.not_true, cond_false]
    have : L s ∉ words := by rw [h0]; decide
    rw [decide_eq_false this]
  · rw [decide_eq_false h0]
    simp only [Bool.not_false, cond_true]
    unfold f54
    simp only [Option.bind_some]
    have hc := Lib.contains_iff_indexByte (L s) 32
    have e32 : ((32 : Int).toNat.toUInt8) = (32 : UInt8) := rfl
    rw [e32]
    have hL : s.data.toList = L s := rfl
    rw [hL]
    by_cases hb : (32 : UInt8) ∈ L s
    · have hcon : (L s).contains 32 = true := List.contains_iff_mem.2 hb
      rw [hcon] at hc
      have h1 : 0 ≤ Lib.indexByte (L s) 32 := of_decide_eq_true hc.symm
      rw [decide_eq_false (by omega : ¬ Lib.indexByte (L s) 32 < 0), cond_false]
      have : L s ∉ words := fun h => (words_nb _ h).1 hb
      rw [decide_eq_false this]
    · have hcon : (L s).contains 32 = false := by
        cases h : (L s).contains 32 with
        | false => rfl
        | true => exact absurd (List.contains_iff_mem.1 h) hb
      rw [hcon] at hc
      have h1 : ¬ 0 ≤ Lib.indexByte (L s) 32 := of_decide_eq_false hc.symm
      rw [decide_eq_true (by omega : Lib.indexByte (L s) 32 < 0), cond_true]
      have z1 : (ByteArray.mk #[32]).size = 1 := rfl
      have z2 : ((ByteArray.mk #[32]) ++ s).size = 1 + s.size := by rw [ByteArray.size_append]; rfl
      rw [z2, z1, gd_dec (by omega), gd_dec (by omega)]
      unfold f55
      rw [gd_dec (by decide +kernel)]
      simp only [Option.bind_some]
      have e1 : (((ByteArray.mk #[32]) ++ s) ++ (ByteArray.mk #[32])).data.toList = 32 :: (L s ++ [32]) := by
        have := L_append ((ByteArray.mk #[32]) ++ s) (ByteArray.mk #[32])
        rw [L_append] at this
        exact this
      rw [e1, contains_occ]
      have := key_iff (s := L s) (fun e => h0 (by rw [e]; rfl)) hb
      have e2 : s_0.data.toList = L s_0 := rfl
      rw [e2, this]
end Lex
end Go.Proofs.Yticelgnmcjkknaa.M
