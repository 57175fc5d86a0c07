/-
Key words and names: what the program and the reference tell of any text.
-/
import Derived.Test.YticelgnmcjkknaaMB
import Derived.Test.YticelgnmcjkknaaPl
import Derived.Test.YticelgnmcjkknaaVm40
import Derived.Lib.IndexAny
set_option linter.unusedVariables false
set_option linter.unusedSimpArgs false
set_option maxRecDepth 100000
namespace Go.Proofs.Yticelgnmcjkknaa.M
open Go Go.Proofs.Yticelgnmcjkknaa.Vm Go.Proofs.Yticelgnmcjkknaa.Pl
namespace Lex
abbrev Bs := List UInt8
def L (s : ByteArray) : Bs := s.data.toList
theorem toL (s : ByteArray) : s.toList = L s := by unfold L; simpa using ByteArray.toList_eq s
theorem beqL (a b : ByteArray) : (a.toList == b.toList) = decide (L a = L b) := by
  rw [toL, toL]
  by_cases h : L a = L b
  · rw [decide_eq_true h, h]; exact beq_self_eq_true _
  · rw [decide_eq_false h]; exact beq_eq_false_iff_ne.2 h
theorem w_id {n : Int} (h : -9223372036854775808 ≤ n) (h' : n ≤ 9223372036854775807) : w64 n = n := w64_id h h'
def words : List Bs := [[119, 105, 100, 116, 104], [118, 97, 114], [97, 116, 111, 109, 105, 99], [109, 117, 116, 101, 120], [99, 104, 97, 110], [112, 114, 111, 99], [115, 101, 116], [108, 111, 97, 100], [115, 116, 111, 114, 101], [103, 101, 116], [112, 117, 116], [97, 100, 100], [99, 97, 115], [108, 111, 99, 107], [115, 101, 110, 100], [114, 101, 99, 118], [103, 111], [105, 102], [101, 108, 115, 101], [119, 104, 105, 108, 101], [98, 114, 101, 97, 107], [99, 111, 110, 116, 105, 110, 117, 101], [97, 115, 115, 101, 114, 116]]

/-! ### the reference's key words -/
theorem key_loop (k : Nat) (s : ByteArray) (l : List ByteArray) (hl : l.length ≤ 1000) : ∀ (d i : Nat), l.length - i = d → ∀ j, d < j → l18_58 k j s l i = if (l.drop i).any (fun e => decide (L e = L s)) then some (.inr ((true, ()), ())) else some (.inl ((), ())) := by
  intro d
  induction d with
  | zero =>
    intro i hi j hj
    obtain ⟨j, rfl, _⟩ := succ_of (n := 0) (by omega : 0 + 1 ≤ j)
    show b18_58 k (l18_58 k j) s l i = _
    unfold b18_58
    rw [decide_eq_false (by omega : ¬ (i : Int) < l.length), List.drop_of_length_le (by omega)]
    rfl
  | succ d ih =>
    intro i hi j hj
    obtain ⟨j, rfl, hj2⟩ := succ_of (by omega : d + 1 + 1 ≤ j)
    show b18_58 k (l18_58 k j) s l i = _
    have hw1 : w64 ((i : Int) + 1) = ((i + 1 : Nat) : Int) := by rw [w_id (by omega) (by omega)]; omega
    have hlt : i < l.length := by omega
    have hx : l[i]? = some l[i] := List.getElem?_eq_getElem hlt
    unfold b18_58
    rw [decide_eq_true (by omega : (i : Int) < l.length), cond_true, ix_nat hx, beqL, hw1, ih (i + 1) (by omega) j hj2, List.drop_eq_getElem_cons hlt, List.any_cons]
    by_cases h : L l[i] = L s
    · rw [decide_eq_true h]; rfl
    · rw [decide_eq_false h]
      simp only [cond_false, Bool.false_or]
      split <;> rfl
theorem any_L (s : ByteArray) : ∀ l : List ByteArray, l.any (fun e => decide (L e = L s)) = decide (L s ∈ l.map L)
  | [] => by simp
  | w :: ws => by
    rw [List.any_cons, any_L s ws, List.map_cons]
    by_cases h : L w = L s
    · simp [h]
    · have h' : ¬ L s = L w := fun e => h e.symm
      simp [h, h']
theorem key18 (k : Nat) (s : ByteArray) (hk : 30 < k) : f18 k s = some ((decide (L s ∈ words), ()), ()) := by
  unfold f18 f56
  simp only [Option.bind_some]
  have := key_loop k s [s_1, s_2, s_3, s_4, s_5, s_6, s_7, s_8, s_9, s_10, s_11, s_12, s_13, s_14, s_15, s_16, (ByteArray.mk #[103, 111]), (ByteArray.mk #[105, 102]), s_17, s_18, s_19, s_20, s_21] (by decide) 23 0 rfl k (by omega)
  rw [show ((0 : Nat) : Int) = 0 from rfl, List.drop_zero] at this
  rw [this]
  have e : ([s_1, s_2, s_3, s_4, s_5, s_6, s_7, s_8, s_9, s_10, s_11, s_12, s_13, s_14, s_15, s_16, (ByteArray.mk #[103, 111]), (ByteArray.mk #[105, 102]), s_17, s_18, s_19, s_20, s_21] : List ByteArray).any (fun e => decide (L e = L s)) = decide (L s ∈ words) := by
    have e1 : ([s_1, s_2, s_3, s_4, s_5, s_6, s_7, s_8, s_9, s_10, s_11, s_12, s_13, s_14, s_15, s_16, (ByteArray.mk #[103, 111]), (ByteArray.mk #[105, 102]), s_17, s_18, s_19, s_20, s_21] : List ByteArray).map L = words := rfl
    rw [any_L, e1]
  rw [e]
  by_cases h : L s ∈ words
  · rw [decide_eq_true h]; rfl
  · rw [decide_eq_false h]; rfl

/-! ### the program's key words: a text between blanks -/
def occ : Bs → Bs → Bool
  | [], sub => sub.isEmpty
  | b :: l, sub => sub.isPrefixOf (b :: l) || occ l sub
theorem contains_occ : ∀ (l sub : Bs), Lib.contains l sub = occ l sub
  | [], sub => by unfold Lib.contains Lib.index occ; cases sub <;> rfl
  | b :: l, sub => by
    have ih := contains_occ l sub
    have hg := Lib.index_ge l sub
    unfold Lib.contains at ih ⊢
    unfold Lib.index occ
    rw [← ih]
    cases hp : sub.isPrefixOf (b :: l) with
    | true => simp
    | false =>
      simp only [Bool.false_or, Bool.false_eq_true, if_false]
      by_cases h : Lib.index l sub = -1
      · rw [h]; rfl
      · have : (Lib.index l sub == -1) = false := by simp [h]
        rw [this]
        simp only [Bool.false_eq_true, if_false]
        by_cases h2 : 0 ≤ Lib.index l sub
        · rw [decide_eq_true h2, decide_eq_true (by omega)]
        · omega
def cand : Bs → List Bs
  | [] => []
  | b :: l => if b = 32 then l.takeWhile (fun c => c != 32) :: cand l else cand l
theorem take_word {s l : Bs} (hs : (32 : UInt8) ∉ s) (h : (s ++ [32]).isPrefixOf l = true) : l.takeWhile (fun c => c != 32) = s := by
  obtain ⟨t, rfl⟩ := List.isPrefixOf_iff_prefix.1 h
  clear h
  induction s with
  | nil => simp
  | cons c s ih =>
    have h1 : c ≠ 32 := fun e => hs (by rw [e]; exact List.mem_cons_self ..)
    have h2 : (32 : UInt8) ∉ s := fun e => hs (List.mem_cons_of_mem _ e)
    simp only [List.cons_append, List.takeWhile_cons]
    have h3 : (c != 32) = true := by simp [h1]
    rw [if_pos h3]
    have := ih h2
    simp only [List.append_assoc, List.cons_append, List.nil_append] at this ⊢
    rw [this]
theorem occ_cand {s : Bs} (hs : (32 : UInt8) ∉ s) : ∀ l : Bs, occ l (32 :: (s ++ [32])) = true → s ∈ cand l
  | [], h => by simp [occ] at h
  | b :: l, h => by
    unfold occ at h
    unfold cand
    rcases Bool.or_eq_true_iff.1 h with h | h
    · rw [List.isPrefixOf_cons_cons] at h
      obtain ⟨h1, h2⟩ := Bool.and_eq_true_iff.1 h
      have hb : b = 32 := (beq_iff_eq.1 h1).symm
      rw [if_pos hb, take_word hs h2]
      exact List.mem_cons_self ..
    · have := occ_cand hs l h
      split
      · exact List.mem_cons_of_mem _ this
      · exact this
theorem words_occ : ∀ w ∈ words, occ (L s_0) (32 :: (w ++ [32])) = true := by decide +kernel
theorem words_cand : cand (L s_0) = words ++ [[]] := by decide +kernel
theorem words_nb : ∀ w ∈ words, (32 : UInt8) ∉ w ∧ w ≠ [] := by decide +kernel
theorem L_append (a b : ByteArray) : L (a ++ b) = L a ++ L b := by unfold L; simp
theorem key_iff {s : Bs} (h0 : s ≠ []) (h1 : (32 : UInt8) ∉ s) : occ (L s_0) (32 :: (s ++ [32])) = decide (s ∈ words) := by
  by_cases h : s ∈ words
  · rw [decide_eq_true h]; exact words_occ s h
  · rw [decide_eq_false h]
    cases ho : occ (L s_0) (32 :: (s ++ [32])) with
    | false => rfl
    | true =>
      have := occ_cand h1 _ ho
      rw [words_cand] at this
      rcases List.mem_append.1 this with h2 | h2
      · exact absurd h2 h
      · exact absurd (List.mem_singleton.1 h2) h0
theorem key17 (k : Nat) (s : ByteArray) (hs : s.size ≤ 1000000) : f17 k s = some ((decide (L s ∈ words), ()), ()) := by
  unfold f17
  rw [beqL]
  by_cases h0 : L s = L ByteArray.empty
  · rw [decide_eq_true h0]
    simp only [Bool.not_true, cond_false]
    have : L s ∉ words := by rw [h0]; decide
    rw [decide_eq_false this]
  · rw [decide_eq_false h0]
    simp only [Bool.not_false, cond_true]
    unfold f54
    simp only [Option.bind_some]
    have hc := Lib.contains_iff_indexByte (L s) 32
    have e32 : ((32 : Int).toNat.toUInt8) = (32 : UInt8) := rfl
    rw [e32]
    have hL : s.data.toList = L s := rfl
    rw [hL]
    by_cases hb : (32 : UInt8) ∈ L s
    · have hcon : (L s).contains 32 = true := List.contains_iff_mem.2 hb
      rw [hcon] at hc
      have h1 : 0 ≤ Lib.indexByte (L s) 32 := of_decide_eq_true hc.symm
      rw [decide_eq_false (by omega : ¬ Lib.indexByte (L s) 32 < 0), cond_false]
      have : L s ∉ words := fun h => (words_nb _ h).1 hb
      rw [decide_eq_false this]
    · have hcon : (L s).contains 32 = false := by
        cases h : (L s).contains 32 with
        | false => rfl
        | true => exact absurd (List.contains_iff_mem.1 h) hb
      rw [hcon] at hc
      have h1 : ¬ 0 ≤ Lib.indexByte (L s) 32 := of_decide_eq_false hc.symm
      rw [decide_eq_true (by omega : Lib.indexByte (L s) 32 < 0), cond_true]
      have z1 : (ByteArray.mk #[32]).size = 1 := rfl
      have z2 : ((ByteArray.mk #[32]) ++ s).size = 1 + s.size := by rw [ByteArray.size_append]; rfl
      rw [z2, z1, gd_dec (by omega), gd_dec (by omega)]
      unfold f55
      rw [gd_dec (by decide +kernel)]
      simp only [Option.bind_some]
      have e1 : (((ByteArray.mk #[32]) ++ s) ++ (ByteArray.mk #[32])).data.toList = 32 :: (L s ++ [32]) := by
        have := L_append ((ByteArray.mk #[32]) ++ s) (ByteArray.mk #[32])
        rw [L_append] at this
        exact this
      rw [e1, contains_occ]
      have := key_iff (s := L s) (fun e => h0 (by rw [e]; rfl)) hb
      have e2 : s_0.data.toList = L s_0 := rfl
      rw [e2, this]
end Lex
end Go.Proofs.Yticelgnmcjkknaa.M
/-
Key words and names: names, by the program and by the reference.
-/
set_option linter.unusedVariables false
set_option linter.unusedSimpArgs false
set_option maxRecDepth 100000
namespace Go.Proofs.Yticelgnmcjkknaa.M
open Go Go.Proofs.Yticelgnmcjkknaa.Vm Go.Proofs.Yticelgnmcjkknaa.Pl
namespace Lex
def lt (e : Int) : Bool := decide (97 ≤ e) && decide (e ≤ 122)
def dg (e : Int) : Bool := decide (48 ≤ e) && decide (e ≤ 57)
def ld (e : Int) : Bool := lt e || dg e
theorem cond_and (a b : Bool) : cond a (some ((b, ()), ())) (some ((false, ()), ())) = some (((a && b), ()), ()) := by cases a <;> rfl
theorem f57_eq (k : Nat) (e : Int) : f57 k e = some ((lt e, ()), ()) := by unfold f57 lt; rw [cond_and]
theorem f59_eq (k : Nat) (e : Int) : f59 k e = some ((lt e, ()), ()) := by unfold f59 lt; rw [cond_and]
theorem f96_eq (k : Nat) (e : Int) : f96 k e = some ((dg e, ()), ()) := by unfold f96 dg; rw [cond_and]
theorem f60_eq (k : Nat) (e : Int) : f60 k e = some ((dg e, ()), ()) := by unfold f60 dg; rw [cond_and]
theorem ixs_nat {R : Type} {s : ByteArray} {i : Nat} {c : UInt8} {K : Int → Option R} (h : (L s)[i]? = some c) : ixs s (i : Int) K = K (c.toNat : Int) := by
  unfold ixs
  rw [decide_eq_true (by omega : (0 : Int) ≤ i)]
  have : s.data.toList[(i : Int).toNat]? = some c := h
  rw [this]; rfl
theorem size_L (s : ByteArray) : (s.size : Int) = ((L s).length : Nat) := by unfold L; rw [Array.length_toList]; rfl
theorem bytes_L (s : ByteArray) : bytesD s = (L s).map fun c => (c.toNat : Int) := rfl
theorem bytes_len (s : ByteArray) : (bytesD s).length = (L s).length := by rw [bytes_L, List.length_map]

/-! ### where letters and digits end -/
def runS (b : List Int) (i : Nat) : Nat := i + ((b.drop i).takeWhile ld).length
theorem run_loop (k : Nat) (b : List Int) (hb : b.length ≤ 1000000000) : ∀ (d i : Nat), b.length - i = d → i ≤ b.length → ∀ j, d < j → l58_12 k j b i = some ((((runS b i : Nat) : Int), ()), ()) := by
  intro d
  induction d with
  | zero =>
    intro i hi hib j hj
    obtain ⟨j, rfl, _⟩ := succ_of (n := 0) (by omega : 0 + 1 ≤ j)
    show b58_12 k (l58_12 k j) b i = _
    unfold b58_12 runS
    rw [decide_eq_false (by omega : ¬ (i : Int) < b.length), List.drop_of_length_le (by omega)]
    rfl
  | succ d ih =>
    intro i hi hib j hj
    obtain ⟨j, rfl, hj2⟩ := succ_of (by omega : d + 1 + 1 ≤ j)
    show b58_12 k (l58_12 k j) b i = _
    have hw1 : w64 ((i : Int) + 1) = ((i + 1 : Nat) : Int) := by rw [w_id (by omega) (by omega)]; omega
    have hlt : i < b.length := by omega
    have hx : b[i]? = some b[i] := List.getElem?_eq_getElem hlt
    have hr : runS b i = if ld b[i] then runS b (i + 1) else i := by
      unfold runS
      rw [List.drop_eq_getElem_cons hlt, List.takeWhile_cons]
      split <;> simp <;> omega
    unfold b58_12
    rw [decide_eq_true (by omega : (i : Int) < b.length), cond_true, ix_nat hx, f57_eq]
    simp only [Option.bind_some]
    rw [hw1, ih (i + 1) (by omega) (by omega) j hj2, ix_nat hx, f96_eq]
    simp only [Option.bind_some]
    rw [hr]
    unfold ld
    cases lt b[i] <;> cases dg b[i] <;> rfl
theorem run58 (k : Nat) (b : List Int) (hb : b.length ≤ 1000000000) (hk : b.length < k) {i : Nat} (hi : i ≤ b.length) : f58 k b i = some ((((runS b i : Nat) : Int), ()), ()) := by
  unfold f58
  rw [run_loop k b hb (b.length - i) i rfl hi k (by omega)]
  rfl

/-! ### names -/
def nameS (s : Bs) : Bool := match s with
  | [] => false
  | c :: r => lt (c.toNat : Int) && r.all (fun c => ld (c.toNat : Int)) && decide (s.length ≤ 12) && !decide (s ∈ words)
theorem take_all {A : Type} (p : A → Bool) : ∀ l : List A, ((l.takeWhile p).length == l.length) = l.all p
  | [] => rfl
  | a :: l => by
    rw [List.takeWhile_cons, List.all_cons]
    cases h : p a with
    | true =>
      have := take_all p l
      rw [if_pos rfl, List.length_cons, List.length_cons, Bool.true_and, ← this]
      by_cases e : (List.takeWhile p l).length = l.length
      · simp [e]
      · simp [e]
    | false => rw [if_neg (by simp), Bool.false_and]; simp
theorem beq_int (a b : Int) : (a == b) = decide (a = b) := by
  by_cases h : a = b
  · rw [decide_eq_true h, h]; simp
  · rw [decide_eq_false h]; simp [h]
theorem beq_nat (a b : Nat) : (((a : Nat) : Int) == ((b : Nat) : Int)) = (a == b) := by
  by_cases h : a = b
  · subst h; rw [beq_self_eq_true, beq_self_eq_true]
  · have : ¬ ((a : Int) = b) := by omega
    rw [beq_eq_false_iff_ne.2 this, beq_eq_false_iff_ne.2 h]
theorem name19 (k : Nat) (s : ByteArray) (hs : s.size ≤ 1000000) (hk : s.size < k) : f19 k s = some ((nameS (L s), ()), ()) := by
  have hl := size_L s
  unfold f19
  rw [beqL]
  by_cases h0 : L s = []
  · have : L s = L ByteArray.empty := h0
    rw [decide_eq_true this, h0]; rfl
  · have : ¬ L s = L ByteArray.empty := h0
    rw [decide_eq_false this]
    obtain ⟨c, r, hcr⟩ := List.exists_cons_of_ne_nil h0
    have h00 : (L s)[0]? = some c := by rw [hcr]; rfl
    have h1 : ixs s 0 = ixs s ((0 : Nat) : Int) (R := R19) := rfl
    have hrun := run58 k (bytesD s) (by rw [bytes_len]; omega) (by rw [bytes_len]; omega) (i := 0) (by omega)
    have hr2 : (((runS (bytesD s) 0 : Nat) : Int) == (s.size : Int)) = (L s).all (fun c => ld (c.toNat : Int)) := by
      rw [hl, beq_nat]
      unfold runS
      rw [Nat.zero_add, List.drop_zero]
      have := take_all ld (bytesD s)
      rw [bytes_len] at this
      rw [this, bytes_L, List.all_map]; rfl
    rw [show ((0 : Nat) : Int) = 0 from rfl] at hrun
    rw [h1, ixs_nat h00, f57_eq, hrun, key17 k s hs]
    simp only [Option.bind_some, hr2]
    unfold nameS
    rw [hcr]
    dsimp only
    rw [List.all_cons]
    have hsz : decide ((s.size : Int) ≤ 12) = decide ((c :: r).length ≤ 12) := by
      rw [hl, hcr]
      by_cases h : (c :: r).length ≤ 12
      · rw [decide_eq_true h, decide_eq_true (by omega)]
      · rw [decide_eq_false h, decide_eq_false (by omega)]
    rw [hsz]
    have e : ld (c.toNat : Int) = (lt (c.toNat : Int) || dg (c.toNat : Int)) := rfl
    rw [e]
    simp only [Bool.not_false, cond_true]
    cases lt (c.toNat : Int) <;> cases dg (c.toNat : Int) <;> cases r.all (fun c => ld (c.toNat : Int)) <;> cases decide ((c :: r).length ≤ 12) <;> rfl
theorem name_loop (k : Nat) (s : ByteArray) (hs : s.size ≤ 1000000) : ∀ (d i : Nat), (L s).length - i = d → 1 ≤ i → ∀ j, d < j → l20_26 k j s i = if ((L s).drop i).all (fun c => ld (c.toNat : Int)) then some (.inl ((), ())) else some (.inr ((false, ()), ())) := by
  have hl := size_L s
  intro d
  induction d with
  | zero =>
    intro i hi h1 j hj
    obtain ⟨j, rfl, _⟩ := succ_of (n := 0) (by omega : 0 + 1 ≤ j)
    show b20_26 k (l20_26 k j) s i = _
    unfold b20_26
    rw [decide_eq_false (by omega : ¬ (i : Int) < s.size), List.drop_of_length_le (by omega)]
    rfl
  | succ d ih =>
    intro i hi h1 j hj
    obtain ⟨j, rfl, hj2⟩ := succ_of (by omega : d + 1 + 1 ≤ j)
    show b20_26 k (l20_26 k j) s i = _
    have hw1 : w64 ((i : Int) + 1) = ((i + 1 : Nat) : Int) := by rw [w_id (by omega) (by omega)]; omega
    have hlt : i < (L s).length := by omega
    have hx : (L s)[i]? = some (L s)[i] := List.getElem?_eq_getElem hlt
    have hi0 : ((i : Int) == 0) = false := by rw [beq_int, decide_eq_false (by omega)]
    unfold b20_26
    rw [decide_eq_true (by omega : (i : Int) < s.size), cond_true, ixs_nat hx, f59_eq, hi0, ixs_nat hx, f60_eq, hw1, ih (i + 1) (by omega) (by omega) j hj2, List.drop_eq_getElem_cons hlt, List.all_cons]
    simp only [Option.bind_some]
    have e : ld (((L s)[i]).toNat : Int) = (lt (((L s)[i]).toNat : Int) || dg (((L s)[i]).toNat : Int)) := rfl
    rw [e]
    cases lt (((L s)[i]).toNat : Int) <;> cases dg (((L s)[i]).toNat : Int) <;> cases ((L s).drop (i + 1)).all (fun c => ld (c.toNat : Int)) <;> rfl
theorem name20 (k : Nat) (s : ByteArray) (hs : s.size ≤ 1000000) (hk : s.size + 40 < k) : f20 k s = some ((nameS (L s), ()), ()) := by
  have hl := size_L s
  unfold f20
  obtain ⟨k', rfl⟩ : ∃ k', k = k' + 1 := ⟨k - 1, by omega⟩
  have hstep : l20_26 (k' + 1) (k' + 1) s 0 = b20_26 (k' + 1) (l20_26 (k' + 1) k') s 0 := rfl
  rw [hstep]
  unfold b20_26
  cases hcr : L s with
  | nil =>
    rw [hcr, List.length_nil] at hl
    rw [decide_eq_false (by omega : ¬ (0 : Int) < s.size)]
    simp only [cond_false, Option.bind_some]
    rw [decide_eq_false (by omega : ¬ (s.size : Int) ≥ 1)]
    rfl
  | cons c r =>
    have h00 : (L s)[0]? = some c := by rw [hcr]; rfl
    have hpos : (L s).length = r.length + 1 := by rw [hcr]; rfl
    have h1 : ∀ {R : Type}, ixs s 0 = ixs s ((0 : Nat) : Int) (R := R) := rfl
    have hrec := name_loop (k' + 1) s hs ((L s).length - 1) 1 rfl (by omega) k' (by omega)
    rw [show ((1 : Nat) : Int) = w64 (0 + 1) from rfl] at hrec
    rw [decide_eq_true (by omega : (0 : Int) < s.size), h1, ixs_nat h00, f59_eq, hrec, key18 (k' + 1) s (by omega)]
    have hd : (L s).drop 1 = r := by rw [hcr]; rfl
    rw [hd]
    have hsz : decide ((s.size : Int) ≤ 12) = decide ((c :: r).length ≤ 12) := by
      rw [hl, hcr]
      by_cases h : (c :: r).length ≤ 12
      · rw [decide_eq_true h, decide_eq_true (by omega)]
      · rw [decide_eq_false h, decide_eq_false (by omega)]
    simp only [Option.bind_some, cond_true]
    rw [hsz, decide_eq_true (by omega : (s.size : Int) ≥ 1), hcr]
    unfold nameS
    dsimp only
    cases lt (c.toNat : Int) with
    | false => rfl
    | true =>
      simp only [Bool.not_true, cond_false, Bool.true_and]
      cases r.all (fun c => ld (c.toNat : Int)) with
      | false => rfl
      | true => cases decide ((c :: r).length ≤ 12) <;> rfl
end Lex
end Go.Proofs.Yticelgnmcjkknaa.M
/-
How strongly any sign binds: the plain law. For every input, no condition.
-/
set_option linter.unusedVariables false
set_option linter.unusedSimpArgs false
set_option maxRecDepth 100000
namespace Go.Proofs.Yticelgnmcjkknaa.M
open Go Go.Proofs.Yticelgnmcjkknaa.Vm Go.Proofs.Yticelgnmcjkknaa.Pl Lex
theorem awake21 (k : Nat) : f21 (k + 60) () = some ((true, ()), ()) := by kernel_rfl
theorem awake21E : E fun k => f21 k () = some ((true, ()), ()) := ⟨60, fun k hk => by obtain ⟨j, rfl⟩ : ∃ j, k = j + 60 := ⟨k - 60, by omega⟩; exact awake21 j⟩
namespace Tree
/-- All signs. -/
def signs : List ByteArray := [ByteArray.mk #[124, 124], ByteArray.mk #[38, 38], ByteArray.mk #[61, 61], ByteArray.mk #[33, 61], ByteArray.mk #[60], ByteArray.mk #[60, 61], ByteArray.mk #[62], ByteArray.mk #[62, 61], ByteArray.mk #[43], ByteArray.mk #[45], ByteArray.mk #[124], ByteArray.mk #[94], ByteArray.mk #[42], ByteArray.mk #[47], ByteArray.mk #[37], ByteArray.mk #[60, 60], ByteArray.mk #[62, 62], ByteArray.mk #[38]]
def table : List (List ByteArray) := [[(ByteArray.mk #[124, 124])], [(ByteArray.mk #[38, 38])], [(ByteArray.mk #[61, 61]), (ByteArray.mk #[33, 61]), (ByteArray.mk #[60]), (ByteArray.mk #[60, 61]), (ByteArray.mk #[62]), (ByteArray.mk #[62, 61])], [(ByteArray.mk #[43]), (ByteArray.mk #[45]), (ByteArray.mk #[124]), (ByteArray.mk #[94])], [(ByteArray.mk #[42]), (ByteArray.mk #[47]), (ByteArray.mk #[37]), (ByteArray.mk #[60, 60]), (ByteArray.mk #[62, 62]), (ByteArray.mk #[38])]]
theorem L_inj {a b : ByteArray} (h : L a = L b) : a = b := by
  unfold L at h
  exact ByteArray.ext (Array.toList_inj.1 h)
/-- How strongly, by both. -/
theorem both (k : Nat) : ∀ s ∈ signs, ∃ n : Int, f22 (k + 40) s = some ((n, ()), ()) ∧ f23 (k + 40) s = some ((n, ()), ()) := by
  intro s hs
  simp only [signs, List.mem_cons, List.not_mem_nil, or_false] at hs
  rcases hs with rfl | rfl | rfl | rfl | rfl | rfl | rfl | rfl | rfl | rfl | rfl | rfl | rfl | rfl | rfl | rfl | rfl | rfl
  · exact ⟨1, by kernel_rfl, by kernel_rfl⟩
  · exact ⟨2, by kernel_rfl, by kernel_rfl⟩
  · exact ⟨3, by kernel_rfl, by kernel_rfl⟩
  · exact ⟨3, by kernel_rfl, by kernel_rfl⟩
  · exact ⟨3, by kernel_rfl, by kernel_rfl⟩
  · exact ⟨3, by kernel_rfl, by kernel_rfl⟩
  · exact ⟨3, by kernel_rfl, by kernel_rfl⟩
  · exact ⟨3, by kernel_rfl, by kernel_rfl⟩
  · exact ⟨4, by kernel_rfl, by kernel_rfl⟩
  · exact ⟨4, by kernel_rfl, by kernel_rfl⟩
  · exact ⟨4, by kernel_rfl, by kernel_rfl⟩
  · exact ⟨4, by kernel_rfl, by kernel_rfl⟩
  · exact ⟨5, by kernel_rfl, by kernel_rfl⟩
  · exact ⟨5, by kernel_rfl, by kernel_rfl⟩
  · exact ⟨5, by kernel_rfl, by kernel_rfl⟩
  · exact ⟨5, by kernel_rfl, by kernel_rfl⟩
  · exact ⟨5, by kernel_rfl, by kernel_rfl⟩
  · exact ⟨5, by kernel_rfl, by kernel_rfl⟩
theorem inner (k : Nat) (s : ByteArray) (l : List (List ByteArray)) {i : Nat} {r : List ByteArray} (hr : l[i]? = some r) (hl : r.length ≤ 100) (hs : ∀ e ∈ r, L e ≠ L s) : ∀ (d q : Nat), r.length - q = d → ∀ j, d < j → l23_3730 k j s l i q = some (.inl ((l, ()), ())) := by
  intro d
  induction d with
  | zero =>
    intro q hq j hj
    obtain ⟨j, rfl, _⟩ := succ_of (n := 0) (by omega : 0 + 1 ≤ j)
    show b23_3730 k (l23_3730 k j) s l i q = _
    unfold b23_3730
    rw [ix_nat hr, decide_eq_false (by omega : ¬ (q : Int) < r.length)]; rfl
  | succ d ih =>
    intro q hq j hj
    obtain ⟨j, rfl, hj2⟩ := succ_of (by omega : d + 1 + 1 ≤ j)
    show b23_3730 k (l23_3730 k j) s l i q = _
    have hw1 : w64 ((q : Int) + 1) = ((q + 1 : Nat) : Int) := by rw [w_id (by omega) (by omega)]; omega
    have hx : r[q]? = some r[q] := List.getElem?_eq_getElem (by omega)
    unfold b23_3730
    rw [ix_nat hr, decide_eq_true (by omega : (q : Int) < r.length), cond_true, ix_nat hr, ix_nat hx, beqL, decide_eq_false (hs _ (List.getElem_mem _)), cond_false, hw1, ih (q + 1) (by omega) j hj2]; rfl
theorem outer (k : Nat) (hk : 100 < k) (s : ByteArray) (l : List (List ByteArray)) (hl : l.length ≤ 100) (hl2 : ∀ r ∈ l, r.length ≤ 99) (hs : ∀ r ∈ l, ∀ e ∈ r, L e ≠ L s) : ∀ (d i : Nat), l.length - i = d → ∀ j, d < j → l23_58 k j s l i = some (.inl ((), ())) := by
  intro d
  induction d with
  | zero =>
    intro q hq j hj
    obtain ⟨j, rfl, _⟩ := succ_of (n := 0) (by omega : 0 + 1 ≤ j)
    show b23_58 k (l23_58 k j) s l q = _
    unfold b23_58
    rw [decide_eq_false (by omega : ¬ (q : Int) < l.length)]; rfl
  | succ d ih =>
    intro q hq j hj
    obtain ⟨j, rfl, hj2⟩ := succ_of (by omega : d + 1 + 1 ≤ j)
    show b23_58 k (l23_58 k j) s l q = _
    have hw1 : w64 ((q : Int) + 1) = ((q + 1 : Nat) : Int) := by rw [w_id (by omega) (by omega)]; omega
    have hx : l[q]? = some l[q] := List.getElem?_eq_getElem (by omega)
    have hm : l[q] ∈ l := List.getElem_mem _
    have h0 := inner k s l hx (by have := hl2 _ hm; omega) (hs _ hm) l[q].length 0 (by omega) k (by have := hl2 _ hm; omega)
    rw [show ((0 : Nat) : Int) = 0 from rfl] at h0
    unfold b23_58
    rw [decide_eq_true (by omega : (q : Int) < l.length), cond_true, h0]
    simp only [Option.bind_some]
    rw [hw1, ih (q + 1) (by omega) j hj2]; rfl
theorem ref_none (k : Nat) (hk : 100 < k) (s : ByteArray) (h : ∀ e ∈ signs, L e ≠ L s) : f23 k s = some ((0, ()), ()) := by
  unfold f23
  have hs : ∀ r ∈ table, ∀ e ∈ r, L e ≠ L s := by
    intro r hr e he
    refine h e ?_
    have e1 : signs = table.flatten := rfl
    rw [e1]
    exact List.mem_flatten.2 ⟨r, hr, he⟩
  have := outer k hk s table (by decide) (by decide) hs 5 0 rfl k (by omega)
  rw [show ((0 : Nat) : Int) = 0 from rfl] at this
  unfold table at this
  rw [this]; rfl
theorem prog_none (k : Nat) (s : ByteArray) (h : ∀ e ∈ signs, L e ≠ L s) : f22 k s = some ((0, ()), ()) := by
  have hn : ∀ e, e ∈ signs → (s.toList == e.toList) = false := fun e he => by rw [beqL]; exact decide_eq_false fun e2 => h e he e2.symm
  have m : ∀ e, e ∈ signs ↔ e ∈ signs := fun _ => Iff.rfl
  simp only [signs, List.mem_cons, List.not_mem_nil, or_false, forall_eq_or_imp, forall_eq] at hn
  obtain ⟨h1, h2, h3, h4, h5, h6, h7, h8, h9, h10, h11, h12, h13, h14, h15, h16, h17, h18⟩ := hn
  unfold f22 l22_52
  simp only [h1, h2, h3, h4, h5, h6, h7, h8, h9, h10, h11, h12, h13, h14, h15, h16, h17, h18, cond_false, Option.bind_some]
  unfold l22_214 l22_428 l22_1718 l22_6878
  simp only [h1, h2, h3, h4, h5, h6, h7, h8, h9, h10, h11, h12, h13, h14, h15, h16, h17, h18, cond_false, Option.bind_some]
  unfold l22_862 l22_1724 l22_6902 l22_27614 l22_110462 l22_441854
  simp only [h1, h2, h3, h4, h5, h6, h7, h8, h9, h10, h11, h12, h13, h14, h15, h16, h17, h18, cond_false, Option.bind_some]
  unfold l22_3454 l22_13822
  simp only [h1, h2, h3, h4, h5, h6, h7, h8, h9, h10, h11, h12, h13, h14, h15, h16, h17, h18, cond_false, Option.bind_some]
end Tree
end Go.Proofs.Yticelgnmcjkknaa.M
/-
Programs as trees: what is counted of any tree comes to an end; what fits.
-/
set_option linter.unusedVariables false
set_option linter.unusedSimpArgs false
set_option maxRecDepth 100000
namespace Go.Proofs.Yticelgnmcjkknaa.M
open Go Go.Proofs.Yticelgnmcjkknaa.Vm Go.Proofs.Yticelgnmcjkknaa.Pl
namespace Tree
open Lex
abbrev mx : Nat := 9223372036854775807
theorem E_list {A : Type} {P : A → Nat → Prop} : ∀ l : List A, (∀ x ∈ l, E (P x)) → E fun k => ∀ x ∈ l, P x k
  | [], _ => .all fun k x hx => by cases hx
  | a :: l, h => ((h a (List.mem_cons_self ..)).and (E_list l fun x hx => h x (List.mem_cons_of_mem _ hx))).mono fun k ⟨h1, h2⟩ x hx => by
    rcases List.mem_cons.1 hx with rfl | hx
    · exact h1
    · exact h2 x hx
theorem fit_list {T : Ty} {l : List T.D} (h : Fit (.slice T) l) : l.length ≤ mx ∧ ∀ x ∈ l, Fit T x := h.inv
theorem fit_expr {e : PExpr} (h : Fit (.rc 0) e) : (eName e).size ≤ mx ∧ (eKids e).length ≤ mx ∧ ∀ x ∈ eKids e, Fit (.rc 0) x := by
  have h1 : Fit exprTy (un 0 e) := h.inv
  have h2 := h1.inv.2.inv.2.inv.2
  have h3 := h2.inv.2
  have h4 := fit_list h3.inv.1
  exact ⟨h2.inv.1.inv, h4.1, h4.2⟩
theorem fit_stmt {s : PStmt} (h : Fit (.rc 1) s) : (sName s).size ≤ mx ∧ (sLoc s).size ≤ mx ∧ ((sExprs s).length ≤ mx ∧ ∀ x ∈ sExprs s, Fit (.rc 0) x) ∧ Fit (.slice (.rc 1)) (sBody s) ∧ Fit (.slice (.rc 1)) (sEls s) := by
  have h1 : Fit stmtTy (un 1 s) := h.inv
  have h2 := h1.inv.2
  have h3 := h2.inv.2
  have h4 := h3.inv.2
  have h5 := h4.inv.2
  have h6 := h5.inv.2
  exact ⟨h2.inv.1.inv, h3.inv.1.inv, fit_list h4.inv.1, h5.inv.1, h6.inv.1⟩
theorem w_one {i n : Nat} (h : i < n) (hn : n ≤ mx) : w64 ((i : Int) + 1) = ((i + 1 : Nat) : Int) := by
  have : i + 1 ≤ 9223372036854775807 := Nat.le_trans h hn
  rw [w64_id (by omega) (by omega)]; omega
/-! ### counting ends -/
theorem kids_loop (k : Nat) {most : Int} {r : T25} {l : List PExpr} (hl : l.length ≤ mx) (hr : ∀ x ∈ l, ∃ v, r x most = some ((v, ()), ())) {a : Int} {b : ByteArray} {c : Int} {e : ByteArray} {p : Int} : ∀ (d i : Nat) (n : Int), l.length - i = d → ∀ j, d < j →
    ∃ v, l25_58 k r j most n i a b c e l p = some ((v, ()), ((a, b, c, e, l, p, ()), ())) := by
  intro d
  induction d with
  | zero =>
    intro i n hi j hj
    obtain ⟨j, rfl, _⟩ := succ_of (n := 0) (by omega : 0 + 1 ≤ j)
    refine ⟨n, ?_⟩
    show b25_58 k r (l25_58 k r j) most n i a b c e l p = _
    unfold b25_58
    rw [decide_eq_false (by omega : ¬ (i : Int) < l.length)]; rfl
  | succ d ih =>
    intro i n hi j hj
    obtain ⟨j, rfl, hj2⟩ := succ_of (by omega : d + 1 + 1 ≤ j)
    have hlt : i < l.length := by omega
    have hx : l[i]? = some l[i] := List.getElem?_eq_getElem hlt
    have e0 : l25_58 k r (j + 1) most n i a b c e l p = b25_58 k r (l25_58 k r j) most n i a b c e l p := rfl
    rw [e0]
    unfold b25_58
    rw [decide_eq_true (by omega : (i : Int) < l.length), cond_true]
    by_cases hn : n ≤ most
    · obtain ⟨v, hv⟩ := hr _ (List.getElem_mem hlt)
      rw [decide_eq_true hn, cond_true, ix_nat hx, hv]
      simp only [Option.bind_some]
      rw [w_one hlt hl]
      obtain ⟨u, hu⟩ := ih (i + 1) (w64 (n + v)) (by omega) j hj2
      rw [hu]
      exact ⟨u, rfl⟩
    · rw [decide_eq_false hn]; exact ⟨n, rfl⟩
theorem kids25 (most : Int) : ∀ (n : Nat) (e : PExpr), SizeOf.sizeOf e ≤ n → Fit (.rc 0) e → E fun k => ∃ v, f25 k e most = some ((v, ()), ())
  | 0, e, h, _ => by cases e; simp at h
  | n + 1, e, h, hf => by
    obtain ⟨_, hl, hk⟩ := fit_expr hf
    have hs : ∀ x ∈ eKids e, SizeOf.sizeOf x ≤ n := by
      intro x hx
      have h1 := List.sizeOf_lt_of_mem hx
      have h2 : SizeOf.sizeOf (eKids e) < SizeOf.sizeOf e := by
        cases e with
        | mk a b c d kids f =>
          show SizeOf.sizeOf kids < SizeOf.sizeOf (PExpr.mk a b c d kids f)
          simp
          omega
      omega
    refine ((E_list (eKids e) fun x hx => kids25 most n x (hs x hx) (hk x hx)).and (E.ge ((eKids e).length + 1))).succ fun k ⟨h1, h2⟩ => ?_
    rw [f25_succ]
    unfold b25
    obtain ⟨v, hv⟩ := kids_loop k (r := f25 k) (most := most) hl h1 (a := eKind e) (b := eOp e) (c := eNum e) (e := eName e) (p := ePos e) (eKids e).length 0 1 (by omega) k (by omega)
    rw [show ((0 : Nat) : Int) = 0 from rfl] at hv
    rw [hv]
    exact ⟨v, rfl⟩
theorem parts_inner (k : Nat) {most : Int} {r : T61} {l : List PStmt} {i : Nat} {s : PStmt} (hi : l[i]? = some s) (hl : (sExprs s).length ≤ mx) (hr : ∀ x ∈ sExprs s, ∃ v, f25 k x most = some ((v, ()), ())) : ∀ (d q : Nat) (n : Int), (sExprs s).length - q = d → ∀ j, d < j →
    ∃ v, l61_7462 k r j l most n i q = some ((v, ()), ()) := by
  intro d
  induction d with
  | zero =>
    intro q n hq j hj
    obtain ⟨j, rfl, _⟩ := succ_of (n := 0) (by omega : 0 + 1 ≤ j)
    refine ⟨n, ?_⟩
    show b61_7462 k r (l61_7462 k r j) l most n i q = _
    unfold b61_7462
    rw [ix_nat hi, decide_eq_false (by omega : ¬ (q : Int) < ((sExprs s).length : Int))]; rfl
  | succ d ih =>
    intro q n hq j hj
    obtain ⟨j, rfl, hj2⟩ := succ_of (by omega : d + 1 + 1 ≤ j)
    have hlt : q < (sExprs s).length := by omega
    have hx : (sExprs s)[q]? = some (sExprs s)[q] := List.getElem?_eq_getElem hlt
    have e0 : l61_7462 k r (j + 1) l most n i q = b61_7462 k r (l61_7462 k r j) l most n i q := rfl
    rw [e0]
    unfold b61_7462
    rw [ix_nat hi, decide_eq_true (by omega : (q : Int) < ((sExprs s).length : Int)), cond_true]
    by_cases hn : n ≤ most
    · obtain ⟨v, hv⟩ := hr _ (List.getElem_mem hlt)
      rw [decide_eq_true hn, cond_true, ix_nat hi, ix_nat hx, hv]
      simp only [Option.bind_some]
      rw [w_one hlt hl]
      obtain ⟨u, hu⟩ := ih (q + 1) (w64 (n + v)) (by omega) j hj2
      rw [hu]
      exact ⟨u, rfl⟩
    · rw [decide_eq_false hn]; exact ⟨n, rfl⟩
theorem parts_loop (k : Nat) {most : Int} {l : List PStmt} (hl : l.length ≤ mx) (hr : ∀ s ∈ l, (∃ v, f61 k (sBody s) most = some ((v, ()), ())) ∧ (∃ v, f61 k (sEls s) most = some ((v, ()), ())) ∧ (∀ x ∈ sExprs s, ∃ v, f25 k x most = some ((v, ()), ())) ∧ (sExprs s).length < k ∧ (sExprs s).length ≤ mx) : ∀ (d i : Nat) (n : Int), l.length - i = d → ∀ j, d < j →
    ∃ v, l61_58 k (f61 k) j l most n i = some ((v, ()), ()) := by
  intro d
  induction d with
  | zero =>
    intro i n hi j hj
    obtain ⟨j, rfl, _⟩ := succ_of (n := 0) (by omega : 0 + 1 ≤ j)
    refine ⟨n, ?_⟩
    show b61_58 k (f61 k) (l61_58 k (f61 k) j) l most n i = _
    unfold b61_58
    rw [decide_eq_false (by omega : ¬ (i : Int) < l.length)]; rfl
  | succ d ih =>
    intro i n hi j hj
    obtain ⟨j, rfl, hj2⟩ := succ_of (by omega : d + 1 + 1 ≤ j)
    have hlt : i < l.length := by omega
    have hx : l[i]? = some l[i] := List.getElem?_eq_getElem hlt
    have e0 : l61_58 k (f61 k) (j + 1) l most n i = b61_58 k (f61 k) (l61_58 k (f61 k) j) l most n i := rfl
    rw [e0]
    unfold b61_58
    rw [decide_eq_true (by omega : (i : Int) < l.length), cond_true]
    by_cases hn : n ≤ most
    · obtain ⟨⟨a, ha⟩, ⟨b, hb⟩, hc, hc2, hc3⟩ := hr _ (List.getElem_mem hlt)
      rw [decide_eq_true hn, cond_true, ix_nat hx, ix_nat hx, ha]
      simp only [Option.bind_some]
      rw [ix_nat hx, hb]
      simp only [Option.bind_some]
      obtain ⟨v, hv⟩ := parts_inner k (r := f61 k) (most := most) hx hc3 hc (sExprs l[i]).length 0 (w64 (w64 (w64 (w64 (n + 1) + ((sExprs l[i]).length : Int)) + a) + b)) (by omega) k hc2
      rw [show ((0 : Nat) : Int) = 0 from rfl] at hv
      rw [hv]
      simp only [Option.bind_some]
      rw [w_one hlt hl]
      obtain ⟨u, hu⟩ := ih (i + 1) v (by omega) j hj2
      rw [hu]
      exact ⟨u, rfl⟩
    · rw [decide_eq_false hn]; exact ⟨n, rfl⟩
theorem stmt_sizes (s : PStmt) : SizeOf.sizeOf (sBody s) < SizeOf.sizeOf s ∧ SizeOf.sizeOf (sEls s) < SizeOf.sizeOf s := by
  cases s with
  | mk a b c d x y f =>
    constructor
    · show SizeOf.sizeOf x < SizeOf.sizeOf (PStmt.mk a b c d x y f)
      simp
      omega
    · show SizeOf.sizeOf y < SizeOf.sizeOf (PStmt.mk a b c d x y f)
      simp
      omega
theorem parts61 (most : Int) : ∀ (n : Nat) (l : List PStmt), SizeOf.sizeOf l ≤ n → Fit (.slice (.rc 1)) l → E fun k => ∃ v, f61 k l most = some ((v, ()), ())
  | 0, l, h, _ => by cases l <;> simp at h
  | n + 1, l, h, hf => by
    obtain ⟨hl, hs⟩ := fit_list hf
    have key : ∀ s ∈ l, E fun k => (∃ v, f61 k (sBody s) most = some ((v, ()), ())) ∧ (∃ v, f61 k (sEls s) most = some ((v, ()), ())) ∧ (∀ x ∈ sExprs s, ∃ v, f25 k x most = some ((v, ()), ())) ∧ (sExprs s).length < k ∧ (sExprs s).length ≤ mx := by
      intro s hsm
      have h1 := List.sizeOf_lt_of_mem hsm
      obtain ⟨h2, h3⟩ := stmt_sizes s
      obtain ⟨_, _, ⟨f1, f2⟩, f3, f4⟩ := fit_stmt (hs s hsm)
      have e1 := parts61 most n (sBody s) (by omega) f3
      have e2 := parts61 most n (sEls s) (by omega) f4
      have e3 := E_list (sExprs s) fun x hx => kids25 most _ x (Nat.le_refl _) (f2 x hx)
      exact (e1.and (e2.and (e3.and (E.ge ((sExprs s).length + 1))))).mono fun k ⟨a1, a2, a3, a4⟩ => ⟨a1, a2, a3, by omega, f1⟩
    refine ((E_list l key).and (E.ge (l.length + 1))).succ fun k ⟨h1, h2⟩ => ?_
    rw [f61_succ]
    unfold b61
    obtain ⟨v, hv⟩ := parts_loop k (most := most) hl h1 l.length 0 0 (by omega) k (by omega)
    rw [show ((0 : Nat) : Int) = 0 from rfl] at hv
    rw [hv]
    exact ⟨v, rfl⟩
theorem light_loop (k : Nat) {w : Int} {ds : List D_Decl} {ps : List D_Proc} (hr : ∀ p ∈ ps, ∃ v, f61 k p.2.1 800 = some ((v, ()), ())) : ∀ (d i : Nat) (n : Int), 20 - i = d → ∀ j, d < j →
    ∃ v, l24_58 k j n i w ds ps = some ((v, ()), ((w, ds, ps, ()), ())) := by
  intro d
  induction d with
  | zero =>
    intro i n hi j hj
    obtain ⟨j, rfl, _⟩ := succ_of (n := 0) (by omega : 0 + 1 ≤ j)
    refine ⟨n, ?_⟩
    show b24_58 k (l24_58 k j) n i w ds ps = _
    unfold b24_58
    rw [decide_eq_false (by omega : ¬ (i : Int) < 20)]
    cases decide ((i : Int) < (ps.length : Int)) <;> rfl
  | succ d ih =>
    intro i n hi j hj
    obtain ⟨j, rfl, hj2⟩ := succ_of (by omega : d + 1 + 1 ≤ j)
    have e0 : l24_58 k (j + 1) n i w ds ps = b24_58 k (l24_58 k j) n i w ds ps := rfl
    rw [e0]
    unfold b24_58
    by_cases hlt : i < ps.length
    · have hx : ps[i]? = some ps[i] := List.getElem?_eq_getElem hlt
      obtain ⟨v, hv⟩ := hr _ (List.getElem_mem hlt)
      rw [decide_eq_true (by omega : (i : Int) < ps.length), decide_eq_true (by omega : (i : Int) < 20), cond_true, cond_true, ix_nat hx, hv]
      simp only [Option.bind_some]
      rw [w_one (n := 20) (by omega) (by decide)]
      obtain ⟨u, hu⟩ := ih (i + 1) (w64 (n + v)) (by omega) j hj2
      rw [hu]
      exact ⟨u, rfl⟩
    · rw [decide_eq_false (by omega : ¬ (i : Int) < ps.length)]; exact ⟨n, rfl⟩
theorem light24 {p : D_Prog} (hf : Fit T_Prog p) : E fun k => ∃ b, f24 k p = some ((b, ()), ()) := by
  obtain ⟨w, ds, ps, u⟩ := p
  have hp : Fit (.slice T_Proc) ps := hf.inv.2.inv.2.inv.1
  obtain ⟨hl, hs⟩ := fit_list hp
  have key : ∀ q ∈ ps, E fun k => ∃ v, f61 k q.2.1 800 = some ((v, ()), ()) := fun q hq => by
    have h1 : Fit (.slice (.rc 1)) q.2.1 := (hs q hq).inv.2.inv.1
    exact parts61 800 _ q.2.1 (Nat.le_refl _) h1
  refine ((E_list ps key).and (E.ge 100)).mono fun k ⟨h1, h2⟩ => ?_
  obtain ⟨v, hv⟩ := light_loop k (w := w) (ds := ds) h1 20 0 (ds.length : Int) (by omega) k (by omega)
  rw [show ((0 : Nat) : Int) = 0 from rfl] at hv
  unfold f24
  dsimp only
  rw [hv]
  simp only [Option.bind_some]
  cases decide (v ≤ 800)
  · exact ⟨_, rfl⟩
  · exact ⟨_, rfl⟩
/-! ### names of any length -/
theorem name_loop' (k : Nat) (s : ByteArray) (hs : s.size ≤ mx) : ∀ (d i : Nat), (L s).length - i = d → 1 ≤ i → ∀ j, d < j → l20_26 k j s i = some (.inl ((), ())) ∨ l20_26 k j s i = some (.inr ((false, ()), ())) := by
  have hl := size_L s
  intro d
  induction d with
  | zero =>
    intro i hi h1 j hj
    obtain ⟨j, rfl, _⟩ := succ_of (n := 0) (by omega : 0 + 1 ≤ j)
    refine .inl ?_
    show b20_26 k (l20_26 k j) s i = _
    unfold b20_26
    rw [decide_eq_false (by omega : ¬ (i : Int) < s.size)]; rfl
  | succ d ih =>
    intro i hi h1 j hj
    obtain ⟨j, rfl, hj2⟩ := succ_of (by omega : d + 1 + 1 ≤ j)
    have hlt : i < (L s).length := by omega
    have hx : (L s)[i]? = some (L s)[i] := List.getElem?_eq_getElem hlt
    have hi0 : ((i : Int) == 0) = false := by rw [beq_int, decide_eq_false (by omega)]
    have e0 : l20_26 k (j + 1) s i = b20_26 k (l20_26 k j) s i := rfl
    rw [e0]
    unfold b20_26
    rw [decide_eq_true (by omega : (i : Int) < s.size), cond_true, ixs_nat hx, f59_eq, hi0, ixs_nat hx, f60_eq, w_one (n := (L s).length) hlt (by unfold mx at *; omega)]
    simp only [Option.bind_some]
    rcases ih (i + 1) (by omega) (by omega) j hj2 with h | h <;> rw [h] <;> cases lt ((L s)[i].toNat : Int) <;> cases dg ((L s)[i].toNat : Int) <;> first | exact .inl rfl | exact .inr rfl
theorem nameE (s : ByteArray) (hs : s.size ≤ mx) : E fun k => f19 k s = some ((nameS (L s), ()), ()) ∧ f20 k s = some ((nameS (L s), ()), ()) := by
  have hl := size_L s
  by_cases h : s.size ≤ 1000000
  · exact (E.ge (s.size + 100)).mono fun k hk => ⟨name19 k s h (by omega), name20 k s h (by omega)⟩
  · refine (E.ge (s.size + 100)).mono fun k hk => ?_
    have hn : nameS (L s) = false := by
      unfold nameS
      cases hc : L s with
      | nil => rfl
      | cons c r =>
        rw [hc] at hl
        dsimp only
        rw [decide_eq_false (by omega : ¬ (c :: r).length ≤ 12), Bool.and_false, Bool.false_and]
    have hne : ¬ L s = L ByteArray.empty := fun e => by
      have : (L s).length = 0 := by rw [e]; rfl
      omega
    rw [hn]
    constructor
    · unfold f19
      rw [beqL, decide_eq_false hne, decide_eq_false (by omega : ¬ (s.size : Int) ≤ 12)]; rfl
    · obtain ⟨c, r, hcr⟩ := List.exists_cons_of_ne_nil (l := L s) (fun e => hne (by rw [e]; rfl))
      have h00 : (L s)[0]? = some c := by rw [hcr]; rfl
      have h1 : ∀ {R : Type}, ixs s 0 = ixs s ((0 : Nat) : Int) (R := R) := rfl
      obtain ⟨k', rfl⟩ : ∃ k', k = k' + 1 := ⟨k - 1, by omega⟩
      have hstep : l20_26 (k' + 1) (k' + 1) s 0 = b20_26 (k' + 1) (l20_26 (k' + 1) k') s 0 := rfl
      have hrec := name_loop' (k' + 1) s hs ((L s).length - 1) 1 rfl (by omega) k' (by omega)
      rw [show ((1 : Nat) : Int) = w64 (0 + 1) from rfl] at hrec
      unfold f20
      rw [hstep]
      unfold b20_26
      rw [decide_eq_true (by omega : (0 : Int) < s.size), cond_true, h1, ixs_nat h00, f59_eq]
      simp only [Option.bind_some]
      rw [decide_eq_true (by omega : (s.size : Int) ≥ 1), decide_eq_false (by omega : ¬ (s.size : Int) ≤ 12)]
      rcases hrec with h | h <;> rw [h] <;> cases lt (c.toNat : Int) <;> rfl
end Tree
end Go.Proofs.Yticelgnmcjkknaa.M
/-
Programs as trees: which expressions there may be, and how many there are in one; by the program and by the reference.
-/
set_option linter.unusedVariables false
set_option linter.unusedSimpArgs false
set_option maxRecDepth 100000
namespace Go.Proofs.Yticelgnmcjkknaa.M
open Go Go.Proofs.Yticelgnmcjkknaa.Vm Go.Proofs.Yticelgnmcjkknaa.Pl
namespace Tree
open Lex
/-! ### signs -/
def binB (op : ByteArray) : Bool := signs.any fun s => decide (L s = L op)
theorem both' (k : Nat) : ∀ s ∈ signs, ∃ n : Int, 0 < n ∧ f22 (k + 40) s = some ((n, ()), ()) ∧ f23 (k + 40) s = some ((n, ()), ()) := by
  intro s hs
  simp only [signs, List.mem_cons, List.not_mem_nil, or_false] at hs
  rcases hs with rfl | rfl | rfl | rfl | rfl | rfl | rfl | rfl | rfl | rfl | rfl | rfl | rfl | rfl | rfl | rfl | rfl | rfl
  · exact ⟨1, by decide, by kernel_rfl, by kernel_rfl⟩
  · exact ⟨2, by decide, by kernel_rfl, by kernel_rfl⟩
  · exact ⟨3, by decide, by kernel_rfl, by kernel_rfl⟩
  · exact ⟨3, by decide, by kernel_rfl, by kernel_rfl⟩
  · exact ⟨3, by decide, by kernel_rfl, by kernel_rfl⟩
  · exact ⟨3, by decide, by kernel_rfl, by kernel_rfl⟩
  · exact ⟨3, by decide, by kernel_rfl, by kernel_rfl⟩
  · exact ⟨3, by decide, by kernel_rfl, by kernel_rfl⟩
  · exact ⟨4, by decide, by kernel_rfl, by kernel_rfl⟩
  · exact ⟨4, by decide, by kernel_rfl, by kernel_rfl⟩
  · exact ⟨4, by decide, by kernel_rfl, by kernel_rfl⟩
  · exact ⟨4, by decide, by kernel_rfl, by kernel_rfl⟩
  · exact ⟨5, by decide, by kernel_rfl, by kernel_rfl⟩
  · exact ⟨5, by decide, by kernel_rfl, by kernel_rfl⟩
  · exact ⟨5, by decide, by kernel_rfl, by kernel_rfl⟩
  · exact ⟨5, by decide, by kernel_rfl, by kernel_rfl⟩
  · exact ⟨5, by decide, by kernel_rfl, by kernel_rfl⟩
  · exact ⟨5, by decide, by kernel_rfl, by kernel_rfl⟩
theorem binE (op : ByteArray) (k : Nat) (hk : 200 ≤ k) : ∃ n : Int, f22 k op = some ((n, ()), ()) ∧ f23 k op = some ((n, ()), ()) ∧ decide (n > 0) = binB op := by
  by_cases h : ∃ s ∈ signs, L s = L op
  · obtain ⟨s, hs, e⟩ := h
    obtain rfl := L_inj e
    obtain ⟨j, rfl⟩ : ∃ j, k = j + 40 := ⟨k - 40, by omega⟩
    obtain ⟨n, h0, h1, h2⟩ := both' j s hs
    refine ⟨n, h1, h2, ?_⟩
    have : binB s = true := List.any_eq_true.2 ⟨s, hs, decide_eq_true rfl⟩
    rw [this, decide_eq_true h0]
  · have hn : ∀ e ∈ signs, L e ≠ L op := fun e he hh => h ⟨e, he, hh⟩
    refine ⟨0, prog_none k op hn, ref_none k (by omega) op hn, ?_⟩
    have : binB op = false := by
      unfold binB
      rw [List.any_eq_false]
      intro e he
      simp [hn e he]
    rw [this]; rfl
/-! ### one expression's form -/
abbrev emp (s : ByteArray) : Bool := s.toList == ByteArray.empty.toList
def formE (e : PExpr) : Option Nat :=
  cond (eKind e == 1) (cond (emp (eOp e)) (cond (emp (eName e)) (cond (decide (eNum e ≥ 0)) (cond (decide (eNum e ≤ 65535)) (some 0) none) none) none) none)
  (cond (eKind e == 2) (cond (emp (eOp e)) (cond (eNum e == 0) (cond (nameS (L (eName e))) (some 0) none) none) none)
  (cond (eKind e == 3) (cond ((eOp e).toList == (ByteArray.mk #[45]).toList || ((eOp e).toList == (ByteArray.mk #[126]).toList || (eOp e).toList == (ByteArray.mk #[33]).toList)) (cond (eNum e == 0) (cond (emp (eName e)) (some 1) none) none) none)
  (cond (eKind e == 4) (cond (binB (eOp e)) (cond (eNum e == 0) (cond (emp (eName e)) (some 2) none) none) none) none)))
def okE (e : PExpr) : Bool := match formE e with
  | some q => decide ((eKids e).length = q)
  | none => false
theorem form69 (k : Nat) (hk : 200 ≤ k) {a : T69} {b : T102} {c : T103} {d : T140} (e : PExpr) (hn : f19 k (eName e) = some ((nameS (L (eName e)), ()), ())) :
    ∃ (q : Int) (ok : Bool), l69_62 k a b c d 0 false (eKind e) (eOp e) (eNum e) (eName e) (eKids e) (ePos e) = some ((q, ok, ()), ((eKind e, eOp e, eNum e, eName e, eKids e, ePos e, ()), ())) ∧ (match formE e with
      | some n => q = (n : Int) ∧ ok = true
      | none => ok = false) := by
  obtain ⟨n, hb, _, hb2⟩ := binE (eOp e) k hk
  unfold l69_62 formE
  rw [hn, hb]
  simp only [Option.bind_some, hb2]
  unfold emp
  generalize (eKind e == 1) = b1
  generalize (eKind e == 2) = b2
  generalize (eKind e == 3) = b3
  generalize (eKind e == 4) = b4
  generalize ((eOp e).toList == ByteArray.empty.toList) = c1
  generalize ((eName e).toList == ByteArray.empty.toList) = c2
  generalize decide (eNum e ≥ 0) = c3
  generalize decide (eNum e ≤ 65535) = c4
  generalize (eNum e == 0) = c5
  generalize nameS (L (eName e)) = c6
  generalize ((eOp e).toList == (ByteArray.mk #[45]).toList) = d1
  generalize ((eOp e).toList == (ByteArray.mk #[126]).toList) = d2
  generalize ((eOp e).toList == (ByteArray.mk #[33]).toList) = d3
  generalize binB (eOp e) = d4
  cases b1 with
  | true => cases c1 <;> cases c2 <;> cases c3 <;> cases c4 <;> first | exact ⟨_, _, rfl, rfl⟩ | exact ⟨_, _, rfl, rfl, rfl⟩
  | false =>
    cases b2 with
    | true => cases c1 <;> cases c5 <;> cases c6 <;> first | exact ⟨_, _, rfl, rfl⟩ | exact ⟨_, _, rfl, rfl, rfl⟩
    | false =>
      cases b3 with
      | true => cases d1 <;> cases d2 <;> cases d3 <;> cases c5 <;> cases c2 <;> first | exact ⟨_, _, rfl, rfl⟩ | exact ⟨_, _, rfl, rfl, rfl⟩
      | false =>
        cases b4 with
        | true => cases d4 <;> cases c5 <;> cases c2 <;> first | exact ⟨_, _, rfl, rfl⟩ | exact ⟨_, _, rfl, rfl, rfl⟩
        | false => exact ⟨_, _, rfl, rfl⟩
def n1 (e : PExpr) : Bool := (eKind e == 1) && (emp (eOp e) && (emp (eName e) && (decide (eNum e ≥ 0) && (decide (eNum e ≤ 65535) && decide ((eKids e).length = 0)))))
def n2 (e : PExpr) : Bool := (eKind e == 2) && (emp (eOp e) && ((eNum e == 0) && (nameS (L (eName e)) && decide ((eKids e).length = 0))))
def n3 (e : PExpr) : Bool := (eKind e == 3) && (((eOp e).toList == (ByteArray.mk #[45]).toList || ((eOp e).toList == (ByteArray.mk #[126]).toList || (eOp e).toList == (ByteArray.mk #[33]).toList)) && ((eNum e == 0) && (emp (eName e) && decide ((eKids e).length = 1))))
def n4 (e : PExpr) : Bool := (eKind e == 4) && (binB (eOp e) && ((eNum e == 0) && (emp (eName e) && decide ((eKids e).length = 2))))
theorem len_q (l : List PExpr) (q : Nat) : ((l.length : Int) == (q : Int)) = decide (l.length = q) := by
  rw [beq_nat]
  by_cases h : l.length = q
  · rw [decide_eq_true h, h, beq_self_eq_true]
  · rw [decide_eq_false h, beq_eq_false_iff_ne.2 h]
theorem num26 (k : Nat) {r : T26} (e : PExpr) : l26_6 k r (eKind e) (eOp e) (eNum e) (eName e) (eKids e) (ePos e) = some ((n1 e, ()), ((eKind e, eOp e, eNum e, eName e, eKids e, ePos e, ()), ())) := by
  have h0 := len_q (eKids e) 0
  rw [show ((0 : Nat) : Int) = 0 from rfl] at h0
  unfold l26_6 n1 emp
  rw [h0]
  cases (eKind e == 1) <;> cases ((eOp e).toList == ByteArray.empty.toList) <;> cases ((eName e).toList == ByteArray.empty.toList) <;> cases decide (eNum e ≥ 0) <;> cases decide (eNum e ≤ 65535) <;> rfl
theorem loc26 (k : Nat) {r : T26} (e : PExpr) (hn : f20 k (eName e) = some ((nameS (L (eName e)), ()), ())) : l26_14 k r (eKind e) (eOp e) (eNum e) (eName e) (eKids e) (ePos e) = some ((n2 e, ()), ((eKind e, eOp e, eNum e, eName e, eKids e, ePos e, ()), ())) := by
  have h0 := len_q (eKids e) 0
  rw [show ((0 : Nat) : Int) = 0 from rfl] at h0
  unfold l26_14 n2 emp
  rw [h0, hn]
  simp only [Option.bind_some]
  cases (eKind e == 2) <;> cases ((eOp e).toList == ByteArray.empty.toList) <;> cases (eNum e == 0) <;> cases nameS (L (eName e)) <;> rfl
theorem una26 (k : Nat) {r : T26} (e : PExpr) : l26_30 k r (eKind e) (eOp e) (eNum e) (eName e) (eKids e) (ePos e) = some ((n3 e, ()), ((eKind e, eOp e, eNum e, eName e, eKids e, ePos e, ()), ())) := by
  have h0 := len_q (eKids e) 1
  rw [show ((1 : Nat) : Int) = 1 from rfl] at h0
  unfold l26_30 n3 emp
  rw [h0]
  cases (eKind e == 3) <;> cases ((eOp e).toList == (ByteArray.mk #[45]).toList) <;> cases ((eOp e).toList == (ByteArray.mk #[126]).toList) <;> cases ((eOp e).toList == (ByteArray.mk #[33]).toList) <;> cases (eNum e == 0) <;> cases ((eName e).toList == ByteArray.empty.toList) <;> rfl
theorem bin26 (k : Nat) (hk : 200 ≤ k) {r : T26} (e : PExpr) : l26_62 k r (eKind e) (eOp e) (eNum e) (eName e) (eKids e) (ePos e) = some ((n4 e, ()), ((eKind e, eOp e, eNum e, eName e, eKids e, ePos e, ()), ())) := by
  obtain ⟨n, _, hb, hb2⟩ := binE (eOp e) k hk
  have h0 := len_q (eKids e) 2
  rw [show ((2 : Nat) : Int) = 2 from rfl] at h0
  unfold l26_62 n4 emp
  rw [h0, hb]
  simp only [Option.bind_some, hb2]
  cases (eKind e == 4) <;> cases binB (eOp e) <;> cases (eNum e == 0) <;> cases ((eName e).toList == ByteArray.empty.toList) <;> rfl
theorem kind_ne {e : PExpr} {q q' : Int} (hq : q ≠ q') (h : (eKind e == q) = true) : (eKind e == q') = false := by
  rw [beq_int] at h ⊢
  have := of_decide_eq_true h
  rw [decide_eq_false (by omega)]
theorem all_n (e : PExpr) : (n1 e || (n2 e || (n3 e || n4 e))) = okE e := by
  unfold okE formE n1 n2 n3 n4
  cases b1 : (eKind e == 1) with
  | true =>
    rw [kind_ne (by decide) b1 (q' := 2), kind_ne (by decide) b1 (q' := 3), kind_ne (by decide) b1 (q' := 4)]
    simp only [Bool.true_and, Bool.false_and, Bool.or_false, cond_true]
    cases emp (eOp e) <;> cases emp (eName e) <;> cases decide (eNum e ≥ 0) <;> cases decide (eNum e ≤ 65535) <;> rfl
  | false =>
    cases b2 : (eKind e == 2) with
    | true =>
      rw [kind_ne (by decide) b2 (q' := 3), kind_ne (by decide) b2 (q' := 4)]
      simp only [Bool.true_and, Bool.false_and, Bool.or_false, Bool.false_or, cond_true, cond_false]
      cases emp (eOp e) <;> cases (eNum e == 0) <;> cases nameS (L (eName e)) <;> rfl
    | false =>
      cases b3 : (eKind e == 3) with
      | true =>
        rw [kind_ne (by decide) b3 (q' := 4)]
        simp only [Bool.true_and, Bool.false_and, Bool.or_false, Bool.false_or, cond_true, cond_false]
        cases ((eOp e).toList == (ByteArray.mk #[45]).toList || ((eOp e).toList == (ByteArray.mk #[126]).toList || (eOp e).toList == (ByteArray.mk #[33]).toList)) <;> cases (eNum e == 0) <;> cases emp (eName e) <;> rfl
      | false =>
        simp only [Bool.false_and, Bool.false_or, cond_false]
        cases (eKind e == 4) <;> cases binB (eOp e) <;> cases (eNum e == 0) <;> cases emp (eName e) <;> rfl
theorem may26 (k : Nat) {r : T26} (e : PExpr) (deep : Int) : l26_126 k r deep (n1 e) (n2 e) (n3 e) (n4 e) = some (cond (decide (deep < 1) || !okE e) (.inr ((-1, ()), ())) (.inl ((), ()))) := by
  rw [← all_n]
  unfold l26_126 l26_252
  cases decide (deep < 1) <;> cases n1 e <;> cases n2 e <;> cases n3 e <;> cases n4 e <;> rfl

/-! ### how many -/
def sumE (f : PExpr → Option Nat) : List PExpr → Option Nat
  | [] => some 0
  | x :: l => (f x).bind fun a => (sumE f l).map (a + ·)
def cntE : Nat → PExpr → Option Nat
  | 0, _ => none
  | d + 1, e => if okE e = true then (sumE (cntE d) (eKids e)).map (· + 1) else none
theorem formE_le {e : PExpr} {q : Nat} (h : formE e = some q) : q ≤ 2 := by
  unfold formE at h
  simp only [Bool.cond_eq_ite] at h
  repeat' split at h
  all_goals first | (cases h; done) | (injection h with h; omega)
theorem okE_len {e : PExpr} (h : okE e = true) : (eKids e).length ≤ 2 := by
  unfold okE at h
  split at h
  · rename_i q hq
    have h := of_decide_eq_true h
    have := formE_le hq
    omega
  · cases h
theorem cnt_lt : ∀ (d : Nat) (e : PExpr) (n : Nat), cntE d e = some n → n < 2 ^ d
  | 0, _, _, h => by cases h
  | d + 1, e, n, h => by
    unfold cntE at h
    split at h
    · rename_i ho
      obtain ⟨m, h1, rfl⟩ := Option.map_eq_some_iff.1 h
      have hl := okE_len ho
      have key : ∀ (l : List PExpr) (m : Nat), sumE (cntE d) l = some m → m + l.length ≤ l.length * 2 ^ d := by
        intro l
        induction l with
        | nil => intro m h; injection h with h; simp; omega
        | cons x l ih =>
          intro m h
          unfold sumE at h
          obtain ⟨a, h2, h3⟩ := Option.bind_eq_some_iff.1 h
          obtain ⟨b, h4, rfl⟩ := Option.map_eq_some_iff.1 h3
          have := ih b h4
          have := cnt_lt d x a h2
          rw [List.length_cons, Nat.add_mul]
          omega
      have := key _ m h1
      rw [Nat.pow_succ]
      have h3 : 0 < 2 ^ d := Nat.pow_pos (by decide)
      rcases (by omega : (eKids e).length = 0 ∨ (eKids e).length = 1 ∨ (eKids e).length = 2) with h0 | h0 | h0 <;> rw [h0] at this <;> omega
    · cases h
/-- What the reference tells. -/
def refN (o : Option Nat) : Int := match o with
  | some n => (n : Int)
  | none => -1
theorem ref_loop (k : Nat) {d : Nat} (hd : d < 12) {deep : Int} (hdeep : w64 (deep - 1) = (d : Int)) {l : List PExpr} (hl : l.length ≤ 2) (hr : ∀ x ∈ l, f26 k x d = some ((refN (cntE d x), ()), ())) {a : Int} {b : ByteArray} {c : Int} {e : ByteArray} {p : Int} : ∀ (q i n : Nat), l.length - i = q → n ≤ 5000 * (i + 1) → ∀ j, q < j →
    l26_2042 k (f26 k) j deep n i a b c e l p = match sumE (cntE d) (l.drop i) with
      | some m => some (.inl ((((n + m : Nat) : Int), ()), ((a, b, c, e, l, p, ()), ())))
      | none => some (.inr ((-1, ()), ((a, b, c, e, l, p, ()), ()))) := by
  intro q
  induction q with
  | zero =>
    intro i n hi hn j hj
    obtain ⟨j, rfl, _⟩ := succ_of (n := 0) (by omega : 0 + 1 ≤ j)
    show b26_2042 k (f26 k) (l26_2042 k (f26 k) j) deep n i a b c e l p = _
    unfold b26_2042
    rw [decide_eq_false (by omega : ¬ (i : Int) < l.length), List.drop_of_length_le (by omega)]; rfl
  | succ q ih =>
    intro i n hi hn j hj
    obtain ⟨j, rfl, hj2⟩ := succ_of (by omega : q + 1 + 1 ≤ j)
    have hlt : i < l.length := by omega
    have hx : l[i]? = some l[i] := List.getElem?_eq_getElem hlt
    have h26 := hr _ (List.getElem_mem hlt)
    show b26_2042 k (f26 k) (l26_2042 k (f26 k) j) deep n i a b c e l p = _
    unfold b26_2042
    rw [decide_eq_true (by omega : (i : Int) < l.length), cond_true, ix_nat hx, hdeep, h26, List.drop_eq_getElem_cons hlt]
    simp only [Option.bind_some]
    unfold sumE
    cases hc : cntE d l[i] with
    | none => rfl
    | some m =>
      have hm := cnt_lt d _ m hc
      have hp : 2 ^ d ≤ 4096 := Nat.pow_le_pow_right (show 0 < 2 by omega) (show d ≤ 12 by omega)
      have e1 : refN (some m) = (m : Int) := rfl
      have hw : w64 ((n : Int) + (m : Int)) = ((n + m : Nat) : Int) := by rw [w64_id (by omega) (by omega)]; omega
      rw [e1, decide_eq_false (by omega : ¬ (m : Int) < 0), decide_eq_false (by omega : ¬ (m : Int) > 10000), cond_false, cond_false, hw, w_one hlt (by unfold mx; omega), ih (i + 1) (n + m) (by omega) (by omega) j hj2]
      simp only [Option.bind_some]
      cases sumE (cntE d) (l.drop (i + 1)) with
      | none => rfl
      | some m' =>
        simp only [Option.bind_some, Option.map_some]
        rw [show n + m + m' = n + (m + m') by omega]
theorem ref26 : ∀ (d : Nat), d ≤ 12 → ∀ e : PExpr, Fit (.rc 0) e → E fun k => f26 k e d = some ((refN (cntE d e), ()), ())
  | 0, _, e, hf => by
    refine ((nameE (eName e) (fit_expr hf).1).and (E.ge 200)).succ fun k ⟨⟨_, h2⟩, hk⟩ => ?_
    rw [f26_succ]
    unfold b26
    rw [num26]
    simp only [Option.bind_some]
    rw [loc26 k e h2]
    simp only [Option.bind_some]
    rw [una26]
    simp only [Option.bind_some]
    rw [bin26 k hk]
    simp only [Option.bind_some]
    rw [may26]
    rfl
  | d + 1, hd, e, hf => by
    obtain ⟨f1, f2, f3⟩ := fit_expr hf
    refine ((nameE (eName e) f1).and ((E.ge 200).and (E_list (eKids e) fun x hx => ref26 d (by omega) x (f3 x hx)))).succ fun k ⟨⟨_, h2⟩, hk, hr⟩ => ?_
    rw [f26_succ]
    unfold b26
    rw [num26]
    simp only [Option.bind_some]
    rw [loc26 k e h2]
    simp only [Option.bind_some]
    rw [una26]
    simp only [Option.bind_some]
    rw [bin26 k hk]
    simp only [Option.bind_some]
    rw [may26, decide_eq_false (by omega : ¬ (((d + 1 : Nat) : Int) < 1))]
    unfold cntE
    cases ho : okE e with
    | false => rfl
    | true =>
      have hl := okE_len ho
      have hw : w64 (((d + 1 : Nat) : Int) - 1) = (d : Int) := by rw [w64_id (by omega) (by omega)]; omega
      have := ref_loop k (by omega) hw hl hr (a := eKind e) (b := eOp e) (c := eNum e) (e := eName e) (p := ePos e) (eKids e).length 0 1 (by omega) (by omega) k (by omega)
      rw [show ((0 : Nat) : Int) = 0 from rfl, show ((1 : Nat) : Int) = 1 from rfl, List.drop_zero] at this
      unfold l26_254 l26_1020
      simp only [Bool.not_true, Bool.or_false, cond_false, Option.bind_some, if_true]
      rw [this]
      cases sumE (cntE d) (eKids e) with
      | none => rfl
      | some m =>
        simp only [Option.bind_some, Option.map_some, refN]
        congr 4
        omega
end Tree
end Go.Proofs.Yticelgnmcjkknaa.M
/-
Programs as trees: the program's counting of expressions.
-/
set_option linter.unusedVariables false
set_option linter.unusedSimpArgs false
set_option maxRecDepth 100000
namespace Go.Proofs.Yticelgnmcjkknaa.M
open Go Go.Proofs.Yticelgnmcjkknaa.Vm Go.Proofs.Yticelgnmcjkknaa.Pl
namespace Tree
open Lex
/-- What counting comes to: it goes on, or stops. -/
def Res (x : Nat) (o : Option Nat) (b : Bool) (x' : Int) : Prop := match o with
  | some n => if x + n ≤ 8192 then b = true ∧ x' = ((x + n : Nat) : Int) else b = false
  | none => b = false
def ExOk (k d : Nat) (y : PExpr) : Prop := ∀ (s : Int) (x : Nat), x ≤ 8192 → ∃ b x', f69 k y d s x = some ((b, ()), ((s, x', ()), ())) ∧ Res x (cntE d y) b x'
theorem cnt_pos {d : Nat} {e : PExpr} {n : Nat} (h : cntE d e = some n) : 1 ≤ n := by
  cases d with
  | zero => cases h
  | succ d =>
    unfold cntE at h
    split at h
    · obtain ⟨m, _, rfl⟩ := Option.map_eq_some_iff.1 h; omega
    · cases h
theorem loop140 (k : Nat) {d : Nat} (hd : d < 12) {deep : Int} (hdeep : w64 (deep - 1) = (d : Int)) {l : List PExpr} (hl : l.length ≤ 2) (hr : ∀ y ∈ l, ExOk k d y) {s : Int} : ∀ (q i x : Nat), l.length - i = q → x ≤ 8192 → ∀ j, q < j →
    ∃ x', (l140_26 (k + 1) (f69 (k + 1)) (f102 (k + 1)) (f103 (k + 1)) (f140 (k + 1)) j l l.length i s x deep = some (.inl ((), (((), ()), (s, x', ()), (deep, ()), ()))) ∧ ∃ m, sumE (cntE d) (l.drop i) = some m ∧ x + m ≤ 8192 ∧ x' = ((x + m : Nat) : Int)) ∨
      (∃ t : Nat, l140_26 (k + 1) (f69 (k + 1)) (f102 (k + 1)) (f103 (k + 1)) (f140 (k + 1)) j l l.length i s x deep = some (.inr (((t : Int), ()), (((), ()), (s, x', ()), (deep, ()), ()))) ∧ ∀ m, sumE (cntE d) (l.drop i) = some m → 8192 < x + m) := by
  intro q
  induction q with
  | zero =>
    intro i x hi hx8 j hj
    obtain ⟨j, rfl, _⟩ := succ_of (n := 0) (by omega : 0 + 1 ≤ j)
    refine ⟨x, .inl ⟨?_, 0, by rw [List.drop_of_length_le (by omega)]; rfl, by omega, by simp⟩⟩
    show b140_26 (k + 1) _ _ _ _ _ l l.length i s x deep = _
    unfold b140_26
    rw [decide_eq_false (by omega : ¬ (i : Int) < l.length)]; rfl
  | succ q ih =>
    intro i x hi hx8 j hj
    obtain ⟨j, rfl, hj2⟩ := succ_of (by omega : q + 1 + 1 ≤ j)
    have hlt : i < l.length := by omega
    have hx : l[i]? = some l[i] := List.getElem?_eq_getElem hlt
    obtain ⟨b, x1, h69, hres⟩ := hr _ (List.getElem_mem hlt) s x hx8
    have e0 : l140_26 (k + 1) (f69 (k + 1)) (f102 (k + 1)) (f103 (k + 1)) (f140 (k + 1)) (j + 1) l l.length i s x deep = b140_26 (k + 1) (f69 (k + 1)) (f102 (k + 1)) (f103 (k + 1)) (f140 (k + 1)) (l140_26 (k + 1) (f69 (k + 1)) (f102 (k + 1)) (f103 (k + 1)) (f140 (k + 1)) j) l l.length i s x deep := rfl
    have h103 : f103 (k + 1) l[i] s x deep = some ((!b, ()), (((), ()), (s, x1, ()), (deep, ()), ())) := by
      rw [f103_succ]
      unfold b103
      rw [ePack_eq, hdeep, h69]; rfl
    rw [e0]
    unfold b140_26
    rw [decide_eq_true (by omega : (i : Int) < l.length), cond_true, ix_nat hx, h103, List.drop_eq_getElem_cons hlt]
    simp only [Option.bind_some]
    cases b with
    | false =>
      refine ⟨x1, .inr ⟨i, rfl, fun m hm => ?_⟩⟩
      unfold sumE at hm
      obtain ⟨a, h2, h3⟩ := Option.bind_eq_some_iff.1 hm
      obtain ⟨c, h4, rfl⟩ := Option.map_eq_some_iff.1 h3
      rw [h2] at hres
      unfold Res at hres
      dsimp only at hres
      split at hres
      · cases hres.1
      · omega
    | true =>
      cases hc : cntE d l[i] with
      | none => rw [hc] at hres; cases hres
      | some a =>
        rw [hc] at hres
        unfold Res at hres
        dsimp only at hres
        split at hres
        · rename_i hle
          obtain ⟨_, rfl⟩ := hres
          obtain ⟨x2, h | ⟨t, h, h2⟩⟩ := ih (i + 1) (x + a) (by omega) hle j hj2
          · obtain ⟨h, m, hm, hm2, hm3⟩ := h
            refine ⟨x2, .inl ⟨?_, a + m, ?_, by omega, by rw [hm3]; congr 1; omega⟩⟩
            · simp only [Bool.not_true, cond_false]
              rw [w_one hlt (by unfold mx; omega), h]; rfl
            · unfold sumE; rw [hc, hm]; rfl
          · refine ⟨x2, .inr ⟨t, ?_, fun m hm => ?_⟩⟩
            · simp only [Bool.not_true, cond_false]
              rw [w_one hlt (by unfold mx; omega), h]; rfl
            · unfold sumE at hm
              rw [hc] at hm
              obtain ⟨c, h4, rfl⟩ := Option.map_eq_some_iff.1 hm
              have := h2 c h4
              omega
        · cases hres
theorem contains102 (k : Nat) {d : Nat} (hd : d < 12) {deep : Int} (hdeep : w64 (deep - 1) = (d : Int)) {l : List PExpr} (hl : l.length ≤ 2) (hk : 5 ≤ k) (hr : ∀ y ∈ l, ExOk k d y) {s : Int} {x : Nat} (hx : x ≤ 8192) :
    ∃ b x', f102 (k + 3) l s x deep = some ((b, ()), (((), ()), (s, x', ()), (deep, ()), ())) ∧ ((b = false ∧ ∃ m, sumE (cntE d) l = some m ∧ x + m ≤ 8192 ∧ x' = ((x + m : Nat) : Int)) ∨ (b = true ∧ ∀ m, sumE (cntE d) l = some m → 8192 < x + m)) := by
  obtain ⟨x', h⟩ := loop140 k hd hdeep hl hr (s := s) l.length 0 x (by omega) hx (k + 1) (by omega)
  rw [show ((0 : Nat) : Int) = 0 from rfl, List.drop_zero] at h
  have e : f102 (k + 3) l s x deep = (f140 (k + 2) l s x deep).bind fun y1 => some (((decide (y1.1.1 ≥ 0)), ()), (((), ()), (y1.2.2.1.1, y1.2.2.1.2.1, ()), (y1.2.2.2.1.1, ()), ())) := by
    rw [f102_succ]; rfl
  have e2 : f140 (k + 2) l s x deep = (l140_26 (k + 1) (f69 (k + 1)) (f102 (k + 1)) (f103 (k + 1)) (f140 (k + 1)) (k + 1) l (l.length : Int) 0 s x deep).bind fun y1 => match y1 with
    | .inl y1_0 => some (((-1), ()), (((), ()), (y1_0.2.2.1.1, y1_0.2.2.1.2.1, ()), (y1_0.2.2.2.1.1, ()), ()))
    | .inr y1_1 => some ((y1_1.1.1, ()), (((), ()), (y1_1.2.2.1.1, y1_1.2.2.1.2.1, ()), (y1_1.2.2.2.1.1, ()), ())) := by
    rw [f140_succ]; rfl
  rw [e, e2]
  rcases h with ⟨h, hm⟩ | ⟨t, h, hm⟩
  · rw [h]
    exact ⟨false, x', rfl, .inl ⟨rfl, hm⟩⟩
  · rw [h]
    refine ⟨true, x', ?_, .inr ⟨rfl, hm⟩⟩
    simp only [Option.bind_some]
    rw [decide_eq_true (by omega : (t : Int) ≥ 0)]
theorem expr69 : ∀ (d : Nat), d ≤ 12 → ∀ e : PExpr, Fit (.rc 0) e → E fun k => ExOk k d e
  | d, hd, e, hf => by
    obtain ⟨f1, f2, f3⟩ := fit_expr hf
    have hkids : E fun k => ∀ y ∈ eKids e, ∀ d', d = d' + 1 → ExOk k d' y := E_list _ fun y hy => by
      cases d with
      | zero => exact .all fun k d' h => by cases h
      | succ d' => exact (expr69 d' (by omega) y (f3 y hy)).mono fun k h d'' h2 => by cases h2; exact h
    obtain ⟨K1, h1⟩ := nameE (eName e) f1
    obtain ⟨K2, h2⟩ := hkids
    refine ⟨K1 + K2 + 300, fun k hk => ?_⟩
    obtain ⟨k, rfl⟩ : ∃ q, k = q + 4 := ⟨k - 4, by omega⟩
    intro s x hx
    have hx1 : w64 ((x : Int) + 1) = ((x + 1 : Nat) : Int) := by rw [w64_id (by omega) (by omega)]; omega
    obtain ⟨q, ok, hform, hfo⟩ := form69 (k + 3) (by omega) (a := f69 (k + 3)) (b := f102 (k + 3)) (c := f103 (k + 3)) (d := f140 (k + 3)) e (h1 (k + 3) (by omega)).1
    have e0 : f69 (k + 4) e d s x = b69 (k + 3) (f69 (k + 3)) (f102 (k + 3)) (f103 (k + 3)) (f140 (k + 3)) e d s x := by rw [f69_succ]
    rw [e0]
    unfold b69
    rw [hx1]
    by_cases hbig : x + 1 > 8192
    · rw [decide_eq_true (by omega : ((x + 1 : Nat) : Int) > 8192)]
      refine ⟨false, _, rfl, ?_⟩
      unfold Res
      cases hc : cntE d e with
      | none => rfl
      | some n => have := cnt_pos hc; dsimp only; rw [if_neg (by omega)]
    · rw [decide_eq_false (by omega : ¬ ((x + 1 : Nat) : Int) > 8192), cond_false]
      cases d with
      | zero => rw [decide_eq_true (by omega : ((0 : Nat) : Int) < 1)]; exact ⟨false, _, rfl, rfl⟩
      | succ d' =>
        rw [decide_eq_false (by omega : ¬ ((d' + 1 : Nat) : Int) < 1), cond_false, hform]
        simp only [Option.bind_some]
        have hcn : cntE (d' + 1) e = if okE e = true then (sumE (cntE d') (eKids e)).map (· + 1) else none := rfl
        rw [hcn]
        cases hfe : formE e with
        | none =>
          rw [hfe] at hfo
          have hok : okE e = false := by unfold okE; rw [hfe]
          rw [hfo, hok]
          exact ⟨false, _, rfl, rfl⟩
        | some n =>
          rw [hfe] at hfo
          obtain ⟨rfl, rfl⟩ := hfo
          have hok : okE e = decide ((eKids e).length = n) := by unfold okE; rw [hfe]
          rw [cond_true, len_q, ← hok]
          cases ho : okE e with
          | false => exact ⟨false, _, rfl, rfl⟩
          | true =>
            have hl := okE_len ho
            have hw : w64 (((d' + 1 : Nat) : Int) - 1) = (d' : Int) := by rw [w64_id (by omega) (by omega)]; omega
            obtain ⟨b, x', h3, h4⟩ := contains102 k (by omega) hw hl (by omega) (fun y hy => h2 k (by omega) y hy d' rfl) (s := s) (x := x + 1) (by omega)
            rw [cond_true, h3]
            refine ⟨!b, x', rfl, ?_⟩
            unfold Res
            rw [if_pos rfl]
            rcases h4 with ⟨rfl, m, hm, hm2, hm3⟩ | ⟨rfl, hm⟩
            · rw [hm]
              simp only [Option.map_some]
              rw [if_pos (by omega)]
              exact ⟨rfl, by rw [hm3]; congr 1; omega⟩
            · cases hs : sumE (cntE d') (eKids e) with
              | none => rfl
              | some m =>
                have := hm m hs
                simp only [Option.map_some]
                rw [if_neg (by omega)]; rfl
end Tree
end Go.Proofs.Yticelgnmcjkknaa.M
/-
Programs as trees: which statements there may be, and how many there are; by the program and by the reference.
-/
set_option linter.unusedVariables false
set_option linter.unusedSimpArgs false
set_option maxRecDepth 100000
namespace Go.Proofs.Yticelgnmcjkknaa.M
open Go Go.Proofs.Yticelgnmcjkknaa.Vm Go.Proofs.Yticelgnmcjkknaa.Pl
namespace Tree
open Lex
/-! ### one statement's form -/
def formT : Nat → Option (Bool × Bool × Nat × Bool × Bool)
  | 1 => some (false, true, 1, false, false)
  | 2 => some (true, true, 0, false, false)
  | 3 => some (true, false, 1, false, false)
  | 4 => some (true, true, 0, false, false)
  | 5 => some (true, false, 1, false, false)
  | 6 => some (true, true, 1, false, false)
  | 7 => some (true, true, 2, false, false)
  | 8 => some (true, false, 0, true, false)
  | 9 => some (true, false, 1, false, false)
  | 10 => some (true, true, 0, false, false)
  | 11 => some (true, false, 0, false, false)
  | 12 => some (false, false, 1, true, true)
  | 13 => some (true, false, 1, true, false)
  | 14 => some (true, false, 0, false, false)
  | 15 => some (true, false, 0, false, false)
  | 16 => some (false, false, 1, false, false)
  | _ => none
def formS (kind : Int) : Option (Bool × Bool × Nat × Bool × Bool) := if kind < 1 then none else formT kind.toNat
def fits (want : Bool) (s : ByteArray) : Bool := cond want (nameS (L s)) (emp s)
def okForm (f : Bool × Bool × Nat × Bool × Bool) (s : PStmt) : Bool :=
  fits f.1 (sName s) && (fits f.2.1 (sLoc s) && (decide ((sExprs s).length = f.2.2.1) && ((f.2.2.2.1 || !decide (((sBody s).length : Int) > 0)) && (f.2.2.2.2 || !decide (((sEls s).length : Int) > 0)))))
def okS (s : PStmt) : Bool := match formS (sKind s) with
  | some f => okForm f s
  | none => false
theorem kinds {P : Int → Prop} (h : ∀ n : Nat, 1 ≤ n → n ≤ 16 → P n) (h' : ∀ q : Int, (q < 1 ∨ 16 < q) → P q) (q : Int) : P q := by
  by_cases hq : q < 1 ∨ 16 < q
  · exact h' q hq
  · obtain ⟨n, rfl⟩ : ∃ n : Nat, q = n := ⟨q.toNat, by omega⟩
    exact h n (by omega) (by omega)
theorem formS_none {q : Int} (h : q < 1 ∨ 16 < q) : formS q = none := by
  unfold formS
  rcases h with h | h
  · rw [if_pos h]
  · rw [if_neg (by omega)]
    obtain ⟨n, hn, e⟩ : ∃ n : Nat, 17 ≤ n ∧ q.toNat = n := ⟨q.toNat, by omega, rfl⟩
    rw [e]
    obtain ⟨m, rfl⟩ : ∃ m, n = m + 17 := ⟨n - 17, by omega⟩
    rfl
theorem asked141 (k : Nat) (q : Int) : ∃ fm ok, f141 k q = some ((fm, ok, ()), ()) ∧ (match formS q with
    | some f => fm = (f.1, f.2.1, (f.2.2.1 : Int), f.2.2.2.1, f.2.2.2.2, ()) ∧ ok = true
    | none => ok = false) := by
  refine kinds (P := fun q => ∃ fm ok, f141 k q = some ((fm, ok, ()), ()) ∧ (match formS q with
    | some f => fm = (f.1, f.2.1, (f.2.2.1 : Int), f.2.2.2.1, f.2.2.2.2, ()) ∧ ok = true
    | none => ok = false)) (fun n h1 h2 => ?_) (fun q h => ?_) q
  · match n, h1, h2 with
    | 1, _, _ => exact ⟨_, _, rfl, rfl, rfl⟩
    | 2, _, _ => exact ⟨_, _, rfl, rfl, rfl⟩
    | 3, _, _ => exact ⟨_, _, rfl, rfl, rfl⟩
    | 4, _, _ => exact ⟨_, _, rfl, rfl, rfl⟩
    | 5, _, _ => exact ⟨_, _, rfl, rfl, rfl⟩
    | 6, _, _ => exact ⟨_, _, rfl, rfl, rfl⟩
    | 7, _, _ => exact ⟨_, _, rfl, rfl, rfl⟩
    | 8, _, _ => exact ⟨_, _, rfl, rfl, rfl⟩
    | 9, _, _ => exact ⟨_, _, rfl, rfl, rfl⟩
    | 10, _, _ => exact ⟨_, _, rfl, rfl, rfl⟩
    | 11, _, _ => exact ⟨_, _, rfl, rfl, rfl⟩
    | 12, _, _ => exact ⟨_, _, rfl, rfl, rfl⟩
    | 13, _, _ => exact ⟨_, _, rfl, rfl, rfl⟩
    | 14, _, _ => exact ⟨_, _, rfl, rfl, rfl⟩
    | 15, _, _ => exact ⟨_, _, rfl, rfl, rfl⟩
    | 16, _, _ => exact ⟨_, _, rfl, rfl, rfl⟩
    | n + 17, _, h => exact absurd h (by omega)
  · have hq : ∀ c : Int, 1 ≤ c → c ≤ 16 → (q == c) = false := fun c h1 h2 => by rw [beq_int, decide_eq_false (by omega)]
    refine ⟨(false, false, 0, false, false, ()), false, ?_, by rw [formS_none h]⟩
    unfold f141 l141_214 l141_862 l141_1724 l141_6902 l141_3454 l141_13822 l141_55294 l141_221182 l141_442364 l141_1769462 l141_884734 l141_3538942 l141_14155774
    simp only [hq 1 (by decide) (by decide), hq 2 (by decide) (by decide), hq 3 (by decide) (by decide), hq 4 (by decide) (by decide), hq 5 (by decide) (by decide), hq 6 (by decide) (by decide), hq 7 (by decide) (by decide), hq 8 (by decide) (by decide), hq 9 (by decide) (by decide), hq 10 (by decide) (by decide), hq 11 (by decide) (by decide), hq 12 (by decide) (by decide), hq 13 (by decide) (by decide), hq 14 (by decide) (by decide), hq 15 (by decide) (by decide), hq 16 (by decide) (by decide), cond_false, Option.bind_some]
theorem fits142 (k : Nat) (s : ByteArray) (want : Bool) (hn : f19 k s = some ((nameS (L s), ()), ())) : f142 k s want = some ((fits want s, ()), ()) := by
  unfold f142 fits
  cases want with
  | true => rw [cond_true, hn]; rfl
  | false => rfl
theorem bad107 (k : Nat) {r : T107} (s : PStmt) (f : Bool × Bool × Nat × Bool × Bool) (h1 : f19 k (sName s) = some ((nameS (L (sName s)), ()), ())) (h2 : f19 k (sLoc s) = some ((nameS (L (sLoc s)), ()), ())) :
    l107_27036 k r true (sKind s) (sName s) (sLoc s) (sExprs s) (sBody s) (sEls s) (sPos s) f.1 f.2.1 (f.2.2.1 : Int) f.2.2.2.1 f.2.2.2.2 = some ((!okForm f s, ()), ((sKind s, sName s, sLoc s, sExprs s, sBody s, sEls s, sPos s, ()), (f.1, f.2.1, (f.2.2.1 : Int), f.2.2.2.1, f.2.2.2.2, ()), ())) := by
  have hq : (((sExprs s).length : Int) != (f.2.2.1 : Int)) = !decide ((sExprs s).length = f.2.2.1) := by unfold bne; rw [len_q]
  unfold l107_27036 okForm
  rw [fits142 k _ _ h1, fits142 k _ _ h2, hq]
  simp only [Option.bind_some, Bool.not_true, cond_false]
  cases fits f.1 (sName s) <;> cases fits f.2.1 (sLoc s) <;> cases decide ((sExprs s).length = f.2.2.1) <;> cases f.2.2.2.1 <;> cases f.2.2.2.2 <;> cases decide (((sBody s).length : Int) > 0) <;> cases decide (((sEls s).length : Int) > 0) <;> rfl
/-! ### how many -/
def sumS (one : PStmt → Option (Nat × Nat)) : List PStmt → Option (Nat × Nat)
  | [] => some (0, 0)
  | s :: l => (one s).bind fun a => (sumS one l).map fun b => (a.1 + b.1, a.2 + b.2)
def oneS (rec : List PStmt → Option (Nat × Nat)) (s : PStmt) : Option (Nat × Nat) :=
  if okS s = true then (sumE (cntE 12) (sExprs s)).bind fun x => (rec (sBody s)).bind fun b => (rec (sEls s)).map fun c => (1 + b.1 + c.1, x + b.2 + c.2) else none
def cntS : Nat → List PStmt → Option (Nat × Nat)
  | 0, l => sumS (fun _ => none) l
  | d + 1, l => sumS (oneS (cntS d)) l
theorem formT_le {n : Nat} {f : Bool × Bool × Nat × Bool × Bool} (h : formT n = some f) : f.2.2.1 ≤ 2 := by
  unfold formT at h
  split at h <;> first | (cases h; done) | (injection h with h; subst h; decide)
theorem okS_len {s : PStmt} (h : okS s = true) : (sExprs s).length ≤ 2 ∧ 1 ≤ sKind s ∧ sKind s ≤ 16 := by
  unfold okS at h
  split at h
  · rename_i f hf
    have hk : ¬ (sKind s < 1 ∨ 16 < sKind s) := fun hh => by rw [formS_none hh] at hf; cases hf
    have h3 : formT (sKind s).toNat = some f := by
      unfold formS at hf
      rw [if_neg (by omega)] at hf
      exact hf
    have h4 := formT_le h3
    unfold okForm at h
    have h5 := (Bool.and_eq_true_iff.1 (Bool.and_eq_true_iff.1 (Bool.and_eq_true_iff.1 h).2).2).1
    have := of_decide_eq_true h5
    exact ⟨by omega, by omega, by omega⟩
  · cases h
theorem sumE_lt {l : List PExpr} {m : Nat} (hl : l.length ≤ 2) (h : sumE (cntE 12) l = some m) : m ≤ 8190 := by
  have key : ∀ (l : List PExpr) (m : Nat), sumE (cntE 12) l = some m → m ≤ 4095 * l.length := by
    intro l
    induction l with
    | nil => intro m h; injection h with h; omega
    | cons x l ih =>
      intro m h
      unfold sumE at h
      obtain ⟨a, h2, h3⟩ := Option.bind_eq_some_iff.1 h
      obtain ⟨b, h4, rfl⟩ := Option.map_eq_some_iff.1 h3
      have := ih b h4
      have := cnt_lt 12 x a h2
      rw [List.length_cons]
      omega
  have := key l m h
  omega
/-! ### the program -/
def Res2 (s x : Nat) (o : Option (Nat × Nat)) (b : Bool) (s' x' : Int) : Prop := match o with
  | some n => if s + n.1 ≤ 200 ∧ x + n.2 ≤ 8192 then b = true ∧ s' = ((s + n.1 : Nat) : Int) ∧ x' = ((x + n.2 : Nat) : Int) else b = false
  | none => b = false
def StOk (k d : Nat) (l : List PStmt) : Prop := ∀ s x : Nat, s ≤ 200 → x ≤ 8192 → ∃ b s' x', f107 k l d s x = some ((b, ()), ((s', x', ()), ())) ∧ Res2 s x (cntS d l) b s' x'
theorem exprs_loop (k : Nat) {r : T107} {l : List PExpr} (hl : l.length ≤ 2) (hr : ∀ y ∈ l, ExOk k 12 y) {s : Int} : ∀ (q i x : Nat), l.length - i = q → x ≤ 8192 → ∀ j, q < j →
    ∃ x', (l107_108154 k r j l l.length i s x = some (.inl ((), ((s, x', ()), ()))) ∧ ∃ m, sumE (cntE 12) (l.drop i) = some m ∧ x + m ≤ 8192 ∧ x' = ((x + m : Nat) : Int)) ∨
      (l107_108154 k r j l l.length i s x = some (.inr ((false, ()), ((s, x', ()), ()))) ∧ ∀ m, sumE (cntE 12) (l.drop i) = some m → 8192 < x + m) := by
  intro q
  induction q with
  | zero =>
    intro i x hi hx8 j hj
    obtain ⟨j, rfl, _⟩ := succ_of (n := 0) (by omega : 0 + 1 ≤ j)
    refine ⟨x, .inl ⟨?_, 0, by rw [List.drop_of_length_le (by omega)]; rfl, by omega, by simp⟩⟩
    show b107_108154 k r (l107_108154 k r j) l l.length i s x = _
    unfold b107_108154
    rw [decide_eq_false (by omega : ¬ (i : Int) < l.length)]; rfl
  | succ q ih =>
    intro i x hi hx8 j hj
    obtain ⟨j, rfl, hj2⟩ := succ_of (by omega : q + 1 + 1 ≤ j)
    have hlt : i < l.length := by omega
    have hx : l[i]? = some l[i] := List.getElem?_eq_getElem hlt
    obtain ⟨b, x1, h69, hres⟩ := hr _ (List.getElem_mem hlt) s x hx8
    have h69' : f69 k (ePack l[i]) 12 s x = some ((b, ()), ((s, x1, ()), ())) := by rw [ePack_eq]; exact h69
    have e0 : l107_108154 k r (j + 1) l l.length i s x = b107_108154 k r (l107_108154 k r j) l l.length i s x := rfl
    rw [e0]
    unfold b107_108154
    rw [decide_eq_true (by omega : (i : Int) < l.length), cond_true, ix_nat hx, h69', List.drop_eq_getElem_cons hlt]
    simp only [Option.bind_some]
    cases b with
    | false =>
      refine ⟨x1, .inr ⟨rfl, fun m hm => ?_⟩⟩
      unfold sumE at hm
      obtain ⟨a, h2, h3⟩ := Option.bind_eq_some_iff.1 hm
      obtain ⟨c, h4, rfl⟩ := Option.map_eq_some_iff.1 h3
      rw [h2] at hres
      unfold Res at hres
      dsimp only at hres
      split at hres
      · cases hres.1
      · omega
    | true =>
      cases hc : cntE 12 l[i] with
      | none => rw [hc] at hres; cases hres
      | some a =>
        rw [hc] at hres
        unfold Res at hres
        dsimp only at hres
        split at hres
        · rename_i hle
          obtain ⟨_, rfl⟩ := hres
          obtain ⟨x2, h | ⟨h, h2⟩⟩ := ih (i + 1) (x + a) (by omega) hle j hj2
          · obtain ⟨h, m, hm, hm2, hm3⟩ := h
            refine ⟨x2, .inl ⟨?_, a + m, ?_, by omega, by rw [hm3]; congr 1; omega⟩⟩
            · simp only [Bool.not_true, cond_false]
              rw [w_one hlt (by unfold mx; omega), h]; rfl
            · unfold sumE; rw [hc, hm]; rfl
          · refine ⟨x2, .inr ⟨?_, fun m hm => ?_⟩⟩
            · simp only [Bool.not_true, cond_false]
              rw [w_one hlt (by unfold mx; omega), h]; rfl
            · unfold sumE at hm
              rw [hc] at hm
              obtain ⟨c, h4, rfl⟩ := Option.map_eq_some_iff.1 hm
              have := h2 c h4
              omega
        · cases hres
structure StFact (k d : Nat) (s : PStmt) : Prop where
  n1 : f19 k (sName s) = some ((nameS (L (sName s)), ()), ())
  n2 : f19 k (sLoc s) = some ((nameS (L (sLoc s)), ()), ())
  ex : ∀ y ∈ sExprs s, ExOk k 12 y
  bd : ∀ d', d = d' + 1 → StOk k d' (sBody s) ∧ StOk k d' (sEls s)
def bodyR : Nat → List PStmt → Option (Nat × Nat)
  | 0 => fun _ => none
  | d + 1 => cntS d
def oneD : Nat → PStmt → Option (Nat × Nat)
  | 0 => fun _ => none
  | d + 1 => oneS (cntS d)
theorem cntS_eq (d : Nat) (l : List PStmt) : cntS d l = sumS (oneD d) l := by cases d <;> rfl
/-- What one statement comes to. -/
theorem stmts_loop (k : Nat) (hk : 300 ≤ k) {d : Nat} (hd : d ≤ 12) {l : List PStmt} (hl : l.length ≤ mx) (hr : ∀ s ∈ l, StFact k d s) : ∀ (q i s x : Nat), l.length - i = q → s ≤ 200 → x ≤ 8192 → ∀ j, q < j →
    ∃ s' x', (l107_26 k (f107 k) j d l l.length i s x = some (.inl ((), ((s', x', ()), ()))) ∧ Res2 s x (sumS (oneD d) (l.drop i)) true s' x') ∨
      (l107_26 k (f107 k) j d l l.length i s x = some (.inr ((false, ()), ((s', x', ()), ()))) ∧ Res2 s x (sumS (oneD d) (l.drop i)) false s' x') := by
  intro q
  induction q with
  | zero =>
    intro i s x hi hs hx8 j hj
    obtain ⟨j, rfl, _⟩ := succ_of (n := 0) (by omega : 0 + 1 ≤ j)
    refine ⟨s, x, .inl ⟨?_, ?_⟩⟩
    · show b107_26 k (f107 k) (l107_26 k (f107 k) j) d l l.length i s x = _
      unfold b107_26
      rw [decide_eq_false (by omega : ¬ (i : Int) < l.length)]; rfl
    · rw [List.drop_of_length_le (by omega)]
      show (if s + 0 ≤ 200 ∧ x + 0 ≤ 8192 then _ else _)
      rw [if_pos ⟨by omega, by omega⟩]
      exact ⟨rfl, by simp, by simp⟩
  | succ q ih =>
    intro i s x hi hs hx8 j hj
    obtain ⟨j, rfl, hj2⟩ := succ_of (by omega : q + 1 + 1 ≤ j)
    have hlt : i < l.length := by omega
    have hx : l[i]? = some l[i] := List.getElem?_eq_getElem hlt
    obtain ⟨hn1, hn2, hex, hbd⟩ := hr _ (List.getElem_mem hlt)
    have e0 : l107_26 k (f107 k) (j + 1) d l l.length i s x = b107_26 k (f107 k) (l107_26 k (f107 k) j) d l l.length i s x := rfl
    have hs1 : w64 ((s : Int) + 1) = ((s + 1 : Nat) : Int) := by rw [w64_id (by omega) (by omega)]; omega
    have hsum : sumS (oneD d) (l.drop i) = (oneD d l[i]).bind fun a => (sumS (oneD d) (l.drop (i + 1))).map fun b => (a.1 + b.1, a.2 + b.2) := by
      rw [List.drop_eq_getElem_cons hlt]; rfl
    -- it stops
    have stop : ∀ s' x' : Int, (∀ a, oneD d l[i] = some a → 200 < s + a.1 ∨ 8192 < x + a.2) → Res2 s x (sumS (oneD d) (l.drop i)) false s' x' := by
      intro s' x' h
      rw [hsum]
      cases ho : oneD d l[i] with
      | none => rfl
      | some a =>
        have h1 := h a ho
        simp only [Option.bind_some]
        cases sumS (oneD d) (l.drop (i + 1)) with
        | none => rfl
        | some b =>
          simp only [Option.map_some]
          show (if s + (a.1 + b.1) ≤ 200 ∧ x + (a.2 + b.2) ≤ 8192 then _ else _)
          rw [if_neg (by omega)]
    rw [e0]
    unfold b107_26
    rw [decide_eq_true (by omega : (i : Int) < l.length), cond_true, ix_nat hx, hs1]
    by_cases h200 : s + 1 > 200
    · rw [decide_eq_true (by omega : ((s + 1 : Nat) : Int) > 200)]
      refine ⟨_, _, .inr ⟨rfl, stop _ _ fun a ha => .inl ?_⟩⟩
      cases d with
      | zero => cases ha
      | succ d' =>
        have ha : oneS (cntS d') l[i] = some a := ha
        unfold oneS at ha
        split at ha
        · obtain ⟨c1, _, ha⟩ := Option.bind_eq_some_iff.1 ha
          obtain ⟨c2, _, ha⟩ := Option.bind_eq_some_iff.1 ha
          obtain ⟨c3, _, rfl⟩ := Option.map_eq_some_iff.1 ha
          dsimp only; omega
        · cases ha
    · rw [decide_eq_false (by omega : ¬ ((s + 1 : Nat) : Int) > 200), cond_false]
      cases d with
      | zero =>
        rw [decide_eq_true (by omega : ((0 : Nat) : Int) < 1)]
        exact ⟨_, _, .inr ⟨rfl, stop _ _ fun a ha => by cases ha⟩⟩
      | succ d' =>
        rw [decide_eq_false (by omega : ¬ ((d' + 1 : Nat) : Int) < 1), cond_false]
        obtain ⟨fm, ok, h141, hfo⟩ := asked141 k (sKind l[i])
        rw [h141]
        simp only [Option.bind_some]
        -- not so formed
        have badly : okS l[i] = false → ∀ s' x' : Int, Res2 s x (sumS (oneD (d' + 1)) (l.drop i)) false s' x' := fun ho s' x' => stop s' x' fun a ha => by
          have ha : oneS (cntS d') l[i] = some a := ha
          unfold oneS at ha
          rw [ho] at ha; cases ha
        cases hfs : formS (sKind l[i]) with
        | none =>
          rw [hfs] at hfo
          subst hfo
          have hok : okS l[i] = false := by unfold okS; rw [hfs]
          unfold l107_27036
          exact ⟨_, _, .inr ⟨rfl, badly hok _ _⟩⟩
        | some f =>
          rw [hfs] at hfo
          obtain ⟨rfl, rfl⟩ := hfo
          have hok : okS l[i] = okForm f l[i] := by unfold okS; rw [hfs]
          dsimp only
          rw [bad107 k l[i] f hn1 hn2, ← hok]
          simp only [Option.bind_some]
          cases ho : okS l[i] with
          | false => exact ⟨_, _, .inr ⟨rfl, badly ho _ _⟩⟩
          | true =>
            have hlen := (okS_len ho).1
            have hw : w64 (((d' + 1 : Nat) : Int) - 1) = (d' : Int) := by rw [w64_id (by omega) (by omega)]; omega
            obtain ⟨hb1, hb2⟩ := hbd d' rfl
            have hone : oneD (d' + 1) l[i] = (sumE (cntE 12) (sExprs l[i])).bind fun x => (cntS d' (sBody l[i])).bind fun b => (cntS d' (sEls l[i])).map fun c => (1 + b.1 + c.1, x + b.2 + c.2) := by
              show oneS (cntS d') l[i] = _
              unfold oneS
              rw [if_pos ho]
            simp only [Bool.not_true, cond_false]
            unfold l107_27038 l107_54076
            simp only [Option.bind_some]
            obtain ⟨x1, hx1⟩ := exprs_loop k (r := f107 k) hlen hex (s := ((s + 1 : Nat) : Int)) (sExprs l[i]).length 0 x (by omega) hx8 k (by omega)
            rw [show ((0 : Nat) : Int) = 0 from rfl, List.drop_zero] at hx1
            rcases hx1 with ⟨h, m, hm, hm2, rfl⟩ | ⟨h, hm⟩
            · rw [h]
              simp only [Option.bind_some]
              unfold l107_54078
              rw [hw]
              obtain ⟨b1, s2, x2, h2, hres2⟩ := hb1 (s + 1) (x + m) (by omega) hm2
              rw [h2]
              simp only [Option.bind_some]
              cases hc1 : cntS d' (sBody l[i]) with
              | none =>
                rw [hc1] at hres2
                cases hres2
                exact ⟨_, _, .inr ⟨rfl, stop _ _ fun a ha => by rw [hone, hm, hc1] at ha; cases ha⟩⟩
              | some c1 =>
                rw [hc1] at hres2
                unfold Res2 at hres2
                dsimp only at hres2
                split at hres2
                · rename_i hle
                  obtain ⟨rfl, rfl, rfl⟩ := hres2
                  obtain ⟨b2, s3, x3, h3, hres3⟩ := hb2 (s + 1 + c1.1) (x + m + c1.2) hle.1 hle.2
                  simp only [Bool.not_true, cond_false]
                  rw [h3]
                  simp only [Option.bind_some]
                  cases hc2 : cntS d' (sEls l[i]) with
                  | none =>
                    rw [hc2] at hres3
                    cases hres3
                    exact ⟨_, _, .inr ⟨rfl, stop _ _ fun a ha => by rw [hone, hm, hc1, hc2] at ha; cases ha⟩⟩
                  | some c2 =>
                    rw [hc2] at hres3
                    unfold Res2 at hres3
                    dsimp only at hres3
                    have hval : oneD (d' + 1) l[i] = some (1 + c1.1 + c2.1, m + c1.2 + c2.2) := by rw [hone, hm, hc1, hc2]; rfl
                    split at hres3
                    · rename_i hle2
                      obtain ⟨rfl, rfl, rfl⟩ := hres3
                      simp only [Bool.not_true, cond_false]
                      rw [w_one hlt hl]
                      obtain ⟨s', x', hih⟩ := ih (i + 1) (s + 1 + c1.1 + c2.1) (x + m + c1.2 + c2.2) (by omega) hle2.1 hle2.2 j hj2
                      have conv : ∀ b, Res2 (s + 1 + c1.1 + c2.1) (x + m + c1.2 + c2.2) (sumS (oneD (d' + 1)) (l.drop (i + 1))) b s' x' → Res2 s x (sumS (oneD (d' + 1)) (l.drop i)) b s' x' := by
                        intro b hb
                        rw [hsum, hval]
                        simp only [Option.bind_some]
                        cases hS : sumS (oneD (d' + 1)) (l.drop (i + 1)) with
                        | none => rw [hS] at hb; exact hb
                        | some p =>
                          rw [hS] at hb
                          unfold Res2 at hb ⊢
                          simp only [Option.map_some] at hb ⊢
                          rw [show s + (1 + c1.1 + c2.1 + p.1) = s + 1 + c1.1 + c2.1 + p.1 by omega, show x + (m + c1.2 + c2.2 + p.2) = x + m + c1.2 + c2.2 + p.2 by omega]
                          exact hb
                      rcases hih with ⟨h4, h5⟩ | ⟨h4, h5⟩
                      · rw [h4]; exact ⟨s', x', .inl ⟨rfl, conv true h5⟩⟩
                      · rw [h4]; exact ⟨s', x', .inr ⟨rfl, conv false h5⟩⟩
                    · rename_i hle2
                      subst hres3
                      exact ⟨_, _, .inr ⟨rfl, stop _ _ fun a ha => by
                        rw [hval] at ha
                        cases ha
                        dsimp only
                        omega⟩⟩
                · rename_i hle
                  subst hres2
                  exact ⟨_, _, .inr ⟨rfl, stop _ _ fun a ha => by
                    rw [hone, hm, hc1] at ha
                    obtain ⟨c2, _, rfl⟩ := Option.map_eq_some_iff.1 ha
                    dsimp only
                    omega⟩⟩
            · rw [h]
              exact ⟨_, _, .inr ⟨rfl, stop _ _ fun a ha => by
                rw [hone] at ha
                obtain ⟨c0, hc0, ha⟩ := Option.bind_eq_some_iff.1 ha
                obtain ⟨c1, _, ha⟩ := Option.bind_eq_some_iff.1 ha
                obtain ⟨c2, _, rfl⟩ := Option.map_eq_some_iff.1 ha
                have := hm c0 hc0
                dsimp only
                omega⟩⟩
theorem all107 : ∀ (d : Nat), d ≤ 12 → ∀ l : List PStmt, Fit (.slice (.rc 1)) l → E fun k => StOk k d l
  | d, hd, l, hf => by
    obtain ⟨hl, hs⟩ := fit_list hf
    have key : ∀ s ∈ l, E fun k => StFact k d s := by
      intro s hsm
      obtain ⟨g1, g2, ⟨g3, g4⟩, g5, g6⟩ := fit_stmt (hs s hsm)
      have e1 := nameE (sName s) g1
      have e2 := nameE (sLoc s) g2
      have e3 := E_list (sExprs s) fun y hy => expr69 12 (Nat.le_refl _) y (g4 y hy)
      have e4 : E fun k => ∀ d', d = d' + 1 → StOk k d' (sBody s) ∧ StOk k d' (sEls s) := by
        cases d with
        | zero => exact .all fun k d' h => by cases h
        | succ d' => exact ((all107 d' (by omega) (sBody s) g5).and (all107 d' (by omega) (sEls s) g6)).mono fun k h d'' h2 => by cases h2; exact h
      exact ((e1.and e2).and (e3.and e4)).mono fun k ⟨⟨a1, a2⟩, a3, a4⟩ => ⟨a1.1, a2.1, a3, a4⟩
    refine ((E_list l key).and ((E.ge (l.length + 1)).and (E.ge 300))).succ fun k ⟨h1, h2, h3⟩ => ?_
    intro s x hs2 hx2
    obtain ⟨s', x', h⟩ := stmts_loop k h3 hd hl h1 l.length 0 s x (by omega) hs2 hx2 k (by omega)
    rw [show ((0 : Nat) : Int) = 0 from rfl, List.drop_zero, ← cntS_eq] at h
    rw [f107_succ]
    unfold b107
    rcases h with ⟨h, h'⟩ | ⟨h, h'⟩
    · rw [h]; exact ⟨true, s', x', rfl, h'⟩
    · rw [h]; exact ⟨false, s', x', rfl, h'⟩
end Tree
end Go.Proofs.Yticelgnmcjkknaa.M
/-
Programs as trees: how many statements there are, by the reference.
-/
set_option linter.unusedVariables false
set_option linter.unusedSimpArgs false
set_option maxRecDepth 100000
namespace Go.Proofs.Yticelgnmcjkknaa.M
open Go Go.Proofs.Yticelgnmcjkknaa.Vm Go.Proofs.Yticelgnmcjkknaa.Pl
namespace Tree
open Lex
def b2i (b : Bool) : Int := cond b 1 0
def row (f : Bool × Bool × Nat × Bool × Bool) : List Int := [b2i f.1, b2i f.2.1, (f.2.2.1 : Int), b2i f.2.2.2.1, b2i f.2.2.2.2]
theorem row_at (k : Nat) (n : Nat) (h1 : 1 ≤ n) (h2 : n ≤ 16) : ∃ f t, formS (n : Int) = some f ∧ f108 k () = some ((t, ()), ()) ∧ t[n]? = some (row f) := by
  match n, h1, h2 with
  | 1, _, _ => exact ⟨_, _, rfl, rfl, rfl⟩
  | 2, _, _ => exact ⟨_, _, rfl, rfl, rfl⟩
  | 3, _, _ => exact ⟨_, _, rfl, rfl, rfl⟩
  | 4, _, _ => exact ⟨_, _, rfl, rfl, rfl⟩
  | 5, _, _ => exact ⟨_, _, rfl, rfl, rfl⟩
  | 6, _, _ => exact ⟨_, _, rfl, rfl, rfl⟩
  | 7, _, _ => exact ⟨_, _, rfl, rfl, rfl⟩
  | 8, _, _ => exact ⟨_, _, rfl, rfl, rfl⟩
  | 9, _, _ => exact ⟨_, _, rfl, rfl, rfl⟩
  | 10, _, _ => exact ⟨_, _, rfl, rfl, rfl⟩
  | 11, _, _ => exact ⟨_, _, rfl, rfl, rfl⟩
  | 12, _, _ => exact ⟨_, _, rfl, rfl, rfl⟩
  | 13, _, _ => exact ⟨_, _, rfl, rfl, rfl⟩
  | 14, _, _ => exact ⟨_, _, rfl, rfl, rfl⟩
  | 15, _, _ => exact ⟨_, _, rfl, rfl, rfl⟩
  | 16, _, _ => exact ⟨_, _, rfl, rfl, rfl⟩
  | n + 17, _, h => exact absurd h (by omega)
theorem must109 (k : Nat) (s : ByteArray) (want : Bool) (hn : f20 k s = some ((nameS (L s), ()), ())) : f109 k s (b2i want) = some ((fits want s, ()), ()) := by
  unfold f109 fits b2i
  cases want with
  | true => simp only [cond_true]; rw [show ((1 : Int) == 1) = true from rfl, cond_true, hn]; rfl
  | false => rfl
theorem bad72 (k : Nat) {r : T72} (s : PStmt) (f : Bool × Bool × Nat × Bool × Bool) (h1 : f20 k (sName s) = some ((nameS (L (sName s)), ()), ())) (h2 : f20 k (sLoc s) = some ((nameS (L (sLoc s)), ()), ())) :
    l72_29852 k r (sKind s) (sName s) (sLoc s) (sExprs s) (sBody s) (sEls s) (sPos s) (row f) = some ((!okForm f s, ()), ((sKind s, sName s, sLoc s, sExprs s, sBody s, sEls s, sPos s, ()), row f, ())) := by
  have hq : (((sExprs s).length : Int) != (f.2.2.1 : Int)) = !decide ((sExprs s).length = f.2.2.1) := by unfold bne; rw [len_q]
  have r0 : (row f)[0]? = some (b2i f.1) := rfl
  have r1 : (row f)[1]? = some (b2i f.2.1) := rfl
  have r2 : (row f)[2]? = some (f.2.2.1 : Int) := rfl
  have r3 : (row f)[3]? = some (b2i f.2.2.2.1) := rfl
  have r4 : (row f)[4]? = some (b2i f.2.2.2.2) := rfl
  unfold l72_29852 okForm
  rw [r0, r1, r2, r3, r4]
  simp only [Option.bind_some]
  rw [must109 k _ _ h1, must109 k _ _ h2, hq]
  simp only [Option.bind_some]
  generalize row f = rr
  cases fits f.1 (sName s) <;> cases fits f.2.1 (sLoc s) <;> cases decide ((sExprs s).length = f.2.2.1) <;> cases f.2.2.2.1 <;> cases f.2.2.2.2 <;> cases decide (((sBody s).length : Int) > 0) <;> cases decide (((sEls s).length : Int) > 0) <;> rfl
/-- What the reference tells of statements. -/
def ref2 (o : Option (Nat × Nat)) : Int × Int × Unit := match o with
  | some n => if n.1 ≤ 200 ∧ n.2 ≤ 8192 then ((n.1 : Int), (n.2 : Int), ()) else (-1, 0, ())
  | none => (-1, 0, ())
theorem ref2_some {a : Nat × Nat} (h : a.1 ≤ 200 ∧ a.2 ≤ 8192) : ref2 (some a) = ((a.1 : Int), (a.2 : Int), ()) := if_pos h
theorem ref2_big {a : Nat × Nat} (h : ¬ (a.1 ≤ 200 ∧ a.2 ≤ 8192)) : ref2 (some a) = (-1, 0, ()) := if_neg h
theorem rexprs_loop (k : Nat) {r : T72} {l : List PExpr} (hl : l.length ≤ 2) (hr : ∀ x ∈ l, f26 k x 12 = some ((refN (cntE 12 x), ()), ())) {a p : Int} {b c : ByteArray} {bd el : List PStmt} : ∀ (q i n : Nat), l.length - i = q → n ≤ 8192 + 5000 * i → ∀ j, q < j →
    l72_955386 k r j n i a b c l bd el p = match sumE (cntE 12) (l.drop i) with
      | some m => some (.inl ((((n + m : Nat) : Int), ()), ((a, b, c, l, bd, el, p, ()), ())))
      | none => some (.inr ((-1, 0, ()), ((a, b, c, l, bd, el, p, ()), ()))) := by
  intro q
  induction q with
  | zero =>
    intro i n hi hn j hj
    obtain ⟨j, rfl, _⟩ := succ_of (n := 0) (by omega : 0 + 1 ≤ j)
    show b72_955386 k r (l72_955386 k r j) n i a b c l bd el p = _
    unfold b72_955386
    rw [decide_eq_false (by omega : ¬ (i : Int) < l.length), List.drop_of_length_le (by omega)]; rfl
  | succ q ih =>
    intro i n hi hn j hj
    obtain ⟨j, rfl, hj2⟩ := succ_of (by omega : q + 1 + 1 ≤ j)
    have hlt : i < l.length := by omega
    have hx : l[i]? = some l[i] := List.getElem?_eq_getElem hlt
    have h26 := hr _ (List.getElem_mem hlt)
    show b72_955386 k r (l72_955386 k r j) n i a b c l bd el p = _
    unfold b72_955386
    rw [decide_eq_true (by omega : (i : Int) < l.length), cond_true, ix_nat hx, h26, List.drop_eq_getElem_cons hlt]
    simp only [Option.bind_some]
    unfold sumE
    cases hc : cntE 12 l[i] with
    | none => rfl
    | some m =>
      have hm := cnt_lt 12 _ m hc
      have hp : 2 ^ 12 = 4096 := rfl
      have e1 : refN (some m) = (m : Int) := rfl
      have hw : w64 ((n : Int) + (m : Int)) = ((n + m : Nat) : Int) := by rw [w64_id (by omega) (by omega)]; omega
      rw [e1, decide_eq_false (by omega : ¬ (m : Int) < 0), cond_false, hw, w_one hlt (by unfold mx; omega), ih (i + 1) (n + m) (by omega) (by omega) j hj2]
      simp only [Option.bind_some]
      cases sumE (cntE 12) (l.drop (i + 1)) with
      | none => rfl
      | some m' =>
        simp only [Option.bind_some, Option.map_some]
        rw [show n + m + m' = n + (m + m') by omega]
/-- What is counted from here on, if it is within the bounds. -/
def tot (n m : Nat) (o : Option (Nat × Nat)) : Option (Nat × Nat) := match o with
  | some a => if n + a.1 ≤ 200 ∧ m + a.2 ≤ 8192 then some (n + a.1, m + a.2) else none
  | none => none
structure RtFact (k d : Nat) (s : PStmt) : Prop where
  n1 : f20 k (sName s) = some ((nameS (L (sName s)), ()), ())
  n2 : f20 k (sLoc s) = some ((nameS (L (sLoc s)), ()), ())
  ex : ∀ y ∈ sExprs s, f26 k y 12 = some ((refN (cntE 12 y), ()), ())
  bd : ∀ d' : Nat, d = d' + 1 → f72 k (sBody s) d' = some (ref2 (cntS d' (sBody s)), ()) ∧ f72 k (sEls s) d' = some (ref2 (cntS d' (sEls s)), ())
theorem rstmts_loop (k : Nat) (hk : 300 ≤ k) {d : Nat} (hd : d ≤ 12) {l : List PStmt} (hl : l.length ≤ mx) (hr : ∀ s ∈ l, RtFact k d s) : ∀ (q i n m : Nat), l.length - i = q → n ≤ 200 → m ≤ 8192 → ∀ j, q < j →
    l72_58 k (f72 k) j l d n m i = match tot n m (sumS (oneD d) (l.drop i)) with
      | some a => some (.inl (((a.1 : Int), (a.2 : Int), ()), ()))
      | none => some (.inr ((-1, 0, ()), ())) := by
  intro q
  induction q with
  | zero =>
    intro i n m hi hn hm j hj
    obtain ⟨j, rfl, _⟩ := succ_of (n := 0) (by omega : 0 + 1 ≤ j)
    have e0 : l72_58 k (f72 k) (j + 1) l d n m i = b72_58 k (f72 k) (l72_58 k (f72 k) j) l d n m i := rfl
    rw [e0]
    unfold b72_58
    rw [decide_eq_false (by omega : ¬ (i : Int) < l.length), List.drop_of_length_le (by omega)]
    have : tot n m (sumS (oneD d) []) = some (n + 0, m + 0) := if_pos ⟨by omega, by omega⟩
    rw [this]; rfl
  | succ q ih =>
    intro i n m hi hn hm j hj
    obtain ⟨j, rfl, hj2⟩ := succ_of (by omega : q + 1 + 1 ≤ j)
    have hlt : i < l.length := by omega
    have hx : l[i]? = some l[i] := List.getElem?_eq_getElem hlt
    obtain ⟨hn1, hn2, hex, hbd⟩ := hr _ (List.getElem_mem hlt)
    have e0 : l72_58 k (f72 k) (j + 1) l d n m i = b72_58 k (f72 k) (l72_58 k (f72 k) j) l d n m i := rfl
    have hsum : sumS (oneD d) (l.drop i) = (oneD d l[i]).bind fun a => (sumS (oneD d) (l.drop (i + 1))).map fun b => (a.1 + b.1, a.2 + b.2) := by
      rw [List.drop_eq_getElem_cons hlt]; rfl
    have stop : (∀ a, oneD d l[i] = some a → 200 < n + a.1 ∨ 8192 < m + a.2) → tot n m (sumS (oneD d) (l.drop i)) = none := by
      intro h
      rw [hsum]
      cases ho : oneD d l[i] with
      | none => rfl
      | some a =>
        have h1 := h a ho
        simp only [Option.bind_some]
        cases sumS (oneD d) (l.drop (i + 1)) with
        | none => rfl
        | some b =>
          simp only [Option.map_some]
          show (if n + (a.1 + b.1) ≤ 200 ∧ m + (a.2 + b.2) ≤ 8192 then _ else _) = _
          rw [if_neg (by omega)]
    rw [e0]
    unfold b72_58
    rw [decide_eq_true (by omega : (i : Int) < l.length), cond_true, ix_nat hx]
    cases d with
    | zero =>
      rw [decide_eq_true (by omega : ((0 : Nat) : Int) < 1), stop (fun a ha => by cases ha)]; rfl
    | succ d' =>
      rw [decide_eq_false (by omega : ¬ ((d' + 1 : Nat) : Int) < 1), cond_false]
      have badly : okS l[i] = false → tot n m (sumS (oneD (d' + 1)) (l.drop i)) = none := fun ho => stop fun a ha => by
        have ha : oneS (cntS d') l[i] = some a := ha
        unfold oneS at ha
        rw [ho] at ha; cases ha
      by_cases hlo : sKind l[i] < 1
      · have hok : okS l[i] = false := by unfold okS; rw [formS_none (.inl hlo)]
        rw [decide_eq_true hlo, badly hok]; rfl
      rw [decide_eq_false hlo, cond_false]
      by_cases hhi : sKind l[i] > 16
      · have hok : okS l[i] = false := by unfold okS; rw [formS_none (.inr hhi)]
        rw [decide_eq_true hhi, badly hok]; rfl
      rw [decide_eq_false hhi, cond_false]
      obtain ⟨c, hc⟩ : ∃ c : Nat, sKind l[i] = c := ⟨(sKind l[i]).toNat, by omega⟩
      obtain ⟨f, t, hf, h108, ht⟩ := row_at k c (by omega) (by omega)
      have hok : okS l[i] = okForm f l[i] := by unfold okS; rw [hc, hf]
      rw [h108]
      simp only [Option.bind_some]
      have hix : ∀ {R : Type} {K : List Int → Option R}, ix t (sKind l[i]) K = K (row f) := by intro R K; rw [hc]; exact ix_nat ht
      rw [hix, bad72 k l[i] f hn1 hn2, ← hok]
      simp only [Option.bind_some]
      cases ho : okS l[i] with
      | false => rw [badly ho]; rfl
      | true =>
        have hlen := (okS_len ho).1
        have hw : w64 (((d' + 1 : Nat) : Int) - 1) = (d' : Int) := by rw [w64_id (by omega) (by omega)]; omega
        obtain ⟨hb1, hb2⟩ := hbd d' rfl
        have hone : oneD (d' + 1) l[i] = (sumE (cntE 12) (sExprs l[i])).bind fun x => (cntS d' (sBody l[i])).bind fun b => (cntS d' (sEls l[i])).map fun c => (1 + b.1 + c.1, x + b.2 + c.2) := by
          show oneS (cntS d') l[i] = _
          unfold oneS
          rw [if_pos ho]
        simp only [Bool.not_true, cond_false]
        unfold l72_29854 l72_59710
        rw [hw, hb1]
        simp only [Option.bind_some]
        rw [hb2]
        simp only [Option.bind_some]
        unfold l72_119422 l72_238844
        have none1 : (∀ b, cntS d' (sBody l[i]) = some b → ¬ (b.1 ≤ 200 ∧ b.2 ≤ 8192)) → tot n m (sumS (oneD (d' + 1)) (l.drop i)) = none := fun h => stop fun a ha => by
          rw [hone] at ha
          obtain ⟨c0, hc0, ha⟩ := Option.bind_eq_some_iff.1 ha
          obtain ⟨c1, hc1, ha⟩ := Option.bind_eq_some_iff.1 ha
          obtain ⟨c2, _, rfl⟩ := Option.map_eq_some_iff.1 ha
          have := h c1 hc1
          dsimp only
          omega
        have none2 : (∀ b, cntS d' (sEls l[i]) = some b → ¬ (b.1 ≤ 200 ∧ b.2 ≤ 8192)) → tot n m (sumS (oneD (d' + 1)) (l.drop i)) = none := fun h => stop fun a ha => by
          rw [hone] at ha
          obtain ⟨c0, hc0, ha⟩ := Option.bind_eq_some_iff.1 ha
          obtain ⟨c1, hc1, ha⟩ := Option.bind_eq_some_iff.1 ha
          obtain ⟨c2, hc2, rfl⟩ := Option.map_eq_some_iff.1 ha
          have := h c2 hc2
          dsimp only
          omega
        have m1 : decide ((-1 : Int) < 0) = true := rfl
        -- the body
        by_cases hB : ∃ b, cntS d' (sBody l[i]) = some b ∧ (b.1 ≤ 200 ∧ b.2 ≤ 8192)
        case neg =>
          have hr1 : ref2 (cntS d' (sBody l[i])) = (-1, 0, ()) := by
            cases hcb : cntS d' (sBody l[i]) with
            | none => rfl
            | some b => exact ref2_big fun h => hB ⟨b, hcb, h⟩
          rw [hr1, none1 fun b hb h => hB ⟨b, hb, h⟩]
          rfl
        obtain ⟨b, hcb, hble⟩ := hB
        rw [hcb, ref2_some hble]
        by_cases hC : ∃ c, cntS d' (sEls l[i]) = some c ∧ (c.1 ≤ 200 ∧ c.2 ≤ 8192)
        case neg =>
          have hr1 : ref2 (cntS d' (sEls l[i])) = (-1, 0, ()) := by
            cases hcb : cntS d' (sEls l[i]) with
            | none => rfl
            | some b => exact ref2_big fun h => hC ⟨b, hcb, h⟩
          rw [hr1, none2 fun b hb h => hC ⟨b, hb, h⟩]
          dsimp only
          rw [decide_eq_false (by omega : ¬ (b.1 : Int) < 0)]
          rfl
        obtain ⟨c', hcc, hcle⟩ := hC
        rw [hcc, ref2_some hcle]
        dsimp only
        rw [decide_eq_false (by omega : ¬ (b.1 : Int) < 0), decide_eq_false (by omega : ¬ (c'.1 : Int) < 0)]
        simp only [Option.bind_some, cond_false]
        unfold l72_238846 l72_477692
        simp only [Option.bind_some]
        have hxl := rexprs_loop k (r := f72 k) hlen hex (a := sKind l[i]) (p := sPos l[i]) (b := sName l[i]) (c := sLoc l[i]) (bd := sBody l[i]) (el := sEls l[i]) (sExprs l[i]).length 0 m (by omega) (by omega) k (by omega)
        rw [show ((0 : Nat) : Int) = 0 from rfl, List.drop_zero] at hxl
        rw [hxl]
        cases hE : sumE (cntE 12) (sExprs l[i]) with
        | none =>
          rw [stop fun a ha => by rw [hone, hE] at ha; cases ha]
          rfl
        | some x =>
          have hx8 := sumE_lt hlen hE
          have hval : oneD (d' + 1) l[i] = some (1 + b.1 + c'.1, x + b.2 + c'.2) := by rw [hone, hE, hcb, hcc]; rfl
          simp only [Option.bind_some]
          unfold l72_477694 l72_955390
          simp only [Option.bind_some]
          have w1 : w64 (w64 (w64 ((n : Int) + 1) + (b.1 : Int)) + (c'.1 : Int)) = ((n + (1 + b.1 + c'.1) : Nat) : Int) := by
            rw [w64_id (n := (n : Int) + 1) (by omega) (by omega), w64_id (n := (n : Int) + 1 + (b.1 : Int)) (by omega) (by omega), w64_id (by omega) (by omega)]; omega
          have w2 : w64 (w64 (((m + x : Nat) : Int) + (b.2 : Int)) + (c'.2 : Int)) = ((m + (x + b.2 + c'.2) : Nat) : Int) := by
            rw [w64_id (n := ((m + x : Nat) : Int) + (b.2 : Int)) (by omega) (by omega), w64_id (by omega) (by omega)]; omega
          rw [w1, w2]
          unfold l72_1910782
          by_cases hin : n + (1 + b.1 + c'.1) ≤ 200 ∧ m + (x + b.2 + c'.2) ≤ 8192
          · rw [decide_eq_false (by omega : ¬ ((n + (1 + b.1 + c'.1) : Nat) : Int) > 200), decide_eq_false (by omega : ¬ ((m + (x + b.2 + c'.2) : Nat) : Int) > 8192)]
            simp only [cond_false, Option.bind_some]
            rw [w_one hlt hl, ih (i + 1) _ _ (by omega) hin.1 hin.2 j hj2, hsum, hval]
            simp only [Option.bind_some]
            cases sumS (oneD (d' + 1)) (l.drop (i + 1)) with
            | none => rfl
            | some p =>
              simp only [Option.map_some]
              unfold tot
              dsimp only
              rw [show n + (1 + b.1 + c'.1 + p.1) = n + (1 + b.1 + c'.1) + p.1 by omega, show m + (x + b.2 + c'.2 + p.2) = m + (x + b.2 + c'.2) + p.2 by omega]
              split <;> (rename_i h; split at h <;> first | (cases h; done) | (try cases h; rfl))
          · rw [stop fun a ha => by rw [hval] at ha; cases ha; dsimp only; omega]
            by_cases h200 : n + (1 + b.1 + c'.1) ≤ 200
            · rw [decide_eq_false (by omega : ¬ ((n + (1 + b.1 + c'.1) : Nat) : Int) > 200), decide_eq_true (by omega : ((m + (x + b.2 + c'.2) : Nat) : Int) > 8192)]; rfl
            · rw [decide_eq_true (by omega : ((n + (1 + b.1 + c'.1) : Nat) : Int) > 200)]; rfl
theorem ref72 : ∀ (d : Nat), d ≤ 12 → ∀ l : List PStmt, Fit (.slice (.rc 1)) l → E fun k => f72 k l d = some (ref2 (cntS d l), ())
  | d, hd, l, hf => by
    obtain ⟨hl, hs⟩ := fit_list hf
    have key : ∀ s ∈ l, E fun k => RtFact k d s := by
      intro s hsm
      obtain ⟨g1, g2, ⟨g3, g4⟩, g5, g6⟩ := fit_stmt (hs s hsm)
      have e1 := nameE (sName s) g1
      have e2 := nameE (sLoc s) g2
      have e3 := E_list (sExprs s) fun y hy => ref26 12 (Nat.le_refl _) y (g4 y hy)
      have e4 : E fun k => ∀ d' : Nat, d = d' + 1 → f72 k (sBody s) d' = some (ref2 (cntS d' (sBody s)), ()) ∧ f72 k (sEls s) d' = some (ref2 (cntS d' (sEls s)), ()) := by
        cases d with
        | zero => exact .all fun k d' h => by cases h
        | succ d' => exact ((ref72 d' (by omega) (sBody s) g5).and (ref72 d' (by omega) (sEls s) g6)).mono fun k h d'' h2 => by cases h2; exact h
      exact ((e1.and e2).and (e3.and e4)).mono fun k ⟨⟨a1, a2⟩, a3, a4⟩ => ⟨a1.2, a2.2, a3, a4⟩
    refine ((E_list l key).and ((E.ge (l.length + 1)).and (E.ge 300))).succ fun k ⟨h1, h2, h3⟩ => ?_
    have h := rstmts_loop k h3 hd hl h1 l.length 0 0 0 (by omega) (by omega) (by omega) k (by omega)
    rw [show ((0 : Nat) : Int) = 0 from rfl, List.drop_zero, ← cntS_eq] at h
    rw [f72_succ]
    unfold b72
    rw [h]
    cases hc : cntS d l with
    | none => rfl
    | some a =>
      unfold tot ref2
      dsimp only
      rw [Nat.zero_add, Nat.zero_add]
      by_cases hin : a.1 ≤ 200 ∧ a.2 ≤ 8192
      · rw [if_pos hin, if_pos hin]; rfl
      · rw [if_neg hin, if_neg hin]; rfl
end Tree
end Go.Proofs.Yticelgnmcjkknaa.M
