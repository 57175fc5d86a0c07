/-
How strongly any sign binds: the plain law. For every input, no condition.
-/
import Derived.Test.YticelgnmcjkknaaLexK
set_option linter.unusedVariables false
set_option linter.unusedSimpArgs false
set_option maxRecDepth 100000
namespace Go.Proofs.Yticelgnmcjkknaa.M
open Go Go.Proofs.Yticelgnmcjkknaa.Vm Go.Proofs.Yticelgnmcjkknaa.Pl Lex
theorem awake21 (k : Nat) : f21 (k + 60) () = some ((true, ()), ()) := by kernel_rfl
theorem awake21E : E fun k => f21 k () = some ((true, ()), ()) := ⟨60, fun k hk => by obtain ⟨j, rfl⟩ : ∃ j, k = j + 60 := ⟨k - 60, by omega⟩; exact awake21 j⟩
namespace Tree
/-- All signs. -/
def signs : List ByteArray := [ByteArray.mk #[124, 124], ByteArray.mk #[38, 38], ByteArray.mk #[61, 61], ByteArray.mk #[33, 61], ByteArray.mk #[60], ByteArray.mk #[60, 61], ByteArray.mk #[62], ByteArray.mk #[62, 61], ByteArray.mk #[43], ByteArray.mk #[45], ByteArray.mk #[124], ByteArray.mk #[94], ByteArray.mk #[42], ByteArray.mk #[47], ByteArray.mk #[37], ByteArray.mk #[60, 60], ByteArray.mk #[62, 62], ByteArray.mk #[38]]
def table : List (List ByteArray) := [[(ByteArray.mk #[124, 124])], [(ByteArray.mk #[38, 38])], [(ByteArray.mk #[61, 61]), (ByteArray.mk #[33, 61]), (ByteArray.mk #[60]), (ByteArray.mk #[60, 61]), (ByteArray.mk #[62]), (ByteArray.mk #[62, 61])], [(ByteArray.mk #[43]), (ByteArray.mk #[45]), (ByteArray.mk #[124]), (ByteArray.mk #[94])], [(ByteArray.mk #[42]), (ByteArray.mk #[47]), (ByteArray.mk #[37]), (ByteArray.mk #[60, 60]), (ByteArray.mk #[62, 62]), (ByteArray.mk #[38])]]
theorem L_inj {a b : ByteArray} (h : L a = L b) : a = b := by
  unfold L at h
  exact ByteArray.ext (Array.toList_inj.1 h)
/-- How strongly, by both. -/
theorem both (k : Nat) : ∀ s ∈ signs, ∃ n : Int, f22 (k + 40) s = some ((n, ()), ()) ∧ f23 (k + 40) s = some ((n, ()), ()) := by
  intro s hs
  simp only [signs, List.mem_cons, List.not_mem_nil, or_false] at hs
  rcases hs with rfl | rfl | rfl | rfl | rfl | rfl | rfl | rfl | rfl | rfl | rfl | rfl | rfl | rfl | rfl | rfl | rfl | rfl
  · exact ⟨1, by kernel_rfl, by kernel_rfl⟩
  · exact ⟨2, by kernel_rfl, by kernel_rfl⟩
  · exact ⟨3, by kernel_rfl, by kernel_rfl⟩
  · exact ⟨3, by kernel_rfl, by kernel_rfl⟩
  · exact ⟨3, by kernel_rfl, by kernel_rfl⟩
  · exact ⟨3, by kernel_rfl, by kernel_rfl⟩
  · exact ⟨3, by kernel_rfl, by kernel_rfl⟩
  · exact ⟨3, by kernel_rfl, by kernel_rfl⟩
  · exact ⟨4, by kernel_rfl, by kernel_rfl⟩
  · exact ⟨4, by kernel_rfl, by kernel_rfl⟩
  · exact ⟨4, by kernel_rfl, by kernel_rfl⟩
  · exact ⟨4, by kernel_rfl, by kernel_rfl⟩
  · exact ⟨5, by kernel_rfl, by kernel_rfl⟩
  · exact ⟨5, by kernel_rfl, by kernel_rfl⟩
  · exact ⟨5, by kernel_rfl, by kernel_rfl⟩
  · exact ⟨5, by kernel_rfl, by kernel_rfl⟩
  · exact ⟨5, by kernel_rfl, by kernel_rfl⟩
  · exact ⟨5, by kernel_rfl, by kernel_rfl⟩
theorem inner (k : Nat) (s : ByteArray) (l : List (List ByteArray)) {i : Nat} {r : List ByteArray} (hr : l[i]? = some r) (hl : r.length ≤ 100) (hs : ∀ e ∈ r, L e ≠ L s) : ∀ (d q : Nat), r.length - q = d → ∀ j, d < j → l23_3730 k j s l i q = some (.inl ((l, ()), ())) := by
  intro d
  induction d with
  | zero =>
    intro q hq j hj
    obtain ⟨j, rfl, _⟩ := succ_of (n := 0) (by omega : 0 + 1 ≤ j)
    show b23_3730 k (l23_3730 k j) s l i q = _
    unfold b23_3730
    rw [ix_nat hr, decide_eq_false (by omega : ¬ (q : Int) < r.length)]; rfl
  | succ d ih =>
    intro q hq j hj
    obtain ⟨j, rfl, hj2⟩ := succ_of (by omega : d + 1 + 1 ≤ j)
    show b23_3730 k (l23_3730 k j) s l i q = _
    have hw1 : w64 ((q : Int) + 1) = ((q + 1 : Nat) : Int) := by rw [w_id (by omega) (by omega)]; omega
    have hx : r[q]? = some r[q] := List.getElem?_eq_getElem (by omega)
    unfold b23_3730
    rw [ix_nat hr, decide_eq_true (by omega : (q : Int) < r.length), cond_true, ix_nat hr, ix_nat hx, beqL, decide_eq_false (hs _ (List.getElem_mem _)), cond_false, hw1, ih (q + 1) (by omega) j hj2]; rfl
theorem outer (k : Nat) (hk : 100 < k) (s : ByteArray) (l : List (List ByteArray)) (hl : l.length ≤ 100) (hl2 : ∀ r ∈ l, r.length ≤ 99) (hs : ∀ r ∈ l, ∀ e ∈ r, L e ≠ L s) : ∀ (d i : Nat), l.length - i = d → ∀ j, d < j → l23_58 k j s l i = some (.inl ((), ())) := by
  intro d
  induction d with
  | zero =>
    intro q hq j hj
    obtain ⟨j, rfl, _⟩ := succ_of (n := 0) (by omega : 0 + 1 ≤ j)
    show b23_58 k (l23_58 k j) s l q = _
    unfold b23_58
    rw [decide_eq_false (by omega : ¬ (q : Int) < l.length)]; rfl
  | succ d ih =>
    intro q hq j hj
    obtain ⟨j, rfl, hj2⟩ := succ_of (by omega : d + 1 + 1 ≤ j)
    show b23_58 k (l23_58 k j) s l q = _
    have hw1 : w64 ((q : Int) + 1) = ((q + 1 : Nat) : Int) := by rw [w_id (by omega) (by omega)]; omega
    have hx : l[q]? = some l[q] := List.getElem?_eq_getElem (by omega)
    have hm : l[q] ∈ l := List.getElem_mem _
    have h0 := inner k s l hx (by have := hl2 _ hm; omega) (hs _ hm) l[q].length 0 (by omega) k (by have := hl2 _ hm; omega)
    rw [show ((0 : Nat) : Int) = 0 from rfl] at h0
    unfold b23_58
    rw [decide_eq_true (by omega : (q : Int) < l.length), cond_true, h0]
    simp only [Option.bind_some]
    rw [hw1, ih (q + 1) (by omega) j hj2]; rfl
theorem ref_none (k : Nat) (hk : 100 < k) (s : ByteArray) (h : ∀ e ∈ signs, L e ≠ L s) : f23 k s = some ((0, ()), ()) := by
  unfold f23
  have hs : ∀ r ∈ table, ∀ e ∈ r, L e ≠ L s := by
    intro r hr e he
    refine h e ?_
    have e1 : signs = table.flatten := rfl
    rw [e1]
    exact List.mem_flatten.2 ⟨r, hr, he⟩
  have := outer k hk s table (by decide) (by decide) hs 5 0 rfl k (by omega)
  rw [show ((0 : Nat) : Int) = 0 from rfl] at this
  unfold table at this
  rw [this]; rfl
theorem prog_none (k : Nat) (s : ByteArray) (h : ∀ e ∈ signs, L e ≠ L s) : f22 k s = some ((0, ()), ()) := by
  have hn : ∀ e, e ∈ signs → (s.toList == e.toList) = false := fun e he => by rw [beqL]; exact decide_eq_false fun e2 => h e he e2.symm
  have m : ∀ e, e ∈ signs ↔ e ∈ signs := fun _ => Iff.rfl
  simp only [signs, List.mem_cons, List.not_mem_nil, or_false, forall_eq_or_imp, forall_eq] at hn
  obtain ⟨h1, h2, h3, h4, h5, h6, h7, h8, h9, h10, h11, h12, h13, h14, h15, h16, h17, h18⟩ := hn
  unfold f22 l22_52
  simp only [h1, h2, h3, h4, h5, h6, h7, h8, h9, h10, h11, h12, h13, h14, h15, h16, h17, h18, cond_false, Option.bind_some]
  unfold l22_214 l22_428 l22_1718 l22_6878
  simp only [h1, h2, h3, h4, h5, h6, h7, h8, h9, h10, h11, h12, h13, h14, h15, h16, h17, h18, cond_false, Option.bind_some]
  unfold l22_862 l22_1724 l22_6902 l22_27614 l22_110462 l22_441854
  simp only [h1, h2, h3, h4, h5, h6, h7, h8, h9, h10, h11, h12, h13, h14, h15, h16, h17, h18, cond_false, Option.bind_some]
  unfold l22_3454 l22_13822
  simp only [h1, h2, h3, h4, h5, h6, h7, h8, h9, h10, h11, h12, h13, h14, h15, h16, h17, h18, cond_false, Option.bind_some]
end Tree
open Tree in
theorem Pure.TreeBinds (s : ByteArray) (_ : Fit .str s) : ∃ k, f5 k s = some ((true, ()), ()) := by
  refine (awake21E.mono2 (E.ge 1000) fun k e hk => ?_).ex
  have key : ∃ n : Int, f22 k s = some ((n, ()), ()) ∧ f23 k s = some ((n, ()), ()) := by
    by_cases h : s ∈ signs
    · obtain ⟨j, rfl⟩ : ∃ j, k = j + 40 := ⟨k - 40, by omega⟩
      exact both j s h
    · have h' : ∀ e ∈ signs, L e ≠ L s := fun e he e2 => h (by rw [← L_inj e2]; exact he)
      exact ⟨0, prog_none k s h', ref_none k (by omega) s h'⟩
  obtain ⟨n, h1, h2⟩ := key
  unfold f5
  by_cases h : (s.size : Int) > 100
  · rw [decide_eq_true h, e]; rfl
  · rw [decide_eq_false h, h1, h2, e]
    simp
end Go.Proofs.Yticelgnmcjkknaa.M
