/-
Strings as lists of numbers.
-/
import Derived.Test.YtldpgnkenkkgkaaPre
import Derived.Lib.Strings
import Derived.Lib.IndexBytes
import Derived.Laws.BytesArg
namespace Go.Proofs.Ytldpgnkenkkgkaa.Str
open Go.RowKit Go.Proofs.YtldpgnkenkkgkaaW.PrintWords Go.Proofs.YtldpgnkenkkgkaaW.PrintLast Go.Proofs.Ytldpgnkenkkgkaa.Pre

theorem toList_data (s : ByteArray) : s.toList = s.data.toList := ByteArray.toList_eq s
theorem u8_inj {a b : UInt8} (h : (a.toNat : Int) = b.toNat) : a = b := UInt8.toNat_inj.1 (by omega)
theorem map_inj : ∀ {l m : List UInt8}, l.map (fun b => (b.toNat : Int)) = m.map (fun b => (b.toNat : Int)) → l = m
  | [], [], _ => rfl
  | [], _ :: _, h => by simp at h
  | _ :: _, [], h => by simp at h
  | a :: l, b :: m, h => by
    simp only [List.map_cons, List.cons.injEq] at h
    rw [u8_inj h.1, map_inj h.2]
theorem toList_iff (s : ByteArray) (m : List UInt8) : s.toList = m ↔ bytesOf s = m.map (fun b => (b.toNat : Int)) := by
  rw [toList_data]; unfold bytesOf
  exact ⟨fun h => by rw [h], fun h => map_inj h⟩
theorem toList_eq_iff (s t : ByteArray) : s.toList = t.toList ↔ bytesOf s = bytesOf t := by
  rw [toList_iff, toList_data t]; rfl
theorem size_len (s : ByteArray) : (s.size : Int) = ((bytesOf s).length : Int) := by rw [bytesOf_length]
theorem size_nat (s : ByteArray) : s.size = (bytesOf s).length := by rw [bytesOf_length]
theorem bt_rd (s : ByteArray) (i : Int) : bt s i = rd (bytesOf s) i := (rd_bytesOf s i).symm
theorem bytes_range (s : ByteArray) : ∀ x ∈ bytesOf s, 0 ≤ x ∧ x ≤ 255 := by
  intro x hx; unfold bytesOf at hx
  rw [List.mem_map] at hx; obtain ⟨b, _, rfl⟩ := hx
  have := b.toNat_lt; omega
theorem bytes_extract (s : ByteArray) (a b : Nat) : bytesOf (s.extract a b) = ((bytesOf s).drop a).take (b - a) := by
  unfold bytesOf; rw [Lib.extract_data, List.map_take, List.map_drop]
theorem bytes_tail (s : ByteArray) (a : Nat) : bytesOf (s.extract a s.size) = (bytesOf s).drop a := by
  unfold bytesOf; rw [Lib.extract_to_end, List.map_drop]
theorem bytes_strOf (xs : List Int) (h : ∀ x ∈ xs, 0 ≤ x ∧ x ≤ 255) : bytesOf (strOfNums xs) = xs := by
  unfold bytesOf; rw [strOfNums_data, List.map_map]
  conv => rhs; rw [← List.map_id xs]
  apply List.map_congr_left
  intro x hx
  have := h x hx
  simp only [Function.comp, id]
  rw [UInt8.toNat_ofNat']; omega
theorem bytes_append (s t : ByteArray) : bytesOf (s ++ t) = bytesOf s ++ bytesOf t := by
  unfold bytesOf
  rw [show (s ++ t).data = s.data ++ t.data from ByteArray.data_append, Array.toList_append, List.map_append]
/-- Behind a test of texts: a test of lists. -/
theorem beq_toList (s : ByteArray) (m : List UInt8) : (s.toList == m) = decide (bytesOf s = m.map (fun b => (b.toNat : Int))) := by
  by_cases h : s.toList = m
  · rw [beq_iff_eq.2 h, decide_eq_true ((toList_iff s m).1 h)]
  · rw [beq_eq_false_iff_ne.2 h, decide_eq_false (fun h2 => h ((toList_iff s m).2 h2))]

end Go.Proofs.Ytldpgnkenkkgkaa.Str
