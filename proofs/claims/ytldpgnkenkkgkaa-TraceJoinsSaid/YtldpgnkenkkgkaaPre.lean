/-
Small plain facts on the printed words: rounds, reads, numbers that need no wrap.
-/
import Derived.Test.YtldpgnkenkkgkaaK0
namespace Go.Proofs.Ytldpgnkenkkgkaa.Pre
open Go.RowKit Go.Proofs.YtldpgnkenkkgkaaW.PrintWords Go.Proofs.YtldpgnkenkkgkaaW.PrintLast

theorem w64 {x : Int} (h1 : -9223372036854775808 ≤ x) (h2 : x ≤ 9223372036854775807) : wrap64 x = x := by unfold wrap64; omega
theorem rd_nat {l : List Int} {i : Nat} (h : i < l.length) : rd l (i : Int) = l[i] := by
  unfold rd; rw [Int.toNat_natCast, List.getD_eq_getElem?_getD, List.getElem?_eq_getElem h]; rfl
theorem rd_int {l : List Int} {i : Int} (h0 : 0 ≤ i) (h : i < l.length) : rd l i = l[i.toNat]'(by omega) := by
  obtain ⟨n, rfl⟩ := Int.eq_ofNat_of_zero_le h0
  exact rd_nat (by omega)
theorem rd_zero {l : List Int} (h : 0 < l.length) : rd l 0 = l[0] := rd_nat (i := 0) h
theorem head_get {l : List Int} (h : 0 < l.length) : l.head? = some l[0] := by rw [List.head?_eq_getElem?, List.getElem?_eq_getElem h]
theorem drop_cons {α : Type} {l : List α} {i : Nat} (h : i < l.length) : l.drop i = l[i] :: l.drop (i + 1) := List.drop_eq_getElem_cons h
/-- From some rounds on. -/
theorem ev_at {α : Type} {g : Nat → Option α} {r : α} (h : ∀ k, LeO (g k) (g (k + 1))) (n : Nat) (hr : g n = some r) (k : Nat) (hk : n ≤ k) : g k = some r := at_rounds h hk hr
/-- Two that are known from some rounds on. -/
theorem Ev.both {α β : Type} {g : Nat → Option α} {f : Nat → Option β} {a : α} {b : β} (h : Ev g a) (h' : Ev f b) : ∃ K, ∀ k, K ≤ k → g k = some a ∧ f k = some b := by
  obtain ⟨K, hK⟩ := h; obtain ⟨K', hK'⟩ := h'
  exact ⟨K + K', fun k hk => ⟨hK k (by omega), hK' k (by omega)⟩⟩

end Go.Proofs.Ytldpgnkenkkgkaa.Pre
