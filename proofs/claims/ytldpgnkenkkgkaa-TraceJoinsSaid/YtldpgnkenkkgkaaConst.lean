/-
'[]byte("..")' of a constant: the row that is made is read, and no more.
-/
import Derived.Test.YtldpgnkenkkgkaaK0
import Derived.Lib.SlBytesConst
namespace Go.Proofs.Ytldpgnkenkkgkaa.G
set_option linter.unusedSimpArgs false
set_option linter.unusedVariables false
open Go.RowKit Go.Proofs.YtldpgnkenkkgkaaW.PrintWords Go.Proofs.YtldpgnkenkkgkaaW.PrintLast

theorem C_row (W : World) (k : IntKind) (xs : List Int) (e : Nat) (m : Nat × Nat) (hx : xs.length ≤ 9223372036854775807) :
    (Kd.int k).C (W.alloc (.cells (xs.map (Value.int k)).toArray e m)) (some ⟨W.heap.size, 0, none⟩) xs.length xs := by
  refine Kd.C_of_reads (d := 0) (h1 := fun _ => rfl) ⟨rfl, hx, fun _ => ⟨_, rfl, fun j hj => ?_⟩⟩
  rw [add_plain]
  have hb : (W.alloc (.cells (xs.map (Value.int k)).toArray e m)).heap[W.heap.size]? = some (.cells (xs.map (Value.int k)).toArray e m) := by simpa using heap_alloc_new W _
  rw [cell_of_row _ _ j _ _ _ hb]
  simp [List.getD_eq_getElem?_getD, List.getElem?_eq_getElem hj]

end Go.Proofs.Ytldpgnkenkkgkaa.G
