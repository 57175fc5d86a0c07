/-
The constant of so many bits, walked: what it hands back is a row of its own.
-/
import Derived.Test.YtepfhidiahleiaaProg
import Derived.WalkKit
import Derived.Deep.LoopGhost
import Derived.Laws.AppendOwn
set_option linter.unusedVariables false
set_option linter.unusedSimpArgs false
namespace Go.Proofs.Ytepfhidiahleiaa.M
open Go Go.Proofs Go.RowKit
theorem info3c : (Try.prog.info? 3).map (fun i => (i.zero, i.size, i.bytes)) = some (some (.int .i64 0), 1, 8) := by kernel_rfl
/-- The bit j of n, as the code computes it. -/
def cbit (n : Int) (j : Nat) : Int := bits BinOp.and IntKind.i64 (n / 2 ^ j) 1
set_option maxHeartbeats 1600000 in
set_option maxRecDepth 1000000 in
theorem const_walk (n : Int) (m : Nat) (w : World) (h1 : 1 ≤ m) (h2 : m ≤ 16) :
    Calls Try.prog 29 #[.int .i64 n, .int .i64 m] w fun e w' => ∃ v, e = .returned v ∧ w'.ownsRow w.heap.size 3 1 v m (((List.range m).map (cbit n)).map (Value.int .i64)) ∧ Below w.heap.size w w' := by
  obtain ⟨i0, hi, hz0, hz1, hz2⟩ := info_parts info3c
  have h1' : ¬ (m : Int) < 1 := by omega
  have h2' : ¬ (m : Int) > 16 := by omega
  go_enter Try.func29, Try.ntmps29
  go_wp2
  go_loopg [5, 14] m (fun k d c wr => ∃ j : Nat, k = m - j ∧ j ≤ m ∧ c = .int .i64 j ∧ wr.ownsRow w.heap.size 3 1 d j (((List.range j).map (cbit n)).map (Value.int .i64)) ∧ Below w.heap.size w wr)
  case atStart => exact ⟨0, rfl, Nat.zero_le _, rfl, World.ownsRow_nil .., Below.refl ..⟩
  case round =>
    obtain ⟨j, hk, hj, rfl, hown, hbel⟩ := hrel
    by_cases hlt : j < m
    · have hlt' : (j : Int) < (m : Int) := by omega
      go_wp2_with (at_builtin; refine wpList_append_own _ rfl (.tmp 17) (.tmp 22) 23 rfl w.heap.size 3 i0 (.int .i64 0) 1 8 Try.underlying23 hi hz0 hz1 hz2 rfl (by decide) _ j _ rfl (hown.alloc _) ⟨wr.heap.size, 0, none⟩ 1 1 [.int .i64 (cbit n j)] rfl rfl ?c1 ?c2 ?b1 ?b2 ?base ?next)
      case c1 =>
        intro i u hu
        match i, hu with
        | 0, hu =>
          simp only [List.getElem?_cons_zero, Option.some.injEq] at hu; subst hu
          simp [Addr.add, cbit]
        | i + 1, hu => simp at hu
      case c2 => intro u hu; rw [List.mem_singleton] at hu; subst hu; rfl
      case b1 => unfold maxLen; omega
      case b2 => omega
      case base => have := hbel.size; rw [World.size_alloc]; omega
      case next =>
        intro v' w' hown' hgrow hnil
        have hlt2 := (hown.alloc (.cells #[Value.int IntKind.i64 (bits BinOp.and IntKind.i64 (n / 2 ^ j) 1)] 3)).lt
        have hb2 : Below w.heap.size w w' := (hbel.alloc hbel.size _).grown hgrow (by have := hbel.size; rw [World.size_alloc]; omega) (fun k h => (hlt2 k h).1)
        go_wp2
        go_roundg (m - (j + 1))
        case measure => omega
        case rel =>
          refine ⟨j + 1, rfl, by omega, by simp, ?_, hb2⟩
          rw [List.range_succ, List.map_append, List.map_append, List.map_map]
          exact hown'
    · obtain rfl : j = m := by omega
      go_wp2
      go_ret
      exact ⟨_, rfl, by simpa using hown, hbel⟩
end Go.Proofs.Ytepfhidiahleiaa.M
