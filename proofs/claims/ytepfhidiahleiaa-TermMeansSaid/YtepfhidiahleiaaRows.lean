/-
  No cell of these rows narrows 'for every input' (looked for: loops, veiled, ifaces, maps, wideKeys, modest, calm, conditions, laid).
  DERIVED. THE GIVEN ROWS OF THIS SEAT. 5 by the template 'for every input the law returns true; each argument reads behind the call as it read before'; 0 by the template 'total and deterministic' (their statements: YtepfhidiahleiaaTotals.lean).
  GIVEN WITH THE SEED: the statements are not yours to turn. If you find one false, say at which input.
  Laid BY PROGRAM, IN A SANDBOX (cutbox-rows.mjs): the forced cells as the released guide's own fill.sh prints them over the translation e9367e675175e2e1… (all of the seat's roots in one cut). By AI agents, Wed Nov 11 2026. No macro, syntax, notation, axiom, sorry.
-/
import Derived.Test.YtepfhidiahleiaaChecked
import GoSem.Claim
import GoSem.ClaimJoined
import GoSem.ClaimMapViews
import Derived.JoinedTies
import Derived.KernelRfl
namespace Go.Proofs.Ytepfhidiahleiaa
/- THE CELL 'sum', in the pinned program and in every row, IS THE sha256 OF THE DUMP (.gsa) THAT YtepfhidiahleiaaProg.lean LOADS. Nothing in Lean hashes anything: it is a label: what it is worth is what the hold of that sum in a sandbox is worth. -/
noncomputable def Try.pinned : Pinned := { name := "ytepfhidiahleiaa", sum := "e9367e675175e2e1f20042d8557f00a9d498bcc2496805e7e5d01509cb1d638b", checked := Try.checked }
namespace Rows
def none {H : Type} : Left H := { results := [], args := [] }

/-- 'fathomlaw25.TermEvals': WHATEVER THE INPUT: true; the input reads as it did. -/
def termEvalsSpec : ChangeSpec := { name := "termEvals", fn := fun _ => fun
  | [d1, d2, d3] => { results := [.lit (.bool true)], args := [d1, d2, d3] }
  | _ => none }
def termEvalsRow : OpenClaim := { program := "ytepfhidiahleiaa", sum := "e9367e675175e2e1f20042d8557f00a9d498bcc2496805e7e5d01509cb1d638b", func := "fathom/fathomlaw25.TermEvals", spec := "termEvals", unfollowed := true, recurses := true, plainKeys := false, apart := false }
def TermEvalsSaid : Prop := termEvalsRow.holds Try.pinned (OpenSpec.ofChange termEvalsSpec)

/-- ITS FALSE NEIGHBOUR: 'it returns false'. Refute it at one input. -/
def termEvalsWrong : ChangeSpec := { name := "termEvals", fn := fun _ => fun
  | [d1, d2, d3] => { results := [.lit (.bool false)], args := [d1, d2, d3] }
  | _ => none }
def TermEvalsWrongFalsely : Prop := termEvalsRow.holds Try.pinned (OpenSpec.ofChange termEvalsWrong)

/-- 'fathomlaw25.TermMakes': WHATEVER THE INPUT: true; the input reads as it did. -/
def termMakesSpec : ChangeSpec := { name := "termMakes", fn := fun _ => fun
  | [d1, d2] => { results := [.lit (.bool true)], args := [d1, d2] }
  | _ => none }
def termMakesRow : OpenClaim := { program := "ytepfhidiahleiaa", sum := "e9367e675175e2e1f20042d8557f00a9d498bcc2496805e7e5d01509cb1d638b", func := "fathom/fathomlaw25.TermMakes", spec := "termMakes", unfollowed := true, recurses := true, plainKeys := false, apart := false }
def TermMakesSaid : Prop := termMakesRow.holds Try.pinned (OpenSpec.ofChange termMakesSpec)

/-- ITS FALSE NEIGHBOUR: 'it returns false'. Refute it at one input. -/
def termMakesWrong : ChangeSpec := { name := "termMakes", fn := fun _ => fun
  | [d1, d2] => { results := [.lit (.bool false)], args := [d1, d2] }
  | _ => none }
def TermMakesWrongFalsely : Prop := termMakesRow.holds Try.pinned (OpenSpec.ofChange termMakesWrong)

/-- 'fathomlaw25.TermNobody': WHATEVER THE INPUT: true; the input reads as it did. -/
def termNobodySpec : ChangeSpec := { name := "termNobody", fn := fun _ => fun
  | [d] => { results := [.lit (.bool true)], args := [d] }
  | _ => none }
def termNobodyRow : OpenClaim := { program := "ytepfhidiahleiaa", sum := "e9367e675175e2e1f20042d8557f00a9d498bcc2496805e7e5d01509cb1d638b", func := "fathom/fathomlaw25.TermNobody", spec := "termNobody", unfollowed := true, recurses := true, plainKeys := false, apart := false }
def TermNobodySaid : Prop := termNobodyRow.holds Try.pinned (OpenSpec.ofChange termNobodySpec)

/-- ITS FALSE NEIGHBOUR: 'it returns false'. Refute it at one input. -/
def termNobodyWrong : ChangeSpec := { name := "termNobody", fn := fun _ => fun
  | [d] => { results := [.lit (.bool false)], args := [d] }
  | _ => none }
def TermNobodyWrongFalsely : Prop := termNobodyRow.holds Try.pinned (OpenSpec.ofChange termNobodyWrong)

/-- 'fathomlaw25.TermMeans': WHATEVER THE INPUT: true; the input reads as it did. -/
def termMeansSpec : ChangeSpec := { name := "termMeans", fn := fun _ => fun
  | [d1, d2, d3] => { results := [.lit (.bool true)], args := [d1, d2, d3] }
  | _ => none }
def termMeansRow : OpenClaim := { program := "ytepfhidiahleiaa", sum := "e9367e675175e2e1f20042d8557f00a9d498bcc2496805e7e5d01509cb1d638b", func := "fathom/fathomlaw25.TermMeans", spec := "termMeans", unfollowed := true, recurses := true, plainKeys := false, apart := false }
def TermMeansSaid : Prop := termMeansRow.holds Try.pinned (OpenSpec.ofChange termMeansSpec)

/-- ITS FALSE NEIGHBOUR: 'it returns false'. Refute it at one input. -/
def termMeansWrong : ChangeSpec := { name := "termMeans", fn := fun _ => fun
  | [d1, d2, d3] => { results := [.lit (.bool false)], args := [d1, d2, d3] }
  | _ => none }
def TermMeansWrongFalsely : Prop := termMeansRow.holds Try.pinned (OpenSpec.ofChange termMeansWrong)

/-- 'fathomlaw25.TermApplies': WHATEVER THE INPUT: true; the input reads as it did. -/
def termAppliesSpec : ChangeSpec := { name := "termApplies", fn := fun _ => fun
  | [d1, d2, d3] => { results := [.lit (.bool true)], args := [d1, d2, d3] }
  | _ => none }
def termAppliesRow : OpenClaim := { program := "ytepfhidiahleiaa", sum := "e9367e675175e2e1f20042d8557f00a9d498bcc2496805e7e5d01509cb1d638b", func := "fathom/fathomlaw25.TermApplies", spec := "termApplies", unfollowed := true, recurses := true, plainKeys := false, apart := false }
def TermAppliesSaid : Prop := termAppliesRow.holds Try.pinned (OpenSpec.ofChange termAppliesSpec)

/-- ITS FALSE NEIGHBOUR: 'it returns false'. Refute it at one input. -/
def termAppliesWrong : ChangeSpec := { name := "termApplies", fn := fun _ => fun
  | [d1, d2, d3] => { results := [.lit (.bool false)], args := [d1, d2, d3] }
  | _ => none }
def TermAppliesWrongFalsely : Prop := termAppliesRow.holds Try.pinned (OpenSpec.ofChange termAppliesWrong)

/- THE SECOND FORM. 'bulk': how many values and letters a reading holds, each counted each time it is reached (what is shared counts as often as it is met; a slice's spare places count too). A statement '..UptoSaid' is the law's where the arguments, and the package variables that the reading takes, are together of bulk at most 1048576: NARROWER than '..Said'. Prove '..Said' where nothing that the law and all that it calls make is longer than what came in: it says more and counts as full. Else prove '..UptoSaid'. A law counts once. -/
mutual
def uptoBulk {H : Type} : DataW H → Nat
  | .lit (.string bytes) => bytes.length + 1
  | .lit _ => 1
  | .nil => 1
  | .ptr d => uptoBulk d + 1
  | .slice elems spare => uptoBulkAll elems + uptoBulkAll spare + 1
  | .agg parts => uptoBulkAll parts + 1
  | .iface _ d => uptoBulk d + 1
  | .map entries => uptoBulkEntries entries + 1
  | .held _ => 1
def uptoBulkAll {H : Type} : List (DataW H) → Nat
  | [] => 0
  | d :: r => uptoBulk d + uptoBulkAll r
def uptoBulkEntries {H : Type} : List (Lit × DataW H) → Nat
  | [] => 0
  | x :: r => uptoBulkEntry x + uptoBulkEntries r
def uptoBulkEntry {H : Type} : Lit × DataW H → Nat
  | (.string bytes, d) => bytes.length + uptoBulk d + 1
  | (_, d) => uptoBulk d + 1
 end
def uptoSmall : (H : Type) → List (DataW H) → Bool := fun _ ds => decide (uptoBulkAll ds ≤ 1048576)
def OpenSpec.upto (s : _root_.Go.ChangeSpec) : _root_.Go.OpenSpec := { _root_.Go.OpenSpec.ofChange s with cond := some uptoSmall }

/-- 'fathomlaw25.TermEvals', WHERE WHAT IT READS IS OF BULK AT MOST 1048576: true; the input reads as it did. -/
def termEvalsUptoRow : OpenClaim := { program := "ytepfhidiahleiaa", sum := "e9367e675175e2e1f20042d8557f00a9d498bcc2496805e7e5d01509cb1d638b", func := "fathom/fathomlaw25.TermEvals", spec := "termEvals", unfollowed := true, recurses := true, plainKeys := false, apart := false, narrowed := true }
def TermEvalsUptoSaid : Prop := termEvalsUptoRow.holds Try.pinned (OpenSpec.upto termEvalsSpec)

/-- 'fathomlaw25.TermMakes', WHERE WHAT IT READS IS OF BULK AT MOST 1048576: true; the input reads as it did. -/
def termMakesUptoRow : OpenClaim := { program := "ytepfhidiahleiaa", sum := "e9367e675175e2e1f20042d8557f00a9d498bcc2496805e7e5d01509cb1d638b", func := "fathom/fathomlaw25.TermMakes", spec := "termMakes", unfollowed := true, recurses := true, plainKeys := false, apart := false, narrowed := true }
def TermMakesUptoSaid : Prop := termMakesUptoRow.holds Try.pinned (OpenSpec.upto termMakesSpec)

/-- 'fathomlaw25.TermNobody', WHERE WHAT IT READS IS OF BULK AT MOST 1048576: true; the input reads as it did. -/
def termNobodyUptoRow : OpenClaim := { program := "ytepfhidiahleiaa", sum := "e9367e675175e2e1f20042d8557f00a9d498bcc2496805e7e5d01509cb1d638b", func := "fathom/fathomlaw25.TermNobody", spec := "termNobody", unfollowed := true, recurses := true, plainKeys := false, apart := false, narrowed := true }
def TermNobodyUptoSaid : Prop := termNobodyUptoRow.holds Try.pinned (OpenSpec.upto termNobodySpec)

/-- 'fathomlaw25.TermMeans', WHERE WHAT IT READS IS OF BULK AT MOST 1048576: true; the input reads as it did. -/
def termMeansUptoRow : OpenClaim := { program := "ytepfhidiahleiaa", sum := "e9367e675175e2e1f20042d8557f00a9d498bcc2496805e7e5d01509cb1d638b", func := "fathom/fathomlaw25.TermMeans", spec := "termMeans", unfollowed := true, recurses := true, plainKeys := false, apart := false, narrowed := true }
def TermMeansUptoSaid : Prop := termMeansUptoRow.holds Try.pinned (OpenSpec.upto termMeansSpec)

/-- 'fathomlaw25.TermApplies', WHERE WHAT IT READS IS OF BULK AT MOST 1048576: true; the input reads as it did. -/
def termAppliesUptoRow : OpenClaim := { program := "ytepfhidiahleiaa", sum := "e9367e675175e2e1f20042d8557f00a9d498bcc2496805e7e5d01509cb1d638b", func := "fathom/fathomlaw25.TermApplies", spec := "termApplies", unfollowed := true, recurses := true, plainKeys := false, apart := false, narrowed := true }
def TermAppliesUptoSaid : Prop := termAppliesUptoRow.holds Try.pinned (OpenSpec.upto termAppliesSpec)

end Rows
end Go.Proofs.Ytepfhidiahleiaa
