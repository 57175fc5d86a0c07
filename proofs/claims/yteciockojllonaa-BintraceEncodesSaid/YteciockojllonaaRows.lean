/-
  No cell of these rows narrows 'for every input' (looked for: loops, veiled, ifaces, maps, wideKeys, modest, calm, conditions, laid).
  DERIVED. THE GIVEN ROWS OF THIS SEAT. 3 by the template 'for every input the law returns true; each argument reads behind the call as it read before'; 0 by the template 'total and deterministic' (their statements: YteciockojllonaaTotals.lean).
  GIVEN WITH THE SEED: the statements are not yours to turn. If you find one false, say at which input.
  Laid BY PROGRAM, IN A SANDBOX (cutbox-rows.mjs): the forced cells as the released guide's own fill.sh prints them over the translation 3fb8a2695fe0691b… (all of the seat's roots in one cut). By AI agents, Wed Nov 11 2026. No macro, syntax, notation, axiom, sorry.
-/
import Derived.Test.YteciockojllonaaChecked
import GoSem.Claim
import GoSem.ClaimJoined
import GoSem.ClaimMapViews
import Derived.JoinedTies
import Derived.KernelRfl
namespace Go.Proofs.Yteciockojllonaa
/- THE CELL 'sum', in the pinned program and in every row, IS THE sha256 OF THE DUMP (.gsa) THAT YteciockojllonaaProg.lean LOADS. Nothing in Lean hashes anything: it is a label: what it is worth is what the hold of that sum in a sandbox is worth. -/
noncomputable def Try.pinned : Pinned := { name := "yteciockojllonaa", sum := "3fb8a2695fe0691bcc9bf4f5765f8fdf3952ae0b7daa1d2cf6092510ecb41471", checked := Try.checked }
namespace Rows
def none {H : Type} : Left H := { results := [], args := [] }

/-- 'fathomlaw05.BintraceSizes': WHATEVER THE INPUT: true; the input reads as it did. -/
def bintraceSizesSpec : ChangeSpec := { name := "bintraceSizes", fn := fun _ => fun
  | [d] => { results := [.lit (.bool true)], args := [d] }
  | _ => none }
def bintraceSizesRow : OpenClaim := { program := "yteciockojllonaa", sum := "3fb8a2695fe0691bcc9bf4f5765f8fdf3952ae0b7daa1d2cf6092510ecb41471", func := "fathom/fathomlaw05.BintraceSizes", spec := "bintraceSizes", unfollowed := true, recurses := true, apart := false }
def BintraceSizesSaid : Prop := bintraceSizesRow.holds Try.pinned (OpenSpec.ofChange bintraceSizesSpec)

/-- ITS FALSE NEIGHBOUR: 'it returns false'. Refute it at one input. -/
def bintraceSizesWrong : ChangeSpec := { name := "bintraceSizes", fn := fun _ => fun
  | [d] => { results := [.lit (.bool false)], args := [d] }
  | _ => none }
def BintraceSizesWrongFalsely : Prop := bintraceSizesRow.holds Try.pinned (OpenSpec.ofChange bintraceSizesWrong)

/-- 'fathomlaw05.BintraceDecodes': WHATEVER THE INPUT: true; the input reads as it did. -/
def bintraceDecodesSpec : ChangeSpec := { name := "bintraceDecodes", fn := fun _ => fun
  | [d] => { results := [.lit (.bool true)], args := [d] }
  | _ => none }
def bintraceDecodesRow : OpenClaim := { program := "yteciockojllonaa", sum := "3fb8a2695fe0691bcc9bf4f5765f8fdf3952ae0b7daa1d2cf6092510ecb41471", func := "fathom/fathomlaw05.BintraceDecodes", spec := "bintraceDecodes", unfollowed := true, recurses := true, apart := false }
def BintraceDecodesSaid : Prop := bintraceDecodesRow.holds Try.pinned (OpenSpec.ofChange bintraceDecodesSpec)

/-- ITS FALSE NEIGHBOUR: 'it returns false'. Refute it at one input. -/
def bintraceDecodesWrong : ChangeSpec := { name := "bintraceDecodes", fn := fun _ => fun
  | [d] => { results := [.lit (.bool false)], args := [d] }
  | _ => none }
def BintraceDecodesWrongFalsely : Prop := bintraceDecodesRow.holds Try.pinned (OpenSpec.ofChange bintraceDecodesWrong)

/-- 'fathomlaw05.BintraceEncodes': WHATEVER THE INPUT: true; the input reads as it did. -/
def bintraceEncodesSpec : ChangeSpec := { name := "bintraceEncodes", fn := fun _ => fun
  | [d] => { results := [.lit (.bool true)], args := [d] }
  | _ => none }
def bintraceEncodesRow : OpenClaim := { program := "yteciockojllonaa", sum := "3fb8a2695fe0691bcc9bf4f5765f8fdf3952ae0b7daa1d2cf6092510ecb41471", func := "fathom/fathomlaw05.BintraceEncodes", spec := "bintraceEncodes", inPlace := ["internal/bytealg.IndexByteString"], unfollowed := true, recurses := true, apart := false }
def BintraceEncodesSaid : Prop := bintraceEncodesRow.holds Try.pinned (OpenSpec.ofChange bintraceEncodesSpec)

/-- ITS FALSE NEIGHBOUR: 'it returns false'. Refute it at one input. -/
def bintraceEncodesWrong : ChangeSpec := { name := "bintraceEncodes", fn := fun _ => fun
  | [d] => { results := [.lit (.bool false)], args := [d] }
  | _ => none }
def BintraceEncodesWrongFalsely : Prop := bintraceEncodesRow.holds Try.pinned (OpenSpec.ofChange bintraceEncodesWrong)

/- THE SECOND FORM. 'bulk': how many values and letters a reading holds, each counted each time it is reached (what is shared counts as often as it is met; a slice's spare places count too). A statement '..UptoSaid' is the law's where the arguments, and the package variables that the reading takes, are together of bulk at most 1048576: NARROWER than '..Said'. Prove '..Said' where nothing that the law and all that it calls make is longer than what came in: it says more and counts as full. Else prove '..UptoSaid'. A law counts once. -/
mutual
def uptoBulk {H : Type} : DataW H → Nat
  | .lit (.string bytes) => bytes.length + 1
  | .lit _ => 1
  | .nil => 1
  | .ptr d => uptoBulk d + 1
  | .slice elems spare => uptoBulkAll elems + uptoBulkAll spare + 1
  | .agg parts => uptoBulkAll parts + 1
  | .iface _ d => uptoBulk d + 1
  | .map entries => uptoBulkEntries entries + 1
  | .held _ => 1
def uptoBulkAll {H : Type} : List (DataW H) → Nat
  | [] => 0
  | d :: r => uptoBulk d + uptoBulkAll r
def uptoBulkEntries {H : Type} : List (Lit × DataW H) → Nat
  | [] => 0
  | x :: r => uptoBulkEntry x + uptoBulkEntries r
def uptoBulkEntry {H : Type} : Lit × DataW H → Nat
  | (.string bytes, d) => bytes.length + uptoBulk d + 1
  | (_, d) => uptoBulk d + 1
 end
def uptoSmall : (H : Type) → List (DataW H) → Bool := fun _ ds => decide (uptoBulkAll ds ≤ 1048576)
def OpenSpec.upto (s : _root_.Go.ChangeSpec) : _root_.Go.OpenSpec := { _root_.Go.OpenSpec.ofChange s with cond := some uptoSmall }

/-- 'fathomlaw05.BintraceSizes', WHERE WHAT IT READS IS OF BULK AT MOST 1048576: true; the input reads as it did. -/
def bintraceSizesUptoRow : OpenClaim := { program := "yteciockojllonaa", sum := "3fb8a2695fe0691bcc9bf4f5765f8fdf3952ae0b7daa1d2cf6092510ecb41471", func := "fathom/fathomlaw05.BintraceSizes", spec := "bintraceSizes", unfollowed := true, recurses := true, apart := false, narrowed := true }
def BintraceSizesUptoSaid : Prop := bintraceSizesUptoRow.holds Try.pinned (OpenSpec.upto bintraceSizesSpec)

/-- 'fathomlaw05.BintraceDecodes', WHERE WHAT IT READS IS OF BULK AT MOST 1048576: true; the input reads as it did. -/
def bintraceDecodesUptoRow : OpenClaim := { program := "yteciockojllonaa", sum := "3fb8a2695fe0691bcc9bf4f5765f8fdf3952ae0b7daa1d2cf6092510ecb41471", func := "fathom/fathomlaw05.BintraceDecodes", spec := "bintraceDecodes", unfollowed := true, recurses := true, apart := false, narrowed := true }
def BintraceDecodesUptoSaid : Prop := bintraceDecodesUptoRow.holds Try.pinned (OpenSpec.upto bintraceDecodesSpec)

/-- 'fathomlaw05.BintraceEncodes', WHERE WHAT IT READS IS OF BULK AT MOST 1048576: true; the input reads as it did. -/
def bintraceEncodesUptoRow : OpenClaim := { program := "yteciockojllonaa", sum := "3fb8a2695fe0691bcc9bf4f5765f8fdf3952ae0b7daa1d2cf6092510ecb41471", func := "fathom/fathomlaw05.BintraceEncodes", spec := "bintraceEncodes", inPlace := ["internal/bytealg.IndexByteString"], unfollowed := true, recurses := true, apart := false, narrowed := true }
def BintraceEncodesUptoSaid : Prop := bintraceEncodesUptoRow.holds Try.pinned (OpenSpec.upto bintraceEncodesSpec)

end Rows
end Go.Proofs.Yteciockojllonaa
