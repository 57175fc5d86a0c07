/-
  No cell of these rows narrows 'for every input' (looked for: loops, veiled, ifaces, maps, wideKeys, modest, calm, conditions, laid).
  DERIVED. THE GIVEN ROWS OF THIS SEAT. 15 by the template 'for every input the law returns true; each argument reads behind the call as it read before'; 0 by the template 'total and deterministic' (their statements: YtgljnnokifggkaaTotals.lean).
  GIVEN WITH THE SEED: the statements are not yours to turn. If you find one false, say at which input.
  Laid BY PROGRAM, IN A SANDBOX (cutbox-rows.mjs): the forced cells as the released guide's own fill.sh prints them over the translation be56510fabc44cd0… (all of the seat's roots in one cut). By AI agents, Wed Nov 11 2026. No macro, syntax, notation, axiom, sorry.
-/
import Derived.Test.YtgljnnokifggkaaChecked
import GoSem.Claim
import GoSem.ClaimJoined
import GoSem.ClaimMapViews
import Derived.JoinedTies
import Derived.KernelRfl
namespace Go.Proofs.Ytgljnnokifggkaa
/- THE CELL 'sum', in the pinned program and in every row, IS THE sha256 OF THE DUMP (.gsa) THAT YtgljnnokifggkaaProg.lean LOADS. Nothing in Lean hashes anything: it is a label: what it is worth is what the hold of that sum in a sandbox is worth. -/
noncomputable def Try.pinned : Pinned := { name := "ytgljnnokifggkaa", sum := "be56510fabc44cd0adf8480ad5b0b3ef28d638ae8edcdad2c8413ddd4f981169", checked := Try.checked }
namespace Rows
def none {H : Type} : Left H := { results := [], args := [] }

/-- 'fathomlaw15.AigShares': WHATEVER THE INPUT: true; the input reads as it did. -/
def aigSharesSpec : ChangeSpec := { name := "aigShares", fn := fun _ => fun
  | [d] => { results := [.lit (.bool true)], args := [d] }
  | _ => none }
def aigSharesRow : OpenClaim := { program := "ytgljnnokifggkaa", sum := "be56510fabc44cd0adf8480ad5b0b3ef28d638ae8edcdad2c8413ddd4f981169", func := "fathom/fathomlaw15.AigShares", spec := "aigShares", recurses := true, plainKeys := false, apart := false }
def AigSharesSaid : Prop := aigSharesRow.holds Try.pinned (OpenSpec.ofChange aigSharesSpec)

/-- ITS FALSE NEIGHBOUR: 'it returns false'. Refute it at one input. -/
def aigSharesWrong : ChangeSpec := { name := "aigShares", fn := fun _ => fun
  | [d] => { results := [.lit (.bool false)], args := [d] }
  | _ => none }
def AigSharesWrongFalsely : Prop := aigSharesRow.holds Try.pinned (OpenSpec.ofChange aigSharesWrong)

/-- 'fathomlaw15.AigMakes': WHATEVER THE INPUT: true; the input reads as it did. -/
def aigMakesSpec : ChangeSpec := { name := "aigMakes", fn := fun _ => fun
  | [d] => { results := [.lit (.bool true)], args := [d] }
  | _ => none }
def aigMakesRow : OpenClaim := { program := "ytgljnnokifggkaa", sum := "be56510fabc44cd0adf8480ad5b0b3ef28d638ae8edcdad2c8413ddd4f981169", func := "fathom/fathomlaw15.AigMakes", spec := "aigMakes", recurses := true, plainKeys := false, apart := false }
def AigMakesSaid : Prop := aigMakesRow.holds Try.pinned (OpenSpec.ofChange aigMakesSpec)

/-- ITS FALSE NEIGHBOUR: 'it returns false'. Refute it at one input. -/
def aigMakesWrong : ChangeSpec := { name := "aigMakes", fn := fun _ => fun
  | [d] => { results := [.lit (.bool false)], args := [d] }
  | _ => none }
def AigMakesWrongFalsely : Prop := aigMakesRow.holds Try.pinned (OpenSpec.ofChange aigMakesWrong)

/-- 'fathomlaw15.AigNobody': WHATEVER THE INPUT: true; the input reads as it did. -/
def aigNobodySpec : ChangeSpec := { name := "aigNobody", fn := fun _ => fun
  | [d] => { results := [.lit (.bool true)], args := [d] }
  | _ => none }
def aigNobodyRow : OpenClaim := { program := "ytgljnnokifggkaa", sum := "be56510fabc44cd0adf8480ad5b0b3ef28d638ae8edcdad2c8413ddd4f981169", func := "fathom/fathomlaw15.AigNobody", spec := "aigNobody", recurses := true, plainKeys := false, apart := false }
def AigNobodySaid : Prop := aigNobodyRow.holds Try.pinned (OpenSpec.ofChange aigNobodySpec)

/-- ITS FALSE NEIGHBOUR: 'it returns false'. Refute it at one input. -/
def aigNobodyWrong : ChangeSpec := { name := "aigNobody", fn := fun _ => fun
  | [d] => { results := [.lit (.bool false)], args := [d] }
  | _ => none }
def AigNobodyWrongFalsely : Prop := aigNobodyRow.holds Try.pinned (OpenSpec.ofChange aigNobodyWrong)

/-- 'fathomlaw15.AigLoads': WHATEVER THE INPUT: true; the input reads as it did. -/
def aigLoadsSpec : ChangeSpec := { name := "aigLoads", fn := fun _ => fun
  | [d1, d2, d3] => { results := [.lit (.bool true)], args := [d1, d2, d3] }
  | _ => none }
def aigLoadsRow : OpenClaim := { program := "ytgljnnokifggkaa", sum := "be56510fabc44cd0adf8480ad5b0b3ef28d638ae8edcdad2c8413ddd4f981169", func := "fathom/fathomlaw15.AigLoads", spec := "aigLoads", recurses := true, plainKeys := false, apart := false }
def AigLoadsSaid : Prop := aigLoadsRow.holds Try.pinned (OpenSpec.ofChange aigLoadsSpec)

/-- ITS FALSE NEIGHBOUR: 'it returns false'. Refute it at one input. -/
def aigLoadsWrong : ChangeSpec := { name := "aigLoads", fn := fun _ => fun
  | [d1, d2, d3] => { results := [.lit (.bool false)], args := [d1, d2, d3] }
  | _ => none }
def AigLoadsWrongFalsely : Prop := aigLoadsRow.holds Try.pinned (OpenSpec.ofChange aigLoadsWrong)

/-- 'fathomlaw15.AigMeans': WHATEVER THE INPUT: true; the input reads as it did. -/
def aigMeansSpec : ChangeSpec := { name := "aigMeans", fn := fun _ => fun
  | [d1, d2, d3] => { results := [.lit (.bool true)], args := [d1, d2, d3] }
  | _ => none }
def aigMeansRow : OpenClaim := { program := "ytgljnnokifggkaa", sum := "be56510fabc44cd0adf8480ad5b0b3ef28d638ae8edcdad2c8413ddd4f981169", func := "fathom/fathomlaw15.AigMeans", spec := "aigMeans", recurses := true, plainKeys := false, apart := false }
def AigMeansSaid : Prop := aigMeansRow.holds Try.pinned (OpenSpec.ofChange aigMeansSpec)

/-- ITS FALSE NEIGHBOUR: 'it returns false'. Refute it at one input. -/
def aigMeansWrong : ChangeSpec := { name := "aigMeans", fn := fun _ => fun
  | [d1, d2, d3] => { results := [.lit (.bool false)], args := [d1, d2, d3] }
  | _ => none }
def AigMeansWrongFalsely : Prop := aigMeansRow.holds Try.pinned (OpenSpec.ofChange aigMeansWrong)

/-- 'fathomlaw16.VecConsts': WHATEVER THE INPUT: true; the input reads as it did. -/
def vecConstsSpec : ChangeSpec := { name := "vecConsts", fn := fun _ => fun
  | [d1, d2] => { results := [.lit (.bool true)], args := [d1, d2] }
  | _ => none }
def vecConstsRow : OpenClaim := { program := "ytgljnnokifggkaa", sum := "be56510fabc44cd0adf8480ad5b0b3ef28d638ae8edcdad2c8413ddd4f981169", func := "fathom/fathomlaw16.VecConsts", spec := "vecConsts", unfollowed := true, recurses := true, plainKeys := false, apart := false }
def VecConstsSaid : Prop := vecConstsRow.holds Try.pinned (OpenSpec.ofChange vecConstsSpec)

/-- ITS FALSE NEIGHBOUR: 'it returns false'. Refute it at one input. -/
def vecConstsWrong : ChangeSpec := { name := "vecConsts", fn := fun _ => fun
  | [d1, d2] => { results := [.lit (.bool false)], args := [d1, d2] }
  | _ => none }
def VecConstsWrongFalsely : Prop := vecConstsRow.holds Try.pinned (OpenSpec.ofChange vecConstsWrong)

/-- 'fathomlaw16.VecSums': WHATEVER THE INPUT: true; the input reads as it did. -/
def vecSumsSpec : ChangeSpec := { name := "vecSums", fn := fun _ => fun
  | [d1, d2] => { results := [.lit (.bool true)], args := [d1, d2] }
  | _ => none }
def vecSumsRow : OpenClaim := { program := "ytgljnnokifggkaa", sum := "be56510fabc44cd0adf8480ad5b0b3ef28d638ae8edcdad2c8413ddd4f981169", func := "fathom/fathomlaw16.VecSums", spec := "vecSums", unfollowed := true, recurses := true, plainKeys := false, apart := false }
def VecSumsSaid : Prop := vecSumsRow.holds Try.pinned (OpenSpec.ofChange vecSumsSpec)

/-- ITS FALSE NEIGHBOUR: 'it returns false'. Refute it at one input. -/
def vecSumsWrong : ChangeSpec := { name := "vecSums", fn := fun _ => fun
  | [d1, d2] => { results := [.lit (.bool false)], args := [d1, d2] }
  | _ => none }
def VecSumsWrongFalsely : Prop := vecSumsRow.holds Try.pinned (OpenSpec.ofChange vecSumsWrong)

/-- 'fathomlaw16.VecBits': WHATEVER THE INPUT: true; the input reads as it did. -/
def vecBitsSpec : ChangeSpec := { name := "vecBits", fn := fun _ => fun
  | [d1, d2] => { results := [.lit (.bool true)], args := [d1, d2] }
  | _ => none }
def vecBitsRow : OpenClaim := { program := "ytgljnnokifggkaa", sum := "be56510fabc44cd0adf8480ad5b0b3ef28d638ae8edcdad2c8413ddd4f981169", func := "fathom/fathomlaw16.VecBits", spec := "vecBits", unfollowed := true, recurses := true, plainKeys := false, apart := false }
def VecBitsSaid : Prop := vecBitsRow.holds Try.pinned (OpenSpec.ofChange vecBitsSpec)

/-- ITS FALSE NEIGHBOUR: 'it returns false'. Refute it at one input. -/
def vecBitsWrong : ChangeSpec := { name := "vecBits", fn := fun _ => fun
  | [d1, d2] => { results := [.lit (.bool false)], args := [d1, d2] }
  | _ => none }
def VecBitsWrongFalsely : Prop := vecBitsRow.holds Try.pinned (OpenSpec.ofChange vecBitsWrong)

/-- 'fathomlaw16.VecDivides': WHATEVER THE INPUT: true; the input reads as it did. -/
def vecDividesSpec : ChangeSpec := { name := "vecDivides", fn := fun _ => fun
  | [d1, d2] => { results := [.lit (.bool true)], args := [d1, d2] }
  | _ => none }
def vecDividesRow : OpenClaim := { program := "ytgljnnokifggkaa", sum := "be56510fabc44cd0adf8480ad5b0b3ef28d638ae8edcdad2c8413ddd4f981169", func := "fathom/fathomlaw16.VecDivides", spec := "vecDivides", unfollowed := true, recurses := true, plainKeys := false, apart := false }
def VecDividesSaid : Prop := vecDividesRow.holds Try.pinned (OpenSpec.ofChange vecDividesSpec)

/-- ITS FALSE NEIGHBOUR: 'it returns false'. Refute it at one input. -/
def vecDividesWrong : ChangeSpec := { name := "vecDivides", fn := fun _ => fun
  | [d1, d2] => { results := [.lit (.bool false)], args := [d1, d2] }
  | _ => none }
def VecDividesWrongFalsely : Prop := vecDividesRow.holds Try.pinned (OpenSpec.ofChange vecDividesWrong)

/-- 'fathomlaw16.VecAsks': WHATEVER THE INPUT: true; the input reads as it did. -/
def vecAsksSpec : ChangeSpec := { name := "vecAsks", fn := fun _ => fun
  | [d1, d2, d3] => { results := [.lit (.bool true)], args := [d1, d2, d3] }
  | _ => none }
def vecAsksRow : OpenClaim := { program := "ytgljnnokifggkaa", sum := "be56510fabc44cd0adf8480ad5b0b3ef28d638ae8edcdad2c8413ddd4f981169", func := "fathom/fathomlaw16.VecAsks", spec := "vecAsks", unfollowed := true, recurses := true, plainKeys := false, apart := false }
def VecAsksSaid : Prop := vecAsksRow.holds Try.pinned (OpenSpec.ofChange vecAsksSpec)

/-- ITS FALSE NEIGHBOUR: 'it returns false'. Refute it at one input. -/
def vecAsksWrong : ChangeSpec := { name := "vecAsks", fn := fun _ => fun
  | [d1, d2, d3] => { results := [.lit (.bool false)], args := [d1, d2, d3] }
  | _ => none }
def VecAsksWrongFalsely : Prop := vecAsksRow.holds Try.pinned (OpenSpec.ofChange vecAsksWrong)

/-- 'fathomlaw16.VecChecks': WHATEVER THE INPUT: true; the input reads as it did. -/
def vecChecksSpec : ChangeSpec := { name := "vecChecks", fn := fun _ => fun
  | [d1, d2, d3] => { results := [.lit (.bool true)], args := [d1, d2, d3] }
  | _ => none }
def vecChecksRow : OpenClaim := { program := "ytgljnnokifggkaa", sum := "be56510fabc44cd0adf8480ad5b0b3ef28d638ae8edcdad2c8413ddd4f981169", func := "fathom/fathomlaw16.VecChecks", spec := "vecChecks", unfollowed := true, recurses := true, plainKeys := false, apart := false }
def VecChecksSaid : Prop := vecChecksRow.holds Try.pinned (OpenSpec.ofChange vecChecksSpec)

/-- ITS FALSE NEIGHBOUR: 'it returns false'. Refute it at one input. -/
def vecChecksWrong : ChangeSpec := { name := "vecChecks", fn := fun _ => fun
  | [d1, d2, d3] => { results := [.lit (.bool false)], args := [d1, d2, d3] }
  | _ => none }
def VecChecksWrongFalsely : Prop := vecChecksRow.holds Try.pinned (OpenSpec.ofChange vecChecksWrong)

/-- 'fathomlaw17.CardEnough': WHATEVER THE INPUT: true; the input reads as it did. -/
def cardEnoughSpec : ChangeSpec := { name := "cardEnough", fn := fun _ => fun
  | [d] => { results := [.lit (.bool true)], args := [d] }
  | _ => none }
def cardEnoughRow : OpenClaim := { program := "ytgljnnokifggkaa", sum := "be56510fabc44cd0adf8480ad5b0b3ef28d638ae8edcdad2c8413ddd4f981169", func := "fathom/fathomlaw17.CardEnough", spec := "cardEnough", unfollowed := true, recurses := true, plainKeys := false, apart := false }
def CardEnoughSaid : Prop := cardEnoughRow.holds Try.pinned (OpenSpec.ofChange cardEnoughSpec)

/-- ITS FALSE NEIGHBOUR: 'it returns false'. Refute it at one input. -/
def cardEnoughWrong : ChangeSpec := { name := "cardEnough", fn := fun _ => fun
  | [d] => { results := [.lit (.bool false)], args := [d] }
  | _ => none }
def CardEnoughWrongFalsely : Prop := cardEnoughRow.holds Try.pinned (OpenSpec.ofChange cardEnoughWrong)

/-- 'fathomlaw17.CardOne': WHATEVER THE INPUT: true; the input reads as it did. -/
def cardOneSpec : ChangeSpec := { name := "cardOne", fn := fun _ => fun
  | [d1, d2, d3] => { results := [.lit (.bool true)], args := [d1, d2, d3] }
  | _ => none }
def cardOneRow : OpenClaim := { program := "ytgljnnokifggkaa", sum := "be56510fabc44cd0adf8480ad5b0b3ef28d638ae8edcdad2c8413ddd4f981169", func := "fathom/fathomlaw17.CardOne", spec := "cardOne", unfollowed := true, recurses := true, plainKeys := false, apart := false }
def CardOneSaid : Prop := cardOneRow.holds Try.pinned (OpenSpec.ofChange cardOneSpec)

/-- ITS FALSE NEIGHBOUR: 'it returns false'. Refute it at one input. -/
def cardOneWrong : ChangeSpec := { name := "cardOne", fn := fun _ => fun
  | [d1, d2, d3] => { results := [.lit (.bool false)], args := [d1, d2, d3] }
  | _ => none }
def CardOneWrongFalsely : Prop := cardOneRow.holds Try.pinned (OpenSpec.ofChange cardOneWrong)

/-- 'fathomlaw17.CardAsks': WHATEVER THE INPUT: true; the input reads as it did. -/
def cardAsksSpec : ChangeSpec := { name := "cardAsks", fn := fun _ => fun
  | [d1, d2, d3] => { results := [.lit (.bool true)], args := [d1, d2, d3] }
  | _ => none }
def cardAsksRow : OpenClaim := { program := "ytgljnnokifggkaa", sum := "be56510fabc44cd0adf8480ad5b0b3ef28d638ae8edcdad2c8413ddd4f981169", func := "fathom/fathomlaw17.CardAsks", spec := "cardAsks", unfollowed := true, recurses := true, plainKeys := false, apart := false }
def CardAsksSaid : Prop := cardAsksRow.holds Try.pinned (OpenSpec.ofChange cardAsksSpec)

/-- ITS FALSE NEIGHBOUR: 'it returns false'. Refute it at one input. -/
def cardAsksWrong : ChangeSpec := { name := "cardAsks", fn := fun _ => fun
  | [d1, d2, d3] => { results := [.lit (.bool false)], args := [d1, d2, d3] }
  | _ => none }
def CardAsksWrongFalsely : Prop := cardAsksRow.holds Try.pinned (OpenSpec.ofChange cardAsksWrong)

/-- 'fathomlaw17.CardCounts': WHATEVER THE INPUT: true; the input reads as it did. -/
def cardCountsSpec : ChangeSpec := { name := "cardCounts", fn := fun _ => fun
  | [d1, d2, d3] => { results := [.lit (.bool true)], args := [d1, d2, d3] }
  | _ => none }
def cardCountsRow : OpenClaim := { program := "ytgljnnokifggkaa", sum := "be56510fabc44cd0adf8480ad5b0b3ef28d638ae8edcdad2c8413ddd4f981169", func := "fathom/fathomlaw17.CardCounts", spec := "cardCounts", unfollowed := true, recurses := true, plainKeys := false, apart := false }
def CardCountsSaid : Prop := cardCountsRow.holds Try.pinned (OpenSpec.ofChange cardCountsSpec)

/-- ITS FALSE NEIGHBOUR: 'it returns false'. Refute it at one input. -/
def cardCountsWrong : ChangeSpec := { name := "cardCounts", fn := fun _ => fun
  | [d1, d2, d3] => { results := [.lit (.bool false)], args := [d1, d2, d3] }
  | _ => none }
def CardCountsWrongFalsely : Prop := cardCountsRow.holds Try.pinned (OpenSpec.ofChange cardCountsWrong)

/- THE SECOND FORM. 'bulk': how many values and letters a reading holds, each counted each time it is reached (what is shared counts as often as it is met; a slice's spare places count too). A statement '..UptoSaid' is the law's where the arguments, and the package variables that the reading takes, are together of bulk at most 1048576: NARROWER than '..Said'. Prove '..Said' where nothing that the law and all that it calls make is longer than what came in: it says more and counts as full. Else prove '..UptoSaid'. A law counts once. -/
mutual
def uptoBulk {H : Type} : DataW H → Nat
  | .lit (.string bytes) => bytes.length + 1
  | .lit _ => 1
  | .nil => 1
  | .ptr d => uptoBulk d + 1
  | .slice elems spare => uptoBulkAll elems + uptoBulkAll spare + 1
  | .agg parts => uptoBulkAll parts + 1
  | .iface _ d => uptoBulk d + 1
  | .map entries => uptoBulkEntries entries + 1
  | .held _ => 1
def uptoBulkAll {H : Type} : List (DataW H) → Nat
  | [] => 0
  | d :: r => uptoBulk d + uptoBulkAll r
def uptoBulkEntries {H : Type} : List (Lit × DataW H) → Nat
  | [] => 0
  | x :: r => uptoBulkEntry x + uptoBulkEntries r
def uptoBulkEntry {H : Type} : Lit × DataW H → Nat
  | (.string bytes, d) => bytes.length + uptoBulk d + 1
  | (_, d) => uptoBulk d + 1
 end
def uptoSmall : (H : Type) → List (DataW H) → Bool := fun _ ds => decide (uptoBulkAll ds ≤ 1048576)
def OpenSpec.upto (s : _root_.Go.ChangeSpec) : _root_.Go.OpenSpec := { _root_.Go.OpenSpec.ofChange s with cond := some uptoSmall }

/-- 'fathomlaw15.AigShares', WHERE WHAT IT READS IS OF BULK AT MOST 1048576: true; the input reads as it did. -/
def aigSharesUptoRow : OpenClaim := { program := "ytgljnnokifggkaa", sum := "be56510fabc44cd0adf8480ad5b0b3ef28d638ae8edcdad2c8413ddd4f981169", func := "fathom/fathomlaw15.AigShares", spec := "aigShares", recurses := true, plainKeys := false, apart := false, narrowed := true }
def AigSharesUptoSaid : Prop := aigSharesUptoRow.holds Try.pinned (OpenSpec.upto aigSharesSpec)

/-- 'fathomlaw15.AigMakes', WHERE WHAT IT READS IS OF BULK AT MOST 1048576: true; the input reads as it did. -/
def aigMakesUptoRow : OpenClaim := { program := "ytgljnnokifggkaa", sum := "be56510fabc44cd0adf8480ad5b0b3ef28d638ae8edcdad2c8413ddd4f981169", func := "fathom/fathomlaw15.AigMakes", spec := "aigMakes", recurses := true, plainKeys := false, apart := false, narrowed := true }
def AigMakesUptoSaid : Prop := aigMakesUptoRow.holds Try.pinned (OpenSpec.upto aigMakesSpec)

/-- 'fathomlaw15.AigNobody', WHERE WHAT IT READS IS OF BULK AT MOST 1048576: true; the input reads as it did. -/
def aigNobodyUptoRow : OpenClaim := { program := "ytgljnnokifggkaa", sum := "be56510fabc44cd0adf8480ad5b0b3ef28d638ae8edcdad2c8413ddd4f981169", func := "fathom/fathomlaw15.AigNobody", spec := "aigNobody", recurses := true, plainKeys := false, apart := false, narrowed := true }
def AigNobodyUptoSaid : Prop := aigNobodyUptoRow.holds Try.pinned (OpenSpec.upto aigNobodySpec)

/-- 'fathomlaw15.AigLoads', WHERE WHAT IT READS IS OF BULK AT MOST 1048576: true; the input reads as it did. -/
def aigLoadsUptoRow : OpenClaim := { program := "ytgljnnokifggkaa", sum := "be56510fabc44cd0adf8480ad5b0b3ef28d638ae8edcdad2c8413ddd4f981169", func := "fathom/fathomlaw15.AigLoads", spec := "aigLoads", recurses := true, plainKeys := false, apart := false, narrowed := true }
def AigLoadsUptoSaid : Prop := aigLoadsUptoRow.holds Try.pinned (OpenSpec.upto aigLoadsSpec)

/-- 'fathomlaw15.AigMeans', WHERE WHAT IT READS IS OF BULK AT MOST 1048576: true; the input reads as it did. -/
def aigMeansUptoRow : OpenClaim := { program := "ytgljnnokifggkaa", sum := "be56510fabc44cd0adf8480ad5b0b3ef28d638ae8edcdad2c8413ddd4f981169", func := "fathom/fathomlaw15.AigMeans", spec := "aigMeans", recurses := true, plainKeys := false, apart := false, narrowed := true }
def AigMeansUptoSaid : Prop := aigMeansUptoRow.holds Try.pinned (OpenSpec.upto aigMeansSpec)

/-- 'fathomlaw16.VecConsts', WHERE WHAT IT READS IS OF BULK AT MOST 1048576: true; the input reads as it did. -/
def vecConstsUptoRow : OpenClaim := { program := "ytgljnnokifggkaa", sum := "be56510fabc44cd0adf8480ad5b0b3ef28d638ae8edcdad2c8413ddd4f981169", func := "fathom/fathomlaw16.VecConsts", spec := "vecConsts", unfollowed := true, recurses := true, plainKeys := false, apart := false, narrowed := true }
def VecConstsUptoSaid : Prop := vecConstsUptoRow.holds Try.pinned (OpenSpec.upto vecConstsSpec)

/-- 'fathomlaw16.VecSums', WHERE WHAT IT READS IS OF BULK AT MOST 1048576: true; the input reads as it did. -/
def vecSumsUptoRow : OpenClaim := { program := "ytgljnnokifggkaa", sum := "be56510fabc44cd0adf8480ad5b0b3ef28d638ae8edcdad2c8413ddd4f981169", func := "fathom/fathomlaw16.VecSums", spec := "vecSums", unfollowed := true, recurses := true, plainKeys := false, apart := false, narrowed := true }
def VecSumsUptoSaid : Prop := vecSumsUptoRow.holds Try.pinned (OpenSpec.upto vecSumsSpec)

/-- 'fathomlaw16.VecBits', WHERE WHAT IT READS IS OF BULK AT MOST 1048576: true; the input reads as it did. -/
def vecBitsUptoRow : OpenClaim := { program := "ytgljnnokifggkaa", sum := "be56510fabc44cd0adf8480ad5b0b3ef28d638ae8edcdad2c8413ddd4f981169", func := "fathom/fathomlaw16.VecBits", spec := "vecBits", unfollowed := true, recurses := true, plainKeys := false, apart := false, narrowed := true }
def VecBitsUptoSaid : Prop := vecBitsUptoRow.holds Try.pinned (OpenSpec.upto vecBitsSpec)

/-- 'fathomlaw16.VecDivides', WHERE WHAT IT READS IS OF BULK AT MOST 1048576: true; the input reads as it did. -/
def vecDividesUptoRow : OpenClaim := { program := "ytgljnnokifggkaa", sum := "be56510fabc44cd0adf8480ad5b0b3ef28d638ae8edcdad2c8413ddd4f981169", func := "fathom/fathomlaw16.VecDivides", spec := "vecDivides", unfollowed := true, recurses := true, plainKeys := false, apart := false, narrowed := true }
def VecDividesUptoSaid : Prop := vecDividesUptoRow.holds Try.pinned (OpenSpec.upto vecDividesSpec)

/-- 'fathomlaw16.VecAsks', WHERE WHAT IT READS IS OF BULK AT MOST 1048576: true; the input reads as it did. -/
def vecAsksUptoRow : OpenClaim := { program := "ytgljnnokifggkaa", sum := "be56510fabc44cd0adf8480ad5b0b3ef28d638ae8edcdad2c8413ddd4f981169", func := "fathom/fathomlaw16.VecAsks", spec := "vecAsks", unfollowed := true, recurses := true, plainKeys := false, apart := false, narrowed := true }
def VecAsksUptoSaid : Prop := vecAsksUptoRow.holds Try.pinned (OpenSpec.upto vecAsksSpec)

/-- 'fathomlaw16.VecChecks', WHERE WHAT IT READS IS OF BULK AT MOST 1048576: true; the input reads as it did. -/
def vecChecksUptoRow : OpenClaim := { program := "ytgljnnokifggkaa", sum := "be56510fabc44cd0adf8480ad5b0b3ef28d638ae8edcdad2c8413ddd4f981169", func := "fathom/fathomlaw16.VecChecks", spec := "vecChecks", unfollowed := true, recurses := true, plainKeys := false, apart := false, narrowed := true }
def VecChecksUptoSaid : Prop := vecChecksUptoRow.holds Try.pinned (OpenSpec.upto vecChecksSpec)

/-- 'fathomlaw17.CardEnough', WHERE WHAT IT READS IS OF BULK AT MOST 1048576: true; the input reads as it did. -/
def cardEnoughUptoRow : OpenClaim := { program := "ytgljnnokifggkaa", sum := "be56510fabc44cd0adf8480ad5b0b3ef28d638ae8edcdad2c8413ddd4f981169", func := "fathom/fathomlaw17.CardEnough", spec := "cardEnough", unfollowed := true, recurses := true, plainKeys := false, apart := false, narrowed := true }
def CardEnoughUptoSaid : Prop := cardEnoughUptoRow.holds Try.pinned (OpenSpec.upto cardEnoughSpec)

/-- 'fathomlaw17.CardOne', WHERE WHAT IT READS IS OF BULK AT MOST 1048576: true; the input reads as it did. -/
def cardOneUptoRow : OpenClaim := { program := "ytgljnnokifggkaa", sum := "be56510fabc44cd0adf8480ad5b0b3ef28d638ae8edcdad2c8413ddd4f981169", func := "fathom/fathomlaw17.CardOne", spec := "cardOne", unfollowed := true, recurses := true, plainKeys := false, apart := false, narrowed := true }
def CardOneUptoSaid : Prop := cardOneUptoRow.holds Try.pinned (OpenSpec.upto cardOneSpec)

/-- 'fathomlaw17.CardAsks', WHERE WHAT IT READS IS OF BULK AT MOST 1048576: true; the input reads as it did. -/
def cardAsksUptoRow : OpenClaim := { program := "ytgljnnokifggkaa", sum := "be56510fabc44cd0adf8480ad5b0b3ef28d638ae8edcdad2c8413ddd4f981169", func := "fathom/fathomlaw17.CardAsks", spec := "cardAsks", unfollowed := true, recurses := true, plainKeys := false, apart := false, narrowed := true }
def CardAsksUptoSaid : Prop := cardAsksUptoRow.holds Try.pinned (OpenSpec.upto cardAsksSpec)

/-- 'fathomlaw17.CardCounts', WHERE WHAT IT READS IS OF BULK AT MOST 1048576: true; the input reads as it did. -/
def cardCountsUptoRow : OpenClaim := { program := "ytgljnnokifggkaa", sum := "be56510fabc44cd0adf8480ad5b0b3ef28d638ae8edcdad2c8413ddd4f981169", func := "fathom/fathomlaw17.CardCounts", spec := "cardCounts", unfollowed := true, recurses := true, plainKeys := false, apart := false, narrowed := true }
def CardCountsUptoSaid : Prop := cardCountsUptoRow.holds Try.pinned (OpenSpec.upto cardCountsSpec)

end Rows
end Go.Proofs.Ytgljnnokifggkaa
