/-
What this seat's functions ask of the world: is a package variable of block 0 read (a whole number that stays)?
-/
import Derived.Calls
namespace Go.Proofs.Ytnkjnbfaechiaaa.Vm
def needG : Bool := false
end Go.Proofs.Ytnkjnbfaechiaaa.Vm
