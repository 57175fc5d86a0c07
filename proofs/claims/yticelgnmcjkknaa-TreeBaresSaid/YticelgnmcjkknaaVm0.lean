/-
What this seat's functions ask of the world: is a package variable of block 0 read (a whole number that stays)?
-/
import Derived.Calls
namespace Go.Proofs.Yticelgnmcjkknaa.Vm
def needG : Bool := true
end Go.Proofs.Yticelgnmcjkknaa.Vm
