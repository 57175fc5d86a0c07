/-
A machine of values: types and values of data, objects, and an evaluator of the model's own code in continuation form. Nothing is proved here.
-/
import Derived.Test.YticelgnmcjkknaaVm0
import Derived.Calls
import Derived.Orders
import Derived.Below
set_option linter.unusedVariables false
namespace Go.Proofs.Yticelgnmcjkknaa.Vm

/-! ### data -/
inductive PExpr where
  | mk (kind : Int) (op : ByteArray) (num : Int) (name : ByteArray) (kids : List PExpr) (pos : Int)
inductive PStmt where
  | mk (kind : Int) (name loc : ByteArray) (exprs : List PExpr) (body els : List PStmt) (pos : Int)

/-- The types of data. 'rc' 0: expressions; else: statements. -/
inductive Ty where
  | int (k : IntKind) | bool | str | slice (t : Ty) | pair (a b : Ty) | unit | arr (n : Nat) (t : Ty) | rc (i : Nat)
  deriving DecidableEq

def Sx : Nat → Type
  | 0 => PExpr
  | _ + 1 => PStmt
def Ty.D : Ty → Type
  | .int _ => Int
  | .bool => Bool
  | .str => ByteArray
  | .slice t => List t.D
  | .pair a b => a.D × b.D
  | .unit => Unit
  | .arr _ t => List t.D
  | .rc i => Sx i

def i64 : Ty := .int .i64
def exprTy : Ty := .pair i64 (.pair .str (.pair i64 (.pair .str (.pair (.slice (.rc 0)) (.pair i64 .unit)))))
def stmtTy : Ty := .pair i64 (.pair .str (.pair .str (.pair (.slice (.rc 0)) (.pair (.slice (.rc 1)) (.pair (.slice (.rc 1)) (.pair i64 .unit))))))
def rcTy : Nat → Ty
  | 0 => exprTy
  | _ + 1 => stmtTy
def un : (i : Nat) → Sx i → (rcTy i).D
  | 0, .mk a b c d e f => (a, b, c, d, e, f, ())
  | _ + 1, .mk a b c d e f g => (a, b, c, d, e, f, g, ())
def ro : (i : Nat) → (rcTy i).D → Sx i
  | 0, (a, b, c, d, e, f, ()) => .mk a b c d e f
  | _ + 1, (a, b, c, d, e, f, g, ()) => .mk a b c d e f g

/-- How many cells. -/
def wdG (r : Nat → Nat) : Ty → Nat
  | .pair a b => wdG r a + wdG r b
  | .unit => 0
  | .arr n t => n * wdG r t
  | .rc i => r i
  | _ => 1
def wd (t : Ty) : Nat := wdG (fun | 0 => 6 | _ + 1 => 7) t

def aggT : Ty → Bool
  | .pair _ _ | .unit | .arr _ _ | .rc _ => true
  | _ => false

/-- The j-th field's place and type. -/
def fldP : Ty → Nat → Option (Nat × Ty)
  | .pair a _, 0 => some (0, a)
  | .pair a b, j + 1 => (fldP b j).map fun (o, t) => (wd a + o, t)
  | _, _ => none
def fld (t : Ty) (j : Nat) : Option (Nat × Ty) := match t with
  | .rc i => fldP (rcTy i) j
  | t => fldP t j

/-- The j-th field's value. -/
def compP {R : Type} : (t : Ty) → t.D → Nat → ((u : Ty) → u.D → Option R) → Option R
  | .pair a _, (x, _), 0, K => K a x
  | .pair _ b, (_, y), j + 1, K => compP b y j K
  | _, _, _, _ => none
def comp {R : Type} : (t : Ty) → t.D → Nat → ((u : Ty) → u.D → Option R) → Option R
  | .rc i, x, j, K => compP (rcTy i) (un i x) j K
  | .pair a b, x, j, K => compP (.pair a b) x j K
  | _, _, _, _ => none

def zeroG (r : (i : Nat) → Sx i) : (t : Ty) → t.D
  | .int _ => (0 : Int)
  | .bool => false
  | .str => ByteArray.empty
  | .slice _ => []
  | .pair a b => (zeroG r a, zeroG r b)
  | .unit => ()
  | .arr n t => List.replicate n (zeroG r t)
  | .rc i => r i
def zeroRc : (i : Nat) → Sx i
  | 0 => .mk 0 ByteArray.empty 0 ByteArray.empty [] 0
  | _ + 1 => .mk 0 ByteArray.empty ByteArray.empty [] [] [] 0
def zeroD (t : Ty) : t.D := zeroG zeroRc t

/-- Go's '=='. -/
def beqD : (t : Ty) → t.D → t.D → Bool
  | .int _, a, b => (show Int from a) == (show Int from b)
  | .bool, a, b => (show Bool from a) == (show Bool from b)
  | .str, a, b => (show ByteArray from a) == (show ByteArray from b)
  | .pair s t, (a, b), (c, d) => cond (beqD s a c) (beqD t b d) false
  | .unit, _, _ => true
  | _, _, _ => false
def tySz : Ty → Nat
  | .pair a b => tySz a + tySz b + 1
  | _ => 1
def isChain : Ty → Bool
  | .unit | .pair _ _ => true
  | _ => false
def eqTy0 : Ty → Bool
  | .int _ | .bool | .str | .unit => true
  | .pair a b => eqTy0 a && eqTy0 b && isChain b
  | _ => false
/-- May it be held against another one (by the evaluator)? -/
def eqTy (t : Ty) : Bool := eqTy0 t && decide (tySz t ≤ 1000)

/-! ### values -/
/-- What is known of a slice's spare room: nothing; that there is none; that it is token i's, as long as its version is ver. -/
inductive Tag where
  | none | nn | full | tok (i ver : Nat)

inductive V where
  | dat (t : Ty) (x : t.D)
  | row (t : Ty) (xs : List t.D) (g : Tag)
  | nils
  | ptr (i off : Nat)
  | pel (i : Nat) (t : Ty) (j : Nat)
  | pin (i : Nat) (t : Ty) (m j k : Nat)
  | prd (t : Ty) (x : t.D)
  | nilp
  | msl (i : Nat) (t : Ty) (lo len : Nat)
  | mp (i : Nat)
  | nilm
  | fn (f : Nat) (cap : List V)
  | bfn (f : Nat) (bnd : List V)
  | nilf
  | tup (vs : List V)
  | mix (cells : List V)
  | undef

def void : V := .tup []

def dv : (t : Ty) → t.D → V
  | .slice t, xs => .row t xs .none
  | .int k, x => .dat (.int k) x
  | .bool, x => .dat .bool x
  | .str, x => .dat .str x
  | .pair a b, x => .dat (.pair a b) x
  | .unit, x => .dat .unit x
  | .arr n t, x => .dat (.arr n t) x
  | .rc i, x => .dat (.rc i) x

section
variable {R : Type}
def asInt (v : V) (K : IntKind → Int → Option R) : Option R := match v with
  | .dat (.int k) n => K k n
  | _ => none
def asBool (v : V) (K : Bool → Option R) : Option R := match v with
  | .dat .bool b => K b
  | _ => none
def asD0 (t : Ty) (v : V) (K : t.D → Option R) : Option R := match v with
  | .dat u x => if h : u = t then K (h ▸ x) else none
  | .row u xs _ => (match t, K with
    | .slice t', K => if h : u = t' then K (h ▸ xs) else none
    | _, _ => none)
  | .nils => (match t, K with
    | .slice _, K => K []
    | _, _ => none)
  | _ => none
end

/-- A value's cells. -/
def flatG (r : (i : Nat) → Sx i → List V) : (t : Ty) → t.D → List V
  | .pair a b, (x, y) => flatG r a x ++ flatG r b y
  | .unit, _ => []
  | .arr _ t, xs => (show List t.D from xs).flatMap (flatG r t)
  | .rc i, x => r i x
  | .slice t, xs => [.row t xs .none]
  | .int k, x => [.dat (.int k) x]
  | .bool, x => [.dat .bool x]
  | .str, x => [.dat .str x]
def flatD (t : Ty) (x : t.D) : List V := flatG (fun i x => flatG (fun _ _ => []) (rcTy i) (un i x)) t x
def flat : V → List V
  | .dat t x => flatD t x
  | .mix cs => cs
  | v => [v]

/-- May it be stored? -/
def storable : V → Bool
  | .tup _ => false
  | .undef => false
  | _ => true

/-- A value out of cells: it and the rest. -/
def asmG {R : Type} (r : (i : Nat) → List V → (Sx i → List V → Option R) → Option R) : (t : Ty) → List V → (t.D → List V → Option R) → Option R
  | .pair a b, cs, K => asmG r a cs fun x cs => asmG r b cs fun y cs => K (x, y) cs
  | .unit, cs, K => K () cs
  | .rc i, cs, K => r i cs K
  | .arr _ _, _, _ => none
  | .slice t, c :: cs, K => asD0 (.slice t) c fun x => K x cs
  | .int k, c :: cs, K => asD0 (.int k) c fun x => K x cs
  | .bool, c :: cs, K => asD0 .bool c fun x => K x cs
  | .str, c :: cs, K => asD0 .str c fun x => K x cs
  | _, [], _ => none
def asmD {R : Type} (t : Ty) (cs : List V) (K : t.D → Option R) : Option R :=
  asmG (fun i cs K => asmG (fun _ _ _ => none) (rcTy i) cs fun x cs => K (ro i x) cs) t cs fun x _ => K x
def asD {R : Type} (t : Ty) (v : V) (K : t.D → Option R) : Option R := match v with
  | .mix cs => if aggT t then (if cs.length = wd t then asmD t cs K else none) else none
  | v => asD0 t v K

/-! ### objects -/
/-- 'w': may it be turned? 'fx': the length, where it is an array variable. -/
inductive Ob where
  | box (w : Bool) (cells : List V)
  | arr (w : Bool) (fx : Option Nat) (t : Ty) (xs : List t.D)
  | map (w : Bool) (kt vt : Ty) (es : List (kt.D × vt.D))
  | dead
structure St where
  objs : List Ob
  toks : List Nat

/-- What the evaluator knows of a type: data (and its bytes); one cell that leads elsewhere (0 pointer, 1 map, 2 function); a struct with such cells: how many cells, and of each field its place and type. -/
inductive TI where
  | dat (t : Ty) (bytes : Nat)
  | ref (k : Nat)
  | mix (w : Nat) (fs : List (Nat × Nat))
  | map (k v : Ty)
  | none

inductive Ex where
  | normal | exit (id : Nat) | ret

abbrev Fs := ∀ {R : Type}, List V → St → (V → St → Option R) → Option R
/-- A callee: does it leave all objects as they are (it is handed them locked then); what it computes. -/
structure Fun where
  ro : Bool
  run : Fs
def Fun.none : Fun := ⟨true, fun _ _ _ => .none⟩
abbrev Cs := ∀ {R : Type}, List V → St → (Ex → List V → St → Option R) → Option R
/-- A piece of code that is known by what it computes. -/
structure Cut where
  run : Cs

/-! ### what is handed to a callee -/
mutual
def V.ids : V → List Nat
  | .ptr i _ => [i]
  | .pel i _ _ => [i]
  | .pin i _ _ _ _ => [i]
  | .msl i _ _ _ => [i]
  | .mp i => [i]
  | .fn _ cap => V.idsL cap
  | .bfn _ bnd => V.idsL bnd
  | .tup vs => V.idsL vs
  | .mix vs => V.idsL vs
  | _ => []
def V.idsL : List V → List Nat
  | [] => []
  | v :: vs => v.ids ++ V.idsL vs
end
def Ob.ids : Ob → List Nat
  | .box _ cs => V.idsL cs
  | _ => []
def reach (objs : List Ob) : Nat → List Nat → List Nat → List Nat
  | f + 1, i :: todo, seen => if seen.contains i then reach objs f todo seen else reach objs f (((objs[i]?).map Ob.ids).getD [] ++ todo) (seen ++ [i])
  | _, _, seen => seen
/-- The tokens that are in force in some objects' cells, in order. -/
def tokV (toks : List Nat) : V → List Nat
  | .row _ _ (.tok i ver) => if toks[i]? = some ver then [i] else []
  | _ => []
def tokO (toks : List Nat) : Ob → List Nat
  | .box _ cs => cs.flatMap (tokV toks)
  | _ => []
mutual
/-- Other names for objects ('ρ') and for tokens in force ('τ'). -/
def V.ren (ρ : Nat → Option Nat) (τ : Nat → Nat → Tag) : V → V
  | .ptr i o => match ρ i with | some j => .ptr j o | none => .undef
  | .pel i t o => match ρ i with | some j => .pel j t o | none => .undef
  | .pin i t m a b => match ρ i with | some j => .pin j t m a b | none => .undef
  | .msl i t a b => match ρ i with | some j => .msl j t a b | none => .undef
  | .mp i => match ρ i with | some j => .mp j | none => .undef
  | .fn f cap => .fn f (V.renL ρ τ cap)
  | .bfn f bnd => .bfn f (V.renL ρ τ bnd)
  | .tup vs => .tup (V.renL ρ τ vs)
  | .mix vs => .mix (V.renL ρ τ vs)
  | .row t xs (.tok i ver) => .row t xs (τ i ver)
  | v => v
def V.renL (ρ : Nat → Option Nat) (τ : Nat → Nat → Tag) : List V → List V
  | [] => []
  | v :: vs => v.ren ρ τ :: V.renL ρ τ vs
end
def Ob.ren (ρ : Nat → Option Nat) (τ : Nat → Nat → Tag) : Ob → Ob
  | .box w cs => .box w (V.renL ρ τ cs)
  | o => o
def Ob.lock : Ob → Ob
  | .box _ cs => .box false cs
  | .arr _ fx t xs => .arr false fx t xs
  | .map _ k v es => .map false k v es
  | .dead => .dead
/-- Has data no slice in it? -/
def scalT : Ty → Bool
  | .int _ | .bool | .str | .unit => true
  | .pair a b => scalT a && scalT b
  | _ => false
mutual
def V.scal : V → Bool
  | .dat t _ => scalT t
  | .tup vs => V.scalL vs
  | _ => false
def V.scalL : List V → Bool
  | [] => true
  | v :: vs => v.scal && V.scalL vs
end
def idx (l : List Nat) (i : Nat) : Option Nat := l.findIdx? (· == i)

end Go.Proofs.Yticelgnmcjkknaa.Vm
