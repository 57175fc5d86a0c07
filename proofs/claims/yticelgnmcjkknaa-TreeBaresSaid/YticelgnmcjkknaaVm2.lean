/-
A machine of values, second part: the evaluator of operations, regions, code and functions. Nothing is proved here.
-/
import Derived.Test.YticelgnmcjkknaaVm1
import Derived.Laws.BytesArg
import Derived.Laws.Sem
import Derived.Laws.IdiomStrings
set_option linter.unusedVariables false
namespace Go.Proofs.Yticelgnmcjkknaa.Vm

mutual
def ofConst : Value → V
  | .int k n => .dat (.int k) n
  | .bool b => .dat .bool b
  | .string s => .dat .str s
  | .slice none 0 0 => .nils
  | .pointer none => .nilp
  | .map none => .nilm
  | .nilFunc => .nilf
  | .agg ⟨cs⟩ => if cs.all Value.oneCell' then .mix (ofConstL cs) else .undef
  | _ => .undef
def ofConstL : List Value → List V
  | [] => []
  | v :: vs => ofConst v :: ofConstL vs
end
def ev (env : List V) : Operand → V
  | .tmp t => env.getD t .undef
  | .const v => ofConst v
  | .func f => .fn f []
  | .global _ => .undef

def bytesD (s : ByteArray) : List Int := s.data.toList.map fun b => (b.toNat : Int)
def u8 : Ty := .int .u8

/-! ### parts -/
section
variable {R : Type}
def setP : (t : Ty) → t.D → Nat → V → (t.D → Option R) → Option R
  | .pair a _, (_, y), 0, v, K => asD a v fun x => K (x, y)
  | .pair _ b, (x, y), j + 1, v, K => setP b y j v fun y => K (x, y)
  | _, _, _, _, _ => none
def setD : (t : Ty) → t.D → Nat → V → (t.D → Option R) → Option R
  | .rc i, x, j, v, K => setP (rcTy i) (un i x) j v fun y => K (ro i y)
  | .arr n t, xs, j, v, K => if j < n then asD t v fun y => K ((show List t.D from xs).set j y) else none
  | .pair a b, x, j, v, K => setP (.pair a b) x j v K
  | _, _, _, _, _ => none
def setAll (t : Ty) : List (Nat × V) → t.D → (t.D → Option R) → Option R
  | [], x, K => K x
  | (j, v) :: r, x, K => setD t x j v fun y => setAll t r y K
end
def zcG (r : Nat → List Value) : Ty → List Value
  | .int k => [.int k 0]
  | .bool => [.bool false]
  | .str => [.string ByteArray.empty]
  | .slice _ => [.slice none 0 0]
  | .pair a b => zcG r a ++ zcG r b
  | .unit => []
  | .arr n t => (List.replicate n (zcG r t)).flatten
  | .rc i => r i
def zcells (t : Ty) : List Value := zcG (fun i => zcG (fun _ => []) (rcTy i)) t
/-- The same, as the evaluator holds them. -/
def zfG (r : Nat → List V) : Ty → List V
  | .int k => [.dat (.int k) (0 : Int)]
  | .bool => [.dat .bool false]
  | .str => [.dat .str ByteArray.empty]
  | .slice _ => [.nils]
  | .pair a b => zfG r a ++ zfG r b
  | .unit => []
  | .arr n t => (List.replicate n (zfG r t)).flatten
  | .rc i => r i
def zflat (t : Ty) : List V := zfG (fun i => zfG (fun _ => []) (rcTy i)) t
/-- The cells of a type's zero. -/
def zeroTI (tt : Nat → TI) : Nat → TI → List V
  | _, .dat t _ => zflat t
  | _, .ref 0 => [.nilp]
  | _, .ref _ => [.nilf]
  | _, .map _ _ => [.nilm]
  | d + 1, .mix _ fs => fs.flatMap fun f => zeroTI tt d (tt f.2)
  | _, _ => [.undef]
def splice (cs : List V) (o : Nat) (vs : List V) : List V := cs.take o ++ vs ++ cs.drop (o + vs.length)
def wTI : TI → Nat
  | .dat t _ => wd t
  | .mix w _ => w
  | _ => 1
def tiOk : TI → Bool
  | .none => false
  | _ => true
def setMix (tt : Nat → TI) (fs : List (Nat × Nat)) : List (Nat × V) → List V → Option (List V)
  | [], cs => some cs
  | (j, v) :: r, cs => match fs[j]? with
    | some (o, t) => if storable v = true ∧ (flat v).length = wTI (tt t) then setMix tt fs r (splice cs o (flat v)) else none
    | none => none
/-- A struct's cells, some parts of it told. -/
def setZ (T : Ty) : List (Nat × V) → List V → Option (List V)
  | [], cs => some cs
  | (j, v) :: r, cs => match fld T j with
    | some (o, u) => if storable v = true ∧ (flat v).length = wd u then setZ T r (splice cs o (flat v)) else none
    | none => none

/-! ### maps -/
def mget {A : Type} (kt : Ty) (k : kt.D) : List (kt.D × A) → Option A
  | [] => none
  | e :: es => cond (beqD kt k e.1) (some e.2) (mget kt k es)
def mput {A : Type} (kt : Ty) (k : kt.D) (x : A) : List (kt.D × A) → List (kt.D × A)
  | [] => [(k, x)]
  | e :: es => cond (beqD kt k e.1) ((k, x) :: es) (e :: mput kt k x es)

/-! ### numbers -/
def ibits (op : BinOp) (k : IntKind) (x y : Int) : Int :=
  let a := BitVec.ofInt k.bits x
  let b := BitVec.ofInt k.bits y
  match op with
  | .and => k.wrap (a &&& b).toNat
  | .or => k.wrap (a ||| b).toNat
  | .xor => k.wrap (a ^^^ b).toNat
  | _ => k.wrap (a &&& ~~~b).toNat
section
variable {R : Type}
def intOp (op : BinOp) (k : IntKind) (a b : Int) (K : V → Option R) : Option R := match op with
  | .add => K (.dat (.int k) (k.wrap (a + b)))
  | .sub => K (.dat (.int k) (k.wrap (a - b)))
  | .mul => K (.dat (.int k) (k.wrap (a * b)))
  | .quo => cond (decide (b = 0)) none (K (.dat (.int k) (k.wrap (a.tdiv b))))
  | .rem => cond (decide (b = 0)) none (K (.dat (.int k) (a.tmod b)))
  | .and => K (.dat (.int k) (ibits .and k a b))
  | .or => K (.dat (.int k) (ibits .or k a b))
  | .xor => K (.dat (.int k) (ibits .xor k a b))
  | .andNot => K (.dat (.int k) (ibits .andNot k a b))
  | .eql => K (.dat .bool (a == b))
  | .neq => K (.dat .bool (a != b))
  | .lss => K (.dat .bool (decide (a < b)))
  | .leq => K (.dat .bool (decide (a ≤ b)))
  | .gtr => K (.dat .bool (decide (a > b)))
  | .geq => K (.dat .bool (decide (a ≥ b)))
  | _ => none
def shOp (op : BinOp) (k : IntKind) (a b : Int) (K : V → Option R) : Option R := match op with
  | .shl => cond (decide (b < 0)) none (K (.dat (.int k) (k.wrap (a * 2 ^ min b.toNat k.bits))))
  | .shr => cond (decide (b < 0)) none (K (.dat (.int k) (a.fdiv (2 ^ min b.toNat k.bits))))
  | _ => none
def strOp (op : BinOp) (a b : ByteArray) (K : V → Option R) : Option R := match op with
  | .add => cond (decide (a.size + b.size ≤ 9223372036854775807)) (K (.dat .str (a ++ b))) none
  | .eql => K (.dat .bool (a.toList == b.toList))
  | .neq => K (.dat .bool (!(a.toList == b.toList)))
  | .lss => K (.dat .bool (Op.bytesLess a.toList b.toList))
  | _ => none
def isRef (k : Nat) : TI → Bool
  | .ref j => j == k
  | _ => false
def isMap : TI → Bool
  | .map _ _ => true
  | _ => false
def isSl : TI → Bool
  | .dat (.slice _) _ => true
  | _ => false
/-- '==' where both are not ints or strings. -/
def eqV (tt : Nat → TI) (xt : Nat) (x y : V) (K : Bool → Option R) : Option R := match x, y with
  | .dat t a, y => (match tt xt with
    | .dat t' _ => if t' = t then (if eqTy t then asD t y fun b => K (beqD t a b) else none) else none
    | _ => none)
  | .nilp, .nilp => if isRef 0 (tt xt) then K true else none
  | .nilp, .ptr _ _ => if isRef 0 (tt xt) then K false else none
  | .nilp, .pel _ _ _ => if isRef 0 (tt xt) then K false else none
  | .nilp, .prd _ _ => if isRef 0 (tt xt) then K false else none
  | .ptr _ _, .nilp => if isRef 0 (tt xt) then K false else none
  | .pel _ _ _, .nilp => if isRef 0 (tt xt) then K false else none
  | .prd _ _, .nilp => if isRef 0 (tt xt) then K false else none
  | .nilm, .nilm => if isMap (tt xt) then K true else none
  | .mp _, .nilm => if isMap (tt xt) then K false else none
  | .nilm, .mp _ => if isMap (tt xt) then K false else none
  | .nilf, .nilf => if isRef 2 (tt xt) then K true else none
  | .fn _ _, .nilf => if isRef 2 (tt xt) then K false else none
  | .nils, .nils => if isSl (tt xt) then K true else none
  | .row _ _ .nn, .nils => if isSl (tt xt) then K false else none
  | .nils, .row _ _ .nn => if isSl (tt xt) then K false else none
  | .row _ xs _, .nils => if isSl (tt xt) then cond xs.isEmpty none (K false) else none
  | .nils, .row _ xs _ => if isSl (tt xt) then cond xs.isEmpty none (K false) else none
  | .nils, .msl _ _ _ n => if isSl (tt xt) then cond (decide (n = 0)) none (K false) else none
  | .msl _ _ _ n, .nils => if isSl (tt xt) then cond (decide (n = 0)) none (K false) else none
  | _, _ => none
def isShift : BinOp → Bool
  | .shl | .shr => true
  | _ => false
def binOpV (tt : Nat → TI) (xt : Nat) (op : BinOp) (x y : V) (K : V → Option R) : Option R := match x, y with
  | .dat (.int k) a, .dat (.int k') b => if isShift op then shOp op k a b K else if k = k' then intOp op k a b K else none
  | .dat .str a, .dat .str b => strOp op a b K
  | x, y => match op with
    | .eql => eqV tt xt x y fun b => K (.dat .bool b)
    | .neq => eqV tt xt x y fun b => K (.dat .bool (!b))
    | _ => none
def unOpV (op : UnOp) (x : V) (K : V → Option R) : Option R := match op, x with
  | .not, .dat .bool b => K (.dat .bool (!b))
  | .neg, .dat (.int k) n => K (.dat (.int k) (k.wrap (0 - (show Int from n))))
  | .xor, .dat (.int k) n => K (.dat (.int k) (ibits .xor k (if k.signed then -1 else k.max) n))
  | _, _ => none
def minmax (mx : Bool) (a b : Int) : Int := if mx then (if b > a then b else a) else (if b < a then b else a)
def min2V (mx : Bool) (x y : V) (K : V → Option R) : Option R := match x, y with
  | .dat (.int k) a, .dat (.int k') b => if k = k' then K (.dat (.int k) (minmax mx a b)) else none
  | _, _ => none

/-! ### operations that leave all objects as they are -/
def asRow (objs : List Ob) (v : V) (t : Ty) (K : List t.D → Option R) : Option R := match v with
  | .row u xs _ => if h : u = t then K (h ▸ xs) else none
  | .nils => K []
  | .msl i T lo n => (match objs[i]? with
    | some (.arr _ _ u xs) => if h : u = t then (if T = u then cond (decide (lo + n ≤ xs.length)) (K (h ▸ ((xs.drop lo).take n))) none else none) else none
    | _ => none)
  | .dat .str s => (match t, K with
    | .int .u8, K => K (bytesD s)
    | _, _ => none)
  | _ => none
/-- Is that a slice over an array that may be turned? -/
def isM1 : V → Bool
  | .msl _ _ _ _ => true
  | _ => false
def loadV (tt : Nat → TI) (objs : List Ob) (t : Nat) (a : V) (K : V → Option R) : Option R := match a with
  | .prd T x => (match tt t with
    | .dat T' _ => if T' = T then K (dv T x) else none
    | _ => none)
  | .ptr i off => (match objs[i]? with
    | some (.box _ cs) => (match tt t with
      | .dat T _ => if aggT T then cond (((cs.drop off).take (wd T)).any isM1) (if off + wd T ≤ cs.length then K (.mix ((cs.drop off).take (wd T))) else none) (asmD T (cs.drop off) fun x => K (dv T x)) else (match cs[off]? with | some v => K v | none => none)
      | .mix w _ => if off + w ≤ cs.length then K (.mix ((cs.drop off).take w)) else none
      | .none => none
      | _ => (match cs[off]? with | some v => K v | none => none))
    | some (.arr _ (some m) T xs) => (match tt t with
      | .dat (.arr n T') _ => if off = 0 then (if m = n then (if h : T = T' then K (.dat (.arr n T') (h ▸ xs)) else none) else none) else none
      | _ => none)
    | _ => none)
  | .pel i T j => (match objs[i]? with
    | some (.arr _ _ T' xs) => (match tt t with
      | .dat T'' _ => if T' = T then (if T'' = T' then (xs[j]?).bind fun y => K (dv T' y) else none) else none
      | _ => none)
    | _ => none)
  | .pin i T m j k => (match objs[i]? with
    | some (.arr _ _ (.arr m' T') xs) => (match tt t with
      | .dat T'' _ => if T' = T then (if m' = m then (if T'' = T' then ((show List (List T'.D) from xs)[j]?).bind fun ys => (ys[k]?).bind fun y => K (dv T' y) else none) else none) else none
      | _ => none)
    | _ => none)
  | _ => none
def fieldAddrV (tt : Nat → TI) (s : Nat) (a : V) (j : Nat) (K : V → Option R) : Option R := match a with
  | .prd T x => (match tt s with
    | .dat T' _ => if T' = T then comp T x j fun u y => if wd u = 0 then none else K (.prd u y) else none
    | _ => none)
  | .ptr i off => (match tt s with
    | .dat T _ => (match fld T j with
      | some (o, u) => if wd u = 0 then none else K (.ptr i (off + o))
      | none => none)
    | .mix _ fs => (match fs[j]? with
      | some (o, u) => if wTI (tt u) = 0 then none else K (.ptr i (off + o))
      | none => none)
    | _ => none)
  | .pel i T n => (match tt s with
    | .dat T' _ => if T' = T then (match fld T j with
      | some (o, u) => if wd u = 1 then K (.pin i u (wd T) n o) else none
      | none => none) else none
    | _ => none)
  | _ => none
def fieldV (tt : Nat → TI) (s : Nat) (x : V) (j : Nat) (K : V → Option R) : Option R := match x with
  | .dat T x => (match tt s with
    | .dat T' _ => if T' = T then comp T x j fun u y => K (dv u y) else none
    | _ => none)
  | _ => none
def indexAddrN (tt : Nat → TI) (objs : List Ob) (t : Nat) (x : V) (n : Int) (K : V → Option R) : Option R := match x with
  | .row T xs _ => (match tt t with
    | .dat (.slice T') _ => if T' = T then cond (decide (0 ≤ n)) ((xs[n.toNat]?).bind fun y => K (.prd T y)) none else none
    | _ => none)
  | .msl i T lo len => (match tt t with
    | .dat (.slice T') _ => if T' = T then cond (decide (0 ≤ n)) (cond (decide (n.toNat < len)) (K (.pel i T (lo + n.toNat))) none) none else none
    | _ => none)
  | .prd (.arr m T) xs => (match tt t with
    | .dat (.arr m' T') _ => if m' = m then (if T' = T then cond (decide (0 ≤ n)) (((show List T.D from xs)[n.toNat]?).bind fun y => K (.prd T y)) none else none) else none
    | _ => none)
  | .ptr i off => (match tt t with
    | .dat (.arr m T) _ => if off = 0 then (match objs[i]? with
      | some (.arr _ (some m') T' _) => if T' = T ∧ m' = m then cond (decide (0 ≤ n)) (cond (decide (n.toNat < m)) (K (.pel i T n.toNat)) none) none else none
      | _ => none) else none
    | _ => none)
  | .pel i (.arr m T) j => (match tt t with
    | .dat (.arr m' T') _ => if m' = m ∧ T' = T then cond (decide (0 ≤ n)) (cond (decide (n.toNat < m)) (K (.pin i T m j n.toNat)) none) none else none
    | _ => none)
  | _ => none
def indexAddrV (tt : Nat → TI) (objs : List Ob) (t : Nat) (x i : V) (K : V → Option R) : Option R := asInt i fun _ n => indexAddrN tt objs t x n K
def indexN (tt : Nat → TI) (t : Nat) (x : V) (n : Int) (K : V → Option R) : Option R := match x with
  | .dat .str s => (match tt t with
    | .dat .str _ => cond (decide (0 ≤ n)) ((s.data.toList[n.toNat]?).bind fun c => K (.dat u8 (c.toNat : Int))) none
    | _ => none)
  | .dat (.arr m T) xs => (match tt t with
    | .dat (.arr m' T') _ => if m' = m then (if T' = T then cond (decide (0 ≤ n)) (((show List T.D from xs)[n.toNat]?).bind fun y => K (dv T y)) none else none) else none
    | _ => none)
  | _ => none
def indexV (tt : Nat → TI) (t : Nat) (x i : V) (K : V → Option R) : Option R := asInt i fun _ n => indexN tt t x n K
def bound (v : Option V) (d : Nat) (hi : Nat) (K : Nat → Option R) : Option R := match v with
  | none => K d
  | some v => asInt v fun _ n => cond (decide (0 ≤ n)) (cond (decide (n.toNat ≤ hi)) (K n.toNat) none) none
def sliceV (tt : Nat → TI) (t : Nat) (x : V) (lo hi mx : Option V) (K : V → Option R) : Option R := match x with
  | .dat .str s => (match tt t, mx with
    | .dat .str _, none => bound hi s.size s.size fun h => bound lo 0 h fun l => K (.dat .str (s.extract l h))
    | _, _ => none)
  | .row T xs g => (match tt t with
    | .dat (.slice T') _ => if T' = T then (match mx, hi with
      | none, none => bound lo 0 xs.length fun l => K (.row T (xs.drop l) g)
      | none, hi => bound hi xs.length xs.length fun h => bound lo 0 h fun l => K (.row T ((xs.take h).drop l) .none)
      | some m, some h => asInt m fun _ m => asInt h fun _ h => if m = 0 then (if h = 0 then (match lo with
        | none => K (.row T [] .full)
        | _ => none) else none) else none
      | _, _ => none) else none
    | _ => none)
  | .nils => (match tt t, mx with
    | .dat (.slice T) _, none => bound hi 0 0 fun h => bound lo 0 h fun _ => K (.row T [] .none)
    | _, _ => none)
  | .msl i T a n => (match tt t, mx with
    | .dat (.slice T') _, none => if T' = T then bound hi n n fun h => bound lo 0 h fun l => K (.msl i T (a + l) (h - l)) else none
    | _, _ => none)
  | _ => none
def lookupV (tt : Nat → TI) (objs : List Ob) (t : Nat) (m k : V) (ok : Bool) (K : V → Option R) : Option R := match tt t with
  | .map kt vt => if eqTy kt then asD kt k fun k =>
      (match m with
      | .nilm => if ok then K (.tup [dv vt (zeroD vt), .dat .bool false]) else K (dv vt (zeroD vt))
      | .mp i => (match objs[i]? with
        | some (.map _ kt' vt' es) => if h : kt' = kt then (if h' : vt' = vt then
            (let r := mget kt k (show List (kt.D × vt.D) from h ▸ h' ▸ es)
             if ok then K (.tup [dv vt (r.getD (zeroD vt)), .dat .bool r.isSome]) else K (dv vt (r.getD (zeroD vt)))) else none) else none
        | _ => none)
      | _ => none) else none
  | _ => none
def lenV (objs : List Ob) (v : V) (K : V → Option R) : Option R := match v with
  | .row _ xs _ => K (.dat i64 (xs.length : Int))
  | .nils => K (.dat i64 (0 : Int))
  | .msl _ _ _ n => K (.dat i64 (n : Int))
  | .dat .str s => K (.dat i64 (s.size : Int))
  | .dat (.arr n _) _ => K (.dat i64 (n : Int))
  | .nilm => K (.dat i64 (0 : Int))
  | .mp i => (match objs[i]? with
    | some (.map _ _ _ es) => K (.dat i64 (es.length : Int))
    | _ => none)
  | _ => none
/-- Is that a type that 'len' may be asked of this? -/
def lenOk (ti : TI) (v : V) : Bool := match ti, v with
  | .dat (.slice _) _, .row _ _ _ => true
  | .dat (.slice _) _, .nils => true
  | .dat (.slice _) _, .msl _ _ _ _ => true
  | .dat .str _, .dat .str _ => true
  | .dat (.arr n _) _, .dat (.arr m _) _ => n == m
  | .map _ _, .nilm => true
  | .map _ _, .mp _ => true
  | _, _ => false
def convV (tt : Nat → TI) (s d : Nat) (x : V) (K : V → Option R) : Option R := match tt s, tt d, x with
  | .dat (.int _) _, .dat (.int k) _, .dat (.int _) n => K (.dat (.int k) (k.wrap n))
  | .dat .str _, .dat .str _, .dat .str s => K (.dat .str s)
  | .dat (.slice (.int .u8)) _, .dat .str _, .row (.int .u8) xs _ => K (.dat .str (strOfNums xs))
  | .dat (.slice (.int .u8)) _, .dat .str _, .nils => K (.dat .str (strOfNums []))
  | .dat .str _, .dat (.slice (.int .u8)) _, .dat .str s => K (.row u8 (bytesD s) .none)
  | _, _, _ => none
def qop (tt : Nat → TI) (objs : List Ob) (env : List V) (o : Op) (K : V → Option R) : Option R := match o with
  | .move x => K (ev env x)
  | .assign x => K (ev env x)
  | .pick c a b => asBool (ev env c) fun t => cond t (K (ev env a)) (K (ev env b))
  | .build t ps => (match tt t with
    | .dat T _ => if aggT T then setAll T (ps.toList.map fun p => (p.1, ev env p.2)) (zeroD T) fun x => K (.dat T x) else none
    | .mix w fs => (match setMix tt fs (ps.toList.map fun p => (p.1, ev env p.2)) (zeroTI tt 3 (.mix w fs)) with
      | some cs => K (.mix cs)
      | none => none)
    | _ => none)
  | .buildSlice t n ps => (match tt t with
    | .dat (.slice T) _ => if n * wd T ≤ 16777216 then setAll (.arr n T) (ps.toList.map fun p => (p.1, ev env p.2)) (List.replicate n (zeroD T)) fun xs => K (.row T xs .full) else none
    | _ => none)
  | .load t a => loadV tt objs t (ev env a) K
  | .nilCheck x => (match ev env x with
    | .ptr i o => K (.ptr i o)
    | .pel i t j => K (.pel i t j)
    | .prd t y => K (.prd t y)
    | .fn f cs => K (.fn f cs)
    | _ => none)
  | .binOp op xt x y _ => binOpV tt xt op (ev env x) (ev env y) K
  | .unOp op _ x => unOpV op (ev env x) K
  | .convert s d x => convV tt s d (ev env x) K
  | .makeFunc (.func f) ⟨[]⟩ ⟨cs⟩ => K (.fn f (cs.map (ev env)))
  | .makeFunc (.func f) ⟨bs⟩ ⟨[]⟩ => K (.bfn f (bs.map (ev env)))
  | .slice t x lo hi mx => sliceV tt t (ev env x) (lo.map (ev env)) (hi.map (ev env)) (mx.map (ev env)) K
  | .fieldAddr s x j => fieldAddrV tt s (ev env x) j K
  | .field s x j => fieldV tt s (ev env x) j K
  | .indexAddr t x i => indexAddrV tt objs t (ev env x) (ev env i) K
  | .index t x i => indexV tt t (ev env x) (ev env i) K
  | .lookup t m k ok => lookupV tt objs t (ev env m) (ev env k) ok K
  | .extract t i => (match ev env t with
    | .tup vs => (match vs[i]? with
      | some v => K v
      | none => none)
    | _ => none)
  | .call ⟨.builtin .len, ⟨[x]⟩, ⟨[t]⟩⟩ => if lenOk (tt t) (ev env x) then lenV objs (ev env x) K else none
  | .call ⟨.builtin .min, ⟨[x, y]⟩, _⟩ => min2V false (ev env x) (ev env y) K
  | .call ⟨.builtin .max, ⟨[x, y]⟩, _⟩ => min2V true (ev env x) (ev env y) K
  | _ => none

/-! ### calls -/
/-- Slices over arrays that may be turned, as they read now (for a callee that turns nothing and tells no slice). -/
def snap1 (objs : List Ob) (v : V) (K : V → Option R) : Option R := match v with
  | .msl i T lo n => (match objs[i]? with
    | some (.arr _ _ T' xs) => if T' = T then cond (decide (lo + n ≤ xs.length)) (K (.row T' ((xs.drop lo).take n) .none)) none else none
    | _ => none)
  | v => K v
def snapL (objs : List Ob) : List V → (List V → Option R) → Option R
  | [], K => K []
  | v :: vs, K => snap1 objs v fun v => snapL objs vs fun vs => K (v :: vs)
/-- The same within a struct. -/
def snap2 (objs : List Ob) (v : V) (K : V → Option R) : Option R := match v with
  | .mix cs => snapL objs cs fun cs => K (.mix cs)
  | v => snap1 objs v K
def snaps (objs : List Ob) : List V → (List V → Option R) → Option R
  | [], K => K []
  | v :: vs, K => snap2 objs v fun v => snaps objs vs fun vs => K (v :: vs)
def noTag : Nat → Nat → Tag := fun _ _ => .none
def isMsl : V → Bool
  | .msl _ _ _ _ => true
  | .mix cs => cs.any isM1
  | _ => false
def live (objs : List Ob) (i : Nat) : Bool := match objs[i]? with
  | some (.box _ _) | some (.arr _ _ _ _) | some (.map _ _ _ _) => true
  | _ => false
/-- A callee that leaves all objects as they are: handed those that its arguments lead to, locked. -/
def vcallR (F : Fun) (args : List V) (σ : St) (K : V → St → Option R) : Option R :=
  snaps σ.objs args fun args' =>
  let ids := reach σ.objs (σ.objs.length + 1000) (V.idsL args') []
  if ids.all (live σ.objs) then
    F.run (V.renL (idx ids) noTag args') ⟨ids.map fun i => (((σ.objs[i]?).map (Ob.ren (idx ids) noTag)).map Ob.lock).getD .dead, []⟩ fun v _ =>
      if args.any isMsl && !v.scal then none else K (v.ren (fun j => ids[j]?) noTag) σ
  else none
/-- Names for a callee's tokens, and back. -/
def tokIn (toks : List Nat) (ts : List Nat) : Nat → Nat → Tag := fun i ver => if toks[i]? = some ver then (match idx ts i with | some j => .tok j 0 | none => .none) else .none
def tokOut (toks : List Nat) (ts : List Nat) (stoks : List Nat) : Nat → Nat → Tag := fun j ver => if stoks[j]? = some ver then (match ts[j]? with | some i => .tok i ((toks[i]?).getD 0 + 1) | none => .tok (toks.length + (j - ts.length)) 0) else .none
def blkOut (base : Nat) (ids : List Nat) : Nat → Option Nat := fun j => match ids[j]? with | some i => some i | none => some (base + (j - ids.length))
def isLk : Ob → Bool
  | .box false _ => true
  | .arr false _ _ _ => true
  | .map false _ _ _ => true
  | _ => false
/-- Objects that may not be turned are as they were. -/
def relockL (old new : List Ob) : List Ob := new.mapIdx fun i o => match old[i]? with | some o' => cond (isLk o') o' o | none => o
/-- A callee, handed the objects that its arguments lead to as a state of its own. -/
def vcallW (ow : Bool) (F : Fun) (args : List V) (σ : St) (K : V → St → Option R) : Option R :=
  let ids := reach σ.objs (σ.objs.length + 1000) (V.idsL args) []
  let t0 := cond ow (args.flatMap (tokV σ.toks)) [] ++ ids.flatMap fun i => ((σ.objs[i]?).map (tokO σ.toks)).getD []
  let ts := reach [] (t0.length + 1) t0 []
  if ids.all (live σ.objs) && ts.all (fun i => decide (i < σ.toks.length)) then
    F.run (V.renL (idx ids) (cond ow (tokIn σ.toks ts) noTag) args) ⟨ids.map fun i => ((σ.objs[i]?).map (Ob.ren (idx ids) (tokIn σ.toks ts))).getD .dead, ts.map fun _ => 0⟩ fun v s =>
      K (v.ren (blkOut σ.objs.length ids) (tokOut σ.toks ts s.toks)) ⟨relockL σ.objs ((σ.objs.mapIdx fun i o => match idx ids i with | some j => ((s.objs[j]?).map (Ob.ren (blkOut σ.objs.length ids) (tokOut σ.toks ts s.toks))).getD .dead | none => o) ++ (s.objs.drop ids.length).map (Ob.ren (blkOut σ.objs.length ids) (tokOut σ.toks ts s.toks))),
        (σ.toks.mapIdx fun i ver => match idx ts i with | some _ => ver + 1 | none => ver) ++ (s.toks.drop ts.length).map fun _ => 0⟩
  else none

/-! ### operations that make or turn objects -/
def room : Nat := 140737488355328
def boxOf (v : V) : Ob := match v with
  | .dat (.arr n t) xs => .arr true (some n) t xs
  | v => .box true (flat v)
def zeroOb (t : Ty) : Ob := match t with
  | .arr n t => .arr true (some n) t (List.replicate n (zeroD t))
  | t => .box true (zflat t)
/-- Which object an address leads into. -/
def addrOb : V → Option Nat
  | .ptr i _ => some i
  | .pel i _ _ => some i
  | .pin i _ _ _ _ => some i
  | _ => none
/-- One cell of a struct, by its place. -/
def setOff : (t : Ty) → t.D → Nat → (u : Ty) → u.D → (t.D → Option R) → Option R
  | .pair a b, (x, y), o, u, v, K => if o = 0 then (if h : u = a then K (h ▸ v, y) else none) else if wd a ≤ o then setOff b y (o - wd a) u v fun y => K (x, y) else none
  | _, _, _, _, _, _ => none
def storeV (tt : Nat → TI) (σ : St) (t : Nat) (a v : V) (K : V → St → Option R) : Option R := match a with
  | .ptr i off => (match σ.objs[i]? with
    | some (.box true cs) =>
      if storable v = true ∧ tiOk (tt t) = true ∧ wTI (tt t) = (flat v).length then (if off + (flat v).length ≤ cs.length then K void ⟨σ.objs.set i (.box true (splice cs off (flat v))), σ.toks⟩ else none) else none
    | some (.arr true (some m) T xs) => (match tt t with
      | .dat (.arr n T') _ => if T' = T ∧ m = n then (if off = 0 then asD (.arr n T) v fun ys => K void ⟨σ.objs.set i (.arr true (some m) T ys), σ.toks⟩ else none) else none
      | _ => none)
    | _ => none)
  | .pel i T j => (match σ.objs[i]? with
    | some (.arr true fx T' xs) => if h : T' = T then (match tt t with
      | .dat T'' _ => if T'' = T then asD T v fun y => cond (decide (j < xs.length)) (K void ⟨σ.objs.set i (.arr true fx T ((h ▸ xs : List T.D).set j y)), σ.toks⟩) none else none
      | _ => none) else none
    | _ => none)
  | .pin i U m j k => (match σ.objs[i]? with
    | some (.arr true fx P xs) => (match tt t with
      | .dat U' _ => if U' = U ∧ wd U = 1 ∧ wd P = m then asD U v fun y => (xs[j]?).bind fun z => setOff P z k U y fun z => K void ⟨σ.objs.set i (.arr true fx P (xs.set j z)), σ.toks⟩ else none
      | _ => none)
    | _ => none)
  | _ => none
/-- A slice's type, or a string's. -/
def seqTI : TI → Bool
  | .dat (.slice _) _ => true
  | .dat .str _ => true
  | _ => false
def appendV (tt : Nat → TI) (σ : St) (t tx : Nat) (s x : V) (K : V → St → Option R) : Option R := match tt t with
  | .dat (.slice T) eb => if seqTI (tt tx) = true ∧ 0 < eb then asRow σ.objs x T fun ys =>
      (match s with
      | .nils => cond (decide (ys.length * eb ≤ room)) (K (.row T ys (.tok σ.toks.length 0)) ⟨σ.objs, σ.toks ++ [0]⟩) none
      | .row u xs g => if h : u = T then
          (match g with
          | .full => cond (decide ((xs.length + ys.length) * eb ≤ room)) (K (.row T ((h ▸ xs : List T.D) ++ ys) (.tok σ.toks.length 0)) ⟨σ.objs, σ.toks ++ [0]⟩) none
          | .tok i ver => if σ.toks[i]? = some ver then cond (decide ((xs.length + ys.length) * eb ≤ room)) (K (.row T ((h ▸ xs : List T.D) ++ ys) (.tok i (ver + 1))) ⟨σ.objs, σ.toks.set i (ver + 1)⟩) none else none
          | _ => none) else none
      | _ => none) else none
  | _ => none
/-- Append where what comes of it is an object: to nil, or to a slice without room. -/
def appendO (tt : Nat → TI) (σ : St) (t tx : Nat) (s x : V) (K : V → St → Option R) : Option R := match tt t with
  | .dat (.slice T) eb => if seqTI (tt tx) = true ∧ 0 < eb then (match s with
      | .nils => asRow σ.objs x T fun ys => cond ys.isEmpty none (cond (decide (ys.length * eb ≤ room)) (K (.msl σ.objs.length T 0 ys.length) ⟨σ.objs ++ [.arr true none T ys], σ.toks⟩) none)
      | .row u xs .full => if h : u = T then asRow σ.objs x T fun ys => cond ys.isEmpty none (cond (decide ((xs.length + ys.length) * eb ≤ room)) (K (.msl σ.objs.length T 0 (xs.length + ys.length)) ⟨σ.objs ++ [.arr true none T ((h ▸ xs : List T.D) ++ ys)], σ.toks⟩) none) else none
      | s => appendV tt σ t tx s x K) else none
  | _ => none
def isDat : V → Bool
  | .dat _ _ => true
  | .undef => true
  | _ => false
def copyV (tt : Nat → TI) (σ : St) (td ts : Nat) (d s : V) (K : V → St → Option R) : Option R := match tt td with
  | .dat (.slice T) _ => if isSl (tt ts) = true ∧ wd T = 1 then (match d with
      | .msl i T' lo n => if T' = T ∧ isDat s = false then asRow σ.objs s T fun ys => (match σ.objs[i]? with
          | some (.arr true fx T'' xs) => if h : T'' = T then cond (decide (lo + n ≤ xs.length)) (K (.dat i64 ((min ys.length n : Nat) : Int)) ⟨σ.objs.set i (.arr true fx T ((h ▸ xs : List T.D).take lo ++ ys.take (min ys.length n) ++ (h ▸ xs : List T.D).drop (lo + min ys.length n))), σ.toks⟩) none else none
          | _ => none) else none
      | _ => none) else none
  | _ => none
/-- A struct's type. -/
def isStr : Ty → Bool
  | .pair _ _ => true
  | .rc _ => true
  | .unit => true
  | _ => false
/-- Which function is called, and with what. -/
def fnArgs : V → List V → Option (Nat × List V)
  | .fn g cap, xs => some (g, xs ++ cap)
  | .bfn g bnd, xs => some (g, bnd ++ xs)
  | _, _ => none
def vop (C : Nat → Fun) (tt : Nat → TI) (env : List V) (σ : St) (o : Op) (K : V → St → Option R) : Option R := match o with
  | .alloc t => (match tt t with
    | .dat T _ => K (.ptr σ.objs.length 0) ⟨σ.objs ++ [zeroOb T], σ.toks⟩
    | .none => none
    | ti => K (.ptr σ.objs.length 0) ⟨σ.objs ++ [.box true (zeroTI tt 3 ti)], σ.toks⟩)
  | .box _ v => cond (C 2000001).ro (if storable (ev env v) then K (.ptr σ.objs.length 0) ⟨σ.objs ++ [boxOf (ev env v)], σ.toks⟩ else none)
      (match ev env v with
      | .dat T x => if aggT T = true then K (.prd T x) σ else none
      | _ => none)
  | .build t ps => cond (C 2000002).ro (qop tt σ.objs env (.build t ps) fun v => K v σ) (match tt t with
      | .dat T _ => if isStr T = true then (match setZ T (ps.toList.map fun p => (p.1, ev env p.2)) (zflat T) with
        | some cs => K (.mix cs) σ
        | none => none) else none
      | _ => qop tt σ.objs env (.build t ps) fun v => K v σ)
  | .load t a => cond (C 2000001).ro (qop tt σ.objs env (.load t a) fun v => K v σ) (qop tt [] env (.load t a) fun v => K v σ)
  | .store t a v => storeV tt σ t (ev env a) (ev env v) K
  | .makeSlice t l c => (match tt t with
    | .dat (.slice T) eb => if 0 < eb then asInt (ev env l) fun _ n => asInt (ev env c) fun _ m =>
        cond (decide (0 ≤ n)) (cond (decide (n ≤ m)) (cond (decide (m.toNat * eb ≤ room)) (K (.msl σ.objs.length T 0 n.toNat) ⟨σ.objs ++ [.arr true none T (List.replicate n.toNat (zeroD T))], σ.toks⟩) none) none) none else none
    | _ => none)
  | .makeMap t none => (match tt t with
    | .map kt vt => K (.mp σ.objs.length) ⟨σ.objs ++ [.map true kt vt []], σ.toks⟩
    | _ => none)
  | .mapUpdate t m k x => (match tt t, ev env m with
    | .map kt vt, .mp i => (match σ.objs[i]? with
      | some (.map true kt' vt' es) => if eqTy kt then (if h : kt' = kt then (if h' : vt' = vt then asD kt (ev env k) fun k => asD vt (ev env x) fun x =>
          K void ⟨σ.objs.set i (.map true kt vt (mput kt k x (show List (kt.D × vt.D) from h ▸ h' ▸ es))), σ.toks⟩ else none) else none) else none
      | _ => none)
    | _, _ => none)
  | .call ⟨.builtin .append, ⟨[s, x]⟩, ⟨[t, tx]⟩⟩ => cond (C 2000000).ro (appendV tt σ t tx (ev env s) (ev env x) K) (appendO tt σ t tx (ev env s) (ev env x) K)
  | .call ⟨.builtin .copy, ⟨[d, s]⟩, ⟨[td, ts]⟩⟩ => copyV tt σ td ts (ev env d) (ev env s) K
  | .call ⟨.value f, ⟨xs⟩, _⟩ => (match fnArgs (ev env f) (xs.map (ev env)) with
    | some (g, args) => if (C g).ro then vcallR (C g) args σ K else vcallW (!(C (1000000 + g)).ro) (C g) args σ K
    | none => none)
  | o => qop tt σ.objs env o fun v => K v σ

/-! ### regions and code -/
def putV (env : List V) (d : Option Tmp) (v : V) : List V := match d with
  | some d => env.set d v
  | none => env
/-- A region in the order of its text. -/
def vops (C : Nat → Fun) (tt : Nat → TI) (all : List Oper) : List Oper → List V → St → (List V → St → Option R) → Option R
  | [], env, σ, K => K env σ
  | o :: r, env, σ, K =>
    let run := fun env => vop C tt env σ o.op fun v σ => vops C tt all r (putV env o.dst v) σ K
    let skip := fun env => vops C tt all r (putV env o.dst void) σ K
    match o.guard with
    | none => run env
    | some (j, want) => match (all[j]?).bind (·.dst) with
      | some d => (match env.getD d .undef with
        | .dat .bool b => cond b (if want then run (env.set d (.dat .bool true)) else skip (env.set d (.dat .bool true))) (if want then skip (env.set d (.dat .bool false)) else run (env.set d (.dat .bool false)))
        | .tup _ => skip env
        | _ => none)
      | none => none

/-- A region in the order of its text; '[]byte' of a constant text, a literal and its conversion ahead of all else, is taken in one step. -/
def vregion (C : Nat → Fun) (tt : Nat → TI) (all : List Oper) (env : List V) (σ : St) (K : List V → St → Option R) : Option R :=
  match all with
  | o :: p :: r => (match o.guard, o.op, p.guard, p.op with
    | none, .buildSlice t n ps, none, .convert s d (.tmp x) => (match tt t with
      | .dat (.slice (.int .u8)) _ => if o.dst = some x ∧ x < env.length ∧ s = t ∧ d = t ∧ n * wd u8 ≤ 16777216 then
          setAll (.arr n u8) (ps.toList.map fun p => (p.1, ev env p.2)) (List.replicate n (zeroD u8)) fun xs => vops C tt all r (putV (putV env o.dst .undef) p.dst (.row u8 xs .none)) σ K
        else vops C tt all all env σ K
      | _ => vops C tt all all env σ K)
    | _, _, _, _ => vops C tt all all env σ K)
  | l => vops C tt all l env σ K

/-! #### a region that draws its order -/
/-- 0: it only computes; 1: it reads objects; 2: it turns tokens; 3: it turns objects. -/
def cls (C : Nat → Fun) (o : Op) : Nat := match o with
  | .load _ _ => cond (C 2000001).ro 1 0
  | .lookup _ _ _ _ | .indexAddr _ _ _ => 1
  | .alloc _ | .box _ _ | .store _ _ _ | .makeSlice _ _ _ | .makeMap _ _ | .mapUpdate _ _ _ _ => 3
  | .call ⟨.builtin .append, _, _⟩ => cond (C 2000000).ro 2 3
  | .call ⟨.builtin .copy, _, _⟩ => 3
  | .call ⟨.builtin .len, _, _⟩ => 1
  | .call ⟨.value (.func g), _, _⟩ => if (C g).ro then 1 else 3
  | .call ⟨.value _, _, _⟩ => 3
  | _ => 0
def clash (a b : Nat) : Bool := (a == 3 && b != 0) || (b == 3 && a != 0) || (a == 2 && b == 2)
def named (all : List Oper) (o : Oper) : List Tmp :=
  (o.op.operands.toList.filterMap fun | .tmp t => some t | _ => none) ++ (match o.guard with | some (g, _) => ((all[g]?).bind (·.dst)).toList | none => [])
/-- Of each operation the bits of those that come before it by the edges. -/
def masks : List Oper → List Nat → List Nat
  | [], acc => acc
  | o :: r, acc => masks r (acc ++ [o.after.toList.foldl (fun s e => cond (Region.binds .any e) (s ||| 2 ^ e.on ||| acc.getD e.on 0) s) 0])
/-- May the operations be taken in any order that their edges allow? 'Y': pairs that may stand in any order though they clash. -/
def drawC (C : Nat → Fun) (all : List Oper) (Y : Nat → Nat → Bool) : Bool :=
  let M := masks all []
  let bef (i j : Nat) : Bool := (M.getD j 0).testBit i
  all.zipIdx.all fun (o, j) =>
    (o.after.toList.all fun e => !Region.binds .any e || decide (e.on < j)) &&
    all.zipIdx.all fun (p, i) => i == j || (
      (match p.dst with
        | some d => (o.dst != some d) && (!(named all o).contains d || (if i < j then bef i j else bef j i))
        | none => true) &&
      (!decide (i < j) || (!clash (cls C p.op) (cls C o.op) || (bef i j || Y i j))))
def drawOk (C : Nat → Fun) (all : List Oper) : Bool := drawC C all fun _ _ => false
/-- Is that slot written by none from there on? -/
def stays (all : List Oper) (j : Nat) (x : Operand) : Bool := match x with
  | .tmp t => (all.drop j).all fun p => p.dst != some t
  | _ => true
def newAt (p : Oper) (env : List V) (m : Nat) : Bool := match p.dst with
  | some d => (match addrOb (env.getD d .undef) with | some m' => m' != m | none => false)
  | none => false
/-- What an operation that reads looks at. -/
def look : Op → Option Operand
  | .load _ x => some x
  | .indexAddr _ x _ => some x
  | _ => none
def noIds (v : V) : Bool := v.ids.isEmpty && !isMsl v
/-- Is that a call of what only reads, with nothing that leads to an object? -/
def freeCall (C : Nat → Fun) (all : List Oper) (env : List V) (l : Nat) : Op → Bool
  | .call ⟨.value (.func g), ⟨xs⟩, _⟩ => (C g).ro && xs.all fun x => stays all l x && noIds (ev env x)
  | _ => false
/-- A load, and what turns another object. -/
def apart (C : Nat → Fun) (all : List Oper) (env : List V) (l s : Nat) : Bool := match all[l]?, all[s]? with
  | some o, some p => (match look o.op with
    | some x => stays all l x && (match addrOb (ev env x) with
      | some m => (match p.op with
        | .store _ a _ => stays all s a && (match addrOb (ev env a) with | some m' => m' != m | none => false)
        | .alloc _ => newAt p env m
        | .box _ _ => newAt p env m
        | _ => false)
      | none => true)
    | none => freeCall C all env l o.op)
  | _, _ => false
/-- The same check, told at the region's end: loads may be taken in any order against what turns another object. -/
def drawOk2 (C : Nat → Fun) (all : List Oper) (env : List V) : Bool := drawC C all fun i j => apart C all env i j || apart C all env j i
/-- A new variable of data that is no array. -/
def isAl : Op → Bool
  | .alloc _ => true
  | _ => false
def alAt (all : List Oper) (i : Nat) : Bool := match all[i]? with
  | some o => isAl o.op
  | none => false
def boxyT : TI → Bool
  | .dat (.arr _ _) _ => false
  | .dat _ _ => true
  | _ => false
/-- May new variables be made in any order? 'n': how many objects there were. -/
def alOk (C : Nat → Fun) (tt : Nat → TI) (all : List Oper) (env : List V) (n : Nat) : Bool :=
  let M := masks all []
  all.zipIdx.all fun (o, j) =>
    cond (isAl o.op) (o.guard.isNone && (match o.op with | .alloc t => boxyT (tt t) | _ => false)) <|
    cond (decide (1 < cls C o.op)) (all.zipIdx.all fun (p, i) => !isAl p.op || (decide (i < j) && (M.getD j 0).testBit i)) <|
    cond (decide (cls C o.op = 1)) (match look o.op with
      | some x => stays all j x && (match addrOb (ev env x) with | some m => decide (m < n) | none => true)
      | none => freeCall C all env j o.op) true
def drawOk3 (C : Nat → Fun) (tt : Nat → TI) (all : List Oper) (env : List V) (n : Nat) : Bool := alOk C tt all env n && drawC C all fun i j => apart C all env i j || apart C all env j i || (alAt all i && alAt all j)
def vdraw (C : Nat → Fun) (tt : Nat → TI) (all : List Oper) (env : List V) (σ : St) (K : List V → St → Option R) : Option R :=
  if drawOk C all then vops C tt all all env σ K else vops C tt all all env σ fun env' σ' => if drawOk2 C all env' then K env' σ' else if drawOk3 C tt all env' σ.objs.length then K env' σ' else none

/-! #### code -/
/-- Which slots does a piece of code write? -/
def wrOps (l : List Oper) (i : Nat) : Bool := l.any fun o => o.dst == some i
def wrC : Code → Nat → Bool
  | .region _ ops _, i => wrOps ops.toList i
  | .seq a b, i => wrC a i || wrC b i
  | .cond _ a b, i => wrC a i || wrC b i
  | .block _ a, i => wrC a i
  | .loop a, i => wrC a i
  | .skip, _ | .exit _, _ | .ret, _ => false
  | _, _ => true
def vcode (C : Nat → Fun) (tt : Nat → TI) (H : Nat → Option Cut) : Code → Nat → List V → St → (Ex → List V → St → Option R) → Option R
  | c, p, env, σ, K => match H p with
    | some s => s.run env σ K
    | none => match c with
      | .skip => K .normal env σ
      | .region _ ops draw => if draw then vdraw C tt ops.toList env σ (K .normal) else vregion C tt ops.toList env σ (K .normal)
      | .seq a b => vcode C tt H a (2 * p) env σ fun ex env σ => (match ex with
        | .normal => vcode C tt H b (2 * p + 1) env σ K
        | ex => K ex env σ)
      | .cond x a b => asBool (ev env x) fun t => cond t (vcode C tt H a (2 * p) env σ K) (vcode C tt H b (2 * p + 1) env σ K)
      | .block id a => vcode C tt H a (2 * p) env σ fun ex env σ => (match ex with
        | .exit i => if i = id then K .normal env σ else K (.exit i) env σ
        | ex => K ex env σ)
      | .exit id => K (.exit id) env σ
      | .ret => K .ret env σ
      | _ => none
def vres1 (tt : Nat → TI) (env : List V) (σ : St) (r : ResultVar) (K : V → Option R) : Option R := match r with
  | .tmp t => K (env.getD t .undef)
  | .cell a t => (match env.getD a .undef with
    | .ptr i o => loadV tt σ.objs t (.ptr i o) K
    | _ => none)
def vresL (tt : Nat → TI) (env : List V) (σ : St) : List ResultVar → (List V → Option R) → Option R
  | [], K => K []
  | r :: rs, K => vres1 tt env σ r fun v => vresL tt env σ rs fun vs => K (v :: vs)
def vres (tt : Nat → TI) (fn : Func) (env : List V) (σ : St) (K : V → Option R) : Option R :=
  vresL tt env σ fn.results.toList fun vs => K (match vs with | [v] => v | vs => .tup vs)
/-- A function's body. -/
def vbody (C : Nat → Fun) (tt : Nat → TI) (H : Nat → Option Cut) (fn : Func) (args : List V) (σ : St) (K : V → St → Option R) : Option R :=
  match fn.body with
  | some c => vcode C tt H c 1 (args ++ List.replicate (fn.ntmps - args.length) void) σ fun ex env σ => (match ex with
    | .exit _ => none
    | _ => vres tt fn env σ fun v => K v σ)
  | none => none
end
end Go.Proofs.Yticelgnmcjkknaa.Vm
