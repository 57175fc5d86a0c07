/-
A machine of values, part thirty: shapes: which slots and objects hold what; values and states told by plain contents.
-/
import Derived.Test.YticelgnmcjkknaaVm29
set_option linter.unusedVariables false
set_option linter.unusedSimpArgs false
namespace Go.Proofs.Yticelgnmcjkknaa.Vm

/-- What a slot holds: data; a slice whose spare room is known; a pointer to an object; a map; a function with pointers; nil; no matter what. -/
inductive Sl where
  | d (t : Ty) | own (t : Ty) | ptr (i : Nat) | mp (i : Nat) | fn (f : Nat) (cs : List Nat) | bfn (f : Nat) (cs : List Nat) | nilp | nilm | nils | nn (t : Ty) | msl (i : Nat) (t : Ty) | any
  deriving DecidableEq
abbrev Sl.C : Sl → Type
  | .d t => t.D
  | .own t => List t.D
  | .nn t => List t.D
  | .msl _ _ => Nat
  | _ => Unit
def SlsC : List Sl → Type
  | [] => Unit
  | s :: r => s.C × SlsC r
inductive ObS where
  | box (cs : List Sl) | arr (fx : Option Nat) (t : Ty) | map (kt vt : Ty) | lk (o : ObS) | any
def ObS.C : ObS → Type
  | .box cs => SlsC cs
  | .arr _ t => List t.D
  | .map kt vt => List (kt.D × vt.D)
  | .lk o => o.C
  | .any => Unit
def ObsC : List ObS → Type
  | [] => Unit
  | o :: r => o.C × ObsC r
structure Shape where
  sl : List Sl
  ob : List ObS
def Shape.C (s : Shape) : Type := SlsC s.sl × ObsC s.ob

/-! ### contents to values -/
def Sl.owns : Sl → Nat
  | .own _ => 1
  | _ => 0
def ownN : List Sl → Nat
  | [] => 0
  | s :: r => s.owns + ownN r
def ObS.owns : ObS → Nat
  | .box cs => ownN cs
  | .lk o => o.owns
  | _ => 0
def ownO : List ObS → Nat
  | [] => 0
  | s :: r => s.owns + ownO r
def encSl (q : Nat) : (s : Sl) → s.C → V
  | .d t, x => dv t x
  | .own t, xs => .row t xs (.tok q 0)
  | .ptr i, _ => .ptr i 0
  | .mp i, _ => .mp i
  | .fn f cs, _ => .fn f (cs.map fun i => .ptr i 0)
  | .bfn f cs, _ => .bfn f (cs.map fun i => .ptr i 0)
  | .nilp, _ => .nilp
  | .nilm, _ => .nilm
  | .nils, _ => .nils
  | .nn t, xs => .row t xs .nn
  | .msl i t, n => .msl i t 0 n
  | .any, _ => .undef
def encSls : Nat → (l : List Sl) → SlsC l → List V
  | _, [], _ => []
  | q, s :: r, (x, y) => encSl q s x :: encSls (q + s.owns) r y
def encOb (w : Bool) (q : Nat) : (o : ObS) → o.C → Ob
  | .box cs, x => .box w ((encSls q cs x).flatMap flat)
  | .arr fx t, xs => .arr w fx t xs
  | .map kt vt, es => .map w kt vt es
  | .lk o, x => encOb false q o x
  | .any, _ => .dead
def encObs (w : Bool) : Nat → (l : List ObS) → ObsC l → List Ob
  | _, [], _ => []
  | q, o :: r, (x, y) => encOb w q o x :: encObs w (q + o.owns) r y

/-! ### values to contents -/
def decOwn (toks : List Nat) (t : Ty) : V → Option (List t.D)
  | .nils => some []
  | .row u xs g => if h : u = t then
      (match g with
      | .full => some (h ▸ xs)
      | .tok i ver => if toks[i]? = some ver then some (h ▸ xs) else none
      | _ => none) else none
  | _ => none
def decNn (t : Ty) : V → Option (List t.D)
  | .row u xs g => if h : u = t then (match g with
      | .nn => some (h ▸ xs)
      | _ => none) else none
  | _ => none
def isPtrs : List Nat → List V → Bool
  | [], [] => true
  | i :: is, .ptr j 0 :: vs => (i == j) && isPtrs is vs
  | _, _ => false
def decSl (toks : List Nat) : (s : Sl) → V → Option s.C
  | .d t, v => asD t v some
  | .own t, v => decOwn toks t v
  | .ptr i, v => (match v with | .ptr j 0 => if j = i then some () else none | _ => none)
  | .mp i, v => (match v with | .mp j => if j = i then some () else none | _ => none)
  | .fn f cs, v => (match v with | .fn g caps => if g = f then (if isPtrs cs caps then some () else none) else none | _ => none)
  | .bfn f cs, v => (match v with | .bfn g caps => if g = f then (if isPtrs cs caps then some () else none) else none | _ => none)
  | .nilp, v => (match v with | .nilp => some () | _ => none)
  | .nilm, v => (match v with | .nilm => some () | _ => none)
  | .nils, v => (match v with | .nils => some () | _ => none)
  | .nn t, v => decNn t v
  | .msl i t, v => (match v with | .msl j u lo n => if j = i ∧ u = t ∧ lo = 0 then some n else none | _ => none)
  | .any, _ => some ()
def decSls (toks : List Nat) : (l : List Sl) → List V → Option (SlsC l)
  | [], [] => some ()
  | s :: r, v :: vs => (decSl toks s v).bind fun x => (decSls toks r vs).bind fun y => some (x, y)
  | _, _ => none
/-- How many cells a slot takes in a box. -/
def Sl.agg : Sl → Option Nat
  | .d t => if aggT t then some (wd t) else none
  | _ => none
def decAgg : (s : Sl) → List V → Option s.C
  | .d t, cs => asmD t cs some
  | _, _ => none
def decCs (toks : List Nat) : (l : List Sl) → List V → Option (SlsC l)
  | [], [] => some ()
  | s :: r, cs => (match s.agg with
    | some n => if n ≤ cs.length then (decAgg s (cs.take n)).bind fun x => (decCs toks r (cs.drop n)).bind fun y => some (x, y) else none
    | none => (match cs with
      | c :: cs => (decSl toks s c).bind fun x => (decCs toks r cs).bind fun y => some (x, y)
      | [] => none))
  | _, _ => none
def decOb (w : Bool) (toks : List Nat) : (o : ObS) → Ob → Option o.C
  | .box cs, .box f vs => if f = w then decCs toks cs vs else none
  | .arr fx t, .arr f fx' t' xs => if f = w ∧ fx' = fx then (if h : t' = t then some (show List t.D from h ▸ xs) else none) else none
  | .map kt vt, .map f kt' vt' es => if f = w then (if h : kt' = kt then (if h' : vt' = vt then some (show List (kt.D × vt.D) from h ▸ h' ▸ es) else none) else none) else none
  | .lk o, ob => decOb false toks o ob
  | .any, _ => some ()
  | _, _ => none
def decObs (w : Bool) (toks : List Nat) : (l : List ObS) → List Ob → Option (ObsC l)
  | [], [] => some ()
  | s :: r, v :: vs => (decOb w toks s v).bind fun x => (decObs w toks r vs).bind fun y => some (x, y)
  | _, _ => none
/-- Which tokens the known spare rooms are. -/
def tokSl : Sl → V → List (Option Nat)
  | .own _, .row _ _ (.tok i _) => [some i]
  | .own _, _ => [none]
  | _, _ => []
def tokSls : List Sl → List V → List (Option Nat)
  | s :: r, v :: vs => tokSl s v ++ tokSls r vs
  | _, _ => []
def tokCs : List Sl → List V → List (Option Nat)
  | s :: r, cs => (match s.agg with
    | some n => tokCs r (cs.drop n)
    | none => (match cs with
      | c :: cs => tokSl s c ++ tokCs r cs
      | [] => []))
  | _, _ => []
def tokOb : ObS → Ob → List (Option Nat)
  | .box cs, .box _ vs => tokCs cs vs
  | .lk o, ob => tokOb o ob
  | _, _ => []
def tokObs : List ObS → List Ob → List (Option Nat)
  | s :: r, v :: vs => tokOb s v ++ tokObs r vs
  | _, _ => []
def nodupB : List (Option Nat) → Bool
  | [] => true
  | none :: r => nodupB r
  | some i :: r => !r.contains (some i) && nodupB r
def tid : Nat → Nat → Tag := .tok
def pickObs (σ : St) (ids : List Nat) : List Ob := ids.map fun i => ((σ.objs[i]?).map (Ob.ren (idx ids) tid)).getD .dead
def toksOf (sh : Shape) (vs : List V) (obs : List Ob) : List (Option Nat) := tokSls sh.sl vs ++ tokObs sh.ob obs
/-- The contents of some slots and of these objects. -/
def decSh (w : Bool) (sh : Shape) (σ : St) (ids : List Nat) (vs : List V) : Option sh.C :=
  if nodupB (toksOf sh (V.renL (idx ids) tid vs) (pickObs σ ids)) then
    (decSls σ.toks sh.sl (V.renL (idx ids) tid vs)).bind fun x => (decObs w σ.toks sh.ob (pickObs σ ids)).bind fun y => some (x, y)
  else none
section
variable {P : Program} {R : Type}

/-! ### one for one -/
def regOf (g : Gh) : Option Nat → Option (Nat × Nat × Nat)
  | some i => ((g.tk[i]?).map (·.2)).join
  | none => none
theorem isPtrs_eq : ∀ (is : List Nat) (vs : List V), isPtrs is vs = true → vs = is.map fun i => V.ptr i 0
  | [], [], _ => rfl
  | [], v :: vs, h => by simp [isPtrs] at h
  | i :: is, [], h => by simp [isPtrs] at h
  | i :: is, v :: vs, h => by
    cases v with
    | ptr j o =>
      cases o with
      | zero =>
        simp only [isPtrs, Bool.and_eq_true, beq_iff_eq] at h
        obtain ⟨rfl, h⟩ := h
        rw [isPtrs_eq is vs h]; rfl
      | succ o => simp [isPtrs] at h
    | _ => simp [isPtrs] at h
theorem relV_blk {g1 g2 : Gh} {I : Addr → Value → Prop} (hb : g1.blk = g2.blk) (is : List Nat) {rs : List Value} (h1 : rs.length = (is.map fun i => V.ptr i 0).length) (h : ∀ (i : Nat) (v : V) (rv : Value), (is.map fun i => V.ptr i 0)[i]? = some v → rs[i]? = some rv → RelV g1 I v rv) :
    ∀ (i : Nat) (v : V) (rv : Value), (is.map fun i => V.ptr i 0)[i]? = some v → rs[i]? = some rv → RelV g2 I v rv := by
  intro i v rv hv hr
  have h2 := h i v rv hv hr
  rw [List.getElem?_map] at hv
  cases hi : is[i]? with
  | none => rw [hi] at hv; cases hv
  | some j =>
    rw [hi] at hv; simp only [Option.map_some, Option.some.injEq] at hv; subst hv
    cases h2 with
    | ptr _ _ b w hk => exact .ptr _ _ b w (by rw [← hb]; exact hk)
theorem decSl_rel {g1 g2 : Gh} {I : Addr → Value → Prop} (hb : g1.blk = g2.blk) {toks : List Nat} (ht : g1.tk.map (·.1) = toks) {s : Sl} {v : V} {x : s.C} {rv : Value} {q : Nat} (h : decSl toks s v = some x) (hv : RelV g1 I v rv)
    (hq : ∀ (j : Nat) (o : Option Nat), (tokSl s v)[j]? = some o → g2.tk[q + j]? = some (0, regOf g1 o)) : RelV g2 I (encSl q s x) rv ∧ (tokSl s v).length = s.owns := by
  cases s with
  | d t =>
    obtain ⟨y, h1, h2⟩ := asD_sound h
    simp only [Option.some.injEq] at h1; subst h1
    exact ⟨relV_dv (h2 g1 I rv hv), by cases v <;> rfl⟩
  | own t =>
    cases v with
    | nils =>
      have h : some [] = some x := h
      simp only [Option.some.injEq] at h; subst h
      cases hv
      have := hq 0 none rfl
      exact ⟨.row _ _ _ _ _ _ (rd_nil _ _ _ _) ⟨0, none, this, Nat.le_refl _, fun _ => rfl⟩, rfl⟩
    | row u xs tag =>
      simp only [decSl, decOwn] at h
      split at h
      · rename_i e; subst e
        cases tag with
        | full =>
          simp only [Option.some.injEq] at h; subst h
          cases hv with
          | row _ _ _ A n c h1 h2 =>
            have := hq 0 none rfl
            have h2 : n = c := h2
            refine ⟨.row _ _ _ _ _ _ h1 ⟨0, none, this, Nat.le_refl _, fun _ => by unfold RegOk; rw [if_pos h2]⟩, rfl⟩
        | tok i ver =>
          simp only at h
          split at h
          · rename_i hver
            simp only [Option.some.injEq] at h; subst h
            cases hv with
            | row _ _ _ A n c h1 h2 =>
              have := hq 0 (some i) rfl
              obtain ⟨ver0, R0, h3, h4, h5⟩ := h2
              have hv0 : ver0 = ver := by
                rw [← ht, List.getElem?_map, h3] at hver
                simpa using hver
              refine ⟨.row _ _ _ _ _ _ h1 ⟨0, R0, ?_, Nat.le_refl _, fun _ => h5 hv0.symm⟩, rfl⟩
              rw [Nat.add_zero] at this
              rw [this]; simp [regOf, h3]
          · cases h
        | none => cases h
        | nn => cases h
      · cases h
    | _ => simp [decSl, decOwn] at h
  | ptr i =>
    cases v with
    | ptr j o =>
      cases o with
      | zero =>
        simp only [decSl] at h
        split at h
        · rename_i e; subst e
          cases hv with
          | ptr _ _ b w hk => exact ⟨.ptr _ _ b w (by rw [← hb]; exact hk), rfl⟩
        · cases h
      | succ o => simp [decSl] at h
    | _ => simp [decSl] at h
  | mp i =>
    cases v with
    | mp j =>
      simp only [decSl] at h
      split at h
      · rename_i e; subst e
        cases hv with
        | mp _ b w hk => exact ⟨.mp _ b w (by rw [← hb]; exact hk), rfl⟩
      · cases h
    | _ => simp [decSl] at h
  | fn f cs =>
    cases v with
    | fn f' caps =>
      simp only [decSl] at h
      split at h
      · rename_i e; subst e
        split at h
        · rename_i hp
          have := isPtrs_eq _ _ hp
          subst this
          cases hv with
          | fn _ _ rs h1 h2 => exact ⟨.fn _ _ _ h1 (relV_blk hb _ h1 h2), rfl⟩
        · cases h
      · cases h
    | _ => simp [decSl] at h
  | bfn f cs =>
    cases v with
    | bfn f' caps =>
      simp only [decSl] at h
      split at h
      · rename_i e; subst e
        split at h
        · rename_i hp
          have := isPtrs_eq _ _ hp
          subst this
          cases hv with
          | bfn _ _ rs h1 h2 => exact ⟨.bfn _ _ _ h1 (relV_blk hb _ h1 h2), rfl⟩
        · cases h
      · cases h
    | _ => simp [decSl] at h
  | nilp =>
    cases v with
    | nilp => cases hv; exact ⟨.nilp, rfl⟩
    | _ => simp [decSl] at h
  | nilm =>
    cases v with
    | nilm => cases hv; exact ⟨.nilm, rfl⟩
    | _ => simp [decSl] at h
  | nils =>
    cases v with
    | nils => cases hv; exact ⟨.nils, rfl⟩
    | _ => simp [decSl] at h
  | nn t =>
    cases v with
    | row u xs tag =>
      simp only [decSl, decNn] at h
      split at h
      · rename_i e; subst e
        cases tag with
        | nn =>
          obtain rfl := Option.some.inj h
          cases hv with
          | row _ _ _ A n c h1 h2 => exact ⟨.row _ _ _ _ _ _ h1 h2, rfl⟩
        | _ => cases h
      · cases h
    | _ => simp [decSl, decNn] at h
  | msl i t =>
    cases v with
    | msl j u lo n =>
      simp only [decSl] at h
      split at h
      · rename_i e
        obtain ⟨rfl, rfl, rfl⟩ := e
        obtain rfl := Option.some.inj h
        cases hv with
        | msl _ _ _ _ b w A c k1 k2 k3 k4 => exact ⟨.msl _ _ _ _ b w _ _ (by rw [← hb]; exact k1) k2 k3 k4, rfl⟩
      · cases h
    | _ => simp [decSl] at h
  | any => exact ⟨.undef _, by cases v <;> rfl⟩
end
end Go.Proofs.Yticelgnmcjkknaa.Vm
