/-
A machine of values, part forty-two: pieces of code that are come to in several shapes; functions of the library that are given.
-/
import Derived.Test.YticelgnmcjkknaaVm41
set_option linter.unusedVariables false
set_option linter.unusedSimpArgs false
namespace Go.Proofs.Yticelgnmcjkknaa.Vm
/-! ### parts of expressions and statements -/
def eKind (x : PExpr) : Int := (un 0 x).1
def eOp (x : PExpr) : ByteArray := (un 0 x).2.1
def eNum (x : PExpr) : Int := (un 0 x).2.2.1
def eName (x : PExpr) : ByteArray := (un 0 x).2.2.2.1
def eKids (x : PExpr) : List PExpr := (un 0 x).2.2.2.2.1
def ePos (x : PExpr) : Int := (un 0 x).2.2.2.2.2.1
def sKind (x : PStmt) : Int := (un 1 x).1
def sName (x : PStmt) : ByteArray := (un 1 x).2.1
def sLoc (x : PStmt) : ByteArray := (un 1 x).2.2.1
def sExprs (x : PStmt) : List PExpr := (un 1 x).2.2.2.1
def sBody (x : PStmt) : List PStmt := (un 1 x).2.2.2.2.1
def sEls (x : PStmt) : List PStmt := (un 1 x).2.2.2.2.2.1
def sPos (x : PStmt) : Int := (un 1 x).2.2.2.2.2.2.1
/-- The same again, out of its parts. -/
def ePack (x : PExpr) : PExpr := ro 0 (eKind x, eOp x, eNum x, eName x, eKids x, ePos x, ())
def sPack (x : PStmt) : PStmt := ro 1 (sKind x, sName x, sLoc x, sExprs x, sBody x, sEls x, sPos x, ())
theorem ePack_eq (x : PExpr) : ePack x = x := by cases x; rfl
theorem sPack_eq (x : PStmt) : sPack x = x := by cases x; rfl
section
variable {P : Program} {R : Type}

/-! ### pieces that are come to in several shapes -/
/-- Do the slots fit this shape? -/
def fits (ins : List Nat) (arg : Shape) (env : List V) (σ : St) : Bool :=
  let args := slotsOf env ins
  let ids := reach σ.objs (σ.objs.length + 1000) (V.idsL args) []
  let ts := cutToks σ ids args
  (decSh true arg (stIn σ ids ts) (List.range ids.length) (V.renL (idx ids) (tokIn σ.toks ts) args)).isSome
def altCut (ins : List Nat) (arg : Shape) (S T : Cut) : Cut := ⟨fun env σ K => cond (fits ins arg env σ) (S.run env σ K) (T.run env σ K)⟩
theorem altCut_ok {c : Code} {ins : List Nat} {arg : Shape} {S T : Cut} (hS : CutOk P c S) (hT : CutOk P c T) : CutOk P c (altCut ins arg S T) := by
  intro R env σ K r h
  have h : cond (fits ins arg env σ) (S.run env σ K) (T.run env σ K) = some r := h
  cases hf : fits ins arg env σ with
  | true => rw [hf] at h; exact hS R env σ K r h
  | false => rw [hf] at h; exact hT R env σ K r h
/-- A loop that comes back, at most so many rounds. -/
def RoundsOk (P : Program) (body : Code) (k : Nat) (S : Cut) : Prop := ∀ (R : Type) (env : List V) (σ : St) (K : Ex → List V → St → Option R) (r : R), S.run env σ K = some r →
  ∃ ex env' σ', K ex env' σ' = some r ∧ Goes (wrC body) (fun Q a w => Code.rounds P body Q k a w) (exOf ex) env σ env' σ'
theorem rounds_alt {body : Code} {k : Nat} {ins : List Nat} {arg : Shape} {S T : Cut} (hS : RoundsOk P body k S) (hT : RoundsOk P body k T) : RoundsOk P body k (altCut ins arg S T) := by
  intro R env σ K r h
  have h : cond (fits ins arg env σ) (S.run env σ K) (T.run env σ K) = some r := h
  cases hf : fits ins arg env σ with
  | true => rw [hf] at h; exact hS R env σ K r h
  | false => rw [hf] at h; exact hT R env σ K r h
theorem rounds_none {body : Code} {k : Nat} {wr : Nat → Bool} {N : Nat} {ins : List Nat} {arg : Shape} {ws : List Way} {F : arg.C → Option (WayC ws)} (hF : ∀ x, F x = none) : RoundsOk P body k ⟨runCut wr N ins arg ws F⟩ := by
  intro R env σ K r h
  have h : runCut wr N ins arg ws F env σ K = some r := h
  unfold runCut at h
  dsimp only at h
  split at h
  · obtain ⟨x, _, h⟩ := bind_some h
    rw [hF] at h; cases h
  · cases h
/-- A loop's body, by the evaluator; 'S' is the loop behind it. -/
def roundS (C : Nat → Fun) (tt : Nat → TI) (H : Nat → Option Cut) (body : Code) (p N : Nat) (ins : List Nat) (arg : Shape) (ws : List Way) (S : Cut) (x : arg.C) : Option (WayC ws) :=
  vcode C tt H body p (envC N ins (encSls 0 arg.sl x.1)) (encSt true [] arg x) fun ex env σ => (match ex with
    | .normal => S.run env σ fun ex env σ => decWays arg.ob.length N ex env σ ws
    | ex => decWays arg.ob.length N ex env σ ws)
section
variable {C : Nat → Fun} {tt : Nat → TI}
theorem rounds_step (hC : ∀ f, SoundFn P f (C f)) (hT : TtOk P tt) (hD : DrawOk P C tt) {c0 : Code} {H : Nat → Option Cut} (hH : ∀ p S, H p = some S → ∀ c, At c0 p c → CutOk P c S) {body : Code} {p : Nat} (hc : At c0 p (.loop body)) {k : Nat} {S : Cut} (hS : RoundsOk P body k S) {N : Nat} {ins : List Nat} {arg : Shape} {ws : List Way} {F : arg.C → Option (WayC ws)}
    (hF : ∀ x y, F x = some y → roundS C tt H body (2 * p) N ins arg ws S x = some y) : RoundsOk P body (k + 1) ⟨runCut (wrC body) N ins arg ws F⟩ := by
  intro R env σ K r h
  refine cut_sound (W := fun Q a w => Code.rounds P body Q (k + 1) a w) (fun x y hxy => ?_) h
  have h1 := hF x y hxy
  unfold roundS at h1
  obtain ⟨ex, env1, σ1, h2, h3⟩ := vcode_sound hC hT hD hH body (2 * p) (.loop p body hc) _ _ _ _ h1
  cases ex with
  | normal =>
    dsimp only at h2
    obtain ⟨ex, env2, σ2, h4, h5⟩ := hS _ _ _ _ _ h2
    refine ⟨ex, env2, σ2, h4, fun g w a Q hst he hd hq => ?_⟩
    exact h3 g w a _ hst he hd fun g1 w1 a1 hu1 hst1 he1 hd1 hk1 => h5 g1 w1 a1 Q hst1 he1 hd1 fun g2 w2 a2 hu2 hst2 he2 hd2 hk2 => hq g2 w2 a2 (hu1.trans hu2) hst2 he2 hd2 fun i hi => (hk2 i hi).trans (hk1 i hi)
  | exit i => exact ⟨_, env1, σ1, h2, fun g w a Q hst he hd hq => h3 g w a _ hst he hd hq⟩
  | ret => exact ⟨_, env1, σ1, h2, fun g w a Q hst he hd hq => h3 g w a _ hst he hd hq⟩
theorem rounds_ok {body : Code} {k : Nat} {S : Cut} (hS : RoundsOk P body k S) : CutOk P (.loop body) S := by
  intro R env σ K r h
  obtain ⟨ex, env', σ', h1, h2⟩ := hS R env σ K r h
  exact ⟨ex, env', σ', h1, fun g w a Q hst he hd hq => wp_loop_rounds k (h2 g w a Q hst he hd hq)⟩
theorem addLoops {c0 : Code} {H : Nat → Option Cut} (hH : ∀ p S, H p = some S → ∀ c, At c0 p c → CutOk P c S) {p : Nat} (hl : isLoop (codeAt p c0 p) = true) {S : Nat → Cut}
    (hS : At c0 p (.loop (bodyOf (codeAt p c0 p))) → RoundsOk P (bodyOf (codeAt p c0 p)) 0 (S 0) ∧ ∀ k, RoundsOk P (bodyOf (codeAt p c0 p)) k (S k) → RoundsOk P (bodyOf (codeAt p c0 p)) (k + 1) (S (k + 1))) (k : Nat) :
    ∀ q T, addH H p (S k) q = some T → ∀ c, At c0 q c → CutOk P c T := by
  refine addH_ok hH fun c hc => ?_
  have e := (codeAt_eq hc).2 p (Nat.le_refl _)
  rw [e] at hS hl
  cases c with
  | loop body =>
    obtain ⟨h0, h1⟩ := hS hc
    have key : ∀ k, RoundsOk P body k (S k) := fun k => by
      induction k with
      | zero => exact h0
      | succ k ih => exact h1 k ih
    exact rounds_ok (key k)
  | _ => simp [isLoop] at hl
theorem addCut {c0 : Code} {H : Nat → Option Cut} (hH : ∀ p S, H p = some S → ∀ c, At c0 p c → CutOk P c S) {p : Nat} {S : Cut} (hS : At c0 p (codeAt p c0 p) → CutOk P (codeAt p c0 p) S) :
    ∀ q T, addH H p S q = some T → ∀ c, At c0 q c → CutOk P c T := by
  refine addH_ok hH fun c hc => ?_
  have e := (codeAt_eq hc).2 p (Nat.le_refl _)
  rw [e] at hS
  exact hS hc
end

/-! ### what a function without objects is handed -/
theorem args_quiet {g : Gh} {σ : St} {w : World} {sl : List Sl} {args : List V} {rvs : List Value} {wf : Bool} {ids : List Nat} {x : (Shape.mk sl []).C} (hq : sl.all quietSl = true) (h : decSh wf ⟨sl, []⟩ σ ids args = some x) (hargs : RelL g (Imm g w) args rvs) : RelL g (Imm g w) (encSls 0 sl x.1) rvs := by
  unfold decSh at h
  split at h
  · obtain ⟨z1, h10, h⟩ := bind_some h
    obtain ⟨z2, h11, h⟩ := bind_some h
    obtain rfl := Option.some.inj h
    exact decSls_quiet (g1 := ghP g ids) (g2 := g) (fun a u hu => ⟨hu.1, fun hb => hu.2 (ghP_bad.2 hb)⟩) sl _ z1 rvs 0 hq h10 (renL_rel (ghP_ren (w := w) (ids := ids)) hargs)
  · cases h
theorem relL_two {g : Gh} {I : Addr → Value → Prop} {a b : V} {l : List Value} (h : RelL g I [a, b] l) : ∃ x y, l = [x, y] ∧ RelV g I a x ∧ RelV g I b y := by
  match l, h with
  | [x, y], h => exact ⟨x, y, rfl, h.2 0 a x rfl rfl, h.2 1 b y rfl rfl⟩
  | [], h => have := h.1; simp at this
  | [_], h => have := h.1; simp at this
  | _ :: _ :: _ :: _, h => have := h.1; simp at this
end
end Go.Proofs.Yticelgnmcjkknaa.Vm
