/-
A machine of values, part thirty-nine: words for the printed functions; pieces, loops, callees put together.
-/
import Derived.Test.YticelgnmcjkknaaVm38
set_option linter.unusedVariables false
set_option linter.unusedSimpArgs false
namespace Go.Proofs.Yticelgnmcjkknaa.Vm
section
variable {P : Program} {R : Type}

/-! ### words -/
abbrev w64 (n : Int) : Int := IntKind.i64.wrap n
/-- Only if that is so. -/
def gd (b : Bool) (o : Option R) : Option R := cond b o none
def ix {A : Type} (xs : List A) (n : Int) (K : A → Option R) : Option R := cond (decide (0 ≤ n)) ((xs[n.toNat]?).bind K) none
def ixs (s : ByteArray) (n : Int) (K : Int → Option R) : Option R := cond (decide (0 ≤ n)) ((s.data.toList[n.toNat]?).bind fun c => K (c.toNat : Int)) none
def bd (f : Func) : Code := f.body.getD .skip
def bodyOf : Code → Code
  | .loop a => a
  | c => c
def isLoop : Code → Bool
  | .loop _ => true
  | _ => false

/-! ### callees -/
/-- Two versions of one function: the first one, where its arguments fit. -/
def altF (arg : Shape) (w : Bool) (F G : Fun) : Fun := ⟨F.ro, fun args σ K => cond (decSh w arg σ (List.range σ.objs.length) args).isSome (F.run args σ K) (G.run args σ K)⟩
theorem altF_ok {f : Nat} {arg : Shape} {w : Bool} {F G : Fun} (hF : SoundFn P f F) (hG : SoundFn P f G) (h : F.ro = G.ro) : SoundFn P f (altF arg w F G) := by
  intro R args σ K r hk
  have hk : cond (decSh w arg σ (List.range σ.objs.length) args).isSome (F.run args σ K) (G.run args σ K) = some r := hk
  cases hc : (decSh w arg σ (List.range σ.objs.length) args).isSome with
  | true => rw [hc] at hk; exact hF R args σ K r hk
  | false =>
    rw [hc] at hk
    obtain ⟨v, σ', h1, h2, h3⟩ := hG R args σ K r hk
    exact ⟨v, σ', h1, h2, fun g w rargs hro hst ha => h3 g w rargs (fun e => hro (show F.ro = true from h.trans e)) hst ha⟩
theorem mkC_nil : ∀ f, SoundFn P f (mkC [] f) := fun f => none_ok f
theorem mkC_cons {f : Nat} {F : Fun} {l : List (Nat × Fun)} (h : SoundFn P f F) (hl : ∀ g, SoundFn P g (mkC l g)) : ∀ g, SoundFn P g (mkC ((f, F) :: l) g) := by
  intro g
  unfold mkC
  cases hp : f == g with
  | true => rw [beq_iff_eq] at hp; subst hp; exact h
  | false => exact hl g
theorem noneW_ok {f : Nat} {arg : Shape} {outs : List Shape} {F : arg.C → Option (OutC outs)} (h : ∀ x, F x = none) : SoundFn P f ⟨false, runW arg outs F⟩ := by
  intro R args σ K r hk
  have hk : (decSh true arg σ (List.range σ.objs.length) args).bind (fun x => (F x).bind fun y => unpack (σ.toks.map (· + 1)) outs y K) = some r := hk
  obtain ⟨x, _, hk⟩ := bind_some hk
  rw [h] at hk; cases hk
theorem noneR_ok {f : Nat} {arg : Shape} {outs : List Shape} {F : arg.C → Option (OutC outs)} (h : ∀ x, F x = none) : SoundFn P f ⟨true, runR arg outs F⟩ := by
  intro R args σ K r hk
  have hk : (decSh false arg σ (List.range σ.objs.length) args).bind (fun x => (F x).bind fun y => unpackR outs y fun v => K v σ) = some r := hk
  obtain ⟨x, _, hk⟩ := bind_some hk
  rw [h] at hk; cases hk
theorem entry {f : Nat} {fn : Func} {c : Code} (h : P.funcs[f]? = some fn) (hb : fn.body = some c) (hn : fn.name ≠ "runtime.NumGoroutine") : Entry P f := by
  intro args w
  simp [callFunc, h, hb, hn]

/-! ### hints -/
section
variable {C : Nat → Fun} {tt : Nat → TI}
theorem addPiece (hC : ∀ f, SoundFn P f (C f)) (hT : TtOk P tt) (hD : DrawOk P C tt) {c0 : Code} {H : Nat → Option Cut} (hH : ∀ p S, H p = some S → ∀ c, At c0 p c → CutOk P c S) {p N : Nat} {ins : List Nat} {arg : Shape} {ws : List Way} {F : arg.C → Option (WayC ws)}
    (hF : ∀ x y, F x = some y → pieceF C tt H (codeAt p c0 p) p N ins arg ws x = some y) :
    ∀ q T, addH H p ⟨runCut (wrC (codeAt p c0 p)) N ins arg ws F⟩ q = some T → ∀ c, At c0 q c → CutOk P c T := by
  refine addH_ok hH fun c hc => ?_
  have e := (codeAt_eq hc).2 p (Nat.le_refl _)
  rw [e] at hF ⊢
  exact piece_ok hC hT hD hH hc hF
theorem addLoop (hC : ∀ f, SoundFn P f (C f)) (hT : TtOk P tt) (hD : DrawOk P C tt) {c0 : Code} {H : Nat → Option Cut} (hH : ∀ p S, H p = some S → ∀ c, At c0 p c → CutOk P c S) {p N : Nat} {ins : List Nat} {arg : Shape} {ws : List Way} (hl : isLoop (codeAt p c0 p) = true) {F : Nat → arg.C → Option (WayC ws)}
    (h0 : ∀ x, F 0 x = none) (hF : ∀ k x y, F (k + 1) x = some y → roundF C tt H (bodyOf (codeAt p c0 p)) (2 * p) N ins arg ws (F k) x = some y) (k : Nat) :
    ∀ q T, addH H p ⟨runCut (wrC (bodyOf (codeAt p c0 p))) N ins arg ws (F k)⟩ q = some T → ∀ c, At c0 q c → CutOk P c T := by
  refine addH_ok hH fun c hc => ?_
  have e := (codeAt_eq hc).2 p (Nat.le_refl _)
  rw [e] at hF hl ⊢
  cases c with
  | loop body => exact loop_ok hC hT hD hH hc h0 hF k
  | _ => simp [isLoop] at hl
end
end
end Go.Proofs.Yticelgnmcjkknaa.Vm
