/-
A machine of values, part forty-one: a function of one row, told by a nil row and by one that is not.
-/
import Derived.Test.YticelgnmcjkknaaVm40
set_option linter.unusedVariables false
set_option linter.unusedSimpArgs false
namespace Go.Proofs.Yticelgnmcjkknaa.Vm
section
variable {P : Program}
abbrev shNil : Shape := ⟨[.nils], []⟩
abbrev shNn (T : Ty) : Shape := ⟨[.nn T], []⟩
abbrev shRow (T : Ty) : Shape := ⟨[.d (.slice T)], []⟩
theorem decObs_nil {wf : Bool} {toks : List Nat} {l : List Ob} {y : ObsC []} (h : decObs wf toks [] l = some y) : l = [] := by
  cases l with
  | nil => rfl
  | cons a l => simp [decObs] at h
theorem decSh_row {wf : Bool} {T : Ty} {σ : St} {args : List V} {x : (shRow T).C} (h : decSh wf (shRow T) σ (List.range σ.objs.length) args = some x) :
    σ.objs = [] ∧ ∃ v, args = [v] ∧ asD (.slice T) (v.ren (idx []) tid) some = some x.1.1 := by
  unfold decSh at h
  split at h
  · obtain ⟨x1, h1, h⟩ := bind_some h
    obtain ⟨x2, h2, h⟩ := bind_some h
    obtain rfl := Option.some.inj h
    have h3 := decObs_nil h2
    have h4 : σ.objs = [] := by
      have : (pickObs σ (List.range σ.objs.length)).length = σ.objs.length := by simp [pickObs]
      rw [h3] at this
      exact List.length_eq_zero_iff.1 this.symm
    refine ⟨h4, ?_⟩
    rw [h4] at h1
    cases args with
    | nil => simp [V.renL, decSls] at h1
    | cons v vs =>
      cases vs with
      | nil =>
        refine ⟨v, rfl, ?_⟩
        simp only [V.renL, decSls] at h1
        obtain ⟨y1, h5, h6⟩ := bind_some h1
        obtain ⟨y2, _, h7⟩ := bind_some h6
        obtain rfl := Option.some.inj h7
        exact h5
      | cons u us =>
        simp only [V.renL, decSls] at h1
        obtain ⟨y1, _, h6⟩ := bind_some h1
        obtain ⟨y2, h8, _⟩ := bind_some h6
        simp [decSls] at h8
  · cases h
theorem row_cases {g : Gh} {I J : Addr → Value → Prop} {T : Ty} {v : V} {xs : List T.D} {ρ : Nat → Option Nat} {τ : Nat → Nat → Tag} (h : asD (.slice T) (v.ren ρ τ) some = some xs) {rv : Value} (hv : RelV g I v rv) : (RelV g I .nils rv ∧ xs = []) ∨ RelV g I (.row T xs .nn) rv := by
  have hv2 : asD (.slice T) v some = some xs := by
    cases v with
    | row t ys tag => cases tag <;> exact h
    | nils => exact h
    | dat t x => exact h
    | ptr i o => simp only [V.ren] at h; split at h <;> simp [asD, asD0] at h
    | pel i t o => simp only [V.ren] at h; split at h <;> simp [asD, asD0] at h
    | pin i t m a b => simp only [V.ren] at h; split at h <;> simp [asD, asD0] at h
    | prd t x => simp [V.ren, asD, asD0] at h
    | nilp => simp [V.ren, asD, asD0] at h
    | msl i t a b => simp only [V.ren] at h; split at h <;> simp [asD, asD0] at h
    | mp i => simp only [V.ren] at h; split at h <;> simp [asD, asD0] at h
    | nilm => simp [V.ren, asD, asD0] at h
    | fn f cap => simp [V.ren, asD, asD0] at h
    | bfn f cap => simp [V.ren, asD, asD0] at h
    | nilf => simp [V.ren, asD, asD0] at h
    | tup vs => simp [V.ren, asD, asD0] at h
    | mix vs => simp [V.ren, asD, aggT] at h
    | undef => simp [V.ren, asD, asD0] at h
  obtain ⟨y, h1, h2⟩ := asD_sound hv2
  obtain rfl := Option.some.inj h1
  have h3 := h2 g I rv hv
  rcases h3 with ⟨ha, _⟩ | ⟨_, hrd⟩
  · simp [aggT] at ha
  · obtain ⟨A, c, f, h4, _⟩ := hrd.inv
    obtain rfl : rv = .slice A _ c := by simpa using h4
    cases A with
    | none =>
      obtain ⟨e1, e2, e3⟩ := hrd.nilc
      have e3 : y = [] := e3
      subst e2
      rw [e1]
      exact .inl ⟨.nils, e3⟩
    | some ad => exact .inr (.row _ _ _ _ _ _ hrd rfl)
theorem split_core {f : Nat} {T : Ty} {ro : Bool} {G1 G2 G : Fs} {Y : Type}
    (hG : ∀ (R : Type) (args : List V) (σ : St) (K : V → St → Option R) (r : R), G args σ K = some r → σ.objs = [] ∧ ∃ v xs σ' u, args = [v] ∧ asD (.slice T) (v.ren (idx []) tid) some = some xs ∧ K u σ' = some r ∧
      (G2 [.row T xs .nn] σ fun a b => some (a, b)) = some (u, σ') ∧ (xs = [] → (G1 [.nils] σ fun a b => some (a, b)) = some (u, σ')))
    (h1 : SoundFn P f ⟨ro, G1⟩) (h2 : SoundFn P f ⟨ro, G2⟩) : SoundFn P f ⟨ro, G⟩ := by
  intro R args σ K r h
  obtain ⟨h0, v, xs, σ', u, rfl, hv, hk, k2, k1⟩ := hG R args σ K r h
  obtain ⟨v2, s2, e2, hent, run2⟩ := h2 _ _ _ _ _ k2
  obtain ⟨rfl, rfl⟩ : v2 = u ∧ s2 = σ' := by simpa using e2
  refine ⟨v2, s2, hk, hent, fun g w rargs hro hst hargs => ?_⟩
  have hrv : ∃ rv, rargs.toList = [rv] ∧ RelV g (Imm g w) v rv := by
    have hl := hargs.1
    cases hra : rargs.toList with
    | nil => rw [hra] at hl; simp at hl
    | cons a l =>
      cases l with
      | nil => exact ⟨a, rfl, hargs.2 0 v a rfl (by rw [hra]; rfl)⟩
      | cons b l => rw [hra] at hl; simp at hl
  obtain ⟨rv, e, hrv⟩ := hrv
  rcases row_cases (J := Imm g w) hv hrv with ⟨hn, hx⟩ | hr
  · obtain ⟨v1, s1, e1, _, run1⟩ := h1 _ _ _ _ _ (k1 hx)
    obtain ⟨rfl, rfl⟩ : v1 = v2 ∧ s1 = s2 := by simpa using e1
    exact run1 g w rargs hro hst (by rw [e]; exact RelL.cons hn relL_nil)
  · exact run2 g w rargs hro hst (by rw [e]; exact RelL.cons hr relL_nil)
theorem decSh_nn {wf : Bool} {T : Ty} {σ : St} (h : σ.objs = []) (xs : List T.D) : decSh wf (shNn T) σ (List.range σ.objs.length) [.row T xs .nn] = some ((xs, ()), ()) := by
  rw [h]
  simp [decSh, toksOf, tokSls, tokSl, tokObs, pickObs, nodupB, V.renL, V.ren, decSls, decSl, decNn, decObs]; rfl
theorem decSh_nils {wf : Bool} {σ : St} (h : σ.objs = []) : decSh wf shNil σ (List.range σ.objs.length) [.nils] = some (((), ()), ()) := by
  rw [h]
  simp [decSh, toksOf, tokSls, tokSl, tokObs, pickObs, nodupB, V.renL, V.ren, decSls, decSl, decObs]; rfl
theorem runW_nn {R : Type} {T : Ty} {outs : List Shape} {F2 : (shNn T).C → Option (OutC outs)} {σ : St} {K : V → St → Option R} (h0 : σ.objs = []) (xs : List T.D) {y : OutC outs} (hk : F2 ((xs, ()), ()) = some y) : runW (shNn T) outs F2 [.row T xs .nn] σ K = unpack (σ.toks.map (· + 1)) outs y K := by
  show (decSh true (shNn T) σ (List.range σ.objs.length) [.row T xs .nn]).bind _ = _
  rw [decSh_nn h0 xs]
  show (F2 ((xs, ()), ())).bind _ = _
  rw [hk]; rfl
theorem runW_nils {R : Type} {outs : List Shape} {F1 : shNil.C → Option (OutC outs)} {σ : St} {K : V → St → Option R} (h0 : σ.objs = []) {y : OutC outs} (hk : F1 (((), ()), ()) = some y) : runW shNil outs F1 [.nils] σ K = unpack (σ.toks.map (· + 1)) outs y K := by
  show (decSh true shNil σ (List.range σ.objs.length) [.nils]).bind _ = _
  rw [decSh_nils h0]
  show (F1 (((), ()), ())).bind _ = _
  rw [hk]; rfl
theorem runR_nn {R : Type} {T : Ty} {outs : List Shape} {F2 : (shNn T).C → Option (OutC outs)} {σ : St} {K : V → St → Option R} (h0 : σ.objs = []) (xs : List T.D) {y : OutC outs} (hk : F2 ((xs, ()), ()) = some y) : runR (shNn T) outs F2 [.row T xs .nn] σ K = unpackR outs y fun v => K v σ := by
  show (decSh false (shNn T) σ (List.range σ.objs.length) [.row T xs .nn]).bind _ = _
  rw [decSh_nn h0 xs]
  show (F2 ((xs, ()), ())).bind _ = _
  rw [hk]; rfl
theorem runR_nils {R : Type} {outs : List Shape} {F1 : shNil.C → Option (OutC outs)} {σ : St} {K : V → St → Option R} (h0 : σ.objs = []) {y : OutC outs} (hk : F1 (((), ()), ()) = some y) : runR shNil outs F1 [.nils] σ K = unpackR outs y fun v => K v σ := by
  show (decSh false shNil σ (List.range σ.objs.length) [.nils]).bind _ = _
  rw [decSh_nils h0]
  show (F1 (((), ()), ())).bind _ = _
  rw [hk]; rfl
theorem splitW {f : Nat} {T : Ty} {outs : List Shape} {F1 : shNil.C → Option (OutC outs)} {F2 : (shNn T).C → Option (OutC outs)} {F : (shRow T).C → Option (OutC outs)}
    (h1 : SoundFn P f ⟨false, runW shNil outs F1⟩) (h2 : SoundFn P f ⟨false, runW (shNn T) outs F2⟩)
    (hF : ∀ (xs : List T.D) y, F ((xs, ()), ()) = some y → F2 ((xs, ()), ()) = some y ∧ (xs = [] → F1 (((), ()), ()) = some y)) : SoundFn P f ⟨false, runW (shRow T) outs F⟩ := by
  refine split_core (T := T) (Y := Unit) (fun R args σ K r h => ?_) h1 h2
  have h : (decSh true (shRow T) σ (List.range σ.objs.length) args).bind (fun x => (F x).bind fun y => unpack (σ.toks.map (· + 1)) outs y K) = some r := h
  obtain ⟨x, hx, h⟩ := bind_some h
  obtain ⟨y, hy, h⟩ := bind_some h
  obtain ⟨v, σ', hk, huniq⟩ := unpack_some outs y h
  obtain ⟨h0, v0, rfl, hv⟩ := decSh_row hx
  obtain ⟨⟨xs, u1⟩, u2⟩ := x
  obtain ⟨k2, k1⟩ := hF xs y hy
  refine ⟨h0, v0, xs, σ', v, rfl, hv, hk, ?_, fun hxs => ?_⟩
  · exact (runW_nn h0 xs k2).trans (huniq _ _)
  · exact (runW_nils h0 (k1 hxs)).trans (huniq _ _)
theorem splitR {f : Nat} {T : Ty} {outs : List Shape} {F1 : shNil.C → Option (OutC outs)} {F2 : (shNn T).C → Option (OutC outs)} {F : (shRow T).C → Option (OutC outs)}
    (h1 : SoundFn P f ⟨true, runR shNil outs F1⟩) (h2 : SoundFn P f ⟨true, runR (shNn T) outs F2⟩)
    (hF : ∀ (xs : List T.D) y, F ((xs, ()), ()) = some y → F2 ((xs, ()), ()) = some y ∧ (xs = [] → F1 (((), ()), ()) = some y)) : SoundFn P f ⟨true, runR (shRow T) outs F⟩ := by
  refine split_core (T := T) (Y := Unit) (fun R args σ K r h => ?_) h1 h2
  have h : (decSh false (shRow T) σ (List.range σ.objs.length) args).bind (fun x => (F x).bind fun y => unpackR outs y fun v => K v σ) = some r := h
  obtain ⟨x, hx, h⟩ := bind_some h
  obtain ⟨y, hy, h⟩ := bind_some h
  obtain ⟨v, hk, huniq⟩ := unpackR_some outs y h
  obtain ⟨h0, v0, rfl, hv⟩ := decSh_row hx
  obtain ⟨⟨xs, u1⟩, u2⟩ := x
  obtain ⟨k2, k1⟩ := hF xs y hy
  refine ⟨h0, v0, xs, σ, v, rfl, hv, hk, ?_, fun hxs => ?_⟩
  · exact (runR_nn h0 xs k2).trans (huniq _ _)
  · exact (runR_nils h0 (k1 hxs)).trans (huniq _ _)
/-- A mark: the callee of that number is handed what its arguments own. -/
def ownF : Fun := ⟨false, fun _ _ _ => none⟩
theorem ownF_ok {P : Program} {f : Nat} : SoundFn P f ownF := fun R args σ K r h => by cases h
end
end Go.Proofs.Yticelgnmcjkknaa.Vm
