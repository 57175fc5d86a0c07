/-
A machine of values, part thirty-four: functions told by contents: those that turn nothing.
-/
import Derived.Test.YticelgnmcjkknaaVm33
set_option linter.unusedVariables false
set_option linter.unusedSimpArgs false
namespace Go.Proofs.Yticelgnmcjkknaa.Vm
open Go.RowKit (Below)
section
variable {P : Program} {R : Type}

/-- Slots that name no place. -/
def quietSl : Sl → Bool
  | .d _ | .nilp | .nilm | .nils | .any => true
  | _ => false
def quietSh (s : Shape) : Bool := s.sl.all quietSl
def unpackR : (l : List Shape) → OutC l → (V → Option R) → Option R
  | [s], y, K => K (joinV (encSls 0 s.sl y.1))
  | s :: t :: r, y, K => Sum.elim (fun y => K (joinV (encSls 0 s.sl y.1))) (fun y => unpackR (t :: r) y K) (show s.C ⊕ OutC (t :: r) from y)
def runR (arg : Shape) (outs : List Shape) (F : arg.C → Option (OutC outs)) : Fs := fun args σ K =>
  (decSh false arg σ (List.range σ.objs.length) args).bind fun x => (F x).bind fun y => unpackR outs y fun v => K v σ
def bodyR (C : Nat → Fun) (tt : Nat → TI) (H : Nat → Option Cut) (fn : Func) (arg : Shape) (outs : List Shape) (x : arg.C) : Option (OutC outs) :=
  vbody C tt H fn (encSls 0 arg.sl x.1) (encSt false [] arg x) fun v σ => (splitV (arity outs) v).bind fun vs => packOut false 0 outs vs σ
theorem decSls_quiet {g1 g2 : Gh} {I J : Addr → Value → Prop} (hI : ∀ a v, I a v → J a v) {toks : List Nat} : ∀ (l : List Sl) (vs : List V) (x : SlsC l) (rvs : List Value) (q : Nat), l.all quietSl = true → decSls toks l vs = some x → RelL g1 I vs rvs → RelL g2 J (encSls q l x) rvs
  | [], [], x, rvs, q, _, h, hr => by
    cases rvs with
    | nil => exact ⟨rfl, fun i v rv hv => by simp [encSls] at hv⟩
    | cons => have := hr.1; cases this
  | [], v :: vs, x, rvs, q, _, h, hr => by simp [decSls] at h
  | s :: l, [], x, rvs, q, _, h, hr => by simp [decSls] at h
  | s :: l, v :: vs, x, rvs, q, hq, h, hr => by
    cases rvs with
    | nil => have := hr.1; cases this
    | cons rv rvs =>
      obtain ⟨hv, hr⟩ := hr.tail
      simp only [decSls] at h
      obtain ⟨x1, h1, h⟩ := bind_some h
      obtain ⟨x2, h2, h⟩ := bind_some h
      obtain rfl := Option.some.inj h
      simp only [List.all_cons, Bool.and_eq_true] at hq
      refine RelL.cons ?_ (decSls_quiet hI l vs x2 rvs (q + s.owns) hq.2 h2 hr)
      cases s with
      | d t =>
        obtain ⟨y, h3, h4⟩ := asD_sound h1
        have e4 : y = x1 := Option.some.inj h3
        rw [e4] at h4
        exact relV_dv ((h4 g1 I rv hv).mono hI)
      | nilp =>
        cases v with
        | nilp => cases hv; exact .nilp
        | _ => simp [decSl] at h1
      | nilm =>
        cases v with
        | nilm => cases hv; exact .nilm
        | _ => simp [decSl] at h1
      | nils =>
        cases v with
        | nils => cases hv; exact .nils
        | _ => simp [decSl] at h1
      | any => exact .undef _
      | _ => simp [quietSl] at hq
theorem decOutsR_some {wf : Bool} {σ : St} {ids : List Nat} {vs : List V} {K : V → Option R} {r : R} : ∀ (l : List Shape) (y : OutC l), decOuts wf σ ids vs l = some y → unpackR l y K = some r → ∃ (s : Shape) (z : s.C), s ∈ l ∧ decSh wf s σ ids vs = some z ∧ K (joinV (encSls 0 s.sl z.1)) = some r
  | [], y, h, _ => by cases y
  | [s], y, h, hk => ⟨s, y, List.mem_singleton.2 rfl, h, hk⟩
  | s :: t :: l, y, h, hk => by
    simp only [decOuts] at h
    split at h
    · rename_i x hx
      obtain rfl := Option.some.inj h
      exact ⟨s, x, List.mem_cons_self .., hx, hk⟩
    · cases hd : decOuts wf σ ids vs (t :: l) with
      | none => rw [hd] at h; cases h
      | some z =>
        rw [hd] at h
        obtain rfl := Option.some.inj h
        obtain ⟨s', z', h1, h2⟩ := decOutsR_some (t :: l) z hd hk
        exact ⟨s', z', List.mem_cons_of_mem _ h1, h2⟩
theorem unpackR_some {K : V → Option R} {r : R} : ∀ (l : List Shape) (y : OutC l), unpackR l y K = some r → ∃ v, K v = some r ∧ ∀ (R' : Type) (K' : V → Option R'), unpackR l y K' = K' v
  | [], y, _ => by cases y
  | [s], y, hk => ⟨_, hk, fun _ _ => rfl⟩
  | s :: t :: l, .inl y, hk => ⟨_, hk, fun _ _ => rfl⟩
  | s :: t :: l, .inr y, hk => unpackR_some (t :: l) y hk
theorem fnR_sound {C : Nat → Fun} {tt : Nat → TI} (hC : ∀ f, SoundFn P f (C f)) (hT : TtOk P tt) (hD : DrawOk P C tt) {f : Nat} {fn : Func} {c0 : Code} (hf : P.funcs[f]? = some fn) (hb : fn.body = some c0) (hent : Entry P f) {H : Nat → Option Cut} (hH : ∀ p S, H p = some S → ∀ c, At c0 p c → CutOk P c S)
    {arg : Shape} {outs : List Shape} (hq : outs.all quietSh = true) {F : arg.C → Option (OutC outs)} (hF : ∀ x y, F x = some y → bodyR C tt H fn arg outs x = some y) : SoundFn P f ⟨true, runR arg outs F⟩ := by
  intro R args σ K r h
  have h : (decSh false arg σ (List.range σ.objs.length) args).bind (fun x => (F x).bind fun y => unpackR outs y fun v => K v σ) = some r := h
  obtain ⟨x, hx, h⟩ := bind_some h
  obtain ⟨y, hy, h⟩ := bind_some h
  obtain ⟨v, hk, huniq⟩ := unpackR_some outs y h
  refine ⟨v, σ, hk, hent, fun g w rargs hro hst hargs => ?_⟩
  obtain ⟨hro1, hro2⟩ := hro rfl
  have hwb : ∀ b, ¬ WB g b := by
    rintro b (⟨i, hi⟩ | ⟨i, ver, lo, hi, ht⟩)
    · exact hro2 i b hi
    · rw [hro1] at ht; simp at ht
  have hbody := hF x y hy
  unfold bodyR at hbody
  obtain ⟨v0, σ0, h1, h2⟩ := vbody_sound hC hT hD hf hb hH hbody
  obtain ⟨vs, h3, h4⟩ := bind_some h1
  generalize hTT : toksOf arg (V.renL (idx (List.range σ.objs.length)) tid args) (pickObs σ (List.range σ.objs.length)) = T
  obtain ⟨fr1, hfr⟩ : ∃ fr1 : Addr → Prop, ∀ a, fr1 a ↔ Bad g a ∧ ¬ Wr (ghK g (List.range σ.objs.length) T [] fr1) a := ⟨fun a => Bad g a ∧ ¬ Wr (ghK g (List.range σ.objs.length) T [] fun _ => False) a, fun a => Iff.rfl⟩
  obtain ⟨k1, k2⟩ := pick (T := T) (pre := []) (fr := fr1) hst List.nodup_range hargs hx (fun a ha => ((hfr a).1 ha).1) hTT.symm fun k i ver b lo hi hTk ht a ha h5 h6 hfa => by
    refine ((hfr a).1 hfa).2 (.inr ⟨k, 0, lo, hi, ?_, h5, h6⟩)
    have := ghK_tok (g := g) (ids := List.range σ.objs.length) (pre := []) (fr := fr1) hTk
    rw [List.length_nil, Nat.zero_add] at this
    rw [this, ha]; simp [regOf, ht]
  refine (h2 _ w rargs k1 k2).mono fun e w' he => ?_
  obtain ⟨rv, g3, h5, hu, h6, h7⟩ := he
  obtain ⟨hvl, rvs, hrl, hrv⟩ := splitV_rel h3 h6
  have hbl : Below w.heap.size w w' := ⟨hu.os, hu.tape, hu.output, hu.size, fun b hb => hu.keep b hb fun hc => hwb b (ghK_wb hc)⟩
  unfold packOut at h4
  split at h4
  · rename_i hlive
    obtain ⟨s, z, hmem, h8, h9⟩ := decOutsR_some (K := fun a => some a) outs y h4 (huniq _ _)
    simp only [Option.some.injEq] at h9
    subst h9
    have hqs : quietSh s = true := List.all_eq_true.1 hq s hmem
    unfold decSh at h8
    split at h8
    · obtain ⟨z1, h10, h8⟩ := bind_some h8
      obtain ⟨z2, h11, h8⟩ := bind_some h8
      obtain rfl := Option.some.inj h8
      have hrl' := renL_rel (ghP_ren (w := w') (ids := outIds 0 σ0 vs)) hrl
      have hI : ∀ a u, Imm (ghP g3 (outIds 0 σ0 vs)) w' a u → Imm g w' a u := fun a u h => ⟨h.1, fun hb => h.2 (ghP_bad.2 (by
        rcases hb with hb | hb
        · exact absurd (wr_wb hb) (hwb _)
        · exact fr_bad hst hfr hu a hb))⟩
      have hfin := decSls_quiet (g2 := g) hI s.sl _ z1 rvs 0 hqs h10 hrl'
      refine ⟨rv, g, h5, .of_below hbl, joinV_rel (n := arity outs) ?_ hfin hrv, hst.below hbl⟩
      rw [encSls_len]
      have := hfin.1
      rw [encSls_len] at this
      rw [← this, hrl.1, hvl]
    · cases h8
  · cases h4
end
end Go.Proofs.Yticelgnmcjkknaa.Vm
