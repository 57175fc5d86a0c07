/-
A machine of values, part forty-four: a function that turns nothing, shown by hand.
-/
import Derived.Test.YtnkjnbfaechiaaaVm43
set_option linter.unusedVariables false
set_option linter.unusedSimpArgs false
namespace Go.Proofs.Ytnkjnbfaechiaaa.Vm
open Go.RowKit (Below)
section
variable {P : Program}
theorem fnR_raw {f : Nat} (hent : Entry P f) {arg : Shape} {outs : List Shape} (hqa : quietSh arg = true) {F : arg.C → Option (OutC outs)} (hF : ∀ x y, F x = some y → ∃ v, (∀ (R : Type) (K : V → Option R), unpackR outs y K = K v) ∧
    ∀ (g : Gh) (σ : St) (w : World) (rargs : Array Value), RelSt g σ w → RelL g (Imm g w) (encSls 0 arg.sl x.1) rargs.toList → Calls P f rargs w fun e w' => ∃ rv, e = .returned rv ∧ Below w.heap.size w w' ∧ RelV g (Imm g w') v rv) : SoundFn P f ⟨true, runR arg outs F⟩ := by
  intro R args σ K r h
  have h : (decSh false arg σ (List.range σ.objs.length) args).bind (fun x => (F x).bind fun y => unpackR outs y fun v => K v σ) = some r := h
  obtain ⟨x, hx, h⟩ := bind_some h
  obtain ⟨y, hy, h⟩ := bind_some h
  obtain ⟨v, hv, hwalk⟩ := hF x y hy
  rw [hv] at h
  refine ⟨v, σ, h, hent, fun g w rargs hro hst hargs => ?_⟩
  unfold decSh at hx
  split at hx
  · obtain ⟨z1, h10, hx⟩ := bind_some hx
    obtain ⟨z2, h11, hx⟩ := bind_some hx
    obtain rfl := Option.some.inj hx
    have hrl' := renL_rel (ghP_ren (w := w) (ids := List.range σ.objs.length)) hargs
    have hI : ∀ a u, Imm (ghP g (List.range σ.objs.length)) w a u → Imm g w a u := fun a u h => ⟨h.1, fun hb => h.2 (ghP_bad.2 hb)⟩
    have hfin := decSls_quiet (g2 := g) hI arg.sl _ z1 rargs.toList 0 hqa h10 hrl'
    refine (hwalk g σ w rargs hst hfin).mono fun e w' he => ?_
    obtain ⟨rv, h5, hbl, hrv⟩ := he
    exact ⟨rv, g, h5, .of_below hbl, hrv, hst.below hbl⟩
  · cases hx
/-- A call of a function that turns nothing, at data. -/
theorem callR_of {f : Nat} {arg : Shape} {outs : List Shape} {F : arg.C → Option (OutC outs)} (hs : SoundFn P f ⟨true, runR arg outs F⟩) {x : arg.C} {y : OutC outs} {v : V} (hF : F x = some y) {w : World} (hg : needG = true → ∃ m : Int, w.cell? ⟨0, 0, none⟩ = some (.int .i64 m)) {vs : List V} {args : Array Value} (hx : decSh false arg ⟨[], []⟩ [] vs = some x)
    (hy : unpackR outs y (fun v => some v) = some v) (hl : RelL gh0 (Imm gh0 w) vs args.toList) : Calls P f args w fun e w' => ∃ rv g', e = .returned rv ∧ Below w.heap.size w w' ∧ RelV g' (Imm g' w') v rv := by
  have hrun := runR_of hx hF hy
  obtain ⟨v', σ', h1, _, h2⟩ := hs V vs ⟨[], []⟩ (fun v _ => some v) v hrun
  obtain rfl := Option.some.inj h1
  refine (h2 gh0 w args (fun _ => ⟨rfl, fun i b h => by simp [gh0] at h⟩) (st0 hg) hl).mono fun e W' he => ?_
  obtain ⟨rv, g', rfl, hu, h3, _⟩ := he
  refine ⟨rv, g', rfl, ⟨hu.os, hu.tape, hu.output, hu.size, fun k hk => hu.keep k hk ?_⟩, h3⟩
  rintro (⟨i, hi⟩ | ⟨i, _, _, _, hi⟩) <;> simp [gh0] at hi
end
end Go.Proofs.Ytnkjnbfaechiaaa.Vm
