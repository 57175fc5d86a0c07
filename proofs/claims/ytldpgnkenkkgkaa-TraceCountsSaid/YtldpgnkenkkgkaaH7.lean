/-
'awake': two steps are read.
-/
import Derived.Test.YtldpgnkenkkgkaaH6
import Derived.Test.YtldpgnkenkkgkaaPre
namespace Go.Proofs.Ytldpgnkenkkgkaa.G
open Go.RowKit Go.Proofs.YtldpgnkenkkgkaaW.PrintWords Go.Proofs.YtldpgnkenkkgkaaW.PrintLast Go.Proofs.YtldpgnkenkkgkaaW.PrintMore
set_option linter.unusedVariables false
set_option linter.unusedSimpArgs false

def fathomlaw04_awake.f : Option Bool := some true
def awakeText : List Int := [49, 32, 45, 50, 32, 48, 32, 100, 32, 49, 32, 48]
theorem awake_read : trace_Read.f awakeText = some ([⟨false, [1, -2]⟩, ⟨true, [1]⟩], 0, 0) := by kernel_rfl

set_option maxHeartbeats 4000000 in
set_option maxRecDepth 100000 in
theorem fathomlaw04_awake.calls (r : Bool) (w : World) (h : fathomlaw04_awake.f = some r) :
    Calls Try.prog 6 #[] w fun e w' => e = .returned (.bool r) ∧ Below w.heap.size w w' := by
  obtain rfl := Option.some.inj h
  have kc := fun (w : World) (C : Array Value) (n c : Nat) => Lib.run_convert_bytes_const (P := Try.prog) w 22 5 C n c Try.underlying22 Try.underlying5
  go_enter Try.func6, Try.ntmps6
  go_wp2_with (go_at_call 7; refine (trace_Read.calls _ 12 awakeText _ _ _ _ (C_row _ .u8 awakeText 5 _ (by decide)) (by decide) awake_read).mono ?_; rintro e w2 ⟨v, rfl, hS, hb⟩; obtain ⟨A, c, rfl, hc, hC⟩ := Kd.S_reads hS; obtain ⟨ad, A1, c1, rfl, x0, x1, hl1, hC1⟩ := at_T35 hC 0 (by decide) (by decide); obtain ⟨ad', A1', c1', e2, y0, y1, hl1', hC1'⟩ := at_T35 hC 1 (by decide) (by decide); cases e2; (rw [show ((0 : Int)).toNat * 2 = 0 from rfl, Addr.add_zero'] at x0 x1); have z0 : w2.cell? ad = some (.bool false) := x0; have z1 : w2.cell? ⟨ad.block, ad.off + 1, none⟩ = some (.slice A1 2 c1) := x1; have z2 : w2.cell? ⟨ad.block, ad.off + 2, none⟩ = some (.bool true) := y0; clear x0 x1 y0 y1; have HB := Aside0.mk (show Below w.heap.size w w2 from below_step (by repeat (first | exact Below.refl _ _ | apply below_alloc | apply pw_below_drewN)) hb); clear hb hS hC hC1 hC1')
  go_ret
  exact ⟨rfl, HB.out⟩

end Go.Proofs.Ytldpgnkenkkgkaa.G
