/-
The constant of so many bits, given: what is handed back is an array of its own.
-/
import Derived.Test.YtepfhidiahleiaaVm43
import Derived.Test.YtepfhidiahleiaaConst
set_option linter.unusedVariables false
set_option maxRecDepth 100000
namespace Go.Proofs.Ytepfhidiahleiaa.M
open Go Go.Proofs Go.Proofs.Ytepfhidiahleiaa.Vm
noncomputable def a29o : Shape := ⟨[.d i64, .d i64], []⟩
noncomputable def o29o : List Shape := [⟨[.msl 0 i64], [.arr none i64]⟩]
abbrev R29o : Type := ((Nat × Unit) × ((List Int) × Unit))
abbrev T29o : Type := Int → Int → Option R29o
noncomputable def u29o (f : T29o) : (a29o).C → Option (OutC o29o) := fun (x : ((Int × Int × Unit) × Unit)) => f x.1.1 x.1.2.1
noncomputable def F29o (f : T29o) : Fun := ⟨false, runW a29o o29o (u29o f)⟩
def constL (n : Int) (m : Nat) : List Int := (List.range m).map (cbit n)
noncomputable def f29o (k : Nat) : T29o := fun n m => cond (decide (1 ≤ m) && decide (m ≤ 16)) (some ((m.toNat, ()), (constL n m.toNat, ()))) none
theorem s29o (k : Nat) : SoundFn Try.prog 29 (F29o (f29o k)) := by
  refine fnW_raw (entry Try.func29 rfl (by decide)) fun (x : ((Int × Int × Unit) × Unit)) y hy => ?_
  obtain ⟨⟨n, m, ⟨⟩⟩, ⟨⟩⟩ := x
  have hy : cond (decide (1 ≤ m) && decide (m ≤ 16)) (some (((m.toNat, ()), (constL n m.toNat, ())) : R29o)) none = some y := hy
  cases hc : decide (1 ≤ m) && decide (m ≤ 16) with
  | false => rw [hc] at hy; cases hy
  | true =>
    rw [hc] at hy
    obtain rfl := Option.some.inj hy
    obtain ⟨h1, h2⟩ := Bool.and_eq_true_iff.1 hc
    have h1 := of_decide_eq_true h1
    have h2 := of_decide_eq_true h2
    obtain ⟨q, rfl⟩ : ∃ q : Nat, m = (q : Int) := ⟨m.toNat, by omega⟩
    refine ⟨.msl 0 i64 0 q, ⟨[.arr true none i64 (constL n q)], []⟩, rfl, fun g w rargs hst hargs => ?_⟩
    obtain ⟨v1, v2, h3, h4, h5⟩ := relL_two (a := .dat i64 n) (b := .dat i64 (q : Int)) hargs
    obtain rfl := relV_int h4
    obtain rfl := relV_int h5
    obtain ⟨rargs⟩ := rargs
    have h3 : rargs = _ := h3
    subst h3
    refine (const_walk n q w (by omega) (by omega)).mono fun e w' he => ?_
    obtain ⟨v, rfl, hown, hb⟩ := he
    obtain ⟨g', k1, k2, k3⟩ := own_arr (xs := constL n q) hst hown (by omega) hb
    exact ⟨v, g', rfl, k1, k2, k3⟩
end Go.Proofs.Ytepfhidiahleiaa.M
