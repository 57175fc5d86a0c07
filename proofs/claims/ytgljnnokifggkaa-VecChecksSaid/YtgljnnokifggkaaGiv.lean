/-
The constant of so many bits, given: what is handed back is an array of its own.
-/
import Derived.Test.YtgljnnokifggkaaVm43
import Derived.Test.YtgljnnokifggkaaConst
set_option linter.unusedVariables false
set_option maxRecDepth 100000
namespace Go.Proofs.Ytgljnnokifggkaa.M
open Go Go.Proofs Go.Proofs.Ytgljnnokifggkaa.Vm
noncomputable def a37o : Shape := ⟨[.d i64, .d i64], []⟩
noncomputable def o37o : List Shape := [⟨[.msl 0 i64], [.arr none i64]⟩]
abbrev R37o : Type := ((Nat × Unit) × ((List Int) × Unit))
abbrev T37o : Type := Int → Int → Option R37o
noncomputable def u37o (f : T37o) : (a37o).C → Option (OutC o37o) := fun (x : ((Int × Int × Unit) × Unit)) => f x.1.1 x.1.2.1
noncomputable def F37o (f : T37o) : Fun := ⟨false, runW a37o o37o (u37o f)⟩
def constL (n : Int) (m : Nat) : List Int := (List.range m).map (cbit n)
noncomputable def f37o (k : Nat) : T37o := fun n m => cond (decide (1 ≤ m) && decide (m ≤ 16)) (some ((m.toNat, ()), (constL n m.toNat, ()))) none
theorem s37o (k : Nat) : SoundFn Try.prog 37 (F37o (f37o k)) := by
  refine fnW_raw (entry Try.func37 rfl (by decide)) fun (x : ((Int × Int × Unit) × Unit)) y hy => ?_
  obtain ⟨⟨n, m, ⟨⟩⟩, ⟨⟩⟩ := x
  have hy : cond (decide (1 ≤ m) && decide (m ≤ 16)) (some (((m.toNat, ()), (constL n m.toNat, ())) : R37o)) none = some y := hy
  cases hc : decide (1 ≤ m) && decide (m ≤ 16) with
  | false => rw [hc] at hy; cases hy
  | true =>
    rw [hc] at hy
    obtain rfl := Option.some.inj hy
    obtain ⟨h1, h2⟩ := Bool.and_eq_true_iff.1 hc
    have h1 := of_decide_eq_true h1
    have h2 := of_decide_eq_true h2
    obtain ⟨q, rfl⟩ : ∃ q : Nat, m = (q : Int) := ⟨m.toNat, by omega⟩
    refine ⟨.msl 0 i64 0 q, ⟨[.arr true none i64 (constL n q)], []⟩, rfl, fun g w rargs hst hargs => ?_⟩
    obtain ⟨v1, v2, h3, h4, h5⟩ := relL_two (a := .dat i64 n) (b := .dat i64 (q : Int)) hargs
    obtain rfl := relV_int h4
    obtain rfl := relV_int h5
    obtain ⟨rargs⟩ := rargs
    have h3 : rargs = _ := h3
    subst h3
    refine (const_walk n q w (by omega) (by omega)).mono fun e w' he => ?_
    obtain ⟨v, rfl, hown, hb⟩ := he
    obtain ⟨g', k1, k2, k3⟩ := own_arr (xs := constL n q) hst hown (by omega) hb
    exact ⟨v, g', rfl, k1, k2, k3⟩
end Go.Proofs.Ytgljnnokifggkaa.M
