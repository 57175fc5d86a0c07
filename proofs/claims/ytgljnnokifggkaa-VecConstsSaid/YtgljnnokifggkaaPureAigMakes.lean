/-
Which literal is told of anything that is made, and all nodes: the plain law. For every input, no condition.
-/
import Derived.Test.YtgljnnokifggkaaAigA
set_option linter.unusedVariables false
set_option linter.unusedSimpArgs false
set_option maxRecDepth 100000
namespace Go.Proofs.Ytgljnnokifggkaa.M
open Go Go.Proofs.Ytgljnnokifggkaa.Vm Go.Proofs.Ytgljnnokifggkaa.Pl
namespace Aig
variable {g : List D_Gate} {m : Mp}
theorem awake21 (k : Nat) : f21 (k + 8) () = some ((true, ()), ()) := by kernel_rfl
theorem awakeE : E fun k => f21 k () = some ((true, ()), ()) := ⟨8, fun k hk => by obtain ⟨j, rfl⟩ : ∃ j, k = j + 8 := ⟨k - 8, by omega⟩; exact awake21 j⟩
theorem same_loop (k : Nat) (hg : g.length ≤ 1048576) : ∀ (d i : Nat), g.length - i = d → ∀ j, d < j → l22_58 k j g g i = some (.inl ((), ())) := by
  intro d
  induction d with
  | zero =>
    intro i hi j hj
    obtain ⟨j, rfl, _⟩ := succ_of (n := 0) (by omega : 0 + 1 ≤ j)
    show b22_58 k (l22_58 k j) g g i = _
    unfold b22_58
    rw [decide_eq_false (by omega : ¬ (i : Int) < g.length)]
    rfl
  | succ d ih =>
    intro i hi j hj
    obtain ⟨j, rfl, hj2⟩ := succ_of (by omega : d + 1 + 1 ≤ j)
    show b22_58 k (l22_58 k j) g g i = _
    have hlt : i < g.length := by omega
    have hx : g[i]? = some g[i] := List.getElem?_eq_getElem hlt
    have hw : w64 ((i : Int) + 1) = ((i + 1 : Nat) : Int) := by rw [w_id (by omega) (by omega)]; omega
    unfold b22_58
    rw [decide_eq_true (by omega : (i : Int) < g.length)]
    simp only [cond_true, ix_nat hx]
    have hb : beqD T_Gate g[i] g[i] = true := (beqD_iff T_Gate rfl _ _).2 rfl
    rw [hw, ih (i + 1) (by omega) j hj2]
    generalize g[i] = e at hb
    have hb2 : (!(beqD T_Gate e e)) = false := by rw [hb]; rfl
    rw [show (!(beqD T_Gate e e)) = false from hb2]
    rfl
theorem same22 (k : Nat) (hg : g.length ≤ 1048576) (hk : g.length < k) : f22 k g g = some ((true, ()), ()) := by
  unfold f22
  have := same_loop k hg g.length 0 (by omega) k hk
  rw [show ((0 : Nat) : Int) = 0 from rfl] at this
  rw [this]
  simp
theorem nodes23 (k : Nat) (hg : g.length ≤ 1048576) : f23 k g m = some ((g, ()), ()) := by
  unfold f23 f87 f87v3
  rw [gd_dec (by unfold room; omega)]
  rfl
end Aig
open Aig in
theorem Pure.AigMakes (l : List D_Act) (h : Fit (.slice T_Act) l) : ∃ k, f4 k l = some ((true, ()), ()) := by
  obtain ⟨g, m, hv, hm, hl, hp⟩ := play18 keeps_valid (fun i e he => by simp at he) (acts_ok h)
  refine (hp.mono3 awakeE (E.ge 100) fun k e1 e2 hk => ?_).ex
  unfold f4
  rw [e1]
  simp only [Option.bind_some, cond_true, nodes23 k (show g.length ≤ 1048576 by omega), same22 k (show g.length ≤ 1048576 by omega) (by omega)]
  have h20 : f20 k g m = some (((g.length : Int), ()), ()) := rfl
  rw [h20]
  simp only [Option.bind_some, beq_self_eq_true, cond_true]
  rw [w_id (n := 2 * (g.length : Int)) (by omega) (by omega), w_id (by omega) (by omega), w_id (by omega) (by omega), is24 k (by omega), is24 k (by omega), is24 k (by omega)]
  have i1 : isL g (2 * (g.length : Int) + 1) = true := isL_iff.2 (by omega)
  have i2 : isL g (2 * (g.length : Int) + 2) = false := by
    cases hb : isL g (2 * (g.length : Int) + 2) with
    | false => rfl
    | true => have := isL_iff.1 hb; omega
  have i3 : isL g (-1) = false := by
    cases hb : isL g (-1) with
    | false => rfl
    | true => have := isL_iff.1 hb; omega
  rw [i1, i2, i3]
  simp only [Option.bind_some, cond_true, Bool.not_false, e2]
end Go.Proofs.Ytgljnnokifggkaa.M
