/-
The theorem of sharing: the plain law. For every input, no condition.
-/
import Derived.Test.YtgljnnokifggkaaPureAigMakes
set_option linter.unusedVariables false
set_option linter.unusedSimpArgs false
set_option maxRecDepth 100000
namespace Go.Proofs.Ytgljnnokifggkaa.M
open Go Go.Proofs.Ytgljnnokifggkaa.Vm Go.Proofs.Ytgljnnokifggkaa.Pl
namespace Aig
variable {g : List D_Gate} {m : Mp}
/-- Each "and" was new where it stands. -/
def Irr (g : List D_Gate) : Prop := ∀ (i : Nat) (x y : Int), g[i]? = some (x, y, ()) → 0 ≤ x → New (g.take i) x y
def Inv (g : List D_Gate) : Prop := Valid g ∧ Irr g
theorem irr_snoc {e : D_Gate} (h : Irr g) (he : 0 ≤ e.1 → New g e.1 e.2.1) : Irr (g ++ [e]) := by
  intro i x y hi hx
  rcases Nat.lt_or_ge i g.length with hlt | hge
  · rw [List.getElem?_append_left hlt] at hi
    rw [List.take_append_of_le_length (by omega)]
    exact h i x y hi hx
  · rw [List.getElem?_append_right hge] at hi
    have h0 : i - g.length = 0 := by
      rcases Nat.eq_zero_or_pos (i - g.length) with q | q
      · exact q
      · rw [List.getElem?_eq_none (by simp; omega)] at hi; cases hi
    have hi' : i = g.length := by omega
    rw [h0] at hi
    simp only [List.getElem?_cons_zero, Option.some.injEq] at hi
    subst hi
    subst hi'
    rw [List.take_left]
    exact he hx
theorem keeps_inv : Keeps Inv := ⟨fun g h _ => ⟨valid_inp h.1, irr_snoc h.2 fun h => absurd h (by decide)⟩, fun g x y h hn => ⟨valid_new h.1 hn, irr_snoc h.2 fun _ => hn⟩, fun g h => h.1⟩
/-- Made again, nothing is more. -/
theorem And_again (h : Inv g) {i : Nat} {x y : Int} (hi : g[i]? = some (x, y, ())) (hx : 0 ≤ x) : And g y x = (g, (2 * i + 2 : Int)) ∧ 2 ≤ x ∧ x < y ∧ nt x ≠ y ∧ x ≤ 2 * i + 1 ∧ y ≤ 2 * i + 1 ∧ ∀ k, k < i → g[k]? ≠ some (x, y, ()) := by
  have hlt := getElem?_lt hi
  have hn := h.2 i x y hi hx
  have hlen : (g.take i).length = i := by rw [List.length_take]; omega
  have lx := isL_iff.1 hn.lx
  have ly := isL_iff.1 hn.ly
  rw [hlen] at lx ly
  have kx : kid (g.take i) x = kid g x := kid_take (by omega) (by omega)
  have ky : kid (g.take i) y = kid g y := kid_take (by omega) (by omega)
  have hlt2 := hn.lt
  have h2 := hn.two
  have hst : stS g x y = .new := by
    unfold stS
    have c1 : x ≠ 0 := by omega
    have c3 : x ≠ 1 := by omega
    have c4 : x ≠ y := by omega
    rw [if_neg (by simp [c1, hn.ne]), if_neg (by simp [c3, c4]), ← plS_congr ky, hn.p1, ← plS_congr kx, hn.p2, ← tuS_congr ky, hn.t1, ← tuS_congr kx, hn.t2]
  have hno : ∀ k, k < i → g[k]? ≠ some (x, y, ()) := by
    intro k hk e
    have hf := hn.fn
    unfold fnd at hf
    rw [List.findIdx?_eq_none_iff] at hf
    have := hf (x, y, ()) (List.mem_of_getElem? (i := k) (by rw [List.getElem?_take, if_pos hk]; exact e))
    simp at this
  have hfd : fnd g (x, y, ()) = some i := by
    unfold fnd
    rw [List.findIdx?_eq_some_iff_getElem]
    refine ⟨hlt, ?_, fun j hj => ?_⟩
    · rw [List.getElem?_eq_getElem hlt] at hi
      simp only [Option.some.injEq] at hi
      rw [hi]; simp
    · have := hno j hj
      rw [List.getElem?_eq_getElem (by omega)] at this
      simpa using this
  refine ⟨?_, h2, hlt2, hn.ne, by omega, by omega, hno⟩
  unfold And
  rw [andS, isL_iff.2 (by omega : 0 ≤ y ∧ y ≤ 2 * (g.length : Int) + 1), isL_iff.2 (by omega : 0 ≤ x ∧ x ≤ 2 * (g.length : Int) + 1)]
  have e1 : min y x = x := by omega
  have e2 : max y x = y := by omega
  simp only [Bool.and_self, if_true, e1, e2, hst, hfd]
theorem inner_loop (k : Nat) (hg : g.length ≤ 1048576) {i : Nat} {e : D_Gate} (hi : g[i]? = some e) (hno : ∀ q, q < i → g[q]? ≠ some e) : ∀ (d q : Nat), i - q = d → ∀ j, d < j → l3_62618 k j g i q = some (.inl ((), ())) := by
  intro d
  induction d with
  | zero =>
    intro q hq j hj
    obtain ⟨j, rfl, _⟩ := succ_of (n := 0) (by omega : 0 + 1 ≤ j)
    show b3_62618 k (l3_62618 k j) g i q = _
    unfold b3_62618
    rw [decide_eq_false (by omega : ¬ (q : Int) < i)]
    rfl
  | succ d ih =>
    intro q hq j hj
    obtain ⟨j, rfl, hj2⟩ := succ_of (by omega : d + 1 + 1 ≤ j)
    show b3_62618 k (l3_62618 k j) g i q = _
    have hlt := getElem?_lt hi
    have hql : q < g.length := by omega
    have hx : g[q]? = some g[q] := List.getElem?_eq_getElem hql
    have hw : w64 ((q : Int) + 1) = ((q + 1 : Nat) : Int) := by rw [w_id (by omega) (by omega)]; omega
    unfold b3_62618
    rw [decide_eq_true (by omega : (q : Int) < i)]
    simp only [cond_true, ix_nat hx, ix_nat hi]
    have hne : g[q] ≠ e := by
      intro he; apply hno q (by omega); rw [hx, he]
    have hb : beqD T_Gate g[q] e = false := by
      cases hb : beqD T_Gate g[q] e with
      | false => rfl
      | true => exact absurd ((beqD_iff T_Gate rfl _ _).1 hb) hne
    rw [hw, ih (q + 1) (by omega) j hj2]
    generalize g[q] = e' at hb
    rw [show beqD T_Gate e' e = false from hb]
    rfl
theorem shares_loop (h : Inv g) (hg : g.length ≤ 1048574) : ∀ (d i : Nat) (m : Mp), g.length - i = d → MapOk g m → ∃ m', E fun k => ∀ j, d < j → l3_122 k j g i g m = some (.inl ((), ((g, (), ()), m', ()))) := by
  intro d
  induction d with
  | zero =>
    intro i m hi hm
    refine ⟨m, E.all fun k j hj => ?_⟩
    obtain ⟨j, rfl, _⟩ := succ_of (n := 0) (by omega : 0 + 1 ≤ j)
    show b3_122 k (l3_122 k j) g i g m = _
    unfold b3_122
    rw [decide_eq_false (by omega : ¬ (i : Int) < g.length)]
    rfl
  | succ d ih =>
    intro i m hi hm
    have hlt : i < g.length := by omega
    have hx : g[i]? = some g[i] := List.getElem?_eq_getElem hlt
    have hw : w64 ((i : Int) + 1) = ((i + 1 : Nat) : Int) := by rw [w_id (by omega) (by omega)]; omega
    by_cases hneg : g[i].1 < 0
    · obtain ⟨m', e⟩ := ih (i + 1) m (by omega) hm
      refine ⟨m', e.mono fun k e j hj => ?_⟩
      obtain ⟨j, rfl, hj2⟩ := succ_of (by omega : d + 1 + 1 ≤ j)
      show b3_122 k (l3_122 k j) g i g m = _
      unfold b3_122
      rw [decide_eq_true (by omega : (i : Int) < g.length), cond_true, ix_nat hx, decide_eq_true hneg, cond_true, hw, e j hj2]
      rfl
    · have hx2 : g[i]? = some (g[i].1, g[i].2.1, ()) := hx
      generalize hax : g[i].1 = x at hx2 hneg
      generalize hay : g[i].2.1 = y at hx2
      obtain ⟨h1, h2, h3, h4, h5, h6, h7⟩ := And_again h hx2 (by omega)
      obtain ⟨m1, k1, k2⟩ := and19E h.1 hm (by omega) y x
      rw [h1] at k1 k2
      dsimp only at k1 k2
      obtain ⟨m', e⟩ := ih (i + 1) m1 (by omega) k1
      refine ⟨m', k2.mono3 e (E.ge (g.length + 1)) fun k e1 e2 hk j hj => ?_⟩
      obtain ⟨j, rfl, hj2⟩ := succ_of (by omega : d + 1 + 1 ≤ j)
      show b3_122 k (l3_122 k j) g i g m = _
      have hin := inner_loop k (by omega) hx2 h7 i 0 (by omega) k (by omega)
      rw [show ((0 : Nat) : Int) = 0 from rfl] at hin
      unfold b3_122
      rw [decide_eq_true (by omega : (i : Int) < g.length)]
      simp only [cond_true, ix_nat hx2, decide_eq_false hneg, cond_false, decide_eq_false (show ¬ x < 2 by omega), decide_eq_false (show ¬ x ≥ y by omega), hin, Option.bind_some]
      rw [tdiv_pos (by omega), tdiv_pos (by omega), w_id (n := y / 2) (by omega) (by omega), w_id (n := x / 2) (by omega) (by omega), beq_int, decide_eq_false (by
        intro hh; apply h4; rw [nt_pos (by omega)]; split <;> omega), cond_false, e1]
      simp only [Option.bind_some]
      rw [w_id (n := 2 * (i : Int)) (by omega) (by omega), w_id (by omega) (by omega), hw, e2 j hj2]
      simp
end Aig
open Aig in
theorem Pure.AigShares (l : List D_Act) (h : Fit (.slice T_Act) l) : ∃ k, f3 k l = some ((true, ()), ()) := by
  obtain ⟨g, m, hv, hm, hl, hp⟩ := play18 keeps_inv ⟨fun i e he => by simp at he, fun i x y he => by simp at he⟩ (acts_ok h)
  obtain ⟨m', hs⟩ := shares_loop hv (by omega) g.length 0 m (by omega) hm
  refine ((hp.and hs).mono3 awakeE (E.ge 100) fun k e0 e2 hk => ?_).ex
  obtain ⟨e1, e3⟩ := e0
  have e3 := e3 k (by omega)
  rw [show ((0 : Nat) : Int) = 0 from rfl] at e3
  unfold f3
  rw [e1]
  simp only [Option.bind_some, Bool.not_true, cond_false]
  rw [e3]
  have h20 : f20 k g m' = some (((g.length : Int), ()), ()) := rfl
  simp only [Option.bind_some, h20, beq_self_eq_true, cond_true, e2]
end Go.Proofs.Ytgljnnokifggkaa.M
