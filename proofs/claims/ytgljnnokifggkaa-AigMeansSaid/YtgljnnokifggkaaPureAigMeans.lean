/-
The theorem of meaning: the plain law. For every input, no condition.
-/
import Derived.Test.YtgljnnokifggkaaAigE
set_option linter.unusedVariables false
set_option linter.unusedSimpArgs false
set_option maxRecDepth 100000
namespace Go.Proofs.Ytgljnnokifggkaa.M
open Go Go.Proofs.Ytgljnnokifggkaa.Vm Go.Proofs.Ytgljnnokifggkaa.Pl
namespace Aig
variable {g : List D_Gate} {m : Mp} {ins : List Bool}
theorem value34 (k : Nat) {v : List Bool} {l : Int} (h : I64 l) : f34 k v l = some ((value v l, ()), ()) := by
  unfold f34 value
  rw [Bool.cond_decide]
  by_cases h0 : l < 0
  · rw [if_pos h0, if_pos (.inl h0)]
  · rw [if_neg h0, tdiv_pos (by omega), w_id (n := l / 2) (by have := h.2; omega) (by have := h.2; omega), Bool.cond_decide]
    by_cases h1 : (v.length : Int) < l / 2
    · rw [if_pos (show l / 2 > (v.length : Int) from h1), if_pos (.inr h1)]
    · rw [if_neg (show ¬ l / 2 > (v.length : Int) from h1), if_neg (by simp [h0, h1]), Bool.cond_decide]
      by_cases h2 : l < 2
      · rw [if_pos h2, if_pos h2, beq_int]
      · rw [if_neg h2, if_neg h2, w_id (by have := h.2; omega) (by have := h.2; omega), mod2 (by omega), beq_int]
        have hx : v[(l / 2 - 1).toNat]? = some (v.getD (l / 2 - 1).toNat false) := by
          rw [List.getD_eq_getElem?_getD, List.getElem?_eq_getElem (by omega)]; rfl
        rw [ix_get (by omega) hx]
/-- Are the nodes in order? -/
theorem check_loop (k : Nat) (hv : Valid g) (hg : g.length ≤ 1048576) : ∀ (d i : Nat), g.length - i = d → ∀ j, d < j → l33_58 k j g g.length i = some (.inl ((), ())) := by
  intro d
  induction d with
  | zero =>
    intro i hi j hj
    obtain ⟨j, rfl, _⟩ := succ_of (n := 0) (by omega : 0 + 1 ≤ j)
    show b33_58 k (l33_58 k j) g g.length i = _
    unfold b33_58
    rw [decide_eq_false (by omega : ¬ (i : Int) < g.length)]
    rfl
  | succ d ih =>
    intro i hi j hj
    obtain ⟨j, rfl, hj2⟩ := succ_of (by omega : d + 1 + 1 ≤ j)
    show b33_58 k (l33_58 k j) g g.length i = _
    have hlt : i < g.length := by omega
    have hx : g[i]? = some g[i] := List.getElem?_eq_getElem hlt
    have hw : w64 ((i : Int) + 1) = ((i + 1 : Nat) : Int) := by rw [w_id (by omega) (by omega)]; omega
    have hrec := ih (i + 1) (by omega) j hj2
    unfold b33_58
    rw [decide_eq_true (by omega : (i : Int) < g.length)]
    have hf : f88 k () = some ((inp, ()), ()) := rfl
    simp only [cond_true, ix_nat hx, hf, Option.bind_some]
    rw [w_id (n := 2 * (i : Int)) (by omega) (by omega), w_id (n := 2 * (i : Int) + 1) (by omega) (by omega), hw, hrec, beq_inp]
    rcases hv i _ hx with he | he
    · rw [decide_eq_true he]; rfl
    · by_cases hq : g[i] = inp
      · rw [decide_eq_true hq]; rfl
      · rw [decide_eq_false hq, decide_eq_false (by omega : ¬ g[i].1 < 0), decide_eq_false (by omega : ¬ g[i].2.1 < 0), decide_eq_false (by omega : ¬ g[i].1 > 2 * (i : Int) + 1), decide_eq_false (by omega : ¬ g[i].2.1 > 2 * (i : Int) + 1)]; rfl
theorem check33 (k : Nat) (hv : Valid g) (hg : g.length ≤ 1048576) (hk : g.length < k) : f33 k g = some ((0, ()), ()) := by
  unfold f33
  have := check_loop k hv hg g.length 0 (by omega) k hk
  rw [show ((0 : Nat) : Int) = 0 from rfl] at this
  rw [decide_eq_false (by omega : ¬ (g.length : Int) > 1048576), cond_false, this]
  rfl
theorem eval_loop (k : Nat) (hv : Valid g) (hg : g.length ≤ 1048576) : ∀ (d i : Nat) (v : List Bool) (q : Nat), g.length - i = d → v.length ≤ i → q ≤ i → ∀ j, d < j → l31_250 k j ins v q g g.length i = some ((evL ins (g.drop i) v q, ()), ()) := by
  intro d
  induction d with
  | zero =>
    intro i v q hi hvl hq j hj
    obtain ⟨j, rfl, _⟩ := succ_of (n := 0) (by omega : 0 + 1 ≤ j)
    show b31_250 k (l31_250 k j) ins v q g g.length i = _
    unfold b31_250
    rw [decide_eq_false (by omega : ¬ (i : Int) < g.length), List.drop_eq_nil_of_le (by omega)]
    rfl
  | succ d ih =>
    intro i v q hi hvl hq j hj
    obtain ⟨j, rfl, hj2⟩ := succ_of (by omega : d + 1 + 1 ≤ j)
    show b31_250 k (l31_250 k j) ins v q g g.length i = _
    have hlt : i < g.length := by omega
    have hx : g[i]? = some g[i] := List.getElem?_eq_getElem hlt
    have hw : w64 ((i : Int) + 1) = ((i + 1 : Nat) : Int) := by rw [w_id (by omega) (by omega)]; omega
    have hwq : w64 ((q : Int) + 1) = ((q + 1 : Nat) : Int) := by rw [w_id (by omega) (by omega)]; omega
    have hroom : (v.length + 1) * 1 ≤ room := by unfold room; omega
    unfold b31_250
    rw [decide_eq_true (by omega : (i : Int) < g.length)]
    have hf : f88 k () = some ((inp, ()), ()) := rfl
    simp only [cond_true, ix_nat hx, hf, Option.bind_some]
    rw [beq_inp, List.drop_eq_getElem_cons hlt, evL]
    have hr : ∀ b q', q' ≤ i + 1 → l31_250 k j ins (v ++ [b]) (q' : Nat) g g.length ((i + 1 : Nat) : Int) = some ((evL ins (g.drop (i + 1)) (v ++ [b]) q', ()), ()) := fun b q' hq' => ih (i + 1) (v ++ [b]) q' (by omega) (by simp; omega) hq' j hj2
    by_cases he : g[i] = inp
    · rw [decide_eq_true he, if_pos he, cond_true, hw, hwq]
      by_cases hqi : q < ins.length
      · have hy : ins[q]? = some ins[q] := List.getElem?_eq_getElem hqi
        rw [decide_eq_true (by omega : (q : Int) < ins.length), cond_true, ix_nat hy, gd_dec hroom, hr _ _ (by omega), List.getD_eq_getElem?_getD, hy]
        rfl
      · rw [decide_eq_false (by omega : ¬ (q : Int) < ins.length), cond_false, gd_dec hroom, hr _ _ (by omega), List.getD_eq_getElem?_getD, List.getElem?_eq_none (by omega)]
        rfl
    · rw [decide_eq_false he, if_neg he, cond_false, hw]
      have hg2 : I64 g[i].1 ∧ I64 g[i].2.1 := by
        rcases hv i _ hx with h | h
        · exact absurd h he
        · exact ⟨⟨by omega, by omega⟩, ⟨by omega, by omega⟩⟩
      rw [value34 k hg2.1]
      simp only [Option.bind_some]
      cases hval : value v g[i].1 with
      | true =>
        rw [cond_true, value34 k hg2.2]
        simp only [Option.bind_some]
        rw [gd_dec hroom, hr _ _ (by omega)]
        rfl
      | false =>
        rw [cond_false, gd_dec hroom, hr _ _ (by omega)]
        rfl
theorem eval31 (k : Nat) (hv : Valid g) (hg : g.length ≤ 1048576) (hk : g.length < k) : f31 k g ins = some ((Ev g ins, ()), ()) := by
  unfold f31
  have := eval_loop (ins := ins) k hv hg g.length 0 [] 0 (by omega) (by simp) (by omega) k hk
  rw [show ((0 : Nat) : Int) = 0 from rfl] at this
  rw [check33 k hv hg hk]
  simp only [Option.bind_some, bne_self_eq_false, cond_false]
  rw [this]
  rfl
theorem told_loop (k : Nat) {told : List Int} {v want : List Bool} (hl : told.length = want.length) (hn : told.length ≤ 1048576) (h : ∀ (i : Nat) (t : Int) (w : Bool), told[i]? = some t → want[i]? = some w → 0 ≤ t ∧ I64 t ∧ value v t = w) :
    ∀ (d i : Nat), want.length - i = d → ∀ j, d < j → l7_1048570 k j told v want i = some (.inl ((), ())) := by
  intro d
  induction d with
  | zero =>
    intro i hi j hj
    obtain ⟨j, rfl, _⟩ := succ_of (n := 0) (by omega : 0 + 1 ≤ j)
    show b7_1048570 k (l7_1048570 k j) told v want i = _
    unfold b7_1048570
    rw [decide_eq_false (by omega : ¬ (i : Int) < want.length)]
    rfl
  | succ d ih =>
    intro i hi j hj
    obtain ⟨j, rfl, hj2⟩ := succ_of (by omega : d + 1 + 1 ≤ j)
    show b7_1048570 k (l7_1048570 k j) told v want i = _
    have h1 : want[i]? = some want[i] := List.getElem?_eq_getElem (by omega)
    have h2 : told[i]? = some told[i] := List.getElem?_eq_getElem (by omega)
    obtain ⟨k1, k2, k3⟩ := h i _ _ h2 h1
    have hw : w64 ((i : Int) + 1) = ((i + 1 : Nat) : Int) := by rw [w_id (by omega) (by omega)]; omega
    unfold b7_1048570
    rw [decide_eq_true (by omega : (i : Int) < want.length)]
    simp only [cond_true, ix_nat h1, ix_nat h2, decide_eq_false (show ¬ told[i] < 0 by omega), cond_false, value34 k k2, Option.bind_some, k3, beq_self_eq_true, Bool.not_true]
    rw [hw, ih (i + 1) (by omega) j hj2]
    rfl
def pickS (n : Int) (l : List Int) : List Int := (l.filter fun x => decide (0 ≤ x)).map (· % n)
theorem pickS_cons (n x : Int) (l : List Int) : pickS n (x :: l) = if 0 ≤ x then x % n :: pickS n l else pickS n l := by
  unfold pickS
  by_cases h : 0 ≤ x
  · rw [if_pos h, List.filter_cons_of_pos (by simpa using h), List.map_cons]
  · rw [if_neg h, List.filter_cons_of_neg (by simpa using h)]
theorem pick_loop (k : Nat) {p : List Int} {n : Int} (hn : 0 < n) (hp : p.length ≤ 20) : ∀ (d i : Nat) (q : List Int), p.length - i = d → q.length ≤ i → ∀ j, d < j → l7_506 k j p n q i = some ((q ++ pickS n (p.drop i), ()), ()) := by
  intro d
  induction d with
  | zero =>
    intro i q hi hq j hj
    obtain ⟨j, rfl, _⟩ := succ_of (n := 0) (by omega : 0 + 1 ≤ j)
    show b7_506 k (l7_506 k j) p n q i = _
    unfold b7_506
    rw [decide_eq_false (by omega : ¬ (i : Int) < p.length), List.drop_eq_nil_of_le (by omega)]
    simp [pickS]
  | succ d ih =>
    intro i q hi hq j hj
    obtain ⟨j, rfl, hj2⟩ := succ_of (by omega : d + 1 + 1 ≤ j)
    show b7_506 k (l7_506 k j) p n q i = _
    have h1 : p[i]? = some p[i] := List.getElem?_eq_getElem (by omega)
    have hw : w64 ((i : Int) + 1) = ((i + 1 : Nat) : Int) := by rw [w_id (by omega) (by omega)]; omega
    unfold b7_506
    rw [decide_eq_true (by omega : (i : Int) < p.length)]
    simp only [cond_true, ix_nat h1, decide_eq_false (show ¬ n = 0 by omega), cond_false, hw]
    rw [List.drop_eq_getElem_cons (show i < p.length by omega)]
    by_cases h0 : 0 ≤ p[i]
    · rw [decide_eq_true (show p[i] ≥ 0 from h0), cond_true, gd_dec (by unfold room; omega), tmod_pos h0, ih (i + 1) _ (by omega) (by simp; omega) j hj2, pickS_cons, if_pos h0, List.append_assoc]
      rfl
    · rw [decide_eq_false (show ¬ p[i] ≥ 0 from h0), cond_false, ih (i + 1) _ (by omega) (by omega) j hj2, pickS_cons, if_neg h0]
      rfl
theorem all_loop (k : Nat) {q : List Int} {v : List Bool} (hq : q.length ≤ 20) (hi64 : ∀ x ∈ q, I64 x) : ∀ (d i : Nat) (b : Bool), q.length - i = d → ∀ j, d < j → l7_65530 k j q v b i = some ((b && (q.drop i).all (value v), ()), ()) := by
  intro d
  induction d with
  | zero =>
    intro i b hi j hj
    obtain ⟨j, rfl, _⟩ := succ_of (n := 0) (by omega : 0 + 1 ≤ j)
    show b7_65530 k (l7_65530 k j) q v b i = _
    unfold b7_65530
    rw [decide_eq_false (by omega : ¬ (i : Int) < q.length), List.drop_eq_nil_of_le (by omega)]
    simp
  | succ d ih =>
    intro i b hi j hj
    obtain ⟨j, rfl, hj2⟩ := succ_of (by omega : d + 1 + 1 ≤ j)
    show b7_65530 k (l7_65530 k j) q v b i = _
    have h1 : q[i]? = some q[i] := List.getElem?_eq_getElem (by omega)
    have hw : w64 ((i : Int) + 1) = ((i + 1 : Nat) : Int) := by rw [w_id (by omega) (by omega)]; omega
    unfold b7_65530
    rw [decide_eq_true (by omega : (i : Int) < q.length)]
    simp only [cond_true, ix_nat h1, value34 k (hi64 _ (List.getElem_mem (by omega : i < q.length))), Option.bind_some, hw]
    rw [List.drop_eq_getElem_cons (show i < q.length by omega), List.all_cons]
    cases b with
    | true => rw [cond_true, ih (i + 1) _ (by omega) j hj2]; simp
    | false => rw [cond_false, ih (i + 1) _ (by omega) j hj2]; simp
theorem want_list (k : Nat) (s t a e : Bool) : l7_131070 k s t a e = some (([s && t, s || t, !(s == t), e, a], ()), ()) := by
  unfold l7_131070; cases s <;> rfl
/-- All, by the program. -/
theorem all_prog {q : List Int} (hq : q.length ≤ 20) : ∀ (d i : Nat) (o : Int) (g : List D_Gate) (m : Mp), q.length - i = d → Valid g → MapOk g m → g.length + d ≤ 1048576 → ∃ m', MapOk (AllS g (q.drop i) o).1 m' ∧ E fun k => ∀ j, d < j → l29_122 k j o q q.length i g m = some (((AllS g (q.drop i) o).2, ()), (((AllS g (q.drop i) o).1, (), ()), m', ())) := by
  intro d
  induction d with
  | zero =>
    intro i o g m hi hv hm hg
    rw [List.drop_eq_nil_of_le (by omega)]
    refine ⟨m, hm, E.all fun k j hj => ?_⟩
    obtain ⟨j, rfl, _⟩ := succ_of (n := 0) (by omega : 0 + 1 ≤ j)
    show b29_122 k (l29_122 k j) o q q.length i g m = _
    unfold b29_122
    rw [decide_eq_false (by omega : ¬ (i : Int) < q.length)]
    rfl
  | succ d ih =>
    intro i o g m hi hv hm hg
    have hil : i < q.length := by omega
    have h1 : q[i]? = some q[i] := List.getElem?_eq_getElem hil
    rw [List.drop_eq_getElem_cons hil]
    obtain ⟨m1, k1, k2⟩ := and19E hv hm (by omega) o q[i]
    obtain ⟨v1, v2, v3, _⟩ := And_keeps keeps_valid o q[i] hv
    obtain ⟨m2, k3, k4⟩ := ih (i + 1) (And g o q[i]).2 (And g o q[i]).1 m1 (by omega) v1 k1 (by omega)
    refine ⟨m2, k3, k2.mono2 k4 fun k e1 e2 j hj => ?_⟩
    dsimp only at *
    obtain ⟨j, rfl, hj2⟩ := succ_of (by omega : d + 1 + 1 ≤ j)
    show b29_122 k (l29_122 k j) o q q.length i g m = _
    have hw : w64 ((i : Int) + 1) = ((i + 1 : Nat) : Int) := by rw [w_id (by omega) (by omega)]; omega
    unfold b29_122
    rw [decide_eq_true (by omega : (i : Int) < q.length)]
    simp only [cond_true, ix_nat h1, e1, Option.bind_some, hw, e2 j (by omega)]
    rfl
theorem all29E {q : List Int} (hq : q.length ≤ 20) (hv : Valid g) (hm : MapOk g m) (hg : g.length + 20 ≤ 1048576) : ProgE (fun k => f29 k q g m) (AllS g q 1) := by
  obtain ⟨m', h1, h2⟩ := all_prog hq q.length 0 1 g m (by omega) hv hm (by omega)
  rw [List.drop_zero] at h1 h2
  refine ⟨m', h1, (h2.and (E.ge 21)).mono fun k ⟨e, hk⟩ => ?_⟩
  have e := e k (by omega)
  rw [show ((0 : Nat) : Int) = 0 from rfl] at e
  show f29 k q g m = _
  unfold f29
  rw [e]
  rfl
end Aig
open Aig in
theorem Pure.AigMeans (l : List D_Act) (h : Fit (.slice T_Act) l) (ins : List Bool) (_ : Fit (.slice .bool) ins) (p : List Int) (_ : Fit (.slice i64) p) : ∃ k, f7 k l ins p = some ((true, ()), ()) := by
  obtain ⟨g, m, hv, hm, hl, hp⟩ := play18 keeps_valid (fun i e he => by simp at he) (acts_ok h)
  by_cases hp20 : p.length > 20
  · refine (hp.mono2 awakeE fun k e1 e2 => ?_).ex
    unfold f7
    rw [e1]
    simp only [Option.bind_some, Bool.not_true, cond_false, cond_true, decide_eq_true (show (p.length : Int) > 20 by omega), e2]
  have hn : 0 < 2 * (g.length : Int) + 2 := by omega
  have hroll : ∀ k, 100 ≤ k → (l7_506 k k p (w64 (w64 (2 * (g.length : Int)) + 2)) [] 0) = some ((pickS (2 * g.length + 2) p, ()), ()) := by
    intro k hk
    have := pick_loop k (p := p) hn (by omega) p.length 0 [] (by omega) (by simp) k (by omega)
    rw [w_id (n := 2 * (g.length : Int)) (by omega) (by omega), w_id (by omega) (by omega), show (0 : Int) = ((0 : Nat) : Int) from rfl, this]
    simp
  have hql : (pickS (2 * (g.length : Int) + 2) p).length ≤ 20 := by
    unfold pickS; rw [List.length_map]
    have := List.length_filter_le (fun x => decide (0 ≤ x)) p
    omega
  have hqL : ∀ x ∈ pickS (2 * (g.length : Int) + 2) p, isL g x = true := by
    intro x hx
    unfold pickS at hx
    obtain ⟨y, _, rfl⟩ := List.mem_map.1 hx
    have := Int.emod_nonneg y (show 2 * (g.length : Int) + 2 ≠ 0 by omega)
    have := Int.emod_lt_of_pos y hn
    exact isL_iff.2 (by omega)
  have h20 : ∀ k, f20 k g m = some (((g.length : Int), ()), ()) := fun _ => rfl
  generalize pickS (2 * (g.length : Int) + 2) p = q at hroll hql hqL
  by_cases hq3 : q.length < 3
  · refine ((hp.and (E.ge 100)).mono2 awakeE fun k ⟨e1, hk⟩ e2 => ?_).ex
    unfold f7
    rw [e1]
    simp only [Option.bind_some, Bool.not_true, cond_false, decide_eq_false (show ¬ (p.length : Int) > 20 by omega), h20, hroll k hk, decide_eq_true (show (q.length : Int) < 3 by omega), cond_true, e2]
  · obtain ⟨a, b, c, q', hqe⟩ : ∃ a b c q', q = a :: b :: c :: q' := by
      match q, hq3 with
      | a :: b :: c :: q', _ => exact ⟨a, b, c, q', rfl⟩
      | [], h => exact absurd (by simp) h
      | [_], h => exact absurd (by simp) h
      | [_, _], h => exact absurd (by simp) h
    have ha := hqL a (by rw [hqe]; simp)
    have hb := hqL b (by rw [hqe]; simp)
    have hc := hqL c (by rw [hqe]; simp)
    have i64 : ∀ {x : Int} {g : List D_Gate}, g.length ≤ 1048576 → isL g x = true → I64 x := fun hg hx => by have := isL_iff.1 hx; exact ⟨by omega, by omega⟩
    -- And
    have t1 := And_told (ins := ins) hv ha hb (by omega)
    obtain ⟨m1, k1, e1⟩ := and19E hv hm (by omega) a b
    have n1 := And_len hv a b
    have s1 := t1.len
    obtain ⟨ha1, va1⟩ := t1.keep ha
    obtain ⟨hb1, vb1⟩ := t1.keep hb
    obtain ⟨hc1, vc1⟩ := t1.keep hc
    have hq1 : ∀ x ∈ q, isL (And g a b).1 x = true ∧ val ins (And g a b).1 x = val ins g x := fun x hx => t1.keep (hqL x hx)
    generalize And g a b = p1 at t1 k1 e1 n1 s1 ha1 va1 hb1 vb1 hc1 vc1 hq1
    -- Or
    have t2 := Or_told (ins := ins) t1.ok ha1 hb1 (by omega)
    obtain ⟨m2, k2, e2⟩ := or26E t1.ok k1 (by omega) (i64 (by omega) ha1) (i64 (by omega) hb1)
    have n2 := (Or_keeps keeps_valid a b t1.ok).2.2.1
    have s2 := t2.len
    obtain ⟨ha2, va2⟩ := t2.keep ha1
    obtain ⟨hb2, vb2⟩ := t2.keep hb1
    obtain ⟨hc2, vc2⟩ := t2.keep hc1
    obtain ⟨r12, w12⟩ := t2.keep t1.lit
    have hq2 : ∀ x ∈ q, isL (Or p1.1 a b).1 x = true ∧ val ins (Or p1.1 a b).1 x = val ins g x := fun x hx => ⟨(t2.keep (hq1 x hx).1).1, (t2.keep (hq1 x hx).1).2.trans (hq1 x hx).2⟩
    generalize Or p1.1 a b = p2 at t2 k2 e2 n2 s2 ha2 va2 hb2 vb2 hc2 vc2 hq2 r12 w12
    -- Xor
    have t3 := Xor_told (ins := ins) t2.ok ha2 hb2 (by omega)
    obtain ⟨m3, k3, e3⟩ := xor27E t2.ok k2 (by omega) (i64 (by omega) ha2) (i64 (by omega) hb2)
    have n3 := (Xor_keeps keeps_valid a b t2.ok).2.2.1
    have s3 := t3.len
    obtain ⟨ha3, va3⟩ := t3.keep ha2
    obtain ⟨hb3, vb3⟩ := t3.keep hb2
    obtain ⟨hc3, vc3⟩ := t3.keep hc2
    obtain ⟨r13, w13⟩ := t3.keep r12
    obtain ⟨r23, w23⟩ := t3.keep t2.lit
    have hq3 : ∀ x ∈ q, isL (Xor p2.1 a b).1 x = true ∧ val ins (Xor p2.1 a b).1 x = val ins g x := fun x hx => ⟨(t3.keep (hq2 x hx).1).1, (t3.keep (hq2 x hx).1).2.trans (hq2 x hx).2⟩
    generalize Xor p2.1 a b = p3 at t3 k3 e3 n3 s3 ha3 va3 hb3 vb3 hc3 vc3 hq3 r13 w13 r23 w23
    -- Ite
    have t4 := Ite_told (ins := ins) t3.ok hc3 ha3 hb3 (by omega)
    obtain ⟨m4, k4, e4⟩ := ite28E t3.ok k3 (by omega) (i64 (by omega) hc3) (i64 (by omega) ha3) (i64 (by omega) hb3)
    have n4 := (Ite_keeps keeps_valid c a b t3.ok).2.2.1
    have s4 := t4.len
    obtain ⟨ha4, va4⟩ := t4.keep ha3
    obtain ⟨hb4, vb4⟩ := t4.keep hb3
    obtain ⟨hc4, vc4⟩ := t4.keep hc3
    obtain ⟨r14, w14⟩ := t4.keep r13
    obtain ⟨r24, w24⟩ := t4.keep r23
    obtain ⟨r34, w34⟩ := t4.keep t3.lit
    have hq4 : ∀ x ∈ q, isL (Ite p3.1 c a b).1 x = true ∧ val ins (Ite p3.1 c a b).1 x = val ins g x := fun x hx => ⟨(t4.keep (hq3 x hx).1).1, (t4.keep (hq3 x hx).1).2.trans (hq3 x hx).2⟩
    generalize Ite p3.1 c a b = p4 at t4 k4 e4 n4 s4 ha4 va4 hb4 vb4 hc4 vc4 hq4 r14 w14 r24 w24 r34 w34
    -- All
    have hone : isL p4.1 1 = true := isL_iff.2 (by omega)
    have t5 := All_told (ins := ins) q p4.1 1 t4.ok hone (fun x hx => (hq4 x hx).1) (by omega)
    obtain ⟨m5, k5, e5⟩ := all29E hql t4.ok k4 (by omega)
    have s5 := t5.len
    have n5 : (AllS p4.1 q 1).1.length ≤ p4.1.length + q.length := by
      have : ∀ (l : List Int) (g : List D_Gate) (o : Int), Valid g → (AllS g l o).1.length ≤ g.length + l.length := by
        intro l
        induction l with
        | nil => intro g o _; simp [AllS]
        | cons x l ih =>
          intro g o hv
          have := ih (And g o x).1 (And g o x).2 (And_keeps keeps_valid o x hv).1
          have := And_len hv o x
          rw [AllS]; simp only [List.length_cons]; omega
      exact this q p4.1 1 t4.ok
    obtain ⟨ha5, va5⟩ := t5.keep ha4
    obtain ⟨hb5, vb5⟩ := t5.keep hb4
    obtain ⟨hc5, vc5⟩ := t5.keep hc4
    obtain ⟨r15, w15⟩ := t5.keep r14
    obtain ⟨r25, w25⟩ := t5.keep r24
    obtain ⟨r35, w35⟩ := t5.keep r34
    obtain ⟨r45, w45⟩ := t5.keep t4.lit
    have hq5 : ∀ x ∈ q, isL (AllS p4.1 q 1).1 x = true ∧ val ins (AllS p4.1 q 1).1 x = val ins p4.1 x := fun x hx => t5.keep (hq4 x hx).1
    have tv := t5.val
    rw [val_one, Bool.true_and] at tv
    have hall : q.all (value (Ev (AllS p4.1 q 1).1 ins)) = q.all (val ins p4.1) := by
      have : ∀ (l : List Int), (∀ x ∈ l, x ∈ q) → l.all (value (Ev (AllS p4.1 q 1).1 ins)) = l.all (val ins p4.1) := by
        intro l
        induction l with
        | nil => intro _; rfl
        | cons x l ih =>
          intro hs
          rw [List.all_cons, List.all_cons, ih fun y hy => hs y (List.mem_cons_of_mem _ hy)]
          congr 1
          exact (hq5 x (hs x (List.mem_cons_self ..))).2
      exact this q fun x hx => hx
    have t5ok := t5.ok
    have t5lit := t5.lit
    generalize AllS p4.1 q 1 = p5 at *
    have big : p5.1.length ≤ 1048576 := by omega
    refine (((hp.and (E.ge 1000)).and (e1.and e2)).and ((e3.and e4).and (e5.and awakeE)) |>.mono fun k hk => ?_).ex
    obtain ⟨⟨⟨f0, hk⟩, f1, f2⟩, ⟨f3, f4⟩, f5, f6⟩ := hk
    dsimp only at f1 f2 f3 f4 f5
    unfold f7
    rw [f0]
    have x0 : q[(0 : Int).toNat]? = some a := by rw [hqe]; rfl
    have x1 : q[(1 : Int).toNat]? = some b := by rw [hqe]; rfl
    have x2 : q[(2 : Int).toNat]? = some c := by rw [hqe]; rfl
    have hq3' : ¬ (q.length : Int) < 3 := by rw [hqe]; simp only [List.length_cons]; omega
    simp only [Option.bind_some, Bool.not_true, cond_false, decide_eq_false (show ¬ (p.length : Int) > 20 by omega), h20, hroll k (by omega), decide_eq_false hq3', ix_get (show (0 : Int) ≤ 0 by omega) x0, ix_get (show (0 : Int) ≤ 1 by omega) x1, ix_get (show (0 : Int) ≤ 2 by omega) x2, f1, f2, f3, f4, f5, nodes23 k big, eval31 k t5ok big (by omega), value34 k (i64 big ha5), value34 k (i64 big hb5), value34 k (i64 big hc5)]
    have hal := all_loop k (v := Ev p5.1 ins) hql (fun x hx => i64 big (hq5 x hx).1) q.length 0 true (by omega) k (by omega)
    rw [show ((0 : Nat) : Int) = 0 from rfl, List.drop_zero, Bool.true_and, hall] at hal
    have h524 : l7_524284 k () = some ((0, ()), ()) := rfl
    simp only [hal, Option.bind_some, want_list, h524]
    have vw : ∀ x, value (Ev p5.1 ins) x = val ins p5.1 x := fun _ => rfl
    have fin : ∀ e : Bool, e = cond (val ins p5.1 c) (val ins p5.1 a) (val ins p5.1 b) → l7_1048570 k k [p1.2, p2.2, p3.2, p4.2, p5.2] (Ev p5.1 ins) [val ins p5.1 a && val ins p5.1 b, val ins p5.1 a || val ins p5.1 b, !(val ins p5.1 a == val ins p5.1 b), e, q.all (val ins p4.1)] 0 = some (.inl ((), ())) := by
      intro e he
      have := told_loop k (told := [p1.2, p2.2, p3.2, p4.2, p5.2]) (v := Ev p5.1 ins) (want := [val ins p5.1 a && val ins p5.1 b, val ins p5.1 a || val ins p5.1 b, !(val ins p5.1 a == val ins p5.1 b), e, q.all (val ins p4.1)]) rfl (by simp) (fun i t w h1 h2 => by
        have good : ∀ {t : Int}, isL p5.1 t = true → 0 ≤ t ∧ I64 t := fun ht => ⟨(isL_iff.1 ht).1, i64 big ht⟩
        match i, h1, h2 with
        | 0, h1, h2 => cases h1; cases h2; exact ⟨(good r15).1, (good r15).2, by rw [vw, w15, w14, w13, w12, t1.val, va5, va4, va3, va2, va1, vb5, vb4, vb3, vb2, vb1]⟩
        | 1, h1, h2 => cases h1; cases h2; exact ⟨(good r25).1, (good r25).2, by rw [vw, w25, w24, w23, t2.val, va5, va4, va3, va2, vb5, vb4, vb3, vb2]⟩
        | 2, h1, h2 => cases h1; cases h2; exact ⟨(good r35).1, (good r35).2, by rw [vw, w35, w34, t3.val, va5, va4, va3, vb5, vb4, vb3]⟩
        | 3, h1, h2 => cases h1; cases h2; exact ⟨(good r45).1, (good r45).2, by rw [vw, w45, t4.val, he, va5, va4, vb5, vb4, vc5, vc4]⟩
        | 4, h1, h2 => cases h1; cases h2; exact ⟨(good t5lit).1, (good t5lit).2, by rw [vw, tv]⟩
        | n + 5, h1, h2 => simp at h1) 5 0 rfl k (by omega)
      exact this
    simp only [vw]
    cases hc' : val ins p5.1 c with
    | true =>
      rw [hc'] at fin
      simp only [cond_true, fin (val ins p5.1 a) rfl, Option.bind_some, f6]
    | false =>
      rw [hc'] at fin
      simp only [cond_false, fin (val ins p5.1 b) rfl, Option.bind_some, f6]
end Go.Proofs.Ytgljnnokifggkaa.M
