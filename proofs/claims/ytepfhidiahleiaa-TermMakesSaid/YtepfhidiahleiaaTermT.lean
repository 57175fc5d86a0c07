/-
Terms: each thing that is made, by the program and by the document.
-/
import Derived.Test.YtepfhidiahleiaaTermS
set_option linter.unusedVariables false
set_option linter.unusedSimpArgs false
set_option maxRecDepth 100000
namespace Go.Proofs.Ytepfhidiahleiaa.M
open Go Go.Proofs.Ytepfhidiahleiaa.Vm Go.Proofs.Ytepfhidiahleiaa.Pl
namespace Term
section
variable {k w c : Nat} {l : List D_Term} {m : Mp}
theorem Sim.wrap {p : Option R58} {q : Option R49} (s : Sim w c l p q) : Sim w c l (p.bind fun y => some ((y.1.1, ()), ((y.2.1.1, y.2.1.2.1, (), ()), y.2.2.1, ()))) (q.bind fun y => some ((y.1.1, y.1.2.1, ()), ())) := by
  obtain ⟨l', r, m', h1, h2, h3, rfl, rfl⟩ := s
  exact ⟨l', r, m', h1, h2, h3, rfl, rfl⟩
theorem Sim.mono {c' : Nat} {p : Option R58} {q : Option R49} (s : Sim w c l p q) (hc : c ≤ c') : Sim w c' l p q := by
  obtain ⟨l', r, m', h1, h2, h3, h4, h5⟩ := s
  exact ⟨l', r, m', h1, by omega, h3, h4, h5⟩
theorem same (hm : MapOk l m) (hg : Good w l) (r : Int) : Sim w c l (some ((r, ()), (((w : Int), l, (), ()), m, ()))) (some ((l, r, ()), ())) := ⟨l, r, m, hg, by omega, hm, rfl, rfl⟩
theorem un_sim (hk : 10000 ≤ k) (h : Wd w) (hm : MapOk l m) (hl : l.length ≤ 5000) (hg : Good w l) (op : ByteArray) (a : Int) : Sim w 1 l (f42v3 k op a w l m) (f50 k w l op a) := by
  unfold f42v3 f50 l50_12
  rw [p81 hk (by simp), p90 hk (by simp)]
  simp only [Option.bind_some, List.all_cons, List.all_nil, Bool.and_true]
  cases hp : isP l a with
  | false => exact same hm hg (-1)
  | true =>
    obtain ⟨e, hx, h0, he⟩ := isP_get hp
    have h88 : ∃ b : Bool, f88 k op = some ((b, ()), ()) ∧ (cond (!(op.toList == (ByteArray.mk #[45]).toList)) (cond (!(op.toList == (ByteArray.mk #[126]).toList)) (some (((!(op.toList == (ByteArray.mk #[33]).toList)), ()), ())) (some ((false, ()), ()))) (some ((false, ()), ())) : Option R50_12) = some ((!b, ()), ()) := by
      unfold f88
      cases op.toList == (ByteArray.mk #[45]).toList with
      | true => exact ⟨true, rfl, rfl⟩
      | false => cases op.toList == (ByteArray.mk #[126]).toList with
        | true => exact ⟨true, rfl, rfl⟩
        | false => exact ⟨_, rfl, rfl⟩
    obtain ⟨b, e1, e2⟩ := h88
    simp only [Bool.not_true, cond_false]
    rw [e1, e2]
    simp only [Option.bind_some]
    cases b with
    | false => exact same hm hg (-1)
    | true =>
      simp only [Bool.not_true, cond_false]
      rw [num83 h0 hx, ix_get h0 hx]
      simp only [Option.bind_some, beq_int]
      by_cases k1 : e.1 = 1
      · rw [decide_eq_true k1, cond_true, cond_true, ix_get h0 hx]
        obtain ⟨n, _, o1, o2⟩ := one_eq k h (hg e he k1) op
        rw [o1, o2]
        simp only [Option.bind_some]
        exact (num_sim hk h hm hl hg n).wrap
      · rw [decide_eq_false k1, cond_false, cond_false]
        exact (add_sim hk hm hl hg (x := (3, op, 0, a, 0, 0, ())) (fun h => by cases h)).wrap
theorem bin_sim (hk : 10000 ≤ k) (h : Wd w) (hm : MapOk l m) (hl : l.length ≤ 5000) (hg : Good w l) (op : ByteArray) (a b : Int) : Sim w 1 l (f37v3 k op a b w l m) (f51 k w l op a b) := by
  unfold f37v3 f51
  rw [p81 hk (by simp), p90 hk (by simp)]
  simp only [Option.bind_some, List.all_cons, List.all_nil, Bool.and_true]
  cases hp : isP l a with
  | false => exact same hm hg (-1)
  | true =>
    cases hp2 : isP l b with
    | false => exact same hm hg (-1)
    | true =>
      obtain ⟨e, hx, h0, he⟩ := isP_get hp
      obtain ⟨e', hx', h0', he'⟩ := isP_get hp2
      obtain ⟨n, s1, s2, _⟩ := sign_eq k (by omega) op
      simp only [Bool.and_self, Bool.not_true, cond_false]
      rw [s1, s2]
      simp only [Option.bind_some, beq_int]
      by_cases hn : n = 0
      · rw [decide_eq_true hn]; exact same hm hg (-1)
      · rw [decide_eq_false hn, cond_false, cond_false, num83 h0 hx, num83 h0' hx', ix_get h0 hx]
        simp only [Option.bind_some, beq_int]
        have hadd := (add_sim hk hm hl hg (x := (4, op, 0, a, b, 0, ())) (fun h => by cases h)).wrap
        by_cases k1 : e.1 = 1
        · rw [decide_eq_true k1, cond_true, cond_true, ix_get h0' hx']
          by_cases k2 : e'.1 = 1
          · rw [decide_eq_true k2, cond_true, cond_true, ix_get h0 hx, ix_get h0' hx']
            obtain ⟨v, _, o1, o2⟩ := apply_eq k (by omega) h (hg e he k1) (hg e' he' k2) op
            rw [o1, o2]
            simp only [Option.bind_some]
            exact (num_sim hk h hm hl hg v).wrap
          · rw [decide_eq_false k2, cond_false, cond_false]; exact hadd
        · rw [decide_eq_false k1, cond_false, cond_false]; exact hadd
theorem ite_sim (hk : 10000 ≤ k) (hm : MapOk l m) (hl : l.length ≤ 5000) (hg : Good w l) (i a b : Int) : Sim w 1 l (f43v3 k i a b w l m) (f52 k l i a b) := by
  unfold f43v3 f52 l52_28
  rw [p81 hk (by simp), p90 hk (by simp)]
  simp only [Option.bind_some, List.all_cons, List.all_nil, Bool.and_true]
  cases hp : isP l i with
  | false => exact same hm hg (-1)
  | true =>
    simp only [Bool.true_and]
    cases hp2 : isP l a && isP l b with
    | false => exact same hm hg (-1)
    | true =>
      obtain ⟨e, hx, h0, he⟩ := isP_get hp
      simp only [Bool.not_true, cond_false]
      rw [num83 h0 hx, ix_get h0 hx, ix_get h0 hx, ix_get h0 hx]
      simp only [Option.bind_some, bne, beq_int, ix_get h0 hx]
      by_cases k1 : e.1 = 1
      · rw [decide_eq_true k1]
        by_cases hn : e.2.2.1 = 0
        · rw [decide_eq_true hn]; exact same hm hg b
        · rw [decide_eq_false hn]; exact same hm hg a
      · rw [decide_eq_false k1]
        by_cases hab : a = b
        · rw [decide_eq_true hab]; exact same hm hg a
        · rw [decide_eq_false hab]
          exact (add_sim hk hm hl hg (x := (5, ByteArray.empty, 0, i, a, b, ())) (fun h => by cases h)).wrap
theorem truth_sim (hk : 10000 ≤ k) (h : Wd w) (hm : MapOk l m) (hl : l.length ≤ 4900) (hg : Good w l) (a : Int) : Sim w 2 l (f44v3 k a w l m) (f53 k w l a) := by
  unfold f44v3 f53
  rw [p81 hk (by simp), p90 hk (by simp)]
  simp only [Option.bind_some, List.all_cons, List.all_nil, Bool.and_true]
  cases hp : isP l a with
  | false => exact same hm hg (-1)
  | true =>
    obtain ⟨b, t1, t2, _⟩ := truly (k := k) (w := w) (l := l) (m := m) hk a
    simp only [Bool.not_true, cond_false]
    rw [t1, t2]
    simp only [Option.bind_some]
    cases b with
    | true => exact same hm hg a
    | false =>
      simp only [cond_false]
      obtain ⟨l', r, m', h1, h2, h3, h4, h5⟩ := num_sim (k := k) hk h hm (by omega) hg 0
      rw [h4, h5]
      simp only [Option.bind_some]
      obtain ⟨l2, r2, m2, g1, g2, g3, g4, g5⟩ := (bin_sim hk h h3 (by omega) h1 (ByteArray.mk #[33, 61]) a r).wrap
      exact ⟨l2, r2, m2, g1, by omega, g3, g4, g5⟩
theorem num92 {i : Int} {e : D_Term} (h0 : 0 ≤ i) (hx : l[i.toNat]? = some e) (n : Int) : f92 k l i n = some ((decide (e.1 = 1) && decide (e.2.2.1 = n), ()), ()) := by
  unfold f92
  rw [ix_get h0 hx, ix_get h0 hx]
  simp only [beq_int]
  by_cases k1 : e.1 = 1
  · rw [decide_eq_true k1]; simp
  · rw [decide_eq_false k1]; rfl
theorem both_sim (hk : 10000 ≤ k) (h : Wd w) (hm : MapOk l m) (hl : l.length ≤ 5000) (hg : Good w l) (a b : Int) : Sim w 1 l (f45v3 k a b w l m) (f54 k w l a b) := by
  unfold f45v3 f54
  obtain ⟨x, t1, t2, t3⟩ := truly (k := k) (w := w) (l := l) (m := m) hk a
  obtain ⟨y, u1, u2, u3⟩ := truly (k := k) (w := w) (l := l) (m := m) hk b
  rw [t1, t2]
  simp only [Option.bind_some]
  cases x with
  | false => exact same hm hg (-1)
  | true =>
    rw [u1, u2]
    simp only [Option.bind_some, Bool.not_true, cond_false]
    cases y with
    | false => exact same hm hg (-1)
    | true =>
      obtain ⟨p1, q1⟩ := t3 rfl
      obtain ⟨p2, q2⟩ := u3 rfl
      obtain ⟨e, hx, h0, he⟩ := isP_get p1
      obtain ⟨e', hx', h0', he'⟩ := isP_get p2
      have z1 : e.1 = 1 → e.2.2.1 = 0 ∨ e.2.2.1 = 1 := fun k1 => by have := q1 e hx k1; have := (hg e he k1).1; omega
      have z2 : e'.1 = 1 → e'.2.2.1 = 0 ∨ e'.2.2.1 = 1 := fun k1 => by have := q2 e' hx' k1; have := (hg e' he' k1).1; omega
      have hnum := (num_sim hk h hm hl hg 0).wrap
      have hbin := (bin_sim hk h hm hl hg (ByteArray.mk #[38, 38]) a b).wrap
      have hsa := same (c := 1) hm hg a
      have hsb := same (c := 1) hm hg b
      unfold l45v3_248 l45v3_998 l45v3_3998
      rw [num83 h0 hx, num83 h0' hx', num92 h0 hx, num92 h0' hx', num92 h0 hx, num92 h0' hx']
      simp only [Option.bind_some, beq_int, Bool.not_true, cond_false]
      by_cases k1 : e.1 = 1
      · rw [decide_eq_true k1]
        rcases z1 k1 with n1 | n1
        · rw [n1]; exact hnum
        · rw [n1]
          by_cases k2 : e'.1 = 1
          · rw [decide_eq_true k2]
            rcases z2 k2 with n2 | n2
            · rw [n2]; exact hnum
            · rw [n2]; exact hsb
          · rw [decide_eq_false k2]; exact hsb
      · rw [decide_eq_false k1]
        by_cases k2 : e'.1 = 1
        · rw [decide_eq_true k2]
          rcases z2 k2 with n2 | n2
          · rw [n2]; exact hnum
          · rw [n2]; exact hsa
        · rw [decide_eq_false k2]
          by_cases hab : a = b
          · rw [decide_eq_true hab]; exact hsa
          · rw [decide_eq_false hab]; exact hbin
theorem not_sim (hk : 10000 ≤ k) (h : Wd w) (hm : MapOk l m) (hl : l.length ≤ 5000) (hg : Good w l) (a : Int) : Sim w 1 l (f46v3 k a w l m) (f55 k w l a) := by
  unfold f46v3 f55
  obtain ⟨x, t1, t2, t3⟩ := truly (k := k) (w := w) (l := l) (m := m) hk a
  rw [t1, t2]
  simp only [Option.bind_some]
  cases x with
  | false => exact same hm hg (-1)
  | true =>
    obtain ⟨p1, q1⟩ := t3 rfl
    obtain ⟨e, hx, h0, he⟩ := isP_get p1
    have hun := (un_sim hk h hm hl hg (ByteArray.mk #[33]) a).wrap
    simp only [Bool.not_true, cond_false]
    rw [ix_get h0 hx, ix_get h0 hx]
    simp only [beq_int, ix_get h0 hx]
    by_cases k3 : e.1 = 3
    · rw [decide_eq_true k3]
      obtain ⟨y, u1, u2, u3⟩ := truly (k := k) (w := w) (l := l) (m := m) hk e.2.2.2.1
      simp only [cond_true]
      rw [u1, u2]
      simp only [Option.bind_some]
      cases y with
      | true => exact same hm hg _
      | false => exact hun
    · rw [decide_eq_false k3]; exact hun
theorem either_sim (hk : 10000 ≤ k) (h : Wd w) (hm : MapOk l m) (hl : l.length ≤ 4900) (hg : Good w l) (a b : Int) : Sim w 4 l (f47v3 k a b w l m) (f56 k w l a b) := by
  unfold f47v3 f56
  obtain ⟨l1, r1, m1, a1, a2, a3, a4, a5⟩ := not_sim (k := k) hk h hm (by omega) hg a
  rw [a4, a5]
  simp only [Option.bind_some]
  obtain ⟨l2, r2, m2, b1, b2, b3, b4, b5⟩ := not_sim (k := k) hk h a3 (by omega) a1 b
  rw [b4, b5]
  simp only [Option.bind_some]
  obtain ⟨l3, r3, m3, c1, c2, c3, c4, c5⟩ := both_sim (k := k) hk h b3 (by omega) b1 r1 r2
  rw [c4, c5]
  simp only [Option.bind_some]
  obtain ⟨l4, r4, m4, d1, d2, d3, d4, d5⟩ := (not_sim (k := k) hk h c3 (by omega) c1 r3).wrap
  exact ⟨l4, r4, m4, d1, by omega, d3, d4, d5⟩
theorem do_sim (hk : 10000 ≤ k) (h : Wd w) (hm : MapOk l m) (hl : l.length ≤ 4900) (hg : Good w l) (x : D_Act) : Sim w 4 l (f16v3 k x w l m) (f17 k w l x) := by
  unfold f16v3 f17
  cases x.1 == 0 with
  | true => exact ((num_sim hk h hm (by omega) hg _).wrap).mono (by omega)
  | false =>
  cases x.1 == 1 with
  | true =>
    simp only [cond_false, cond_true]
    unfold f21v3
    by_cases q1 : x.2.2.1 < 0
    · rw [decide_eq_true q1]; exact same hm hg (-1)
    · rw [decide_eq_false q1]
      by_cases q2 : x.2.2.1 ≥ 64
      · rw [decide_eq_true q2]; exact same hm hg (-1)
      · rw [decide_eq_false q2]
        simp only [cond_false]
        have s := add_sim hk hm (by omega) hg (x := (2, ByteArray.empty, x.2.2.1, 0, 0, 0, ())) (fun h => by cases h)
        obtain ⟨l', r, m', h1, h2, h3, h4, h5⟩ := s
        rw [h4, h5]
        exact ⟨l', r, m', h1, by omega, h3, rfl, rfl⟩
  | false =>
  cases x.1 == 2 with
  | true => exact ((un_sim hk h hm (by omega) hg _ _).wrap).mono (by omega)
  | false =>
  cases x.1 == 3 with
  | true => exact ((bin_sim hk h hm (by omega) hg _ _ _).wrap).mono (by omega)
  | false =>
  cases x.1 == 4 with
  | true => exact ((ite_sim hk hm (by omega) hg _ _ _).wrap).mono (by omega)
  | false =>
  cases x.1 == 5 with
  | true => exact ((truth_sim hk h hm (by omega) hg _).wrap).mono (by omega)
  | false =>
  cases x.1 == 6 with
  | true => exact ((both_sim hk h hm (by omega) hg _ _).wrap).mono (by omega)
  | false =>
  cases x.1 == 7 with
  | true => exact ((not_sim hk h hm (by omega) hg _).wrap).mono (by omega)
  | false => exact (either_sim hk h hm (by omega) hg _ _).wrap
end
end Term
end Go.Proofs.Ytepfhidiahleiaa.M
