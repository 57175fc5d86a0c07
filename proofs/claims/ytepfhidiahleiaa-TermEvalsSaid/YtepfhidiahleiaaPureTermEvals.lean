/-
Which terms there may be, and each one's value: the plain law, ended. For every input, no condition.
-/
import Derived.Test.YtepfhidiahleiaaTermE
set_option linter.unusedVariables false
set_option linter.unusedSimpArgs false
set_option maxRecDepth 100000
namespace Go.Proofs.Ytepfhidiahleiaa.M
open Go Go.Proofs.Ytepfhidiahleiaa.Vm Go.Proofs.Ytepfhidiahleiaa.Pl
namespace Term
theorem at_pl {v : List Int} {a : Int} {i : Nat} (hv : v.length = i) (h : pl a i = true) : ∃ x, v[a.toNat]? = some x ∧ 0 ≤ a ∧ x ∈ v := by
  have h' := pl_iff.1 h
  exact ⟨v[a.toNat], List.getElem?_eq_getElem (by omega), h'.1, List.getElem_mem _⟩
/-- One term's value, by both. -/
theorem value_step {k w : Nat} (hk : 10000 ≤ k) (h : Wd w) {reads v : List Int} (hv : ∀ n ∈ v, Nm w n) {i : Nat} (hi : v.length = i) (hi2 : i ≤ 100) {x : D_Term} (ok : Ok w i x) : ∃ n, Nm w n ∧
    (l9_31334 k w reads v 0 x.1 x.2.1 x.2.2.1 x.2.2.2.1 x.2.2.2.2.1 x.2.2.2.2.2.1 = some ((v, n, ()), (x, ()))) ∧
    ∀ (l : List D_Term) (rec : T13_58), l[i]? = some x → (i : Int) < l.length → b13_58 k rec w l reads v i = (rec w l reads (v ++ [n]) (w64 ((i : Int) + 1))).bind fun y => some ((y.1.1, ()), ()) := by
  have hroom : (v.length + 1) * 8 ≤ room := by unfold room; omega
  obtain ⟨n0, n1⟩ := nm_bool h
  cases ok with
  | @num op n a b c hn =>
    refine ⟨n, hn, rfl, fun l rec hx hlt => ?_⟩
    unfold b13_58
    rw [decide_eq_true hlt, cond_true, ix_nat hx]
    refine Eq.trans (b := gd (decide ((v.length + 1) * 8 ≤ room)) ((rec w l reads (v ++ [n]) (w64 ((i : Int) + 1))).bind fun y => some ((y.1.1, ()), ()))) (by kernel_rfl) ?_
    rw [gd_dec hroom]
  | @read op n a b c hn =>
    by_cases hr : n < reads.length
    · have hrx : reads[n.toNat]? = some reads[n.toNat] := List.getElem?_eq_getElem (by omega)
      refine ⟨reads[n.toNat] % 2 ^ w, nm_mod _, ?_, fun l rec hx hlt => ?_⟩
      · unfold l9_31334
        dsimp only
        rw [decide_eq_true hr, ix_get hn hrx, decide_eq_false (by omega : ¬ (w : Int) < 0), mask_txt h, and_mask h]
        rfl
      · have e1 : l13_14926 k w reads 0 2 op n a b c = some ((reads[n.toNat] % 2 ^ w, ()), ((2, op, n, a, b, c, ()), ())) := by
          unfold l13_14926 l13_29852
          rw [decide_eq_true hr]
          refine Eq.trans (b := ix reads n fun e2 => (f27 k e2 w).bind fun y3 => some ((y3.1.1, ()), ((2, op, n, a, b, c, ()), ()))) rfl ?_
          rw [ix_get hn hrx, mod27 k _ h]
          rfl
        unfold b13_58
        rw [decide_eq_true hlt, cond_true, ix_nat hx]
        dsimp only
        rw [show ((2 : Int) == 1) = false from rfl, cond_false, e1]
        refine Eq.trans (b := gd (decide ((v.length + 1) * 8 ≤ room)) ((rec w l reads (v ++ [reads[n.toNat] % 2 ^ w]) (w64 ((i : Int) + 1))).bind fun y => some ((y.1.1, ()), ()))) (by kernel_rfl) ?_
        rw [gd_dec hroom]
    · refine ⟨0, n0, ?_, fun l rec hx hlt => ?_⟩
      · unfold l9_31334
        dsimp only
        rw [decide_eq_false hr]
        rfl
      · have e1 : l13_14926 k w reads 0 2 op n a b c = some ((0, ()), ((2, op, n, a, b, c, ()), ())) := by
          unfold l13_14926 l13_29852
          rw [decide_eq_false hr]
          rfl
        unfold b13_58
        rw [decide_eq_true hlt, cond_true, ix_nat hx]
        dsimp only
        rw [show ((2 : Int) == 1) = false from rfl, cond_false, e1]
        refine Eq.trans (b := gd (decide ((v.length + 1) * 8 ≤ room)) ((rec w l reads (v ++ [0]) (w64 ((i : Int) + 1))).bind fun y => some ((y.1.1, ()), ()))) (by kernel_rfl) ?_
        rw [gd_dec hroom]
  | @un op n a b c hp =>
    obtain ⟨x, hx0, h0, hm⟩ := at_pl hi hp
    obtain ⟨r, hr, o1, o2⟩ := one_eq k h (hv x hm) op
    refine ⟨r, hr, ?_, fun l rec hx hlt => ?_⟩
    · refine Eq.trans (b := ix v a fun e2 => (f38 k w op e2).bind fun y3 => some ((v, y3.1.1, ()), ((3, op, n, a, b, c, ()), ()))) (by kernel_rfl) ?_
      rw [ix_get h0 hx0, o1]; rfl
    · have e1 : l13_29854 k w v 0 3 op n a b c = some ((v, r, ()), ((3, op, n, a, b, c, ()), ())) := by
        refine Eq.trans (b := ix v a fun e2 => (f23 k w op e2).bind fun y3 => some ((v, y3.1.1, ()), ((3, op, n, a, b, c, ()), ()))) (by kernel_rfl) ?_
        rw [ix_get h0 hx0, o2]; rfl
      have e0 : l13_14926 k w reads 0 3 op n a b c = some ((0, ()), ((3, op, n, a, b, c, ()), ())) := rfl
      unfold b13_58
      rw [decide_eq_true hlt, cond_true, ix_nat hx]
      dsimp only
      rw [show ((3 : Int) == 1) = false from rfl, cond_false, e0, Option.bind_some]
      dsimp only
      rw [e1]
      refine Eq.trans (b := gd (decide ((v.length + 1) * 8 ≤ room)) ((rec w l reads (v ++ [r]) (w64 ((i : Int) + 1))).bind fun y => some ((y.1.1, ()), ()))) (by kernel_rfl) ?_
      rw [gd_dec hroom]
  | @bin op n a b c hp hp2 =>
    obtain ⟨x, hx0, h0, hm⟩ := at_pl hi hp
    obtain ⟨x', hx0', h0', hm'⟩ := at_pl hi hp2
    obtain ⟨r, hr, o1, o2⟩ := apply_eq k (by omega) h (hv x hm) (hv x' hm') op
    refine ⟨r, hr, ?_, fun l rec hx hlt => ?_⟩
    · refine Eq.trans (b := ix v a fun e4 => ix v b fun e5 => (f25 k w op e4 e5).bind fun y6 => some ((v, y6.1.1, ()), ((4, op, n, a, b, c, ()), ()))) (by kernel_rfl) ?_
      rw [ix_get h0 hx0, ix_get h0' hx0', o1]; rfl
    · have e1 : l13_59710 k w v 0 4 op n a b c = some ((v, r, ()), ((4, op, n, a, b, c, ()), ())) := by
        refine Eq.trans (b := ix v a fun e2 => ix v b fun e3 => (f24 k w op e2 e3).bind fun y4 => some ((v, y4.1.1, ()), ((4, op, n, a, b, c, ()), ()))) (by kernel_rfl) ?_
        rw [ix_get h0 hx0, ix_get h0' hx0', o2]; rfl
      have e0 : l13_14926 k w reads 0 4 op n a b c = some ((0, ()), ((4, op, n, a, b, c, ()), ())) := rfl
      have e2 : l13_29854 k w v 0 4 op n a b c = some ((v, 0, ()), ((4, op, n, a, b, c, ()), ())) := rfl
      unfold b13_58
      rw [decide_eq_true hlt, cond_true, ix_nat hx]
      dsimp only
      rw [show ((4 : Int) == 1) = false from rfl, cond_false, e0, Option.bind_some]
      dsimp only
      rw [e2, Option.bind_some]
      dsimp only
      rw [e1]
      refine Eq.trans (b := gd (decide ((v.length + 1) * 8 ≤ room)) ((rec w l reads (v ++ [r]) (w64 ((i : Int) + 1))).bind fun y => some ((y.1.1, ()), ()))) (by kernel_rfl) ?_
      rw [gd_dec hroom]
  | @ite op n a b c hp hp2 hp3 =>
    obtain ⟨x, hx0, h0, hm⟩ := at_pl hi hp
    obtain ⟨x1, hx1, h1, hm1⟩ := at_pl hi hp2
    obtain ⟨x2, hx2, h2, hm2⟩ := at_pl hi hp3
    have e0 : l13_14926 k w reads 0 5 op n a b c = some ((0, ()), ((5, op, n, a, b, c, ()), ())) := rfl
    have e2 : l13_29854 k w v 0 5 op n a b c = some ((v, 0, ()), ((5, op, n, a, b, c, ()), ())) := rfl
    have e3 : l13_59710 k w v 0 5 op n a b c = some ((v, 0, ()), ((5, op, n, a, b, c, ()), ())) := rfl
    have u1 : ∀ q, l13_238844 k v 5 op q a b c = some ((v, x != 0, ()), ((5, op, q, a, b, c, ()), ())) := fun q => by
      refine Eq.trans (b := ix v a fun e1 => some ((v, e1 != 0, ()), ((5, op, q, a, b, c, ()), ()))) (by kernel_rfl) ?_
      rw [ix_get h0 hx0]
    have u2 : ∀ q, l13_477692 k v 5 op q a b c = some ((v, x == 0, ()), ((5, op, q, a, b, c, ()), ())) := fun q => by
      refine Eq.trans (b := ix v a fun e1 => some ((v, e1 == 0, ()), ((5, op, q, a, b, c, ()), ()))) (by kernel_rfl) ?_
      rw [ix_get h0 hx0]
    have g : ∀ r : Int, l13_119422 k v 0 5 op n a b c = some ((v, (if x = 0 then 0 else x1), ()), ((5, op, n, a, b, c, ()), ())) := fun _ => by
      unfold l13_119422
      rw [u1, Option.bind_some]
      dsimp only
      by_cases hz : x = 0
      · rw [if_pos hz, hz]; rfl
      · rw [if_neg hz, bne, beq_int, decide_eq_false hz]
        refine Eq.trans (b := ix v b fun e2 => some ((v, e2, ()), ((5, op, n, a, b, c, ()), ()))) rfl ?_
        rw [ix_get h1 hx1]
    have g2 : ∀ r : Int, l13_238846 k v r 5 op n a b c = some ((v, (if x = 0 then x2 else r), ()), ((5, op, n, a, b, c, ()), ())) := fun r => by
      unfold l13_238846
      rw [u2, Option.bind_some]
      dsimp only
      by_cases hz : x = 0
      · rw [if_pos hz, hz]
        refine Eq.trans (b := ix v c fun e2 => some ((v, e2, ()), ((5, op, n, a, b, c, ()), ()))) rfl ?_
        rw [ix_get h2 hx2]
      · rw [if_neg hz, beq_int, decide_eq_false hz]; rfl
    refine ⟨if x = 0 then x2 else x1, by split; exact hv _ hm2; exact hv _ hm1, ?_, fun l rec hx hlt => ?_⟩
    · refine Eq.trans (b := ix v c fun e7 => ix v a fun e8 => cond (e8 != 0) (ix v b fun e9 => some ((v, e9, ()), ((5, op, n, a, b, c, ()), ()))) (some ((v, e7, ()), ((5, op, n, a, b, c, ()), ())))) (by kernel_rfl) ?_
      rw [ix_get h2 hx2, ix_get h0 hx0, ix_get h1 hx1]
      by_cases hz : x = 0
      · rw [if_pos hz, hz]; rfl
      · rw [if_neg hz, bne, beq_int, decide_eq_false hz]; rfl
    · unfold b13_58
      rw [decide_eq_true hlt, cond_true, ix_nat hx]
      dsimp only
      rw [show ((5 : Int) == 1) = false from rfl, cond_false, e0, Option.bind_some]
      dsimp only
      rw [e2, Option.bind_some]
      dsimp only
      rw [e3, Option.bind_some]
      dsimp only
      rw [g 0, Option.bind_some]
      dsimp only
      rw [g2, Option.bind_some]
      dsimp only
      rw [gd_dec hroom]
      by_cases hz : x = 0
      · rw [if_pos hz, if_pos hz]
      · rw [if_neg hz, if_neg hz, if_neg hz]
theorem value_loops {k w : Nat} (hk : 10000 ≤ k) (h : Wd w) {l : List D_Term} {reads : List Int} (hl : l.length ≤ 100) (ok : ∀ (t : Nat) (x : D_Term), l[t]? = some x → Ok w t x) : ∀ (d i : Nat) (v : List Int), l.length - i = d → i ≤ l.length → v.length = i → (∀ n ∈ v, Nm w n) → ∀ j, d < j →
    ∃ u : List Int, u.length ≤ 100 ∧ l9_122 k j w reads v l l.length i = some ((u, ()), ()) ∧ l13_58 k j w l reads v i = some ((u, ()), ()) := by
  intro d
  induction d with
  | zero =>
    intro i v hi hil hvl hv j hj
    obtain ⟨j, rfl, _⟩ := succ_of (n := 0) (by omega : 0 + 1 ≤ j)
    refine ⟨v, by omega, ?_, ?_⟩
    · show b9_122 k (l9_122 k j) w reads v l l.length i = _
      unfold b9_122
      rw [decide_eq_false (by omega : ¬ (i : Int) < l.length)]
      rfl
    · show b13_58 k (l13_58 k j) w l reads v i = _
      unfold b13_58
      rw [decide_eq_false (by omega : ¬ (i : Int) < l.length)]
      rfl
  | succ d ih =>
    intro i v hi hil hvl hv j hj
    obtain ⟨j, rfl, hj2⟩ := succ_of (by omega : d + 1 + 1 ≤ j)
    have hx : l[i]? = some l[i] := List.getElem?_eq_getElem (by omega)
    have hw : w64 ((i : Int) + 1) = ((i + 1 : Nat) : Int) := by rw [w64_id (by omega) (by omega)]; omega
    obtain ⟨n, hn, s1, s2⟩ := value_step (k := k) (reads := reads) hk h hv hvl (by omega) (ok i _ hx)
    obtain ⟨u, hu, r1, r2⟩ := ih (i + 1) (v ++ [n]) (by omega) (by omega) (by simp [hvl]) (fun q hq => by
      rcases List.mem_append.1 hq with hq | hq
      · exact hv q hq
      · have : q = n := by simpa using hq
        subst this; exact hn) j hj2
    refine ⟨u, hu, ?_, ?_⟩
    · show b9_122 k (l9_122 k j) w reads v l l.length i = _
      unfold b9_122
      rw [decide_eq_true (by omega : (i : Int) < l.length), cond_true, ix_nat hx, s1, Option.bind_some]
      dsimp only
      rw [gd_dec (by unfold room; omega), hw, r1]
      rfl
    · show b13_58 k (l13_58 k j) w l reads v i = _
      rw [s2 l _ hx (by omega), hw, r2]
      rfl
theorem ints12 (k : Nat) (hk : 2000 ≤ k) {g : List Int} (hg : g.length ≤ 100) : f12 k g g = some ((true, ()), ()) := by
  have loop : ∀ (d i : Nat), g.length - i = d → ∀ j, d < j → l12_58 k j g g i = some (.inl ((), ())) := by
    intro d
    induction d with
    | zero =>
      intro i hi j hj
      obtain ⟨j, rfl, _⟩ := succ_of (n := 0) (by omega : 0 + 1 ≤ j)
      show b12_58 k (l12_58 k j) g g i = _
      unfold b12_58
      rw [decide_eq_false (by omega : ¬ (i : Int) < g.length)]
      rfl
    | succ d ih =>
      intro i hi j hj
      obtain ⟨j, rfl, hj2⟩ := succ_of (by omega : d + 1 + 1 ≤ j)
      show b12_58 k (l12_58 k j) g g i = _
      have hx : g[i]? = some g[i] := List.getElem?_eq_getElem (by omega)
      have hw : w64 ((i : Int) + 1) = ((i + 1 : Nat) : Int) := by rw [w64_id (by omega) (by omega)]; omega
      have hrec := ih (i + 1) (by omega) j hj2
      unfold b12_58
      rw [decide_eq_true (by omega : (i : Int) < g.length), cond_true, ix_nat hx, ix_nat hx, bne_self_eq_false, cond_false, hw, hrec]
      rfl
  have := loop g.length 0 rfl k (by omega)
  rw [show ((0 : Nat) : Int) = 0 from rfl] at this
  unfold f12
  rw [this, bne_self_eq_false]
  rfl
theorem size_loop (k : Nat) (e : f8 k () = some ((true, ()), ())) {l : List D_Term} (hl : l.length ≤ 100) : ∀ (d i : Nat), l.length - i = d → ∀ j, d < j → l3_58 k j l i = some (.inl ((), ())) ∨ l3_58 k j l i = some (.inr ((true, ()), ())) := by
  intro d
  induction d with
  | zero =>
    intro i hi j hj
    obtain ⟨j, rfl, _⟩ := succ_of (n := 0) (by omega : 0 + 1 ≤ j)
    left
    show b3_58 k (l3_58 k j) l i = _
    unfold b3_58
    rw [decide_eq_false (by omega : ¬ (i : Int) < l.length)]
    rfl
  | succ d ih =>
    intro i hi j hj
    obtain ⟨j, rfl, hj2⟩ := succ_of (by omega : d + 1 + 1 ≤ j)
    show b3_58 k (l3_58 k j) l i = _ ∨ b3_58 k (l3_58 k j) l i = _
    have hx : l[i]? = some l[i] := List.getElem?_eq_getElem (by omega)
    have hw : w64 ((i : Int) + 1) = ((i + 1 : Nat) : Int) := by rw [w64_id (by omega) (by omega)]; omega
    have hrec := ih (i + 1) (by omega) j hj2
    unfold b3_58
    rw [decide_eq_true (by omega : (i : Int) < l.length), cond_true, ix_nat hx, hw, e]
    cases decide ((l[i].2.1.size : Int) > 20) with
    | true => exact .inr rfl
    | false =>
      rcases hrec with r | r <;> rw [r]
      · exact .inl rfl
      · exact .inr rfl
end Term
open Term in
theorem Pure.TermEvals (width : Int) (_ : Fit i64 width) (l : List D_Term) (_ : Fit (.slice T_Term) l) (reads : List Int) (_ : Fit (.slice i64) reads) : ∃ k, f3 k width l reads = some ((true, ()), ()) := by
  refine (awake8E.mono2 (E.ge 20000) fun k e hk => ?_).ex
  unfold f3
  by_cases h1 : l.length > 40
  · rw [decide_eq_true (by omega : (l.length : Int) > 40), e]; rfl
  rw [decide_eq_false (by omega : ¬ (l.length : Int) > 40)]
  by_cases h2 : reads.length > 100
  · rw [decide_eq_true (by omega : (reads.length : Int) > 100), e]; rfl
  rw [decide_eq_false (by omega : ¬ (reads.length : Int) > 100), cond_false, cond_false]
  have hs := size_loop k e (l := l) (by omega) l.length 0 rfl k (by omega)
  rw [show ((0 : Nat) : Int) = 0 from rfl] at hs
  rcases hs with hs | hs
  · rw [hs, Option.bind_some]
    dsimp only
    by_cases hw : 1 ≤ width ∧ width ≤ 8
    · obtain ⟨w, rfl⟩ : ∃ v : Nat, width = v := ⟨width.toNat, by omega⟩
      have h : Wd w := ⟨by omega, by omega⟩
      have hc := check_loops (k := k) (by omega) h (l := l) (by omega) l.length 0 rfl k (by omega)
      rw [show ((0 : Nat) : Int) = 0 from rfl] at hc
      have c1 : ¬ (w : Int) < 1 := by omega
      have c2 : ¬ (w : Int) > 8 := by omega
      have c3 : ¬ (l.length : Int) > 8192 := by omega
      rcases hc with ⟨r1, r2, r3⟩ | ⟨r1, r2⟩
      · have e11 : f11 k w l = some ((0, ()), ()) := by
          unfold f11
          rw [wide40 k h, Option.bind_some]
          dsimp only
          rw [Bool.not_true, cond_false, decide_eq_false c3, cond_false, r1]
          rfl
        have e10 : f10 k w l = some ((true, ()), ()) := by
          unfold f10
          rw [decide_eq_false c1, decide_eq_false c2, decide_eq_false c3, cond_false, cond_false, cond_false, r2]
          rfl
        obtain ⟨u, hu, v1, v2⟩ := value_loops (k := k) (reads := reads) (by omega) h (l := l) (by omega) (fun t x hx => r3 t x (by omega) hx) l.length 0 [] rfl (by omega) rfl (fun n hn => by cases hn) k (by omega)
        rw [show ((0 : Nat) : Int) = 0 from rfl] at v1 v2
        have e9 : f9 k w l reads = some ((u, ()), ()) := by
          unfold f9
          rw [e11, Option.bind_some]
          dsimp only
          rw [bne_self_eq_false, cond_false, v1]
          rfl
        have e13 : f13 k w l reads = some ((u, ()), ()) := by
          unfold f13
          rw [v2]
          rfl
        simp only [e9, e10, e11, e13, ints12 k (by omega) hu, e, Option.bind_some, Bool.not_true, cond_false, cond_true, beq_self_eq_true]
      · have e11 : f11 k w l = some ((1, ()), ()) := by
          unfold f11
          rw [wide40 k h, Option.bind_some]
          dsimp only
          rw [Bool.not_true, cond_false, decide_eq_false c3, cond_false, r1]
          rfl
        have e10 : f10 k w l = some ((false, ()), ()) := by
          unfold f10
          rw [decide_eq_false c1, decide_eq_false c2, decide_eq_false c3, cond_false, cond_false, cond_false, r2]
          rfl
        have e9 : f9 k w l reads = some (([], ()), ()) := by
          unfold f9
          rw [e11]
          rfl
        rw [e9, e10, e11, e]
        rfl
    · have h40 : f40 k width = some ((false, ()), ()) := by
        unfold f40
        by_cases h1 : width ≥ 1
        · rw [decide_eq_true h1, cond_true, decide_eq_false (by omega : ¬ width ≤ 8)]
        · rw [decide_eq_false h1]; rfl
      have e11 : f11 k width l = some ((1, ()), ()) := by
        unfold f11
        rw [h40]
        rfl
      have e10 : f10 k width l = some ((false, ()), ()) := by
        unfold f10
        by_cases h1 : width < 1
        · rw [decide_eq_true h1]; rfl
        · rw [decide_eq_false h1, decide_eq_true (by omega : width > 8)]; rfl
      have e9 : f9 k width l reads = some (([], ()), ()) := by
        unfold f9
        rw [e11]
        rfl
      rw [e9, e10, e11, e]
      rfl
  · rw [hs]
    rfl
end Go.Proofs.Ytepfhidiahleiaa.M
