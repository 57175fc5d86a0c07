/-
Programs as trees: which are alike. The plain law.
-/
import Derived.Test.YticelgnmcjkknaaTsA
set_option linter.unusedVariables false
set_option linter.unusedSimpArgs false
set_option maxRecDepth 100000
namespace Go.Proofs.Yticelgnmcjkknaa.M
open Go Go.Proofs.Yticelgnmcjkknaa.Vm Go.Proofs.Yticelgnmcjkknaa.Pl
namespace Tree
open Lex
def sameD (a b : D_Decl) : Bool := (a.1 == b.1) && ((a.2.1.toList == b.2.1.toList) && (a.2.2.1 == b.2.2.1))
theorem sameD_symm (a b : D_Decl) : sameD a b = sameD b a := by
  unfold sameD
  rw [i_comm a.1, bs_comm a.2.1, i_comm a.2.2.1]
def sameP (n : Nat) (a b : D_Proc) : Bool := (a.1.toList == b.1.toList) && all2 (sameS n) a.2.1 b.2.1
theorem sameP_symm (n : Nat) (a b : D_Proc) : sameP n a b = sameP n b a := by
  unfold sameP
  rw [bs_comm a.1, all2_symm (sameS_symm n)]
theorem list62 (k : Nat) {l m : List D_Decl} (hl : l.length ≤ mx) (hk : l.length < k) : f62 k l m = some ((all2 sameD l m, ()), ()) := by
  unfold f62
  rw [len_b]
  by_cases he : l.length = m.length
  · have hq : ∀ j, l62_58 k j = eqL (fun x y => f63 k x y) j := by
      intro j
      induction j with
      | zero => rfl
      | succ j ih => show b62_58 k (l62_58 k j) = _; rw [ih]; rfl
    have := eqL_run (g := fun x y => f63 k x y) (f := sameD) hl he (fun x hx y hy => by unfold f63 sameD; cases (x.1 == y.1) <;> cases (x.2.1.toList == y.2.1.toList) <;> rfl) l.length 0 (by omega) k (by omega)
    rw [show ((0 : Nat) : Int) = 0 from rfl, List.drop_zero, List.drop_zero] at this
    rw [decide_eq_true he, hq, this]
    cases all2 sameD l m <;> rfl
  · rw [decide_eq_false he, all2_len he]; rfl
theorem list64 (k n : Nat) {l m : List D_Proc} (hl : l.length ≤ mx) (hk : l.length < k) (h : ∀ x ∈ l, ∀ y ∈ m, f66 k x.2.1 y.2.1 = some ((all2 (sameS n) x.2.1 y.2.1, ()), ())) : f64 k l m = some ((all2 (sameP n) l m, ()), ()) := by
  unfold f64
  rw [len_b]
  by_cases he : l.length = m.length
  · have hq : ∀ j, l64_58 k j = eqL (fun x y => f65 k x y) j := by
      intro j
      induction j with
      | zero => rfl
      | succ j ih => show b64_58 k (l64_58 k j) = _; rw [ih]; rfl
    have := eqL_run (g := fun x y => f65 k x y) (f := sameP n) hl he (fun x hx y hy => by unfold f65 sameP; rw [h x hx y hy]; cases (x.1.toList == y.1.toList) <;> rfl) l.length 0 (by omega) k (by omega)
    rw [show ((0 : Nat) : Int) = 0 from rfl, List.drop_zero, List.drop_zero] at this
    rw [decide_eq_true he, hq, this]
    cases all2 (sameP n) l m <;> rfl
  · rw [decide_eq_false he, all2_len he]; rfl
theorem decls28 (k : Nat) {l m : List D_Decl} (hl : l.length ≤ mx) (he : l.length = m.length) {w v : Int} {ps qs : List D_Proc} : ∀ (q i : Nat), l.length - i = q → ∀ j, q < j →
    l28_58 k j i w l ps v m qs = cond (all2 sameD (l.drop i) (m.drop i)) (some (.inl ((), ((w, l, ps, ()), (v, m, qs, ()), ())))) (some (.inr ((false, ()), ((w, l, ps, ()), (v, m, qs, ()), ())))) := by
  intro q
  induction q with
  | zero =>
    intro i hi j hj
    obtain ⟨j, rfl, _⟩ := succ_of (n := 0) (by omega : 0 + 1 ≤ j)
    rw [List.drop_of_length_le (by omega : l.length ≤ i), List.drop_of_length_le (by omega : m.length ≤ i)]
    show b28_58 k (l28_58 k j) i w l ps v m qs = _
    unfold b28_58
    rw [decide_eq_false (by omega : ¬ (i : Int) < l.length)]; rfl
  | succ q ih =>
    intro i hi j hj
    obtain ⟨j, rfl, hj2⟩ := succ_of (by omega : q + 1 + 1 ≤ j)
    have hlt : i < l.length := by omega
    have hlt2 : i < m.length := by omega
    have hx : l[i]? = some l[i] := List.getElem?_eq_getElem hlt
    have hy : m[i]? = some m[i] := List.getElem?_eq_getElem hlt2
    rw [all2_drop hlt hlt2]
    show b28_58 k (l28_58 k j) i w l ps v m qs = _
    have hix : ∀ {R : Type} {K : D_Decl → Option R}, ix l (i : Int) K = K l[i] := fun {R K} => ix_nat hx
    have hiy : ∀ {R : Type} {K : D_Decl → Option R}, ix m (i : Int) K = K m[i] := fun {R K} => ix_nat hy
    unfold b28_58
    rw [decide_eq_true (by omega : (i : Int) < l.length), cond_true]
    simp only [hix, hiy]
    rw [w_one hlt hl, ih (i + 1) (by omega) j hj2]
    unfold sameD bne
    cases (l[i].1 == m[i].1) <;> cases (l[i].2.1.toList == m[i].2.1.toList) <;> cases (l[i].2.2.1 == m[i].2.2.1) <;> cases all2 _ (l.drop (i + 1)) (m.drop (i + 1)) <;> rfl
theorem procs28 (k n : Nat) {l m : List D_Proc} (hl : l.length ≤ mx) (he : l.length = m.length) (hg : ∀ x ∈ l, ∀ y ∈ m, f68 k x.2.1 y.2.1 = some ((all2 (sameS n) x.2.1 y.2.1, ()), ())) {w v : Int} {ds es : List D_Decl} : ∀ (q i : Nat), l.length - i = q → ∀ j, q < j →
    l28_122 k j i w ds l v es m = cond (all2 (sameP n) (l.drop i) (m.drop i)) (some (.inl ((), ((w, ds, l, ()), (v, es, m, ()), ())))) (some (.inr ((false, ()), ((w, ds, l, ()), (v, es, m, ()), ())))) := by
  intro q
  induction q with
  | zero =>
    intro i hi j hj
    obtain ⟨j, rfl, _⟩ := succ_of (n := 0) (by omega : 0 + 1 ≤ j)
    rw [List.drop_of_length_le (by omega : l.length ≤ i), List.drop_of_length_le (by omega : m.length ≤ i)]
    show b28_122 k (l28_122 k j) i w ds l v es m = _
    unfold b28_122
    rw [decide_eq_false (by omega : ¬ (i : Int) < l.length)]; rfl
  | succ q ih =>
    intro i hi j hj
    obtain ⟨j, rfl, hj2⟩ := succ_of (by omega : q + 1 + 1 ≤ j)
    have hlt : i < l.length := by omega
    have hlt2 : i < m.length := by omega
    have hx : l[i]? = some l[i] := List.getElem?_eq_getElem hlt
    have hy : m[i]? = some m[i] := List.getElem?_eq_getElem hlt2
    rw [all2_drop hlt hlt2]
    show b28_122 k (l28_122 k j) i w ds l v es m = _
    have hix : ∀ {R : Type} {K : D_Proc → Option R}, ix l (i : Int) K = K l[i] := fun {R K} => ix_nat hx
    have hiy : ∀ {R : Type} {K : D_Proc → Option R}, ix m (i : Int) K = K m[i] := fun {R K} => ix_nat hy
    unfold b28_122
    rw [decide_eq_true (by omega : (i : Int) < l.length), cond_true]
    simp only [hix, hiy]
    rw [hg _ (List.getElem_mem hlt) _ (List.getElem_mem hlt2), w_one hlt hl, ih (i + 1) (by omega) j hj2]
    simp only [Option.bind_some]
    unfold sameP
    cases (l[i].1.toList == m[i].1.toList) <;> cases all2 (sameS n) l[i].2.1 m[i].2.1 <;> cases all2 _ (l.drop (i + 1)) (m.drop (i + 1)) <;> rfl
/-- What is told of two programs. -/
def alike (n : Nat) (okp okq : Bool) (p q : D_Prog) : Bool := okp && (okq && ((p.1 == q.1) && (all2 sameD p.2.1 q.2.1 && all2 (sameP n) p.2.2.1 q.2.2.1)))
theorem alike_symm (n : Nat) (okp okq : Bool) (p q : D_Prog) : alike n okp okq p q = alike n okq okp q p := by
  unfold alike
  rw [i_comm p.1, all2_symm sameD_symm, all2_symm (sameP_symm n)]
  cases okp <;> cases okq <;> rfl
theorem both33 {p : D_Prog} (hf : Fit T_Prog p) : E fun k => ∃ ok : Bool, f33 k p = some ((cond ok 0 1, ()), ()) ∧ f37 k p = some ((ok, ()), ()) := by
  refine (both71 hf).mono fun k ⟨ok, s, x, h71, h32, hpos⟩ => ⟨ok, ?_, ?_⟩
  · unfold f33
    rw [h71]
    cases ok <;> rfl
  · unfold f37
    rw [h32]
    cases ok with
    | false => rfl
    | true =>
      have := hpos rfl
      simp only [Option.bind_some, cond_true]
      rw [decide_eq_true (by omega : s ≥ 0)]
theorem alike27 (k n : Nat) {p q : D_Prog} {okp okq : Bool} (hp : f33 k p = some ((cond okp 0 1, ()), ())) (hq : f33 k q = some ((cond okq 0 1, ()), ()))
    (hd : p.2.1.length ≤ mx ∧ p.2.1.length < k) (hl : p.2.2.1.length ≤ mx ∧ p.2.2.1.length < k) (h : ∀ x ∈ p.2.2.1, ∀ y ∈ q.2.2.1, f66 k x.2.1 y.2.1 = some ((all2 (sameS n) x.2.1 y.2.1, ()), ())) :
    f27 k p q = some ((alike n okp okq p q, ()), ()) := by
  unfold f27 alike
  rw [hp, hq, list62 k hd.1 hd.2, list64 k n hl.1 hl.2 h]
  unfold bne
  cases okp <;> cases okq <;> cases (p.1 == q.1) <;> cases all2 sameD p.2.1 q.2.1 <;> rfl
theorem alike28 (k n : Nat) {p q : D_Prog} {okp okq : Bool} (hp : f37 k p = some ((okp, ()), ())) (hq : f37 k q = some ((okq, ()), ()))
    (hd : p.2.1.length ≤ mx ∧ p.2.1.length < k) (hl : p.2.2.1.length ≤ mx ∧ p.2.2.1.length < k) (h : ∀ x ∈ p.2.2.1, ∀ y ∈ q.2.2.1, f68 k x.2.1 y.2.1 = some ((all2 (sameS n) x.2.1 y.2.1, ()), ())) :
    f28 k p q = some ((alike n okp okq p q, ()), ()) := by
  unfold f28 alike
  rw [hp, hq, len_b, len_b]
  unfold bne
  simp only [Option.bind_some]
  cases okp with
  | false => rfl
  | true =>
  cases okq with
  | false => rfl
  | true =>
  cases (p.1 == q.1) with
  | false => rfl
  | true =>
  by_cases h1 : p.2.1.length = q.2.1.length
  case neg => rw [decide_eq_false h1, all2_len h1]; rfl
  by_cases h2 : p.2.2.1.length = q.2.2.1.length
  case neg =>
    rw [decide_eq_true h1, decide_eq_false h2, all2_len h2, Bool.and_false]; rfl
  rw [decide_eq_true h1, decide_eq_true h2]
  have e1 := decls28 k hd.1 h1 (w := p.1) (v := q.1) (ps := p.2.2.1) (qs := q.2.2.1) p.2.1.length 0 (by omega) k hd.2
  have e2 := procs28 k n hl.1 h2 h (w := p.1) (v := q.1) (ds := p.2.1) (es := q.2.1) p.2.2.1.length 0 (by omega) k hl.2
  rw [show ((0 : Nat) : Int) = 0 from rfl, List.drop_zero, List.drop_zero] at e1 e2
  rw [e1]
  cases all2 sameD p.2.1 q.2.1 with
  | false => rfl
  | true =>
    simp only [Bool.not_true, cond_false, cond_true, Option.bind_some]
    rw [e2]
    cases all2 (sameP n) p.2.2.1 q.2.2.1 <;> rfl
theorem proc_size {l : List D_Proc} {x : D_Proc} (hx : x ∈ l) : SizeOf.sizeOf x.2.1 ≤ SizeOf.sizeOf l := by
  have h := List.sizeOf_lt_of_mem hx
  have h2 : SizeOf.sizeOf x.2.1 ≤ SizeOf.sizeOf x := by
    obtain ⟨a, b, c, u⟩ := x
    simp
    omega
  omega
theorem progs {p q : D_Prog} (hp : Fit T_Prog p) (hq : Fit T_Prog q) : E fun k => ∃ b : Bool, f27 k p q = some ((b, ()), ()) ∧ f28 k p q = some ((b, ()), ()) ∧ f27 k q p = some ((b, ()), ()) := by
  have hd1 := fit_list (show Fit (.slice T_Decl) p.2.1 from hp.inv.2.inv.1)
  have hd2 := fit_list (show Fit (.slice T_Decl) q.2.1 from hq.inv.2.inv.1)
  have hp1 := fit_list (show Fit (.slice T_Proc) p.2.2.1 from hp.inv.2.inv.2.inv.1)
  have hp2 := fit_list (show Fit (.slice T_Proc) q.2.2.1 from hq.inv.2.inv.2.inv.1)
  obtain ⟨n, hn1, hn2⟩ : ∃ n, (∀ x ∈ p.2.2.1, SizeOf.sizeOf x.2.1 ≤ n) ∧ ∀ y ∈ q.2.2.1, SizeOf.sizeOf y.2.1 ≤ n :=
    ⟨SizeOf.sizeOf p.2.2.1 + SizeOf.sizeOf q.2.2.1, fun x hx => by have := proc_size hx; omega, fun x hx => by have := proc_size hx; omega⟩
  have e1 := E_list p.2.2.1 fun x hx => E_list q.2.2.1 fun y _ => same66 n x.2.1 (hn1 x hx) (show Fit (.slice (.rc 1)) x.2.1 from (hp1.2 x hx).inv.2.inv.1) y.2.1
  have e2 := E_list q.2.2.1 fun y hy => E_list p.2.2.1 fun x _ => same66 n y.2.1 (hn2 y hy) (show Fit (.slice (.rc 1)) y.2.1 from (hp2.2 y hy).inv.2.inv.1) x.2.1
  refine ((e1.and e2).and (((both33 hp).and (both33 hq)).and (E.ge (p.2.1.length + q.2.1.length + p.2.2.1.length + q.2.2.1.length + 1)))).mono fun k ⟨⟨h1, h2⟩, ⟨⟨okp, a1, a2⟩, okq, b1, b2⟩, hk⟩ => ?_
  refine ⟨alike n okp okq p q, alike27 k n a1 b1 ⟨hd1.1, by omega⟩ ⟨hp1.1, by omega⟩ fun x hx y hy => (h1 x hx y hy).1, alike28 k n a2 b2 ⟨hd1.1, by omega⟩ ⟨hp1.1, by omega⟩ fun x hx y hy => (h1 x hx y hy).2, ?_⟩
  rw [alike_symm]
  exact alike27 k n b1 a1 ⟨hd2.1, by omega⟩ ⟨hp2.1, by omega⟩ fun x hx y hy => (h2 x hx y hy).1
theorem exprs29 {a b : PExpr} (ha : Fit (.rc 0) a) (hb : Fit (.rc 0) b) : E fun k => ∃ (v : Bool) (x y : Int), f26 k a 12 = some ((x, ()), ()) ∧ f26 k b 12 = some ((y, ()), ()) ∧ f30 k a b = some ((v, ()), ()) ∧ f29 k a b = some ((decide (x ≥ 0) && (decide (y ≥ 0) && v), ()), ()) := by
  have e1 := (ref26 12 (Nat.le_refl _) a ha).and (ref26 12 (Nat.le_refl _) b hb)
  have e2 := (expr69 12 (Nat.le_refl _) a ha).and (expr69 12 (Nat.le_refl _) b hb)
  have e3 := same70 _ a (Nat.le_refl _) ha b
  refine ((e1.and e2).and e3).mono fun k ⟨⟨⟨h1, h2⟩, h3, h4⟩, h5, h6⟩ => ?_
  refine ⟨_, _, _, h1, h2, h6, ?_⟩
  have ok : ∀ {e : PExpr}, ExOk k 12 e → ∃ x', f69 k e 12 0 0 = some ((decide (refN (cntE 12 e) ≥ 0), ()), ((0, x', ()), ())) := fun {e} h => by
    obtain ⟨b, x', g1, g2⟩ := h 0 0 (by omega)
    refine ⟨x', ?_⟩
    rw [show ((12 : Nat) : Int) = 12 from rfl, show ((0 : Nat) : Int) = 0 from rfl] at g1
    rw [g1]
    unfold Res at g2
    cases hc : cntE 12 e with
    | none => rw [hc] at g2; dsimp only at g2; rw [g2]; rfl
    | some n =>
      have hlt := cnt_lt 12 e n hc
      have hp : 2 ^ 12 = 4096 := rfl
      rw [hc] at g2
      dsimp only at g2
      rw [if_pos (by omega)] at g2
      rw [g2.1, decide_eq_true (show refN (some n) ≥ 0 from Int.natCast_nonneg n)]
  obtain ⟨x1, o1⟩ := ok h3
  obtain ⟨x2, o2⟩ := ok h4
  unfold f29
  rw [ePack_eq, ePack_eq, o1, o2, h5]
  simp only [Option.bind_some]
  cases decide (refN (cntE 12 a) ≥ 0) <;> cases decide (refN (cntE 12 b) ≥ 0) <;> rfl
end Tree
open Tree
/-- The plain law. -/
theorem Pure.TreeSame (p : D_Prog) (hp : Fit T_Prog p) (q : D_Prog) (hq : Fit T_Prog q) (e : List PExpr) (he : Fit (.arr 2 (.rc 0)) e) : ∃ k, f6 k p q e = some ((true, ()), ()) := by
  obtain ⟨hl, hx⟩ : e.length = 2 ∧ ∀ x ∈ e, Fit (.rc 0) x := he.inv
  obtain ⟨a, b, rfl⟩ : ∃ a b, e = [a, b] := by
    match e, hl with
    | [a, b], _ => exact ⟨a, b, rfl⟩
  have ha := hx a (List.mem_cons_self ..)
  have hb := hx b (List.mem_cons_of_mem _ (List.mem_cons_self ..))
  obtain ⟨k, h⟩ := ((((light24 hp).and (light24 hq)).and ((kids25 300 _ a (Nat.le_refl _) ha).and (kids25 300 _ b (Nat.le_refl _) hb))).and ((progs hp hq).and ((exprs29 ha hb).and awake21E))).ex
  refine ⟨k, ?_⟩
  obtain ⟨⟨⟨⟨b1, h1⟩, b2, h2⟩, ⟨n1, h3⟩, n2, h4⟩, ⟨v, g1, g2, g3⟩, ⟨u, x, y, g4, g5, g6, g7⟩, h21⟩ := h
  unfold f6
  rw [h1, h2, h21]
  have i0 : [a, b][0]? = some a := rfl
  have i1 : [a, b][1]? = some b := rfl
  have hl6 : l6_14 k [a, b] = some ((decide (x ≥ 0) && decide (y ≥ 0), ()), ([a, b], ())) := by
    unfold l6_14
    rw [i0, i1]
    simp only [Option.bind_some]
    rw [g4, g5]
    simp only [Option.bind_some]
    cases decide (x ≥ 0) <;> rfl
  rw [i0, i1, hl6]
  simp only [Option.bind_some]
  rw [i0, i1, h3, h4, g1, g2, g3]
  simp only [Option.bind_some]
  rw [g6, g7]
  simp only [Option.bind_some, beq_self_eq_true]
  cases b1 <;> cases b2 <;> cases decide (n1 > 300) <;> cases decide (n2 > 300) <;> cases decide (x ≥ 0) <;> cases decide (y ≥ 0) <;> cases u <;> rfl
end Go.Proofs.Yticelgnmcjkknaa.M
