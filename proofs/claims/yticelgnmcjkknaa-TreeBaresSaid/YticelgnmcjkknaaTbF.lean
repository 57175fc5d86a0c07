/-
Programs as trees: without places, by the program; and that they are so.
-/
import Derived.Test.YticelgnmcjkknaaTbD
set_option linter.unusedVariables false
set_option linter.unusedSimpArgs false
set_option maxRecDepth 100000
namespace Go.Proofs.Yticelgnmcjkknaa.M
open Go Go.Proofs.Yticelgnmcjkknaa.Vm Go.Proofs.Yticelgnmcjkknaa.Pl
namespace Tree
open Lex
theorem gd_room {R : Type} {n c : Nat} {o : Option R} (h : n ≤ 300) (hc : c ≤ 200) : gd (decide ((n + 1) * c ≤ room)) o = o := by
  refine gd_dec ?_
  have : (n + 1) * c ≤ 301 * 200 := Nat.mul_le_mul (by omega) hc
  unfold room; omega
theorem bare110 (k d : Nat) {l : List PExpr} (hl : l.length ≤ 300) (hr : ∀ x ∈ l, f110 k (eKids x) = some (((eKids x).map (bE d), ()), ())) : ∀ (q i : Nat) (out : List PExpr), l.length - i = q → out.length ≤ i → ∀ j, q < j →
    l110_58 k (f110 k) j out l l.length i = some ((out ++ (l.drop i).map (bE (d + 1)), ()), ()) := by
  intro q
  induction q with
  | zero =>
    intro i out hi ho j hj
    obtain ⟨j, rfl, _⟩ := succ_of (n := 0) (by omega : 0 + 1 ≤ j)
    rw [List.drop_of_length_le (by omega : l.length ≤ i)]
    show b110_58 k (f110 k) (l110_58 k (f110 k) j) _ _ _ _ = _
    unfold b110_58
    rw [decide_eq_false (by omega : ¬ (i : Int) < l.length), List.map_nil, List.append_nil]; rfl
  | succ q ih =>
    intro i out hi ho j hj
    obtain ⟨j, rfl, hj2⟩ := succ_of (by omega : q + 1 + 1 ≤ j)
    have hlt : i < l.length := by omega
    have hx : l[i]? = some l[i] := List.getElem?_eq_getElem hlt
    show b110_58 k (f110 k) (l110_58 k (f110 k) j) _ _ _ _ = _
    unfold b110_58
    rw [decide_eq_true (by omega : (i : Int) < l.length), cond_true, ix_nat hx, hr _ (List.getElem_mem hlt), w64_id (by omega) (by omega), show (i : Int) + 1 = ((i + 1 : Nat) : Int) from by omega]
    simp only [Option.bind_some]
    by_cases hlen : out.length ≤ 300
    · rw [gd_room hlen (by omega), ih (i + 1) _ (by omega) (by simp; omega) j hj2, List.drop_eq_getElem_cons hlt, List.map_cons, List.append_assoc]; rfl
    · omega
theorem isbare111 (k : Nat) {l : List PExpr} (hl : l.length ≤ 300) (hr : ∀ x ∈ l, ePos x = 0 ∧ f111 k (eKids x) = some ((true, ()), ())) : ∀ (q i : Nat), l.length - i = q → ∀ j, q < j →
    l111_26 k (f111 k) j l i = some (.inl ((), ())) := by
  intro q
  induction q with
  | zero =>
    intro i hi j hj
    obtain ⟨j, rfl, _⟩ := succ_of (n := 0) (by omega : 0 + 1 ≤ j)
    show b111_26 k (f111 k) (l111_26 k (f111 k) j) _ _ = _
    unfold b111_26
    rw [decide_eq_false (by omega : ¬ (i : Int) < l.length)]; rfl
  | succ q ih =>
    intro i hi j hj
    obtain ⟨j, rfl, hj2⟩ := succ_of (by omega : q + 1 + 1 ≤ j)
    have hlt : i < l.length := by omega
    have hx : l[i]? = some l[i] := List.getElem?_eq_getElem hlt
    have hix : ∀ {R : Type} {K : PExpr → Option R}, ix l (i : Int) K = K l[i] := fun {R K} => ix_nat hx
    obtain ⟨h1, h2⟩ := hr _ (List.getElem_mem hlt)
    show b111_26 k (f111 k) (l111_26 k (f111 k) j) _ _ = _
    unfold b111_26
    rw [decide_eq_true (by omega : (i : Int) < l.length), cond_true]
    simp only [hix]
    rw [h1, h2, w64_id (by omega) (by omega), show (i : Int) + 1 = ((i + 1 : Nat) : Int) from by omega, ih (i + 1) (by omega) j hj2]; rfl
theorem exprsB : ∀ (d : Nat) (l : List PExpr), l.length ≤ 2 → (∀ x ∈ l, ∃ n, cntE d x = some n) → E fun k => f110 k l = some ((l.map (bE d), ()), ()) ∧ f111 k (l.map (bE d)) = some ((true, ()), ())
  | 0, l, _, h => by
    cases l with
    | cons x l => obtain ⟨n, hn⟩ := h x (List.mem_cons_self ..); cases hn
    | nil =>
      refine ⟨3, fun k hk => ?_⟩
      obtain ⟨k, rfl⟩ : ∃ q, k = q + 3 := ⟨k - 3, by omega⟩
      exact ⟨rfl, rfl⟩
  | d + 1, l, hl, h => by
    have key : ∀ x ∈ l, E fun k => f110 k (eKids x) = some (((eKids x).map (bE d), ()), ()) ∧ f111 k ((eKids x).map (bE d)) = some ((true, ()), ()) := fun x hx => by
      obtain ⟨n, hn⟩ := h x hx
      obtain ⟨d', hd, h1, h2⟩ := cntE_kids hn
      obtain rfl : d = d' := by omega
      exact exprsB d (eKids x) h1 h2
    obtain ⟨K, hK⟩ := E_list l key
    refine ⟨K + l.length + 2, fun k hk => ?_⟩
    obtain ⟨k, rfl⟩ : ∃ q, k = q + 1 := ⟨k - 1, by omega⟩
    constructor
    · show b110 k (f110 k) l = _
      unfold b110
      have := bare110 k d (l := l) (by omega) (fun x hx => (hK k (by omega) x hx).1) l.length 0 [] (by omega) (by simp) k (by omega)
      rw [show ((0 : Nat) : Int) = 0 from rfl, List.drop_zero, List.nil_append] at this
      rw [this]; rfl
    · show b111 k (f111 k) (l.map (bE (d + 1))) = _
      unfold b111
      have := isbare111 k (l := l.map (bE (d + 1))) (by rw [List.length_map]; omega) (fun y hy => by
        obtain ⟨x, hx, rfl⟩ := List.mem_map.1 hy
        exact ⟨rfl, (hK k (by omega) x hx).2⟩) (l.map (bE (d + 1))).length 0 (by omega) k (by rw [List.length_map]; omega)
      rw [show ((0 : Nat) : Int) = 0 from rfl] at this
      rw [this]; rfl
structure BsFact (k d : Nat) (s : PStmt) : Prop where
  ex : f110 k (sExprs s) = some (((sExprs s).map (bE 12), ()), ()) ∧ f111 k ((sExprs s).map (bE 12)) = some ((true, ()), ())
  bd : f74 k (sBody s) = some (((sBody s).map (bS d), ()), ()) ∧ f75 k ((sBody s).map (bS d)) = some ((true, ()), ())
  el : f74 k (sEls s) = some (((sEls s).map (bS d), ()), ()) ∧ f75 k ((sEls s).map (bS d)) = some ((true, ()), ())
theorem bare74 (k d : Nat) {l : List PStmt} (hl : l.length ≤ 300) (hr : ∀ s ∈ l, BsFact k d s) : ∀ (q i : Nat) (out : List PStmt), l.length - i = q → out.length ≤ i → ∀ j, q < j →
    l74_58 k (f74 k) j out l l.length i = some ((out ++ (l.drop i).map (bS (d + 1)), ()), ()) := by
  intro q
  induction q with
  | zero =>
    intro i out hi ho j hj
    obtain ⟨j, rfl, _⟩ := succ_of (n := 0) (by omega : 0 + 1 ≤ j)
    rw [List.drop_of_length_le (by omega : l.length ≤ i)]
    show b74_58 k (f74 k) (l74_58 k (f74 k) j) _ _ _ _ = _
    unfold b74_58
    rw [decide_eq_false (by omega : ¬ (i : Int) < l.length), List.map_nil, List.append_nil]; rfl
  | succ q ih =>
    intro i out hi ho j hj
    obtain ⟨j, rfl, hj2⟩ := succ_of (by omega : q + 1 + 1 ≤ j)
    have hlt : i < l.length := by omega
    have hx : l[i]? = some l[i] := List.getElem?_eq_getElem hlt
    obtain ⟨⟨h1, _⟩, ⟨h2, _⟩, h3, _⟩ := hr _ (List.getElem_mem hlt)
    show b74_58 k (f74 k) (l74_58 k (f74 k) j) _ _ _ _ = _
    unfold b74_58
    rw [decide_eq_true (by omega : (i : Int) < l.length), cond_true, ix_nat hx, h1, h2, h3, w64_id (by omega) (by omega), show (i : Int) + 1 = ((i + 1 : Nat) : Int) from by omega]
    simp only [Option.bind_some]
    by_cases hlen : out.length ≤ 300
    · rw [gd_room hlen (by omega), ih (i + 1) _ (by omega) (by simp; omega) j hj2, List.drop_eq_getElem_cons hlt, List.map_cons, List.append_assoc]; rfl
    · omega
theorem isbare75 (k : Nat) {l : List PStmt} (hl : l.length ≤ 300) (hr : ∀ s ∈ l, sPos s = 0 ∧ f111 k (sExprs s) = some ((true, ()), ()) ∧ f75 k (sBody s) = some ((true, ()), ()) ∧ f75 k (sEls s) = some ((true, ()), ())) : ∀ (q i : Nat), l.length - i = q → ∀ j, q < j →
    l75_26 k (f75 k) j l i = some (.inl ((), ())) := by
  intro q
  induction q with
  | zero =>
    intro i hi j hj
    obtain ⟨j, rfl, _⟩ := succ_of (n := 0) (by omega : 0 + 1 ≤ j)
    show b75_26 k (f75 k) (l75_26 k (f75 k) j) _ _ = _
    unfold b75_26
    rw [decide_eq_false (by omega : ¬ (i : Int) < l.length)]; rfl
  | succ q ih =>
    intro i hi j hj
    obtain ⟨j, rfl, hj2⟩ := succ_of (by omega : q + 1 + 1 ≤ j)
    have hlt : i < l.length := by omega
    have hx : l[i]? = some l[i] := List.getElem?_eq_getElem hlt
    have hix : ∀ {R : Type} {K : PStmt → Option R}, ix l (i : Int) K = K l[i] := fun {R K} => ix_nat hx
    obtain ⟨h1, h2, h3, h4⟩ := hr _ (List.getElem_mem hlt)
    show b75_26 k (f75 k) (l75_26 k (f75 k) j) _ _ = _
    unfold b75_26
    rw [decide_eq_true (by omega : (i : Int) < l.length), cond_true]
    simp only [hix]
    rw [h1, h2, h3, h4, w64_id (by omega) (by omega), show (i : Int) + 1 = ((i + 1 : Nat) : Int) from by omega, ih (i + 1) (by omega) j hj2]; rfl
theorem one_pos {d : Nat} (s : PStmt) (a : Nat × Nat) (h : oneS (cntS d) s = some a) : 1 ≤ a.1 := by
  obtain ⟨_, _, b, c, _, _, h⟩ := oneS_some h
  omega
theorem stmtsB : ∀ (d : Nat) (l : List PStmt) (a : Nat × Nat), cntS d l = some a → a.1 ≤ 200 → E fun k => f74 k l = some ((l.map (bS d), ()), ()) ∧ f75 k (l.map (bS d)) = some ((true, ()), ())
  | 0, l, a, h, _ => by
    cases l with
    | cons x l => cases h
    | nil =>
      refine ⟨3, fun k hk => ?_⟩
      obtain ⟨k, rfl⟩ : ∃ q, k = q + 3 := ⟨k - 3, by omega⟩
      exact ⟨rfl, rfl⟩
  | d + 1, l, a, h, ha => by
    obtain ⟨hlen, hmem⟩ := sumS_mem one_pos (show sumS (oneS (cntS d)) l = some a from h)
    have key : ∀ s ∈ l, E fun k => BsFact k d s := fun s hs => by
      obtain ⟨a', h1, h2⟩ := hmem s hs
      obtain ⟨ho, ⟨x, hx⟩, b, c, hb, hc, he⟩ := oneS_some h1
      have e1 := exprsB 12 (sExprs s) (okS_len ho).1 (sumE_mem hx)
      have e2 := stmtsB d (sBody s) b hb (by omega)
      have e3 := stmtsB d (sEls s) c hc (by omega)
      exact (e1.and (e2.and e3)).mono fun k ⟨x, y, z⟩ => ⟨x, y, z⟩
    obtain ⟨K, hK⟩ := E_list l key
    refine ⟨K + l.length + 2, fun k hk => ?_⟩
    obtain ⟨k, rfl⟩ : ∃ q, k = q + 1 := ⟨k - 1, by omega⟩
    constructor
    · show b74 k (f74 k) l = _
      unfold b74
      have := bare74 k d (l := l) (by omega) (fun x hx => hK k (by omega) x hx) l.length 0 [] (by omega) (by simp) k (by omega)
      rw [show ((0 : Nat) : Int) = 0 from rfl, List.drop_zero, List.nil_append] at this
      rw [this]; rfl
    · show b75 k (f75 k) (l.map (bS (d + 1))) = _
      unfold b75
      have := isbare75 k (l := l.map (bS (d + 1))) (by rw [List.length_map]; omega) (fun y hy => by
        obtain ⟨x, hx, rfl⟩ := List.mem_map.1 hy
        obtain ⟨⟨_, h1⟩, ⟨_, h2⟩, _, h3⟩ := hK k (by omega) x hx
        exact ⟨rfl, h1, h2, h3⟩) (l.map (bS (d + 1))).length 0 (by omega) k (by rw [List.length_map]; omega)
      rw [show ((0 : Nat) : Int) = 0 from rfl] at this
      rw [this]; rfl
/-! ### whole programs -/
def bD (d : D_Decl) : D_Decl := (d.1, d.2.1, d.2.2.1, 0, ())
def bP (p : D_Proc) : D_Proc := (p.1, p.2.1.map (bS 12), 0, ())
def bare (p : D_Prog) : D_Prog := (p.1, p.2.1.map bD, p.2.2.1.map bP, ())
def okP (p : D_Prog) : Bool := !decide (p.1 < 0) && (!decide (p.1 > 65535) && (!decide ((p.2.1.length : Int) > 12) && (!decide ((p.2.2.1.length : Int) < 1) && (!decide ((p.2.2.1.length : Int) > 6) && (p.2.1.all declB && (match sumP p.2.2.1 with
  | some a => decide (a.1 ≤ 200) && decide (a.2 ≤ 8192)
  | none => false))))))
theorem decls36 (k : Nat) {l : List D_Decl} (hl : l.length ≤ 300) {w : Int} {ps : List D_Proc} : ∀ (q i : Nat) (out : List D_Decl), l.length - i = q → out.length ≤ i → ∀ j, q < j →
    l36_122 k j l l.length i w out ps = some ((), ((w, out ++ (l.drop i).map bD, ps, ()), ())) := by
  intro q
  induction q with
  | zero =>
    intro i out hi ho j hj
    obtain ⟨j, rfl, _⟩ := succ_of (n := 0) (by omega : 0 + 1 ≤ j)
    rw [List.drop_of_length_le (by omega : l.length ≤ i)]
    show b36_122 k (l36_122 k j) _ _ _ _ _ _ = _
    unfold b36_122
    rw [decide_eq_false (by omega : ¬ (i : Int) < l.length), List.map_nil, List.append_nil]; rfl
  | succ q ih =>
    intro i out hi ho j hj
    obtain ⟨j, rfl, hj2⟩ := succ_of (by omega : q + 1 + 1 ≤ j)
    have hlt : i < l.length := by omega
    have hx : l[i]? = some l[i] := List.getElem?_eq_getElem hlt
    show b36_122 k (l36_122 k j) _ _ _ _ _ _ = _
    unfold b36_122
    rw [decide_eq_true (by omega : (i : Int) < l.length), cond_true, ix_nat hx, w64_id (by omega) (by omega), show (i : Int) + 1 = ((i + 1 : Nat) : Int) from by omega, gd_room (by omega) (by omega), ih (i + 1) _ (by omega) (by simp; omega) j hj2, List.drop_eq_getElem_cons hlt, List.map_cons, List.append_assoc]; rfl
theorem procs36 (k : Nat) {l : List D_Proc} (hl : l.length ≤ 300) (hr : ∀ p ∈ l, f74 k p.2.1 = some ((p.2.1.map (bS 12), ()), ())) {w : Int} {ds : List D_Decl} : ∀ (q i : Nat) (out : List D_Proc), l.length - i = q → out.length ≤ i → ∀ j, q < j →
    l36_250 k j l l.length i w ds out = some ((), ((w, ds, out ++ (l.drop i).map bP, ()), ())) := by
  intro q
  induction q with
  | zero =>
    intro i out hi ho j hj
    obtain ⟨j, rfl, _⟩ := succ_of (n := 0) (by omega : 0 + 1 ≤ j)
    rw [List.drop_of_length_le (by omega : l.length ≤ i)]
    show b36_250 k (l36_250 k j) _ _ _ _ _ _ = _
    unfold b36_250
    rw [decide_eq_false (by omega : ¬ (i : Int) < l.length), List.map_nil, List.append_nil]; rfl
  | succ q ih =>
    intro i out hi ho j hj
    obtain ⟨j, rfl, hj2⟩ := succ_of (by omega : q + 1 + 1 ≤ j)
    have hlt : i < l.length := by omega
    have hx : l[i]? = some l[i] := List.getElem?_eq_getElem hlt
    show b36_250 k (l36_250 k j) _ _ _ _ _ _ = _
    unfold b36_250
    rw [decide_eq_true (by omega : (i : Int) < l.length), cond_true, ix_nat hx, hr _ (List.getElem_mem hlt), w64_id (by omega) (by omega), show (i : Int) + 1 = ((i + 1 : Nat) : Int) from by omega]
    simp only [Option.bind_some]
    rw [gd_room (by omega) (by omega), ih (i + 1) _ (by omega) (by simp; omega) j hj2, List.drop_eq_getElem_cons hlt, List.map_cons, List.append_assoc]; rfl
theorem decls38 (k : Nat) {l : List D_Decl} (hl : l.length ≤ 300) (hr : ∀ d ∈ l, d.2.2.2.1 = 0) {w : Int} {ps : List D_Proc} : ∀ (q i : Nat), l.length - i = q → ∀ j, q < j →
    l38_26 k j i w l ps = some (.inl ((), ((w, l, ps, ()), ()))) := by
  intro q
  induction q with
  | zero =>
    intro i hi j hj
    obtain ⟨j, rfl, _⟩ := succ_of (n := 0) (by omega : 0 + 1 ≤ j)
    show b38_26 k (l38_26 k j) _ _ _ _ = _
    unfold b38_26
    rw [decide_eq_false (by omega : ¬ (i : Int) < l.length)]; rfl
  | succ q ih =>
    intro i hi j hj
    obtain ⟨j, rfl, hj2⟩ := succ_of (by omega : q + 1 + 1 ≤ j)
    have hlt : i < l.length := by omega
    have hx : l[i]? = some l[i] := List.getElem?_eq_getElem hlt
    show b38_26 k (l38_26 k j) _ _ _ _ = _
    unfold b38_26
    rw [decide_eq_true (by omega : (i : Int) < l.length), cond_true, ix_nat hx, hr _ (List.getElem_mem hlt), w64_id (by omega) (by omega), show (i : Int) + 1 = ((i + 1 : Nat) : Int) from by omega, ih (i + 1) (by omega) j hj2]; rfl
theorem procs38 (k : Nat) {l : List D_Proc} (hl : l.length ≤ 300) (hr : ∀ p ∈ l, p.2.2.1 = 0 ∧ f75 k p.2.1 = some ((true, ()), ())) {w : Int} {ds : List D_Decl} : ∀ (q i : Nat), l.length - i = q → ∀ j, q < j →
    l38_58 k j i w ds l = some (.inl ((), ((w, ds, l, ()), ()))) := by
  intro q
  induction q with
  | zero =>
    intro i hi j hj
    obtain ⟨j, rfl, _⟩ := succ_of (n := 0) (by omega : 0 + 1 ≤ j)
    show b38_58 k (l38_58 k j) _ _ _ _ = _
    unfold b38_58
    rw [decide_eq_false (by omega : ¬ (i : Int) < l.length)]; rfl
  | succ q ih =>
    intro i hi j hj
    obtain ⟨j, rfl, hj2⟩ := succ_of (by omega : q + 1 + 1 ≤ j)
    have hlt : i < l.length := by omega
    have hx : l[i]? = some l[i] := List.getElem?_eq_getElem hlt
    obtain ⟨h1, h2⟩ := hr _ (List.getElem_mem hlt)
    have hix : ∀ {R : Type} {K : D_Proc → Option R}, ix l (i : Int) K = K l[i] := fun {R K} => ix_nat hx
    show b38_58 k (l38_58 k j) _ _ _ _ = _
    unfold b38_58
    rw [decide_eq_true (by omega : (i : Int) < l.length), cond_true]
    simp only [hix]
    rw [h1, h2, w64_id (by omega) (by omega), show (i : Int) + 1 = ((i + 1 : Nat) : Int) from by omega, ih (i + 1) (by omega) j hj2]; rfl
theorem procs8 (k : Nat) {l : List D_Proc} (hl : l.length ≤ mx) (hr : ∀ p ∈ l, ∃ v : Int, f34 k p.2.1 = some ((v, ()), ()) ∧ f35 k p.2.1 13 = some ((v, ()), ())) {w : Int} {ds : List D_Decl} : ∀ (q i : Nat), l.length - i = q → ∀ j, q < j →
    l8_58 k j i w ds l = some (.inl ((), ((w, ds, l, ()), ()))) := by
  intro q
  induction q with
  | zero =>
    intro i hi j hj
    obtain ⟨j, rfl, _⟩ := succ_of (n := 0) (by omega : 0 + 1 ≤ j)
    show b8_58 k (l8_58 k j) _ _ _ _ = _
    unfold b8_58
    rw [decide_eq_false (by omega : ¬ (i : Int) < l.length)]; rfl
  | succ q ih =>
    intro i hi j hj
    obtain ⟨j, rfl, hj2⟩ := succ_of (by omega : q + 1 + 1 ≤ j)
    have hlt : i < l.length := by omega
    have hx : l[i]? = some l[i] := List.getElem?_eq_getElem hlt
    obtain ⟨v, h1, h2⟩ := hr _ (List.getElem_mem hlt)
    have hix : ∀ {R : Type} {K : D_Proc → Option R}, ix l (i : Int) K = K l[i] := fun {R K} => ix_nat hx
    show b8_58 k (l8_58 k j) _ _ _ _ = _
    unfold b8_58
    rw [decide_eq_true (by omega : (i : Int) < l.length), cond_true]
    simp only [hix]
    rw [h1, h2, w_one hlt hl, ih (i + 1) (by omega) j hj2]
    simp only [Option.bind_some]
    unfold bne
    rw [beq_self_eq_true]; rfl
end Tree
end Go.Proofs.Yticelgnmcjkknaa.M
