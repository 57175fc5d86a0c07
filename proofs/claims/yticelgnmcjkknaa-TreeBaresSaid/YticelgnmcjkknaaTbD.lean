/-
Programs as trees: how deep; without places. What the program's functions come to.
-/
import Derived.Test.YticelgnmcjkknaaTbS
set_option linter.unusedVariables false
set_option linter.unusedSimpArgs false
set_option maxRecDepth 100000
namespace Go.Proofs.Yticelgnmcjkknaa.M
open Go Go.Proofs.Yticelgnmcjkknaa.Vm Go.Proofs.Yticelgnmcjkknaa.Pl
namespace Tree
open Lex
/-! ### how deep -/
def dep : Nat → List PStmt → Nat
  | 0, _ => 0
  | m + 1, l => l.foldl (fun n s => max n (1 + max (dep m (sBody s)) (dep m (sEls s)))) 0
theorem dep_le : ∀ (m : Nat) (l : List PStmt), dep m l ≤ m
  | 0, _ => Nat.le_refl _
  | m + 1, l => by
    have key : ∀ (l : List PStmt) (a : Nat), a ≤ m + 1 → l.foldl (fun n s => max n (1 + max (dep m (sBody s)) (dep m (sEls s)))) a ≤ m + 1 := by
      intro l
      induction l with
      | nil => intro a h; exact h
      | cons s l ih =>
        intro a h
        refine ih _ ?_
        show max a (1 + max (dep m (sBody s)) (dep m (sEls s))) ≤ m + 1
        have h1 := dep_le m (sBody s)
        have h2 := dep_le m (sEls s)
        omega
    exact key l 0 (by omega)
theorem mm (a b : Nat) : minmax true (a : Int) (b : Int) = ((max a b : Nat) : Int) := by
  unfold minmax
  rw [if_pos rfl]
  split <;> omega
def DepOk (k m : Nat) (s : PStmt) : Prop := (f73 k (sBody s) m = some ((((dep m (sBody s) : Nat) : Int), ()), ()) ∧ f35 k (sBody s) m = some ((((dep m (sBody s) : Nat) : Int), ()), ())) ∧ f73 k (sEls s) m = some ((((dep m (sEls s) : Nat) : Int), ()), ()) ∧ f35 k (sEls s) m = some ((((dep m (sEls s) : Nat) : Int), ()), ())
def accD (m : Nat) (l : List PStmt) (a : Nat) : Nat := l.foldl (fun n s => max n (1 + max (dep m (sBody s)) (dep m (sEls s)))) a
theorem dep73 (k m : Nat) (hm : m < 13) {l : List PStmt} (hl : l.length ≤ mx) (hr : ∀ s ∈ l, DepOk k m s) : ∀ (q i a : Nat), l.length - i = q → a ≤ m + 1 → ∀ j, q < j →
    l73_122 k (f73 k) j ((m + 1 : Nat) : Int) a l l.length i = some ((((accD m (l.drop i) a : Nat) : Int), ()), ()) := by
  intro q
  induction q with
  | zero =>
    intro i a hi ha j hj
    obtain ⟨j, rfl, _⟩ := succ_of (n := 0) (by omega : 0 + 1 ≤ j)
    rw [List.drop_of_length_le (by omega : l.length ≤ i)]
    show b73_122 k (f73 k) (l73_122 k (f73 k) j) _ _ _ _ _ = _
    unfold b73_122
    rw [decide_eq_false (by omega : ¬ (i : Int) < l.length)]; rfl
  | succ q ih =>
    intro i a hi ha j hj
    obtain ⟨j, rfl, hj2⟩ := succ_of (by omega : q + 1 + 1 ≤ j)
    have hlt : i < l.length := by omega
    have hx : l[i]? = some l[i] := List.getElem?_eq_getElem hlt
    obtain ⟨⟨h1, _⟩, h2, _⟩ := hr l[i] (List.getElem_mem hlt)
    show b73_122 k (f73 k) (l73_122 k (f73 k) j) _ _ _ _ _ = _
    unfold b73_122
    have hw : w64 (((m + 1 : Nat) : Int) - 1) = (m : Int) := by rw [w64_id (by omega) (by omega)]; omega
    rw [decide_eq_true (by omega : (i : Int) < l.length), cond_true, ix_nat hx, hw, h1, h2]
    simp only [Option.bind_some]
    have d1 := dep_le m (sBody l[i])
    have d2 := dep_le m (sEls l[i])
    have hw2 : w64 (1 + minmax true ((dep m (sBody l[i]) : Nat) : Int) ((dep m (sEls l[i]) : Nat) : Int)) = ((1 + max (dep m (sBody l[i])) (dep m (sEls l[i])) : Nat) : Int) := by
      rw [mm, w64_id (by omega) (by omega)]; omega
    rw [hw2, mm, w_one hlt hl, ih (i + 1) _ (by omega) (by omega) j hj2, List.drop_eq_getElem_cons hlt]; rfl
theorem dep35 (k m : Nat) (hm : m < 13) {l : List PStmt} (hl : l.length ≤ mx) (hr : ∀ s ∈ l, DepOk k m s) : ∀ (q i a : Nat), l.length - i = q → a ≤ m + 1 → ∀ j, q < j →
    l35_58 k (f35 k) j l ((m + 1 : Nat) : Int) a i = some ((((accD m (l.drop i) a : Nat) : Int), ()), ()) := by
  intro q
  induction q with
  | zero =>
    intro i a hi ha j hj
    obtain ⟨j, rfl, _⟩ := succ_of (n := 0) (by omega : 0 + 1 ≤ j)
    rw [List.drop_of_length_le (by omega : l.length ≤ i)]
    show b35_58 k (f35 k) (l35_58 k (f35 k) j) _ _ _ _ = _
    unfold b35_58
    rw [decide_eq_false (by omega : ¬ (i : Int) < l.length)]; rfl
  | succ q ih =>
    intro i a hi ha j hj
    obtain ⟨j, rfl, hj2⟩ := succ_of (by omega : q + 1 + 1 ≤ j)
    have hlt : i < l.length := by omega
    have hx : l[i]? = some l[i] := List.getElem?_eq_getElem hlt
    obtain ⟨⟨_, h1⟩, _, h2⟩ := hr l[i] (List.getElem_mem hlt)
    show b35_58 k (f35 k) (l35_58 k (f35 k) j) _ _ _ _ = _
    unfold b35_58
    have hw : w64 (((m + 1 : Nat) : Int) - 1) = (m : Int) := by rw [w64_id (by omega) (by omega)]; omega
    have hix : ∀ {R : Type} {K : PStmt → Option R}, ix l (i : Int) K = K l[i] := fun {R K} => ix_nat hx
    rw [decide_eq_true (by omega : (i : Int) < l.length), cond_true, decide_eq_true (by omega : ((m + 1 : Nat) : Int) > 0), cond_true]
    simp only [hix]
    rw [hw, h1, h2]
    simp only [Option.bind_some]
    have d1 := dep_le m (sBody l[i])
    have d2 := dep_le m (sEls l[i])
    have hacc : accD m (l.drop i) a = accD m (l.drop (i + 1)) (max a (1 + max (dep m (sBody l[i])) (dep m (sEls l[i])))) := by rw [List.drop_eq_getElem_cons hlt]; rfl
    rw [hacc, w_one hlt hl]
    generalize dep m (sBody l[i]) = x at *
    generalize dep m (sEls l[i]) = y at *
    have wx : w64 ((x : Int) + 1) = ((x + 1 : Nat) : Int) := by rw [w64_id (by omega) (by omega)]; omega
    have wy : w64 ((y : Int) + 1) = ((y + 1 : Nat) : Int) := by rw [w64_id (by omega) (by omega)]; omega
    rw [wx, wy]
    by_cases hxy : x < y
    · rw [decide_eq_true (by omega : (x : Int) < y), cond_true]
      by_cases hya : a < y + 1
      · rw [decide_eq_true (by omega : ((y + 1 : Nat) : Int) > a), cond_true, ih (i + 1) _ (by omega) (by omega) j hj2, show max a (1 + max x y) = y + 1 by omega]; rfl
      · rw [decide_eq_false (by omega : ¬ ((y + 1 : Nat) : Int) > a), cond_false, ih (i + 1) _ (by omega) (by omega) j hj2, show max a (1 + max x y) = a by omega]; rfl
    · rw [decide_eq_false (by omega : ¬ (x : Int) < y), cond_false]
      by_cases hya : a < x + 1
      · rw [decide_eq_true (by omega : ((x + 1 : Nat) : Int) > a), cond_true, ih (i + 1) _ (by omega) (by omega) j hj2, show max a (1 + max x y) = x + 1 by omega]; rfl
      · rw [decide_eq_false (by omega : ¬ ((x + 1 : Nat) : Int) > a), cond_false, ih (i + 1) _ (by omega) (by omega) j hj2, show max a (1 + max x y) = a by omega]; rfl
theorem depE : ∀ (m : Nat), m ≤ 13 → ∀ l : List PStmt, Fit (.slice (.rc 1)) l → E fun k => f73 k l m = some ((((dep m l : Nat) : Int), ()), ()) ∧ f35 k l m = some ((((dep m l : Nat) : Int), ()), ())
  | 0, _, l, hf => by
    refine ⟨2, fun k hk => ?_⟩
    obtain ⟨k, rfl⟩ : ∃ q, k = q + 2 := ⟨k - 2, by omega⟩
    constructor
    · rw [f73_succ]; rfl
    · rw [f35_succ]
      unfold b35
      show ((b35_58 (k + 1) (f35 (k + 1)) (l35_58 (k + 1) (f35 (k + 1)) k) l ((0 : Nat) : Int) 0 0).bind _) = _
      unfold b35_58
      rw [decide_eq_false (by omega : ¬ ((0 : Nat) : Int) > 0)]
      cases decide ((0 : Int) < (l.length : Int)) <;> rfl
  | m + 1, hm, l, hf => by
    obtain ⟨hl, hs⟩ := fit_list hf
    have key : ∀ s ∈ l, E fun k => DepOk k m s := fun s hsm => by
      obtain ⟨_, _, _, f3, f4⟩ := fit_stmt (hs s hsm)
      exact (depE m (by omega) _ f3).and (depE m (by omega) _ f4)
    obtain ⟨K, hK⟩ := E_list l key
    refine ⟨K + l.length + 2, fun k hk => ?_⟩
    obtain ⟨k, rfl⟩ : ∃ q, k = q + 1 := ⟨k - 1, by omega⟩
    constructor
    · rw [f73_succ]
      unfold b73
      have := dep73 k m (by omega) hl (hK k (by omega)) l.length 0 0 (by omega) (by omega) k (by omega)
      rw [show ((0 : Nat) : Int) = 0 from rfl, List.drop_zero] at this
      have e0 : (((m + 1 : Nat) : Int) == 0) = false := by rw [beq_eq_false_iff_ne]; omega
      rw [e0, cond_false, this]; rfl
    · rw [f35_succ]
      unfold b35
      have := dep35 k m (by omega) hl (hK k (by omega)) l.length 0 0 (by omega) (by omega) k (by omega)
      rw [show ((0 : Nat) : Int) = 0 from rfl, List.drop_zero] at this
      rw [this]; rfl
/-! ### without places -/
def bE : Nat → PExpr → PExpr
  | 0, e => e
  | n + 1, e => PExpr.mk (eKind e) (eOp e) (eNum e) (eName e) ((eKids e).map (bE n)) 0
def bS : Nat → PStmt → PStmt
  | 0, s => s
  | n + 1, s => PStmt.mk (sKind s) (sName s) (sLoc s) ((sExprs s).map (bE 12)) ((sBody s).map (bS n)) ((sEls s).map (bS n)) 0
theorem bE_zero (l : List PExpr) : l.map (bE 0) = l := by
  rw [show bE 0 = id from rfl, List.map_id]
theorem bS_zero (l : List PStmt) : l.map (bS 0) = l := by
  rw [show bS 0 = id from rfl, List.map_id]
theorem sumE_map {f : PExpr → Option Nat} {g : PExpr → PExpr} (h : ∀ x, f (g x) = f x) : ∀ l : List PExpr, sumE f (l.map g) = sumE f l
  | [] => rfl
  | x :: l => by
    show (f (g x)).bind _ = (f x).bind _
    rw [h, sumE_map h l]
theorem sumS_map {f f' : PStmt → Option (Nat × Nat)} {g : PStmt → PStmt} (h : ∀ x, f (g x) = f' x) : ∀ l : List PStmt, sumS f (l.map g) = sumS f' l
  | [] => rfl
  | x :: l => by
    show (f (g x)).bind _ = (f' x).bind _
    rw [h, sumS_map h l]
theorem okE_b (m : Nat) (e : PExpr) : okE (bE m e) = okE e := by
  cases m with
  | zero => rfl
  | succ m =>
    show (match formE e with | some q => decide (((eKids e).map (bE m)).length = q) | none => false) = okE e
    rw [List.length_map]; rfl
theorem cntE_b : ∀ (d m : Nat) (e : PExpr), cntE d (bE m e) = cntE d e
  | 0, _, _ => rfl
  | d + 1, 0, e => rfl
  | d + 1, m + 1, e => by
    show (if okE (bE (m + 1) e) = true then (sumE (cntE d) ((eKids e).map (bE m))).map (· + 1) else none) = cntE (d + 1) e
    rw [okE_b, sumE_map (cntE_b d m)]; rfl
theorem okS_b (m : Nat) (s : PStmt) : okS (bS m s) = okS s := by
  cases m with
  | zero => rfl
  | succ m =>
    show (match formS (sKind s) with | some f => okForm f (bS (m + 1) s) | none => false) = okS s
    have : ∀ f, okForm f (bS (m + 1) s) = okForm f s := fun f => by
      show (fits f.1 (sName s) && (fits f.2.1 (sLoc s) && (decide (((sExprs s).map (bE 12)).length = f.2.2.1) && ((f.2.2.2.1 || !decide ((((sBody s).map (bS m)).length : Int) > 0)) && (f.2.2.2.2 || !decide ((((sEls s).map (bS m)).length : Int) > 0)))))) = okForm f s
      rw [List.length_map, List.length_map, List.length_map]; rfl
    simp only [this]; rfl
theorem cntS_b : ∀ (d m : Nat) (l : List PStmt), cntS d (l.map (bS m)) = cntS d l
  | 0, m, l => sumS_map (fun _ => rfl) l
  | d + 1, 0, l => by rw [bS_zero]
  | d + 1, m + 1, l => by
    refine sumS_map (fun s => ?_) l
    show (if okS (bS (m + 1) s) = true then (sumE (cntE 12) ((sExprs s).map (bE 12))).bind fun x => (cntS d ((sBody s).map (bS m))).bind fun b => (cntS d ((sEls s).map (bS m))).map fun c => (1 + b.1 + c.1, x + b.2 + c.2) else none) = oneS (cntS d) s
    rw [okS_b, sumE_map (cntE_b 12 12), cntS_b d m, cntS_b d m]; rfl
theorem all2_map {A : Type} {f : A → A → Bool} {g : A → A} : ∀ l : List A, (∀ x ∈ l, f x (g x) = true) → all2 f l (l.map g) = true
  | [], _ => rfl
  | x :: l, h => by
    show (f x (g x) && all2 f l (l.map g)) = true
    rw [h x (List.mem_cons_self ..), all2_map l fun y hy => h y (List.mem_cons_of_mem _ hy)]; rfl
theorem kids_size (a : PExpr) : SizeOf.sizeOf (eKids a) < SizeOf.sizeOf a := by
  cases a with
  | mk a b c d kids f =>
    show SizeOf.sizeOf kids < SizeOf.sizeOf (PExpr.mk a b c d kids f)
    simp
    omega
theorem exprs_size (s : PStmt) : SizeOf.sizeOf (sExprs s) < SizeOf.sizeOf s := by
  cases s with
  | mk a b c d x y f =>
    show SizeOf.sizeOf d < SizeOf.sizeOf (PStmt.mk a b c d x y f)
    simp
    omega
theorem sameE_b : ∀ (n m : Nat) (a : PExpr), SizeOf.sizeOf a ≤ n → sameE n a (bE m a) = true
  | 0, _, a, h => by cases a; simp at h
  | n + 1, m, a, h => by
    have hk := kids_size a
    have key : ∀ q, all2 (sameE n) (eKids a) ((eKids a).map (bE q)) = true := fun q => all2_map _ fun x hx => sameE_b n q x (by have := List.sizeOf_lt_of_mem hx; omega)
    cases m with
    | zero =>
      have := key 0
      rw [bE_zero] at this
      show ((eKind a == eKind a) && (((eOp a).toList == (eOp a).toList) && ((eNum a == eNum a) && (((eName a).toList == (eName a).toList) && all2 (sameE n) (eKids a) (eKids a))))) = true
      rw [this]; simp
    | succ m =>
      show ((eKind a == eKind a) && (((eOp a).toList == (eOp a).toList) && ((eNum a == eNum a) && (((eName a).toList == (eName a).toList) && all2 (sameE n) (eKids a) ((eKids a).map (bE m)))))) = true
      rw [key]; simp
theorem sameS_b : ∀ (n m : Nat) (a : PStmt), SizeOf.sizeOf a ≤ n → sameS n a (bS m a) = true
  | 0, _, a, h => by cases a; simp at h
  | n + 1, m, a, h => by
    obtain ⟨h1, h2⟩ := stmt_sizes a
    have h3 := exprs_size a
    have ke : ∀ q, all2 (sameE n) (sExprs a) ((sExprs a).map (bE q)) = true := fun q => all2_map _ fun x hx => sameE_b n q x (by have := List.sizeOf_lt_of_mem hx; omega)
    have kb : ∀ q, all2 (sameS n) (sBody a) ((sBody a).map (bS q)) = true := fun q => all2_map _ fun x hx => sameS_b n q x (by have := List.sizeOf_lt_of_mem hx; omega)
    have kl : ∀ q, all2 (sameS n) (sEls a) ((sEls a).map (bS q)) = true := fun q => all2_map _ fun x hx => sameS_b n q x (by have := List.sizeOf_lt_of_mem hx; omega)
    cases m with
    | zero =>
      have e1 := ke 0; have e2 := kb 0; have e3 := kl 0
      rw [bE_zero] at e1; rw [bS_zero] at e2 e3
      show ((sKind a == sKind a) && (((sName a).toList == (sName a).toList) && (((sLoc a).toList == (sLoc a).toList) && (all2 (sameE n) (sExprs a) (sExprs a) && (all2 (sameS n) (sBody a) (sBody a) && all2 (sameS n) (sEls a) (sEls a)))))) = true
      rw [e1, e2, e3]; simp
    | succ m =>
      show ((sKind a == sKind a) && (((sName a).toList == (sName a).toList) && (((sLoc a).toList == (sLoc a).toList) && (all2 (sameE n) (sExprs a) ((sExprs a).map (bE 12)) && (all2 (sameS n) (sBody a) ((sBody a).map (bS m)) && all2 (sameS n) (sEls a) ((sEls a).map (bS m))))))) = true
      rw [ke, kb, kl]; simp
/-! ### what may be counted is small -/
theorem sumE_mem {f : PExpr → Option Nat} : ∀ {l : List PExpr} {n : Nat}, sumE f l = some n → ∀ x ∈ l, ∃ a, f x = some a
  | [], _, _, x, hx => by cases hx
  | y :: l, n, h, x, hx => by
    obtain ⟨a, h1, h2⟩ := Option.bind_eq_some_iff.1 (show (f y).bind _ = some n from h)
    obtain ⟨b, h3, _⟩ := Option.map_eq_some_iff.1 h2
    rcases List.mem_cons.1 hx with rfl | hx
    · exact ⟨a, h1⟩
    · exact sumE_mem h3 x hx
theorem sumS_mem {f : PStmt → Option (Nat × Nat)} (hf : ∀ s a, f s = some a → 1 ≤ a.1) : ∀ {l : List PStmt} {n : Nat × Nat}, sumS f l = some n → l.length ≤ n.1 ∧ ∀ x ∈ l, ∃ a, f x = some a ∧ a.1 ≤ n.1
  | [], n, h => by
    obtain rfl := Option.some.inj (show some (0, 0) = some n from h)
    exact ⟨Nat.le_refl _, fun x hx => by cases hx⟩
  | y :: l, n, h => by
    obtain ⟨a, h1, h2⟩ := Option.bind_eq_some_iff.1 (show (f y).bind _ = some n from h)
    obtain ⟨b, h3, rfl⟩ := Option.map_eq_some_iff.1 h2
    obtain ⟨h4, h5⟩ := sumS_mem hf h3
    have := hf y a h1
    refine ⟨by show l.length + 1 ≤ a.1 + b.1; omega, fun x hx => ?_⟩
    rcases List.mem_cons.1 hx with rfl | hx
    · exact ⟨a, h1, by show a.1 ≤ a.1 + b.1; omega⟩
    · obtain ⟨c, h6, h7⟩ := h5 x hx
      exact ⟨c, h6, by show c.1 ≤ a.1 + b.1; omega⟩
theorem oneS_some {d : Nat} {s : PStmt} {a : Nat × Nat} (h : oneS (cntS d) s = some a) : okS s = true ∧ (∃ x, sumE (cntE 12) (sExprs s) = some x) ∧ ∃ b c, cntS d (sBody s) = some b ∧ cntS d (sEls s) = some c ∧ a.1 = 1 + b.1 + c.1 := by
  unfold oneS at h
  split at h
  · rename_i ho
    obtain ⟨x, h1, h⟩ := Option.bind_eq_some_iff.1 h
    obtain ⟨b, h2, h⟩ := Option.bind_eq_some_iff.1 h
    obtain ⟨c, h3, rfl⟩ := Option.map_eq_some_iff.1 h
    exact ⟨ho, ⟨x, h1⟩, b, c, h2, h3, rfl⟩
  · cases h
theorem cntE_kids {d : Nat} {e : PExpr} {n : Nat} (h : cntE d e = some n) : ∃ d', d = d' + 1 ∧ (eKids e).length ≤ 2 ∧ ∀ x ∈ eKids e, ∃ a, cntE d' x = some a := by
  cases d with
  | zero => cases h
  | succ d =>
    have h : (if okE e = true then (sumE (cntE d) (eKids e)).map (· + 1) else none) = some n := h
    split at h
    · rename_i ho
      obtain ⟨b, h1, _⟩ := Option.map_eq_some_iff.1 h
      exact ⟨d, rfl, okE_len ho, sumE_mem h1⟩
    · cases h
end Tree
end Go.Proofs.Yticelgnmcjkknaa.M
