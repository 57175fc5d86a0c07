/-
Programs as trees: which are alike, by the program and by the reference.
-/
import Derived.Test.YticelgnmcjkknaaTsP
set_option linter.unusedVariables false
set_option linter.unusedSimpArgs false
set_option maxRecDepth 100000
namespace Go.Proofs.Yticelgnmcjkknaa.M
open Go Go.Proofs.Yticelgnmcjkknaa.Vm Go.Proofs.Yticelgnmcjkknaa.Pl
namespace Tree
open Lex
/-! ### two lists, side by side -/
def all2 {A : Type} (f : A → A → Bool) : List A → List A → Bool
  | [], [] => true
  | a :: l, b :: m => f a b && all2 f l m
  | _, _ => false
theorem all2_len {A : Type} {f : A → A → Bool} : ∀ {l m : List A}, l.length ≠ m.length → all2 f l m = false
  | [], [], h => absurd rfl h
  | [], _ :: _, _ => rfl
  | _ :: _, [], _ => rfl
  | a :: l, b :: m, h => by
    show (f a b && all2 f l m) = false
    rw [all2_len (l := l) (m := m) (by simpa using h), Bool.and_false]
theorem all2_symm {A : Type} {f g : A → A → Bool} (h : ∀ a b, f a b = g b a) : ∀ l m : List A, all2 f l m = all2 g m l
  | [], [] => rfl
  | [], _ :: _ => rfl
  | _ :: _, [] => rfl
  | a :: l, b :: m => by
    show (f a b && all2 f l m) = (g b a && all2 g m l)
    rw [h, all2_symm h]
theorem all2_drop {A : Type} {f : A → A → Bool} {l m : List A} {i : Nat} (hi : i < l.length) (hm : i < m.length) : all2 f (l.drop i) (m.drop i) = (f l[i] m[i] && all2 f (l.drop (i + 1)) (m.drop (i + 1))) := by
  rw [List.drop_eq_getElem_cons hi, List.drop_eq_getElem_cons hm]; rfl
/-- The library's round over two slices. -/
def eqL {A : Type} (g : A → A → Option ((Bool × Unit) × Unit)) : Nat → List A → List A → Int → Int → Option ((Unit × Unit) ⊕ ((Bool × Unit) × Unit))
  | 0 => fun _ _ _ _ => none
  | j + 1 => fun s t n i => cond (decide (i < n))
    (ix t i fun e1 => ix s i fun e2 => (g e1 e2).bind fun y3 =>
      cond (!y3.1.1) (some (.inr ((false, ()), ())))
        ((eqL g j s t n (w64 (i + 1))).bind fun y4 => match y4 with
          | .inl y4_0 => some (.inl ((), ()))
          | .inr y4_1 => some (.inr ((y4_1.1.1, ()), ()))))
    (some (.inl ((), ())))
theorem eqL_run {A : Type} {g : A → A → Option ((Bool × Unit) × Unit)} {f : A → A → Bool} {l m : List A} (hl : l.length ≤ mx) (he : l.length = m.length) (hg : ∀ x ∈ l, ∀ y ∈ m, g x y = some ((f x y, ()), ())) : ∀ (q i : Nat), l.length - i = q → ∀ j, q < j →
    eqL g j m l l.length i = cond (all2 f (l.drop i) (m.drop i)) (some (.inl ((), ()))) (some (.inr ((false, ()), ()))) := by
  intro q
  induction q with
  | zero =>
    intro i hi j hj
    obtain ⟨j, rfl, _⟩ := succ_of (n := 0) (by omega : 0 + 1 ≤ j)
    unfold eqL
    rw [decide_eq_false (by omega : ¬ (i : Int) < l.length), List.drop_of_length_le (by omega), List.drop_of_length_le (by omega)]; rfl
  | succ q ih =>
    intro i hi j hj
    obtain ⟨j, rfl, hj2⟩ := succ_of (by omega : q + 1 + 1 ≤ j)
    have hlt : i < l.length := by omega
    have hlt2 : i < m.length := by omega
    have hx : l[i]? = some l[i] := List.getElem?_eq_getElem hlt
    have hy : m[i]? = some m[i] := List.getElem?_eq_getElem hlt2
    unfold eqL
    rw [decide_eq_true (by omega : (i : Int) < l.length), cond_true, ix_nat hx, ix_nat hy, hg _ (List.getElem_mem hlt) _ (List.getElem_mem hlt2), all2_drop hlt hlt2, w_one hlt hl, ih (i + 1) (by omega) j hj2]
    simp only [Option.bind_some]
    cases f l[i] m[i] <;> cases all2 f (l.drop (i + 1)) (m.drop (i + 1)) <;> rfl
theorem len_b {A B : Type} (l : List A) (m : List B) : ((l.length : Int) != (m.length : Int)) = !decide (l.length = m.length) := by
  unfold bne
  rw [beq_nat]
  by_cases h : l.length = m.length
  · rw [h, beq_self_eq_true, decide_eq_true rfl]
  · rw [decide_eq_false h, beq_eq_false_iff_ne.2 h]
theorem bs_comm (a b : ByteArray) : (a.toList == b.toList) = (b.toList == a.toList) := by
  rw [beqL, beqL]
  by_cases h : L a = L b
  · rw [decide_eq_true h, decide_eq_true h.symm]
  · rw [decide_eq_false h, decide_eq_false fun e => h e.symm]
theorem i_comm (a b : Int) : (a == b) = (b == a) := by
  rw [beq_int, beq_int]
  by_cases h : a = b
  · rw [decide_eq_true h, decide_eq_true h.symm]
  · rw [decide_eq_false h, decide_eq_false fun e => h e.symm]
/-! ### expressions -/
def sameE : Nat → PExpr → PExpr → Bool
  | 0, _, _ => false
  | n + 1, a, b => (eKind a == eKind b) && (((eOp a).toList == (eOp b).toList) && ((eNum a == eNum b) && (((eName a).toList == (eName b).toList) && all2 (sameE n) (eKids a) (eKids b))))
theorem sameE_symm : ∀ (n : Nat) (a b : PExpr), sameE n a b = sameE n b a
  | 0, _, _ => rfl
  | n + 1, a, b => by
    unfold sameE
    rw [i_comm (eKind a), bs_comm (eOp a), i_comm (eNum a), bs_comm (eName a), all2_symm (sameE_symm n)]
theorem list101 (k : Nat) {f : PExpr → PExpr → Bool} {l m : List PExpr} (hl : l.length ≤ mx) (hk : l.length < k) (h : ∀ x ∈ l, ∀ y ∈ m, f70 k x y = some ((f x y, ()), ())) : f101 (k + 1) l m = some ((all2 f l m, ()), ()) := by
  rw [f101_succ]
  unfold b101
  rw [len_b]
  by_cases he : l.length = m.length
  · have hq : ∀ j, l101_58 k (f70 k) (f101 k) j = eqL (fun x y => f70 k (ePack x) (ePack y)) j := by
      intro j
      induction j with
      | zero => rfl
      | succ j ih => show b101_58 k (f70 k) (f101 k) (l101_58 k (f70 k) (f101 k) j) = _; rw [ih]; rfl
    have := eqL_run (g := fun x y => f70 k (ePack x) (ePack y)) hl he (fun x hx y hy => by rw [ePack_eq, ePack_eq]; exact h x hx y hy) l.length 0 (by omega) k (by omega)
    rw [show ((0 : Nat) : Int) = 0 from rfl, List.drop_zero, List.drop_zero] at this
    rw [decide_eq_true he, hq, this]
    cases all2 f l m <;> rfl
  · rw [decide_eq_false he, all2_len he]; rfl
theorem kids30 (k : Nat) {r : T30} {f : PExpr → PExpr → Bool} {l m : List PExpr} (hl : l.length ≤ mx) (he : l.length = m.length) (hg : ∀ x ∈ l, ∀ y ∈ m, r x y = some ((f x y, ()), ())) {a0 a2 a5 b0 b2 b5 : Int} {a1 a3 b1 b3 : ByteArray} : ∀ (q i : Nat), l.length - i = q → ∀ j, q < j →
    l30_58 k r j i a0 a1 a2 a3 l a5 b0 b1 b2 b3 m b5 = cond (all2 f (l.drop i) (m.drop i)) (some (.inl ((), ((a0, a1, a2, a3, l, a5, ()), (b0, b1, b2, b3, m, b5, ()), ())))) (some (.inr ((false, ()), ((a0, a1, a2, a3, l, a5, ()), (b0, b1, b2, b3, m, b5, ()), ())))) := by
  intro q
  induction q with
  | zero =>
    intro i hi j hj
    obtain ⟨j, rfl, _⟩ := succ_of (n := 0) (by omega : 0 + 1 ≤ j)
    rw [List.drop_of_length_le (by omega : l.length ≤ i), List.drop_of_length_le (by omega : m.length ≤ i)]
    show b30_58 k r (l30_58 k r j) i a0 a1 a2 a3 l a5 b0 b1 b2 b3 m b5 = _
    unfold b30_58
    rw [decide_eq_false (by omega : ¬ (i : Int) < l.length)]; rfl
  | succ q ih =>
    intro i hi j hj
    obtain ⟨j, rfl, hj2⟩ := succ_of (by omega : q + 1 + 1 ≤ j)
    have hlt : i < l.length := by omega
    have hlt2 : i < m.length := by omega
    have hx : l[i]? = some l[i] := List.getElem?_eq_getElem hlt
    have hy : m[i]? = some m[i] := List.getElem?_eq_getElem hlt2
    rw [all2_drop hlt hlt2]
    show b30_58 k r (l30_58 k r j) i a0 a1 a2 a3 l a5 b0 b1 b2 b3 m b5 = _
    unfold b30_58
    rw [decide_eq_true (by omega : (i : Int) < l.length), cond_true, ix_nat hx, ix_nat hy, hg _ (List.getElem_mem hlt) _ (List.getElem_mem hlt2), w_one hlt hl, ih (i + 1) (by omega) j hj2]
    simp only [Option.bind_some]
    cases f l[i] m[i] <;> cases all2 f (l.drop (i + 1)) (m.drop (i + 1)) <;> rfl
theorem same70 : ∀ (n : Nat) (a : PExpr), SizeOf.sizeOf a ≤ n → Fit (.rc 0) a → ∀ b : PExpr, E fun k => f70 k a b = some ((sameE n a b, ()), ()) ∧ f30 k a b = some ((sameE n a b, ()), ())
  | 0, a, h, _, _ => by cases a; simp at h
  | n + 1, a, h, hf, b => by
    obtain ⟨_, hl, hk⟩ := fit_expr hf
    have hs : ∀ x ∈ eKids a, SizeOf.sizeOf x ≤ n := by
      intro x hx
      have h1 := List.sizeOf_lt_of_mem hx
      have h2 : SizeOf.sizeOf (eKids a) < SizeOf.sizeOf a := by
        cases a with
        | mk a b c d kids f =>
          show SizeOf.sizeOf kids < SizeOf.sizeOf (PExpr.mk a b c d kids f)
          simp
          omega
      omega
    obtain ⟨K, hK⟩ := E_list (eKids a) fun x hx => E_list (eKids b) fun y _ => same70 n x (hs x hx) (hk x hx) y
    refine ⟨K + (eKids a).length + 5, fun k hk2 => ?_⟩
    obtain ⟨k, rfl⟩ : ∃ q, k = q + 2 := ⟨k - 2, by omega⟩
    constructor
    · rw [f70_succ]
      unfold b70
      rw [list101 k hl (by omega) fun x hx y hy => (hK k (by omega) x hx y hy).1]
      simp only [Option.bind_some]
      unfold sameE
      cases (eKind a == eKind b) <;> cases ((eOp a).toList == (eOp b).toList) <;> cases (eNum a == eNum b) <;> cases ((eName a).toList == (eName b).toList) <;> rfl
    · rw [f30_succ]
      unfold b30
      rw [len_b]
      unfold sameE bne
      by_cases he : (eKids a).length = (eKids b).length
      · have := kids30 (k + 1) (r := f30 (k + 1)) (a0 := eKind a) (a1 := eOp a) (a2 := eNum a) (a3 := eName a) (a5 := ePos a) (b0 := eKind b) (b1 := eOp b) (b2 := eNum b) (b3 := eName b) (b5 := ePos b) hl he (fun x hx y hy => (hK (k + 1) (by omega) x hx y hy).2) (eKids a).length 0 (by omega) (k + 1) (by omega)
        rw [show ((0 : Nat) : Int) = 0 from rfl, List.drop_zero, List.drop_zero] at this
        rw [decide_eq_true he, this]
        cases (eKind a == eKind b) <;> cases ((eOp a).toList == (eOp b).toList) <;> cases (eNum a == eNum b) <;> cases ((eName a).toList == (eName b).toList) <;> cases all2 (sameE n) (eKids a) (eKids b) <;> rfl
      · rw [decide_eq_false he, all2_len he]
        cases (eKind a == eKind b) <;> cases ((eOp a).toList == (eOp b).toList) <;> cases (eNum a == eNum b) <;> cases ((eName a).toList == (eName b).toList) <;> rfl
/-! ### statements -/
def sameS : Nat → PStmt → PStmt → Bool
  | 0, _, _ => false
  | n + 1, a, b => (sKind a == sKind b) && (((sName a).toList == (sName b).toList) && (((sLoc a).toList == (sLoc b).toList) && (all2 (sameE n) (sExprs a) (sExprs b) && (all2 (sameS n) (sBody a) (sBody b) && all2 (sameS n) (sEls a) (sEls b)))))
theorem sameS_symm : ∀ (n : Nat) (a b : PStmt), sameS n a b = sameS n b a
  | 0, _, _ => rfl
  | n + 1, a, b => by
    unfold sameS
    rw [i_comm (sKind a), bs_comm (sName a), bs_comm (sLoc a), all2_symm (sameE_symm n), all2_symm (sameS_symm n) (sBody a), all2_symm (sameS_symm n) (sEls a)]
theorem list66 (k : Nat) {f : PStmt → PStmt → Bool} {l m : List PStmt} (hl : l.length ≤ mx) (hk : l.length < k) (h : ∀ x ∈ l, ∀ y ∈ m, f67 k x y = some ((f x y, ()), ())) : f66 (k + 1) l m = some ((all2 f l m, ()), ()) := by
  rw [f66_succ]
  unfold b66
  rw [len_b]
  by_cases he : l.length = m.length
  · have hq : ∀ j, l66_58 k (f66 k) (f67 k) j = eqL (fun x y => f67 k (sPack x) (sPack y)) j := by
      intro j
      induction j with
      | zero => rfl
      | succ j ih => show b66_58 k (f66 k) (f67 k) (l66_58 k (f66 k) (f67 k) j) = _; rw [ih]; rfl
    have := eqL_run (g := fun x y => f67 k (sPack x) (sPack y)) hl he (fun x hx y hy => by rw [sPack_eq, sPack_eq]; exact h x hx y hy) l.length 0 (by omega) k (by omega)
    rw [show ((0 : Nat) : Int) = 0 from rfl, List.drop_zero, List.drop_zero] at this
    rw [decide_eq_true he, hq, this]
    cases all2 f l m <;> rfl
  · rw [decide_eq_false he, all2_len he]; rfl
theorem exprs68 (k : Nat) {r : T68} {f : PExpr → PExpr → Bool} {a b : List PStmt} {i : Nat} {s t : PStmt} (hs : a[i]? = some s) (ht : b[i]? = some t) (hl : (sExprs s).length ≤ mx) (he : (sExprs s).length = (sExprs t).length) (hg : ∀ x ∈ sExprs s, ∀ y ∈ sExprs t, f30 k x y = some ((f x y, ()), ())) : ∀ (q p : Nat), (sExprs s).length - p = q → ∀ j, q < j →
    l68_7462 k r j a b i p = cond (all2 f ((sExprs s).drop p) ((sExprs t).drop p)) (some (.inl ((), ()))) (some (.inr ((false, ()), ()))) := by
  intro q
  induction q with
  | zero =>
    intro p hi j hj
    obtain ⟨j, rfl, _⟩ := succ_of (n := 0) (by omega : 0 + 1 ≤ j)
    rw [List.drop_of_length_le (by omega : (sExprs s).length ≤ p), List.drop_of_length_le (by omega : (sExprs t).length ≤ p)]
    show b68_7462 k r (l68_7462 k r j) a b i p = _
    unfold b68_7462
    rw [ix_nat hs, decide_eq_false (by omega : ¬ (p : Int) < (sExprs s).length)]; rfl
  | succ q ih =>
    intro p hi j hj
    obtain ⟨j, rfl, hj2⟩ := succ_of (by omega : q + 1 + 1 ≤ j)
    have hlt : p < (sExprs s).length := by omega
    have hlt2 : p < (sExprs t).length := by omega
    have hx : (sExprs s)[p]? = some (sExprs s)[p] := List.getElem?_eq_getElem hlt
    have hy : (sExprs t)[p]? = some (sExprs t)[p] := List.getElem?_eq_getElem hlt2
    rw [all2_drop hlt hlt2]
    show b68_7462 k r (l68_7462 k r j) a b i p = _
    unfold b68_7462
    rw [ix_nat hs, decide_eq_true (by omega : (p : Int) < (sExprs s).length), cond_true, ix_nat hs, ix_nat hx, ix_nat ht, ix_nat hy, hg _ (List.getElem_mem hlt) _ (List.getElem_mem hlt2), w_one hlt hl, ih (p + 1) (by omega) j hj2]
    simp only [Option.bind_some]
    cases f (sExprs s)[p] (sExprs t)[p] <;> cases all2 f ((sExprs s).drop (p + 1)) ((sExprs t).drop (p + 1)) <;> rfl
structure SsFact (k n : Nat) (s t : PStmt) : Prop where
  ex : ∀ x ∈ sExprs s, ∀ y ∈ sExprs t, f70 k x y = some ((sameE n x y, ()), ()) ∧ f30 k x y = some ((sameE n x y, ()), ())
  lx : (sExprs s).length ≤ mx ∧ (sExprs s).length < k
  bd : f66 k (sBody s) (sBody t) = some ((all2 (sameS n) (sBody s) (sBody t), ()), ()) ∧ f68 k (sBody s) (sBody t) = some ((all2 (sameS n) (sBody s) (sBody t), ()), ())
  el : f66 k (sEls s) (sEls t) = some ((all2 (sameS n) (sEls s) (sEls t), ()), ()) ∧ f68 k (sEls s) (sEls t) = some ((all2 (sameS n) (sEls s) (sEls t), ()), ())
theorem stmt67 (k n : Nat) {s t : PStmt} (h : SsFact k n s t) (h' : SsFact (k + 1) n s t) : f67 (k + 2) s t = some ((sameS (n + 1) s t, ()), ()) := by
  rw [f67_succ]
  unfold b67
  rw [list101 k h.lx.1 h.lx.2 fun x hx y hy => (h.ex x hx y hy).1, h'.bd.1, h'.el.1]
  simp only [Option.bind_some]
  unfold sameS
  cases (sKind s == sKind t) <;> cases ((sName s).toList == (sName t).toList) <;> cases ((sLoc s).toList == (sLoc t).toList) <;> cases all2 (sameE n) (sExprs s) (sExprs t) <;> cases all2 (sameS n) (sBody s) (sBody t) <;> rfl
theorem stmts68 (k n : Nat) {l m : List PStmt} (hl : l.length ≤ mx) (he : l.length = m.length) (hg : ∀ x ∈ l, ∀ y ∈ m, SsFact k n x y) : ∀ (q i : Nat), l.length - i = q → ∀ j, q < j →
    l68_58 k (f68 k) j l m i = cond (all2 (sameS (n + 1)) (l.drop i) (m.drop i)) (some (.inl ((), ()))) (some (.inr ((false, ()), ()))) := by
  intro q
  induction q with
  | zero =>
    intro i hi j hj
    obtain ⟨j, rfl, _⟩ := succ_of (n := 0) (by omega : 0 + 1 ≤ j)
    rw [List.drop_of_length_le (by omega : l.length ≤ i), List.drop_of_length_le (by omega : m.length ≤ i)]
    show b68_58 k (f68 k) (l68_58 k (f68 k) j) l m i = _
    unfold b68_58
    rw [decide_eq_false (by omega : ¬ (i : Int) < l.length)]; rfl
  | succ q ih =>
    intro i hi j hj
    obtain ⟨j, rfl, hj2⟩ := succ_of (by omega : q + 1 + 1 ≤ j)
    have hlt : i < l.length := by omega
    have hlt2 : i < m.length := by omega
    have hx : l[i]? = some l[i] := List.getElem?_eq_getElem hlt
    have hy : m[i]? = some m[i] := List.getElem?_eq_getElem hlt2
    have hS := hg _ (List.getElem_mem hlt) _ (List.getElem_mem hlt2)
    rw [all2_drop hlt hlt2]
    show b68_58 k (f68 k) (l68_58 k (f68 k) j) l m i = _
    have hix : ∀ {R : Type} {K : PStmt → Option R}, ix l (i : Int) K = K l[i] := fun {R K} => ix_nat hx
    have hiy : ∀ {R : Type} {K : PStmt → Option R}, ix m (i : Int) K = K m[i] := fun {R K} => ix_nat hy
    unfold b68_58
    rw [decide_eq_true (by omega : (i : Int) < l.length), cond_true]
    simp only [hix, hiy]
    rw [hS.bd.2, hS.el.2, w_one hlt hl, ih (i + 1) (by omega) j hj2, len_b]
    simp only [Option.bind_some]
    unfold sameS bne
    by_cases hle : (sExprs l[i]).length = (sExprs m[i]).length
    · have := exprs68 k (r := f68 k) hx hy hS.lx.1 hle (fun x hx y hy => (hS.ex x hx y hy).2) (sExprs l[i]).length 0 (by omega) k (by have := hS.lx.2; omega)
      rw [show ((0 : Nat) : Int) = 0 from rfl, List.drop_zero, List.drop_zero] at this
      rw [this, decide_eq_true hle]
      cases (sKind l[i] == sKind m[i]) <;> cases ((sName l[i]).toList == (sName m[i]).toList) <;> cases ((sLoc l[i]).toList == (sLoc m[i]).toList) <;> cases all2 (sameE n) (sExprs l[i]) (sExprs m[i]) <;> cases all2 (sameS n) (sBody l[i]) (sBody m[i]) <;> cases all2 (sameS n) (sEls l[i]) (sEls m[i]) <;> cases all2 (sameS (n + 1)) (l.drop (i + 1)) (m.drop (i + 1)) <;> rfl
    · rw [decide_eq_false hle, all2_len hle]
      cases (sKind l[i] == sKind m[i]) <;> cases ((sName l[i]).toList == (sName m[i]).toList) <;> cases ((sLoc l[i]).toList == (sLoc m[i]).toList) <;> rfl
theorem same66 : ∀ (n : Nat) (l : List PStmt), SizeOf.sizeOf l ≤ n → Fit (.slice (.rc 1)) l → ∀ m : List PStmt, E fun k => f66 k l m = some ((all2 (sameS n) l m, ()), ()) ∧ f68 k l m = some ((all2 (sameS n) l m, ()), ())
  | 0, l, h, _, _ => by cases l <;> simp at h
  | n + 1, l, h, hf, m => by
    obtain ⟨hl, hs⟩ := fit_list hf
    have key : ∀ s ∈ l, ∀ t ∈ m, E fun k => SsFact k n s t := by
      intro s hsm t htm
      have h1 := List.sizeOf_lt_of_mem hsm
      obtain ⟨h2, h3⟩ := stmt_sizes s
      have h4 : SizeOf.sizeOf (sExprs s) < SizeOf.sizeOf s := by
        cases s with
        | mk a b c d x y f =>
          show SizeOf.sizeOf d < SizeOf.sizeOf (PStmt.mk a b c d x y f)
          simp
          omega
      obtain ⟨_, _, ⟨f1, f2⟩, f3, f4⟩ := fit_stmt (hs s hsm)
      have e1 := same66 n (sBody s) (by omega) f3 (sBody t)
      have e2 := same66 n (sEls s) (by omega) f4 (sEls t)
      have e3 := E_list (sExprs s) fun x hx => E_list (sExprs t) fun y _ => same70 n x (by have := List.sizeOf_lt_of_mem hx; omega) (f2 x hx) y
      exact (e1.and (e2.and (e3.and (E.ge ((sExprs s).length + 1))))).mono fun k ⟨a1, a2, a3, a4⟩ => ⟨a3, ⟨f1, by omega⟩, a1, a2⟩
    obtain ⟨K, hK⟩ := E_list l fun s hsm => E_list m fun t htm => key s hsm t htm
    refine ⟨K + l.length + 5, fun k hk => ?_⟩
    obtain ⟨k, rfl⟩ : ∃ q, k = q + 3 := ⟨k - 3, by omega⟩
    constructor
    · exact list66 (k + 2) hl (by omega) fun x hx y hy => stmt67 k n (hK k (by omega) x hx y hy) (hK (k + 1) (by omega) x hx y hy)
    · rw [f68_succ]
      unfold b68
      rw [len_b]
      by_cases he : l.length = m.length
      · have := stmts68 (k + 2) n hl he (fun x hx y hy => hK (k + 2) (by omega) x hx y hy) l.length 0 (by omega) (k + 2) (by omega)
        rw [show ((0 : Nat) : Int) = 0 from rfl, List.drop_zero, List.drop_zero] at this
        rw [decide_eq_true he, this]
        cases all2 (sameS (n + 1)) l m <;> rfl
      · rw [decide_eq_false he, all2_len he]; rfl
end Tree
end Go.Proofs.Yticelgnmcjkknaa.M
