/-
Programs as trees: which are alike, by the program and by the reference.
-/
import Derived.Test.YticelgnmcjkknaaTbP
set_option linter.unusedVariables false
set_option linter.unusedSimpArgs false
set_option maxRecDepth 100000
namespace Go.Proofs.Yticelgnmcjkknaa.M
open Go Go.Proofs.Yticelgnmcjkknaa.Vm Go.Proofs.Yticelgnmcjkknaa.Pl
namespace Tree
open Lex
/-! ### two lists, side by side -/
def all2 {A : Type} (f : A → A → Bool) : List A → List A → Bool
  | [], [] => true
  | a :: l, b :: m => f a b && all2 f l m
  | _, _ => false
theorem all2_len {A : Type} {f : A → A → Bool} : ∀ {l m : List A}, l.length ≠ m.length → all2 f l m = false
  | [], [], h => absurd rfl h
  | [], _ :: _, _ => rfl
  | _ :: _, [], _ => rfl
  | a :: l, b :: m, h => by
    show (f a b && all2 f l m) = false
    rw [all2_len (l := l) (m := m) (by simpa using h), Bool.and_false]
theorem all2_symm {A : Type} {f g : A → A → Bool} (h : ∀ a b, f a b = g b a) : ∀ l m : List A, all2 f l m = all2 g m l
  | [], [] => rfl
  | [], _ :: _ => rfl
  | _ :: _, [] => rfl
  | a :: l, b :: m => by
    show (f a b && all2 f l m) = (g b a && all2 g m l)
    rw [h, all2_symm h]
theorem all2_drop {A : Type} {f : A → A → Bool} {l m : List A} {i : Nat} (hi : i < l.length) (hm : i < m.length) : all2 f (l.drop i) (m.drop i) = (f l[i] m[i] && all2 f (l.drop (i + 1)) (m.drop (i + 1))) := by
  rw [List.drop_eq_getElem_cons hi, List.drop_eq_getElem_cons hm]; rfl
/-- The library's round over two slices. -/
def eqL {A : Type} (g : A → A → Option ((Bool × Unit) × Unit)) : Nat → List A → List A → Int → Int → Option ((Unit × Unit) ⊕ ((Bool × Unit) × Unit))
  | 0 => fun _ _ _ _ => none
  | j + 1 => fun s t n i => cond (decide (i < n))
    (ix t i fun e1 => ix s i fun e2 => (g e1 e2).bind fun y3 =>
      cond (!y3.1.1) (some (.inr ((false, ()), ())))
        ((eqL g j s t n (w64 (i + 1))).bind fun y4 => match y4 with
          | .inl y4_0 => some (.inl ((), ()))
          | .inr y4_1 => some (.inr ((y4_1.1.1, ()), ()))))
    (some (.inl ((), ())))
theorem eqL_run {A : Type} {g : A → A → Option ((Bool × Unit) × Unit)} {f : A → A → Bool} {l m : List A} (hl : l.length ≤ mx) (he : l.length = m.length) (hg : ∀ x ∈ l, ∀ y ∈ m, g x y = some ((f x y, ()), ())) : ∀ (q i : Nat), l.length - i = q → ∀ j, q < j →
    eqL g j m l l.length i = cond (all2 f (l.drop i) (m.drop i)) (some (.inl ((), ()))) (some (.inr ((false, ()), ()))) := by
  intro q
  induction q with
  | zero =>
    intro i hi j hj
    obtain ⟨j, rfl, _⟩ := succ_of (n := 0) (by omega : 0 + 1 ≤ j)
    unfold eqL
    rw [decide_eq_false (by omega : ¬ (i : Int) < l.length), List.drop_of_length_le (by omega), List.drop_of_length_le (by omega)]; rfl
  | succ q ih =>
    intro i hi j hj
    obtain ⟨j, rfl, hj2⟩ := succ_of (by omega : q + 1 + 1 ≤ j)
    have hlt : i < l.length := by omega
    have hlt2 : i < m.length := by omega
    have hx : l[i]? = some l[i] := List.getElem?_eq_getElem hlt
    have hy : m[i]? = some m[i] := List.getElem?_eq_getElem hlt2
    unfold eqL
    rw [decide_eq_true (by omega : (i : Int) < l.length), cond_true, ix_nat hx, ix_nat hy, hg _ (List.getElem_mem hlt) _ (List.getElem_mem hlt2), all2_drop hlt hlt2, w_one hlt hl, ih (i + 1) (by omega) j hj2]
    simp only [Option.bind_some]
    cases f l[i] m[i] <;> cases all2 f (l.drop (i + 1)) (m.drop (i + 1)) <;> rfl
theorem len_b {A B : Type} (l : List A) (m : List B) : ((l.length : Int) != (m.length : Int)) = !decide (l.length = m.length) := by
  unfold bne
  rw [beq_nat]
  by_cases h : l.length = m.length
  · rw [h, beq_self_eq_true, decide_eq_true rfl]
  · rw [decide_eq_false h, beq_eq_false_iff_ne.2 h]
theorem bs_comm (a b : ByteArray) : (a.toList == b.toList) = (b.toList == a.toList) := by
  rw [beqL, beqL]
  by_cases h : L a = L b
  · rw [decide_eq_true h, decide_eq_true h.symm]
  · rw [decide_eq_false h, decide_eq_false fun e => h e.symm]
theorem i_comm (a b : Int) : (a == b) = (b == a) := by
  rw [beq_int, beq_int]
  by_cases h : a = b
  · rw [decide_eq_true h, decide_eq_true h.symm]
  · rw [decide_eq_false h, decide_eq_false fun e => h e.symm]
/-! ### expressions -/
def sameE : Nat → PExpr → PExpr → Bool
  | 0, _, _ => false
  | n + 1, a, b => (eKind a == eKind b) && (((eOp a).toList == (eOp b).toList) && ((eNum a == eNum b) && (((eName a).toList == (eName b).toList) && all2 (sameE n) (eKids a) (eKids b))))
theorem sameE_symm : ∀ (n : Nat) (a b : PExpr), sameE n a b = sameE n b a
  | 0, _, _ => rfl
  | n + 1, a, b => by
    unfold sameE
    rw [i_comm (eKind a), bs_comm (eOp a), i_comm (eNum a), bs_comm (eName a), all2_symm (sameE_symm n)]
theorem list101 (k : Nat) {f : PExpr → PExpr → Bool} {l m : List PExpr} (hl : l.length ≤ mx) (hk : l.length < k) (h : ∀ x ∈ l, ∀ y ∈ m, f70 k x y = some ((f x y, ()), ())) : f101 (k + 1) l m = some ((all2 f l m, ()), ()) := by
  rw [f101_succ]
  unfold b101
  rw [len_b]
  by_cases he : l.length = m.length
  · have hq : ∀ j, l101_58 k (f70 k) (f101 k) j = eqL (fun x y => f70 k (ePack x) (ePack y)) j := by
      intro j
      induction j with
      | zero => rfl
      | succ j ih => show b101_58 k (f70 k) (f101 k) (l101_58 k (f70 k) (f101 k) j) = _; rw [ih]; rfl
    have := eqL_run (g := fun x y => f70 k (ePack x) (ePack y)) hl he (fun x hx y hy => by rw [ePack_eq, ePack_eq]; exact h x hx y hy) l.length 0 (by omega) k (by omega)
    rw [show ((0 : Nat) : Int) = 0 from rfl, List.drop_zero, List.drop_zero] at this
    rw [decide_eq_true he, hq, this]
    cases all2 f l m <;> rfl
  · rw [decide_eq_false he, all2_len he]; rfl
/-! ### statements -/
def sameS : Nat → PStmt → PStmt → Bool
  | 0, _, _ => false
  | n + 1, a, b => (sKind a == sKind b) && (((sName a).toList == (sName b).toList) && (((sLoc a).toList == (sLoc b).toList) && (all2 (sameE n) (sExprs a) (sExprs b) && (all2 (sameS n) (sBody a) (sBody b) && all2 (sameS n) (sEls a) (sEls b)))))
theorem sameS_symm : ∀ (n : Nat) (a b : PStmt), sameS n a b = sameS n b a
  | 0, _, _ => rfl
  | n + 1, a, b => by
    unfold sameS
    rw [i_comm (sKind a), bs_comm (sName a), bs_comm (sLoc a), all2_symm (sameE_symm n), all2_symm (sameS_symm n) (sBody a), all2_symm (sameS_symm n) (sEls a)]
theorem list66 (k : Nat) {f : PStmt → PStmt → Bool} {l m : List PStmt} (hl : l.length ≤ mx) (hk : l.length < k) (h : ∀ x ∈ l, ∀ y ∈ m, f67 k x y = some ((f x y, ()), ())) : f66 (k + 1) l m = some ((all2 f l m, ()), ()) := by
  rw [f66_succ]
  unfold b66
  rw [len_b]
  by_cases he : l.length = m.length
  · have hq : ∀ j, l66_58 k (f66 k) (f67 k) j = eqL (fun x y => f67 k (sPack x) (sPack y)) j := by
      intro j
      induction j with
      | zero => rfl
      | succ j ih => show b66_58 k (f66 k) (f67 k) (l66_58 k (f66 k) (f67 k) j) = _; rw [ih]; rfl
    have := eqL_run (g := fun x y => f67 k (sPack x) (sPack y)) hl he (fun x hx y hy => by rw [sPack_eq, sPack_eq]; exact h x hx y hy) l.length 0 (by omega) k (by omega)
    rw [show ((0 : Nat) : Int) = 0 from rfl, List.drop_zero, List.drop_zero] at this
    rw [decide_eq_true he, hq, this]
    cases all2 f l m <;> rfl
  · rw [decide_eq_false he, all2_len he]; rfl
end Tree
end Go.Proofs.Yticelgnmcjkknaa.M
