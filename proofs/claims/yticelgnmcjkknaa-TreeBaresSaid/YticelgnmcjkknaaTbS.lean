/-
Programs as trees: which are alike. The plain law.
-/
import Derived.Test.YticelgnmcjkknaaTbA
set_option linter.unusedVariables false
set_option linter.unusedSimpArgs false
set_option maxRecDepth 100000
namespace Go.Proofs.Yticelgnmcjkknaa.M
open Go Go.Proofs.Yticelgnmcjkknaa.Vm Go.Proofs.Yticelgnmcjkknaa.Pl
namespace Tree
open Lex
def sameD (a b : D_Decl) : Bool := (a.1 == b.1) && ((a.2.1.toList == b.2.1.toList) && (a.2.2.1 == b.2.2.1))
theorem sameD_symm (a b : D_Decl) : sameD a b = sameD b a := by
  unfold sameD
  rw [i_comm a.1, bs_comm a.2.1, i_comm a.2.2.1]
def sameP (n : Nat) (a b : D_Proc) : Bool := (a.1.toList == b.1.toList) && all2 (sameS n) a.2.1 b.2.1
theorem sameP_symm (n : Nat) (a b : D_Proc) : sameP n a b = sameP n b a := by
  unfold sameP
  rw [bs_comm a.1, all2_symm (sameS_symm n)]
theorem list62 (k : Nat) {l m : List D_Decl} (hl : l.length ≤ mx) (hk : l.length < k) : f62 k l m = some ((all2 sameD l m, ()), ()) := by
  unfold f62
  rw [len_b]
  by_cases he : l.length = m.length
  · have hq : ∀ j, l62_58 k j = eqL (fun x y => f63 k x y) j := by
      intro j
      induction j with
      | zero => rfl
      | succ j ih => show b62_58 k (l62_58 k j) = _; rw [ih]; rfl
    have := eqL_run (g := fun x y => f63 k x y) (f := sameD) hl he (fun x hx y hy => by unfold f63 sameD; cases (x.1 == y.1) <;> cases (x.2.1.toList == y.2.1.toList) <;> rfl) l.length 0 (by omega) k (by omega)
    rw [show ((0 : Nat) : Int) = 0 from rfl, List.drop_zero, List.drop_zero] at this
    rw [decide_eq_true he, hq, this]
    cases all2 sameD l m <;> rfl
  · rw [decide_eq_false he, all2_len he]; rfl
theorem list64 (k n : Nat) {l m : List D_Proc} (hl : l.length ≤ mx) (hk : l.length < k) (h : ∀ x ∈ l, ∀ y ∈ m, f66 k x.2.1 y.2.1 = some ((all2 (sameS n) x.2.1 y.2.1, ()), ())) : f64 k l m = some ((all2 (sameP n) l m, ()), ()) := by
  unfold f64
  rw [len_b]
  by_cases he : l.length = m.length
  · have hq : ∀ j, l64_58 k j = eqL (fun x y => f65 k x y) j := by
      intro j
      induction j with
      | zero => rfl
      | succ j ih => show b64_58 k (l64_58 k j) = _; rw [ih]; rfl
    have := eqL_run (g := fun x y => f65 k x y) (f := sameP n) hl he (fun x hx y hy => by unfold f65 sameP; rw [h x hx y hy]; cases (x.1.toList == y.1.toList) <;> rfl) l.length 0 (by omega) k (by omega)
    rw [show ((0 : Nat) : Int) = 0 from rfl, List.drop_zero, List.drop_zero] at this
    rw [decide_eq_true he, hq, this]
    cases all2 (sameP n) l m <;> rfl
  · rw [decide_eq_false he, all2_len he]; rfl
/-- What is told of two programs. -/
def alike (n : Nat) (okp okq : Bool) (p q : D_Prog) : Bool := okp && (okq && ((p.1 == q.1) && (all2 sameD p.2.1 q.2.1 && all2 (sameP n) p.2.2.1 q.2.2.1)))
theorem alike_symm (n : Nat) (okp okq : Bool) (p q : D_Prog) : alike n okp okq p q = alike n okq okp q p := by
  unfold alike
  rw [i_comm p.1, all2_symm sameD_symm, all2_symm (sameP_symm n)]
  cases okp <;> cases okq <;> rfl
theorem both33 {p : D_Prog} (hf : Fit T_Prog p) : E fun k => ∃ ok : Bool, f33 k p = some ((cond ok 0 1, ()), ()) ∧ f37 k p = some ((ok, ()), ()) := by
  refine (both71 hf).mono fun k ⟨ok, s, x, h71, h32, hpos⟩ => ⟨ok, ?_, ?_⟩
  · unfold f33
    rw [h71]
    cases ok <;> rfl
  · unfold f37
    rw [h32]
    cases ok with
    | false => rfl
    | true =>
      have := hpos rfl
      simp only [Option.bind_some, cond_true]
      rw [decide_eq_true (by omega : s ≥ 0)]
theorem alike27 (k n : Nat) {p q : D_Prog} {okp okq : Bool} (hp : f33 k p = some ((cond okp 0 1, ()), ())) (hq : f33 k q = some ((cond okq 0 1, ()), ()))
    (hd : p.2.1.length ≤ mx ∧ p.2.1.length < k) (hl : p.2.2.1.length ≤ mx ∧ p.2.2.1.length < k) (h : ∀ x ∈ p.2.2.1, ∀ y ∈ q.2.2.1, f66 k x.2.1 y.2.1 = some ((all2 (sameS n) x.2.1 y.2.1, ()), ())) :
    f27 k p q = some ((alike n okp okq p q, ()), ()) := by
  unfold f27 alike
  rw [hp, hq, list62 k hd.1 hd.2, list64 k n hl.1 hl.2 h]
  unfold bne
  cases okp <;> cases okq <;> cases (p.1 == q.1) <;> cases all2 sameD p.2.1 q.2.1 <;> rfl
theorem proc_size {l : List D_Proc} {x : D_Proc} (hx : x ∈ l) : SizeOf.sizeOf x.2.1 ≤ SizeOf.sizeOf l := by
  have h := List.sizeOf_lt_of_mem hx
  have h2 : SizeOf.sizeOf x.2.1 ≤ SizeOf.sizeOf x := by
    obtain ⟨a, b, c, u⟩ := x
    simp
    omega
  omega
end Tree
open Tree
end Go.Proofs.Yticelgnmcjkknaa.M
