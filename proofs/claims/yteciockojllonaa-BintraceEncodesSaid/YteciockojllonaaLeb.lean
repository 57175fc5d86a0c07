/-
Numbers as bytes, seven bits a byte: what the program puts, and what the reference has.
-/
import Derived.Test.YteciockojllonaaLit
import Derived.Test.Yteciockojllonaafm
import Derived.Test.Yteciockojllonaaf9
namespace Go.Proofs.Yteciockojllonaa.Leb
open Go.RowKit Go.Proofs.Yteciockojllonaa.G Go.Proofs.YteciockojllonaaW.PrintWords Go.Proofs.YteciockojllonaaW.PrintLast Go.Proofs.Yteciockojllonaa.Pre Go.Proofs.Yteciockojllonaa.Lit

/-- A number's bytes. -/
def lebs (n : Nat) : List Int := if n < 128 then [(n : Int)] else (128 + ((n % 128 : Nat) : Int)) :: lebs (n / 128)
termination_by n
decreasing_by omega
theorem lebs_small {n : Nat} (h : n < 128) : lebs n = [(n : Int)] := by rw [lebs, if_pos h]
theorem lebs_big {n : Nat} (h : ¬ n < 128) : lebs n = (128 + ((n % 128 : Nat) : Int)) :: lebs (n / 128) := by rw [lebs, if_neg h]
theorem lebs_pos (n : Nat) : 1 ≤ (lebs n).length := by
  by_cases h : n < 128
  · rw [lebs_small h]; simp
  · rw [lebs_big h]; simp
theorem lebs_len (m : Nat) : ∀ n : Nat, n < 128 ^ (m + 1) → (lebs n).length ≤ m + 1 := by
  induction m with
  | zero => intro n h; rw [lebs_small (by omega)]; simp
  | succ m ih =>
    intro n h
    by_cases hs : n < 128
    · rw [lebs_small hs]; simp
    · rw [lebs_big hs, List.length_cons]
      have := ih (n / 128) (by rw [Nat.pow_succ] at h; omega)
      omega

/-- A literal's number. -/
def num (a : Int) : Nat := if a < 0 then (-2 * a + 1).toNat else (2 * a).toNat

theorem or128 : ∀ m : Fin 256, bits .or .u8 (m.val : Int) 128 = 128 + (m.val : Int) % 128 := by decide +kernel
theorem or128' (n : Nat) : bits .or .u8 ((n : Int) % 256) 128 = 128 + ((n % 128 : Nat) : Int) := by
  have := or128 ⟨n % 256, by omega⟩
  simp only at this
  rw [show (n : Int) % 256 = ((n % 256 : Nat) : Int) from by omega, this]; omega

theorem put_spec (n : Nat) : ∀ (k : Nat) (x : List Int), n < k → x.length + n < 140737488355328 → bintrace_put.l0 k x (n : Int) = some (x ++ lebs n) := by
  induction n using Nat.strongRecOn with
  | _ n ih =>
    intro k x hk hx
    obtain ⟨k, rfl⟩ : ∃ m, k = m + 1 := ⟨k - 1, by omega⟩
    simp only [bintrace_put.l0]
    by_cases h : n < 128
    · rw [if_neg (by omega), if_pos (by omega), lebs_small h]
      congr 3; omega
    · rw [if_pos (by omega), if_pos (by omega), lebs_big h, or128', show (n : Int) / 128 = ((n / 128 : Nat) : Int) from by omega,
        ih (n / 128) (by omega) k _ (by omega) (by simp; omega)]
      simp
theorem put_f (n k : Nat) (x : List Int) (hk : n < k) (hx : x.length + n < 140737488355328) : bintrace_put.f k x (n : Int) = some (x ++ lebs n) := put_spec n k x hk hx

theorem number_spec (a : Int) (h1 : -1048576 ≤ a) (h2 : a ≤ 1048576) : bintrace_number.f a = some (num a : Int) := by
  unfold bintrace_number.f num
  by_cases h : a < 0
  · rw [if_pos h, if_pos h]; congr 1
    rw [w64 (x := -2 * a) (by omega) (by omega), w64 (by omega) (by omega)]; omega
  · rw [if_neg h, if_neg h]; congr 1
    rw [w64 (by omega) (by omega)]; omega

theorem lit_l0 (n : Nat) (hn : n < 9223372036854775807) : ∀ (k : Nat) (x : List Int), n < k → x.length + n < 140737488355328 → fathomref05_Literal.l0 k (n : Int) x = some (x ++ lebs n) := by
  induction n using Nat.strongRecOn with
  | _ n ih =>
    intro k x hk hx
    obtain ⟨k, rfl⟩ : ∃ m, k = m + 1 := ⟨k - 1, by omega⟩
    simp only [fathomref05_Literal.l0]
    by_cases h : n < 128
    · rw [if_neg (by omega), if_pos (by omega), lebs_small h]
      congr 3; omega
    · have e1 : Int.tdiv (n : Int) 128 = ((n / 128 : Nat) : Int) := by rw [Int.tdiv_eq_ediv_of_nonneg (by omega)]; omega
      have e2 : Int.tmod (n : Int) 128 = ((n % 128 : Nat) : Int) := by rw [Int.tmod_eq_emod_of_nonneg (by omega)]; omega
      rw [if_pos (by omega), if_pos (by omega), lebs_big h, e1, e2, w64 (x := ((n / 128 : Nat) : Int)) (by omega) (by omega), w64 (by omega) (by omega),
        show (128 + ((n % 128 : Nat) : Int)) % 256 = 128 + ((n % 128 : Nat) : Int) from by omega,
        ih (n / 128) (by omega) (by omega) k _ (by omega) (by simp; omega)]
      simp
theorem Literal_spec (a : Int) (h1 : -1048576 ≤ a) (h2 : a ≤ 1048576) (k : Nat) (hk : 2097160 < k) : fathomref05_Literal.f k a = some (lebs (num a)) := by
  obtain ⟨k, rfl⟩ : ∃ m, k = m + 1 := ⟨k - 1, by omega⟩
  unfold fathomref05_Literal.f fathomref01_Var.f num
  by_cases h : a < 0
  · have := lit_l0 (-2 * a + 1).toNat (by omega) k [] (by omega) (by simp; omega)
    simp only [if_pos h, Option.bind_some, fathomref05_Literal.j0]
    rw [w64 (x := -a) (by omega) (by omega), w64 (x := 2 * -a) (by omega) (by omega), w64 (by omega) (by omega), show 2 * -a + 1 = (((-2 * a + 1).toNat : Nat) : Int) from by omega, this]; rfl
  · have := lit_l0 (2 * a).toNat (by omega) k [] (by omega) (by simp; omega)
    simp only [if_neg h, Option.bind_some, fathomref05_Literal.j0]
    rw [w64 (by omega) (by omega), show 2 * a = (((2 * a).toNat : Nat) : Int) from by omega, this]; rfl

theorem num_lt (a : Int) (h1 : -1048576 ≤ a) (h2 : a ≤ 1048576) : num a < 2097154 := by unfold num; split <;> omega

end Go.Proofs.Yteciockojllonaa.Leb
