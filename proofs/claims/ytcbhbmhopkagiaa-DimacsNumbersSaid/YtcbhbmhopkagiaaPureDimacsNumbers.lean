/-
Which number any word is: the plain law. For every input, no condition.
-/
import Derived.Test.YtcbhbmhopkagiaaNumQ
set_option linter.unusedVariables false
set_option linter.unusedSimpArgs false
set_option maxRecDepth 100000
namespace Go.Proofs.Ytcbhbmhopkagiaa.M
open Go Go.Proofs.Ytcbhbmhopkagiaa.Vm Go.Proofs.Ytcbhbmhopkagiaa.Pl
namespace Num
theorem awake5 (k : Nat) : f5 (k + 40) () = some ((true, ()), ()) := by kernel_rfl
theorem awake5E : E fun k => f5 k () = some ((true, ()), ()) := ⟨40, fun k hk => by obtain ⟨j, rfl⟩ : ∃ j, k = j + 40 := ⟨k - 40, by omega⟩; exact awake5 j⟩
end Num
open Num Str in
theorem Pure.DimacsNumbers (s : ByteArray) (_ : Fit .str s) (n : Int) (_ : Fit i64 n) : ∃ k, f3 k s n = some ((true, ()), ()) := by
  refine (awake5E.mono2 (E.ge 20000000000) fun k e hk => ?_).ex
  unfold f3
  by_cases h : (s.size : Int) > 300
  · rw [decide_eq_true h, e]; rfl
  · rw [decide_eq_false h, cond_false, number6 k (by omega) s (by omega), number7 k s (by omega)]
    simp only [Option.bind_some, bne_self_eq_false, beq_self_eq_true, Bool.not_true, cond_false]
    by_cases c1 : n < -9999999999
    · rw [decide_eq_true c1, e]; rfl
    by_cases c2 : n > 9999999999
    · rw [decide_eq_false c1, decide_eq_true c2, e]; rfl
    rw [decide_eq_false c1, decide_eq_false c2, cond_false, cond_false]
    obtain ⟨r, h3, h4⟩ := digits_spec n (by omega) (by omega) k (by omega)
    have hl : (digs n).length ≤ 1000 := by
      unfold digs
      have hl := digN_len 19 n.natAbs (by omega)
      split
      · rw [List.length_cons]; omega
      · omega
    rw [h3]
    simp only [Option.bind_some]
    rw [number6 k (by omega) r (by rw [size_nat, h4]; omega), h4, numSpec_digs n (by omega) (by omega)]
    simp only [Option.bind_some, beq_self_eq_true, cond_true]
    rw [e]; rfl
end Go.Proofs.Ytcbhbmhopkagiaa.M
