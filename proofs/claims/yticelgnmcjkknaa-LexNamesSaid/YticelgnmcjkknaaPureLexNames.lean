/-
Which texts are key words, and which are names: the plain law. For every input, no condition.
-/
import Derived.Test.YticelgnmcjkknaaLexN
set_option linter.unusedVariables false
set_option maxRecDepth 100000
namespace Go.Proofs.Yticelgnmcjkknaa.M
open Go Go.Proofs.Yticelgnmcjkknaa.Vm Go.Proofs.Yticelgnmcjkknaa.Pl Lex
theorem Pure.LexNames (s : ByteArray) (_ : Fit .str s) : ∃ k, f4 k s = some ((true, ()), ()) := by
  refine (awake14E.mono2 (E.ge 1000) fun k e hk => ?_).ex
  unfold f4
  by_cases h : (s.size : Int) > 300
  · rw [decide_eq_true h, e]; rfl
  · rw [decide_eq_false h, key17 k s (by omega), key18 k s (by omega), name19 k s (by omega) (by omega), name20 k s (by omega) (by omega), e]
    simp
end Go.Proofs.Yticelgnmcjkknaa.M
