/-
BintraceSizes, plainly: a literal's number takes as many bytes as the reference has, from one to four; what is no literal takes none. No condition.
-/
import Derived.Test.Yteciockojllonaaf3
import Derived.Test.YteciockojllonaaLeb
namespace Go.Proofs.Yteciockojllonaa.Pure
open Go.RowKit Go.Proofs.Yteciockojllonaa.G Go.Proofs.YteciockojllonaaW.PrintWords Go.Proofs.YteciockojllonaaW.PrintLast Go.Proofs.Yteciockojllonaa.Pre Go.Proofs.Yteciockojllonaa.Lit Go.Proofs.Yteciockojllonaa.Leb

theorem awake_spec (k : Nat) (hk : 100 ≤ k) : fathomlaw05_awake.f k = some true := ev_at (fun k => fathomlaw05_awake.mono k) 100 (by decide +kernel) k hk

theorem ref_lit (a : Int) : fathomref01_Lit.f a = some (isLit a) := by
  unfold fathomref01_Lit.f isLit
  by_cases h : a = 0
  · rw [if_pos h]; simp [h]
  · rw [if_neg h]
    by_cases h1 : a ≥ -1048576
    · rw [if_pos h1]; simp [h, h1]
    · rw [if_neg h1]; simp; omega

theorem BintraceSizes : fathomlaw05_BintraceSizes.Pure := by
  intro a ha
  refine ⟨3000000, ?_⟩
  unfold fathomlaw05_BintraceSizes.f bintrace_Size.f
  rw [ref_lit, Check_one a _ (by omega), awake_spec _ (by omega)]
  by_cases h : isLit a = true
  · obtain ⟨h0, h1, h2⟩ := (isLit_iff a).1 h
    have hn := num_lt a h1 h2
    have hl := lebs_len 3 (num a) (by omega)
    have hp := lebs_pos (num a)
    rw [Literal_spec a h1 h2 _ (by omega), number_spec a h1 h2]
    simp only [h, Option.bind_some, if_true]
    rw [put_f _ _ _ (by omega) (by simp; omega)]
    simp only [Option.bind_some, List.nil_append, if_true]
    rw [if_pos (by omega), if_pos (by omega)]
  · simp [h]

end Go.Proofs.Yteciockojllonaa.Pure
