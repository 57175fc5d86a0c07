/-
TraceReads, plainly: any bytes are read by the program as by the reference. No condition.
-/
import Derived.Test.Ytldpgnkenkkgkaaf3
import Derived.Test.YtldpgnkenkkgkaaRef
namespace Go.Proofs.Ytldpgnkenkkgkaa.Pure
set_option linter.unusedSimpArgs false
set_option linter.unusedVariables false
open Go.RowKit Go.Proofs.Ytldpgnkenkkgkaa.G Go.Proofs.YtldpgnkenkkgkaaW.PrintWords Go.Proofs.YtldpgnkenkkgkaaW.PrintLast Go.Proofs.Ytldpgnkenkkgkaa.Pre Go.Proofs.Ytldpgnkenkkgkaa.Ref

theorem awake_spec : fathomlaw04_awake.f = some true := by decide +kernel

/-- What is read is not longer than the text. -/
theorem readGo_len (l : List Int) (n : Nat) : ∀ (i b : Nat) (L : List S35) (del : Bool) (lits : List Int) (inn : Bool), L.length ≤ 262144 → lits.length ≤ 4096 → (inn = true → L.length < 262144) → (∀ x ∈ L, x.f1.length ≤ 4096) →
    (readGo l n i b L del lits inn).1.length ≤ 262144 ∧ ∀ x ∈ (readGo l n i b L del lits inn).1, x.f1.length ≤ 4096 := by
  induction n with
  | zero =>
    intro i b L del lits inn h1 h2 h3 h4
    simp only [readGo]
    split
    · simp
    · exact ⟨h1, h4⟩
  | succ n ih =>
    intro i b L del lits inn h1 h2 h3 h4
    simp only [readGo]
    split
    · exact ih _ _ _ _ _ _ h1 h2 h3 h4
    · split
      · split
        · simp
        · obtain ⟨a1, a2, a3⟩ := wordSpec_bd L del lits inn (bytesOf (strOfNums ((l.take i).drop b))) h1 h2 h3
          refine ih _ _ _ _ _ _ a1 a2 a3 ?_
          generalize bytesOf (strOfNums ((l.take i).drop b)) = s
          unfold wordSpec
          split
          · split
            · exact h4
            · exact h4
          split
          · exact h4
          split
          · exact h4
          split
          · intro x hx
            rw [List.mem_append] at hx
            rcases hx with hx | hx
            · exact h4 x hx
            · simp at hx; subst hx; exact h2
          split
          · exact h4
          · exact h4
      · exact ih _ _ _ _ _ _ h1 h2 h3 h4

theorem TraceReads : fathomlaw04_TraceReads.Pure := by
  intro l h1 h2 h3
  refine ⟨20000000000, ?_⟩
  unfold fathomlaw04_TraceReads.f
  rw [awake_spec]
  by_cases hl : (l.length : Int) > 6000
  · rw [if_pos hl]; rfl
  rw [if_neg hl]
  simp only [Option.bind_some, List.nil_append, List.length_nil, Nat.zero_add]
  rw [if_pos (by omega)]
  unfold trace_Read.f
  rw [if_neg (by omega), Read_spec l (by omega) _ (by omega)]
  simp only [Option.bind_some, if_true]
  obtain ⟨a1, a2⟩ := readGo_len l (l.length + 1) 0 0 [] false [] false (by simp) (by simp) (by simp) (by simp)
  rw [Same_self _ (by omega) (fun x hx => by have := a2 x hx; omega) 4097 (fun x hx => by have := a2 x hx; omega) _ (by omega)]
  rfl

end Go.Proofs.Ytldpgnkenkkgkaa.Pure
