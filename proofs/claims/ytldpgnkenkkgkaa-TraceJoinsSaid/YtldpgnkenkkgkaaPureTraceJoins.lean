/-
TraceJoins, plainly: texts one behind the other. No condition.
-/
import Derived.Test.Ytldpgnkenkkgkaaf4
import Derived.Test.YtldpgnkenkkgkaaJoin
namespace Go.Proofs.Ytldpgnkenkkgkaa.Pure
set_option linter.unusedSimpArgs false
set_option linter.unusedVariables false
open Go.RowKit Go.Proofs.Ytldpgnkenkkgkaa.G Go.Proofs.YtldpgnkenkkgkaaW.PrintWords Go.Proofs.YtldpgnkenkkgkaaW.PrintLast Go.Proofs.Ytldpgnkenkkgkaa.Pre Go.Proofs.Ytldpgnkenkkgkaa.Ref Go.Proofs.Ytldpgnkenkkgkaa.Join

theorem awake_true : fathomlaw04_awake.f = some true := by decide +kernel

theorem read_small (l : List Int) (h : l.length ≤ 10000) : trace_Read.f l = some (readGo l (l.length + 1) 0 0 [] false [] false) := by
  unfold trace_Read.f; rw [if_neg (by omega)]

theorem TraceJoins : fathomlaw04_TraceJoins.Pure := by
  intro a c _ _ _ _ _ _
  refine ⟨20000000000, ?_⟩
  unfold fathomlaw04_TraceJoins.f
  by_cases h1 : (a.length : Int) > 3000
  · rw [if_pos h1]; simp only [fathomlaw04_TraceJoins.j0, if_true, awake_true]; rfl
  rw [if_neg h1]
  by_cases h2 : (c.length : Int) > 3000
  · rw [decide_eq_true h2]; simp only [fathomlaw04_TraceJoins.j0, if_true, awake_true]; rfl
  rw [decide_eq_false h2]
  simp only [fathomlaw04_TraceJoins.j0, awake_true]
  rw [if_neg (by simp), read_small a (by omega), read_small c (by omega)]
  simp only [Option.bind_some, List.length_nil, List.nil_append, Nat.zero_add]
  rw [if_pos (by omega), if_pos (by omega), if_pos (by simp; omega)]
  have hall : a ++ [10] ++ c = a ++ 10 :: c := by simp
  have hal : (a ++ 10 :: c).length ≤ 10000 := by simp; omega
  rw [hall, read_small _ hal]
  simp only [Option.bind_some]
  have hj := joins a c (by omega) (by omega)
  obtain ⟨a1, a2⟩ := readGo_len a (a.length + 1) 0 0 [] false [] false (by simp) (by simp) (by simp) (by simp)
  obtain ⟨b1, b2⟩ := readGo_len c (c.length + 1) 0 0 [] false [] false (by simp) (by simp) (by simp) (by simp)
  simp only at hj
  generalize readGo a (a.length + 1) 0 0 [] false [] false = x at *
  generalize readGo c (c.length + 1) 0 0 [] false [] false = y at *
  generalize readGo (a ++ 10 :: c) ((a ++ 10 :: c).length + 1) 0 0 [] false [] false = r at *
  obtain ⟨x1, x2, x3⟩ := x
  obtain ⟨y1, y2, y3⟩ := y
  simp only at *
  by_cases hx : x3 = 0
  · obtain ⟨j1, j2⟩ := hj hx
    rw [if_pos hx]
    by_cases hy : y3 = 0
    · rw [if_pos hy, j2 hy]
      simp only [if_true, Option.bind_some]
      rw [if_pos (by omega), if_pos (by omega)]
      rw [Same_self _ (by simp; omega) (fun z hz => ?_) 4097 (fun z hz => ?_) _ (by simp; omega)]
      · simp only [Option.bind_some, if_true]
        obtain ⟨g, h3, h4, _⟩ := Go.Proofs.Ytldpgnkenkkgkaa.Num.Digits_nat 0 19999999999 (by omega) (by omega)
        have h5 : fathomref03_Digits.f 19999999999 0 = some g := h3
        rw [h5]
        have h6 : (g.size : Int) > 0 := by
          have : (bytesOf g).length = g.size := bytesOf_length g
          rw [h4] at this; unfold Go.Proofs.Ytldpgnkenkkgkaa.Num.digN at this; simp at this; omega
        simp only [Option.bind_some]; rw [if_pos h6]
      · rw [List.mem_append] at hz
        rcases hz with hz | hz
        · have := a2 z hz; omega
        · have := b2 z hz; omega
      · rw [List.mem_append] at hz
        rcases hz with hz | hz
        · have := a2 z hz; omega
        · have := b2 z hz; omega
    · rw [if_neg hy]
      obtain ⟨k1, k2⟩ := j1 hy
      rw [if_pos k1, if_pos k2]
  · rw [if_neg hx]

end Go.Proofs.Ytldpgnkenkkgkaa.Pure
