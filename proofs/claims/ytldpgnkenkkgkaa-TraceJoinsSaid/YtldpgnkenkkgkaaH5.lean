/-
'trace.Read' by hand: its plain function 'readGo', and the walk.
-/
import Derived.Test.YtldpgnkenkkgkaaH4
namespace Go.Proofs.Ytldpgnkenkkgkaa.G
open Go.RowKit Go.Proofs.YtldpgnkenkkgkaaW.PrintWords Go.Proofs.YtldpgnkenkkgkaaW.PrintLast Go.Proofs.YtldpgnkenkkgkaaW.PrintMore
attribute [local go_sem] max2_int min2_int max_two min_two max_three min_three max_four min_four
set_option linter.unusedVariables false
set_option linter.unusedSimpArgs false

def blankI (a : Int) : Bool := decide (a = 32 ∨ a = 9 ∨ a = 10 ∨ a = 13)
theorem blank_spec (a : Int) : trace_blank.f a = some (blankI a) := by
  unfold trace_blank.f blankI
  by_cases h1 : a = 32
  · rw [if_pos h1]; simp [h1]
  rw [if_neg h1]
  by_cases h2 : a = 9
  · rw [if_pos h2]; simp [h2]
  rw [if_neg h2]
  by_cases h3 : a = 10
  · rw [if_pos h3]; simp [h3]
  rw [if_neg h3]
  by_cases h4 : a = 13 <;> simp [h1, h2, h3, h4]

/-- The reading of a text from place i on; the word at hand begins at b. -/
def readGo (l : List Int) : Nat → Nat → Nat → List S35 → Bool → List Int → Bool → List S35 × Int × Int
  | 0, _, _, L, _, _, inn => if inn = true then ([], (l.length : Int), 2) else (L, 0, 0)
  | n + 1, i, b, L, del, lits, inn =>
    if i < l.length ∧ blankI (rd l (i : Int)) = false then readGo l n (i + 1) b L del lits inn
    else if b < i then
      (if (wordSpec L del lits inn (bytesOf (strOfNums ((l.take i).drop b)))).1 ≠ 0 then ([], (b : Int), (wordSpec L del lits inn (bytesOf (strOfNums ((l.take i).drop b)))).1)
       else readGo l n (i + 1) (i + 1) (wordSpec L del lits inn (bytesOf (strOfNums ((l.take i).drop b)))).2.1 (wordSpec L del lits inn (bytesOf (strOfNums ((l.take i).drop b)))).2.2.1 (wordSpec L del lits inn (bytesOf (strOfNums ((l.take i).drop b)))).2.2.2.1 (wordSpec L del lits inn (bytesOf (strOfNums ((l.take i).drop b)))).2.2.2.2)
    else readGo l n (i + 1) (i + 1) L del lits inn
def trace_Read.f (l : List Int) : Option (List S35 × Int × Int) := some (if l.length > 4194304 then ([], 0, 3) else readGo l (l.length + 1) 0 0 [] false [] false)

theorem wordSpec_bd (L : List S35) (del : Bool) (lits : List Int) (inn : Bool) (s : List Int) (hL : L.length ≤ 262144) (hW : lits.length ≤ 4096) (hE : inn = true → L.length < 262144) :
    (wordSpec L del lits inn s).2.1.length ≤ 262144 ∧ (wordSpec L del lits inn s).2.2.2.1.length ≤ 4096 ∧ ((wordSpec L del lits inn s).2.2.2.2 = true → (wordSpec L del lits inn s).2.1.length < 262144) := by
  unfold wordSpec
  by_cases c1 : inn = false ∧ s = [100]
  · rw [if_pos c1]
    by_cases c2 : L.length = 262144
    · rw [if_pos c2]; exact ⟨hL, hW, hE⟩
    · rw [if_neg c2]; exact ⟨hL, hW, fun _ => by simp only; omega⟩
  rw [if_neg c1]
  split
  · exact ⟨hL, hW, hE⟩
  split
  · exact ⟨hL, hW, hE⟩
  rename_i c3
  have hl : L.length < 262144 := by
    cases inn with
    | true => exact hE rfl
    | false => have : L.length ≠ 262144 := fun e => c3 ⟨rfl, e⟩; omega
  split
  · exact ⟨by simp; omega, by simp, by simp⟩
  split
  · exact ⟨hL, hW, hE⟩
  · exact ⟨hL, by simp; omega, fun _ => hl⟩

end Go.Proofs.Ytldpgnkenkkgkaa.G
