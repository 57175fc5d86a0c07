/-
Texts of proofs, one behind the other, plainly.
-/
import Derived.Test.YtldpgnkenkkgkaaRef
namespace Go.Proofs.Ytldpgnkenkkgkaa.Join
set_option linter.unusedSimpArgs false
set_option linter.unusedVariables false
open Go.RowKit Go.Proofs.Ytldpgnkenkkgkaa.G Go.Proofs.YtldpgnkenkkgkaaW.PrintWords Go.Proofs.YtldpgnkenkkgkaaW.PrintLast Go.Proofs.Ytldpgnkenkkgkaa.Pre Go.Proofs.Ytldpgnkenkkgkaa.Ref Go.Proofs.Ytldpgnkenkkgkaa.Lit Go.Proofs.Ytldpgnkenkkgkaa.Num

structure RS where
  e : Int
  at_ : Nat
  b : Nat
  L : List S35
  del : Bool
  lits : List Int
  inn : Bool

def shiftRS (k : Nat) (s : RS) : RS := ⟨s.e, if s.e = 0 then 0 else k + s.at_, k + s.b, s.L, s.del, s.lits, s.inn⟩
def preRS (P : List S35) (s : RS) : RS := ⟨s.e, s.at_, s.b, if s.e = 0 then P ++ s.L else [], s.del, s.lits, s.inn⟩
/-- The reader behind n places more. -/
def readSt (l : List Int) : Nat → Nat → Nat → List S35 → Bool → List Int → Bool → RS
  | 0, _, b, L, del, lits, inn => ⟨0, 0, b, L, del, lits, inn⟩
  | n + 1, i, b, L, del, lits, inn =>
    if i < l.length ∧ blankI (rd l (i : Int)) = false then readSt l n (i + 1) b L del lits inn
    else if b < i then
      (if (wordSpec L del lits inn (bytesOf (strOfNums ((l.take i).drop b)))).1 ≠ 0 then ⟨(wordSpec L del lits inn (bytesOf (strOfNums ((l.take i).drop b)))).1, b, b, [], false, [], false⟩
       else readSt l n (i + 1) (i + 1) (wordSpec L del lits inn (bytesOf (strOfNums ((l.take i).drop b)))).2.1 (wordSpec L del lits inn (bytesOf (strOfNums ((l.take i).drop b)))).2.2.1 (wordSpec L del lits inn (bytesOf (strOfNums ((l.take i).drop b)))).2.2.2.1 (wordSpec L del lits inn (bytesOf (strOfNums ((l.take i).drop b)))).2.2.2.2)
    else readSt l n (i + 1) (i + 1) L del lits inn
def fin (m : Int) (s : RS) : List S35 × Int × Int := if s.e ≠ 0 then ([], (s.at_ : Int), s.e) else if s.inn = true then ([], m, 2) else (s.L, 0, 0)

theorem readGo_eq (l : List Int) (n : Nat) : ∀ (i b : Nat) (L : List S35) (del : Bool) (lits : List Int) (inn : Bool), readGo l n i b L del lits inn = fin (l.length : Int) (readSt l n i b L del lits inn) := by
  induction n with
  | zero => intro i b L del lits inn; cases inn <;> rfl
  | succ n ih =>
    intro i b L del lits inn
    simp only [readGo, readSt]
    split
    · exact ih _ _ _ _ _ _
    split
    · split
      · rename_i h; simp [fin, h]
      · exact ih _ _ _ _ _ _
    · exact ih _ _ _ _ _ _

theorem split_st (l : List Int) (m n : Nat) : ∀ (i b : Nat) (L : List S35) (del : Bool) (lits : List Int) (inn : Bool),
    readSt l (n + m) i b L del lits inn = if (readSt l n i b L del lits inn).e ≠ 0 then readSt l n i b L del lits inn else
      readSt l m (i + n) (readSt l n i b L del lits inn).b (readSt l n i b L del lits inn).L (readSt l n i b L del lits inn).del (readSt l n i b L del lits inn).lits (readSt l n i b L del lits inn).inn := by
  induction n with
  | zero => intro i b L del lits inn; simp [readSt]
  | succ n ih =>
    intro i b L del lits inn
    rw [show n + 1 + m = (n + m) + 1 from by omega, show i + (n + 1) = (i + 1) + n from by omega]
    simp only [readSt]
    split
    · exact ih _ _ _ _ _ _
    split
    · split
      · rfl
      · exact ih _ _ _ _ _ _
    · exact ih _ _ _ _ _ _

theorem rd_left {a b : List Int} {i : Nat} (h : i < a.length) : rd (a ++ b) (i : Int) = rd a (i : Int) := by
  rw [rd_nat h, rd_nat (by simp; omega), List.getElem_append_left h]
theorem rd_right {a b : List Int} {i : Nat} : rd (a ++ b) ((a.length + i : Nat) : Int) = rd b (i : Int) := by
  unfold rd
  rw [Int.toNat_natCast, Int.toNat_natCast, List.getD_eq_getElem?_getD, List.getD_eq_getElem?_getD, List.getElem?_append_right (by omega), show a.length + i - a.length = i from by omega]

theorem prefix_st (a c : List Int) (h10 : blankI (rd (a ++ c) (a.length : Int)) = true) (hc : 0 < c.length) (n : Nat) : ∀ (i b : Nat) (L : List S35) (del : Bool) (lits : List Int) (inn : Bool), i + n ≤ a.length + 1 →
    readSt (a ++ c) n i b L del lits inn = readSt a n i b L del lits inn := by
  induction n with
  | zero => intro i b L del lits inn _; rfl
  | succ n ih =>
    intro i b L del lits inn hi
    simp only [readSt]
    have ht : (a ++ c).take i = a.take i := List.take_append_of_le_length (by omega)
    have hcond : (i < (a ++ c).length ∧ blankI (rd (a ++ c) (i : Int)) = false) ↔ (i < a.length ∧ blankI (rd a (i : Int)) = false) := by
      by_cases h : i < a.length
      · rw [rd_left h]; simp; omega
      · have : i = a.length := by omega
        subst this; rw [h10]; simp
    simp only [ht]
    by_cases h : i < a.length ∧ blankI (rd a (i : Int)) = false
    · rw [if_pos h, if_pos (hcond.2 h)]; exact ih _ _ _ _ _ _ (by omega)
    · rw [if_neg h, if_neg (fun h2 => h (hcond.1 h2)), ih _ _ _ _ _ _ (by omega), ih _ _ _ _ _ _ (by omega)]

theorem shift_st (p l : List Int) (n : Nat) : ∀ (i b : Nat) (L : List S35) (del : Bool) (lits : List Int) (inn : Bool),
    readSt (p ++ l) n (p.length + i) (p.length + b) L del lits inn =
      shiftRS p.length (readSt l n i b L del lits inn) := by
  induction n with
  | zero => intro i b L del lits inn; simp [readSt, shiftRS]
  | succ n ih =>
    intro i b L del lits inn
    simp only [readSt]
    have ht : ((p ++ l).take (p.length + i)).drop (p.length + b) = (l.take i).drop b := by
      rw [List.take_length_add_append, List.drop_length_add_append]
    have hcond : (p.length + i < (p ++ l).length ∧ blankI (rd (p ++ l) ((p.length + i : Nat) : Int)) = false) ↔ (i < l.length ∧ blankI (rd l (i : Int)) = false) := by
      rw [rd_right]; simp
    simp only [ht]
    by_cases h : i < l.length ∧ blankI (rd l (i : Int)) = false
    · rw [if_pos h, if_pos (hcond.2 h)]; exact ih (i + 1) b _ _ _ _
    · rw [if_neg h, if_neg (fun h2 => h (hcond.1 h2))]
      by_cases h3 : b < i
      · rw [if_pos h3, if_pos (by omega)]
        split
        · rename_i h4; simp [shiftRS, h4]
        · exact ih (i + 1) (i + 1) _ _ _ _
      · rw [if_neg h3, if_neg (by omega)]
        exact ih (i + 1) (i + 1) _ _ _ _

theorem word_pre (P L : List S35) (del : Bool) (lits : List Int) (inn : Bool) (s : List Int) (h : P.length + L.length < 262144) :
    (wordSpec (P ++ L) del lits inn s).1 = (wordSpec L del lits inn s).1 ∧ (wordSpec (P ++ L) del lits inn s).2.1 = P ++ (wordSpec L del lits inn s).2.1 ∧ (wordSpec (P ++ L) del lits inn s).2.2 = (wordSpec L del lits inn s).2.2 ∧
      (wordSpec L del lits inn s).2.1.length ≤ L.length + 1 := by
  unfold wordSpec
  have h1 : (P ++ L).length ≠ 262144 := by simp; omega
  have h2 : L.length ≠ 262144 := by omega
  simp only [h1, h2, and_false, if_false]
  split
  · exact ⟨rfl, rfl, rfl, by simp⟩
  split
  · exact ⟨rfl, rfl, rfl, by simp⟩
  split
  · exact ⟨rfl, by simp, rfl, by simp⟩
  split
  · exact ⟨rfl, rfl, rfl, by simp⟩
  · exact ⟨rfl, rfl, rfl, by simp⟩

theorem pre_st (P : List S35) (l : List Int) (n : Nat) : ∀ (i b : Nat) (L : List S35) (del : Bool) (lits : List Int) (inn : Bool), P.length + L.length + n < 262144 →
    readSt l n i b (P ++ L) del lits inn = preRS P (readSt l n i b L del lits inn) := by
  induction n with
  | zero => intro i b L del lits inn _; simp [readSt, preRS]
  | succ n ih =>
    intro i b L del lits inn hn
    simp only [readSt]
    split
    · exact ih _ _ _ _ _ _ (by omega)
    split
    · obtain ⟨a1, a2, a3, a4⟩ := word_pre P L del lits inn (bytesOf (strOfNums ((l.take i).drop b))) (by omega)
      rw [a1, a2, a3]
      split
      · rename_i h; simp [preRS, h]
      · exact ih _ _ _ _ _ _ (by omega)
    · exact ih _ _ _ _ _ _ (by omega)

/-- A reader that is in no step holds nothing of one. -/
theorem idle_st (l : List Int) (n : Nat) : ∀ (i b : Nat) (L : List S35) (del : Bool) (lits : List Int) (inn : Bool), (inn = false → del = false ∧ lits = []) →
    ((readSt l n i b L del lits inn).inn = false → (readSt l n i b L del lits inn).del = false ∧ (readSt l n i b L del lits inn).lits = []) := by
  induction n with
  | zero => intro i b L del lits inn h; simpa [readSt] using h
  | succ n ih =>
    intro i b L del lits inn h
    simp only [readSt]
    split
    · exact ih _ _ _ _ _ _ h
    split
    · split
      · simp
      · refine ih _ _ _ _ _ _ ?_
        generalize bytesOf (strOfNums ((l.take i).drop b)) = s
        unfold wordSpec
        split
        · split
          · exact h
          · simp
        split
        · exact h
        split
        · exact h
        split
        · simp
        split
        · exact h
        · simp
    · exact ih _ _ _ _ _ _ h
theorem len_st (l : List Int) (n : Nat) : ∀ (i b : Nat) (L : List S35) (del : Bool) (lits : List Int) (inn : Bool), L.length + n < 262144 → (readSt l n i b L del lits inn).L.length ≤ L.length + n := by
  induction n with
  | zero => intro i b L del lits inn _; simp [readSt]
  | succ n ih =>
    intro i b L del lits inn h
    simp only [readSt]
    split
    · have := ih (i + 1) b L del lits inn (by omega); omega
    split
    · obtain ⟨_, _, _, a4⟩ := word_pre [] L del lits inn (bytesOf (strOfNums ((l.take i).drop b))) (by simp; omega)
      split
      · simp
      · have := ih (i + 1) (i + 1) (wordSpec L del lits inn (bytesOf (strOfNums ((l.take i).drop b)))).2.1 (wordSpec L del lits inn (bytesOf (strOfNums ((l.take i).drop b)))).2.2.1 (wordSpec L del lits inn (bytesOf (strOfNums ((l.take i).drop b)))).2.2.2.1 (wordSpec L del lits inn (bytesOf (strOfNums ((l.take i).drop b)))).2.2.2.2 (by omega)
        omega
    · have := ih (i + 1) (i + 1) L del lits inn (by omega); omega
/-- At the text's end the word at hand begins behind it. -/
theorem end_b (l : List Int) (n : Nat) : ∀ (i b : Nat) (L : List S35) (del : Bool) (lits : List Int) (inn : Bool), i + (n + 1) = l.length + 1 → (readSt l (n + 1) i b L del lits inn).e = 0 → (readSt l (n + 1) i b L del lits inn).b = l.length + 1 := by
  induction n with
  | zero =>
    intro i b L del lits inn hi
    have : ¬ (i < l.length ∧ blankI (rd l (i : Int)) = false) := by omega
    simp only [readSt]
    rw [if_neg this]
    split
    · split
      · rename_i h; intro h2; exact absurd h2 h
      · intro _; simp only; omega
    · intro _; simp only; omega
  | succ n ih =>
    intro i b L del lits inn hi
    rw [readSt]
    split
    · exact ih _ _ _ _ _ _ (by omega)
    split
    · split
      · rename_i h; intro h2; exact absurd h2 h
      · exact ih _ _ _ _ _ _ (by omega)
    · exact ih _ _ _ _ _ _ (by omega)

/-- The theorem of texts one behind the other. -/
theorem joins (a c : List Int) (ha : a.length ≤ 3000) (hc : c.length ≤ 3000) (he : (readGo a (a.length + 1) 0 0 [] false [] false).2.2 = 0) :
    let all := a ++ 10 :: c
    let r := readGo all (all.length + 1) 0 0 [] false [] false
    let x := readGo a (a.length + 1) 0 0 [] false [] false
    let y := readGo c (c.length + 1) 0 0 [] false [] false
    (y.2.2 ≠ 0 → r.2.2 = y.2.2 ∧ r.2.1 ≥ (a.length : Int)) ∧ (y.2.2 = 0 → r = (x.1 ++ y.1, 0, 0)) := by
  intro all r x y
  have h10 : blankI (rd (a ++ 10 :: c) (a.length : Int)) = true := by
    have := rd_right (a := a) (b := 10 :: c) (i := 0)
    rw [show a.length + 0 = a.length from rfl] at this
    rw [this]; rfl
  have hx : x = fin (a.length : Int) (readSt a (a.length + 1) 0 0 [] false [] false) := readGo_eq _ _ _ _ _ _ _ _
  have hy : y = fin (c.length : Int) (readSt c (c.length + 1) 0 0 [] false [] false) := readGo_eq _ _ _ _ _ _ _ _
  have hlen : all.length + 1 = (a.length + 1) + (c.length + 1) := by simp [all]; omega
  have hr : r = fin (all.length : Int) (readSt all ((a.length + 1) + (c.length + 1)) 0 0 [] false [] false) := by
    show readGo all (all.length + 1) 0 0 [] false [] false = _
    rw [hlen]; exact readGo_eq _ _ _ _ _ _ _ _
  have hp := prefix_st a (10 :: c) h10 (by simp) (a.length + 1) 0 0 [] false [] false (by omega)
  have hid := idle_st a (a.length + 1) 0 0 [] false [] false (fun _ => ⟨rfl, rfl⟩)
  have hln := len_st a (a.length + 1) 0 0 [] false [] false (by simp; omega)
  have heb := end_b a a.length 0 0 [] false [] false (by omega)
  have he' : x.2.2 = 0 := he
  rw [hx] at he'
  generalize readSt a (a.length + 1) 0 0 [] false [] false = s at hp hid hln heb he' hx
  have hse : s.e = 0 := by
    unfold fin at he'
    by_cases h : s.e ≠ 0
    · rw [if_pos h] at he'; exact absurd he' h
    · exact Classical.not_not.1 h
  have hsi : s.inn = false := by
    unfold fin at he'
    rw [if_neg (by simp [hse])] at he'
    cases hb : s.inn with
    | true => rw [hb] at he'; simp at he'
    | false => rfl
  obtain ⟨hd, hl⟩ := hid hsi
  have hxv : x = (s.L, 0, 0) := by rw [hx]; unfold fin; simp [hse, hsi]
  rw [split_st, hp, if_neg (by simp [hse]), heb hse, hd, hl, hsi] at hr
  have hsh := shift_st (a ++ [10]) c (c.length + 1) 0 0 s.L false [] false
  have hall : a ++ [10] ++ c = all := by simp [all]
  have hal : (a ++ [10]).length = a.length + 1 := by simp
  rw [hall, hal] at hsh
  have hpre := pre_st s.L c (c.length + 1) 0 0 [] false [] false (by simp at hln ⊢; omega)
  rw [List.append_nil] at hpre
  rw [hpre] at hsh
  rw [show 0 + (a.length + 1) = a.length + 1 + 0 from by omega, show a.length + 1 = a.length + 1 + 0 from rfl] at hr
  rw [show (a.length + 1 + 0 : Nat) + 0 = a.length + 1 + 0 from rfl] at hr
  rw [hsh] at hr
  generalize readSt c (c.length + 1) 0 0 [] false [] false = t at hr hy
  rw [hxv]
  unfold fin shiftRS preRS at hr
  unfold fin at hy
  simp only at hr hy
  by_cases h : t.e ≠ 0
  · rw [if_pos h] at hr hy
    refine ⟨fun _ => ?_, fun h2 => ?_⟩
    · rw [hr, hy]; simp [h]; omega
    · rw [hy] at h2; exact absurd h2 h
  · rw [if_neg h] at hr hy
    have h' := Classical.not_not.1 h
    by_cases hi : t.inn = true
    · rw [if_pos hi] at hr hy
      refine ⟨fun _ => ?_, fun h2 => ?_⟩
      · rw [hr, hy]; simp [all]; omega
      · rw [hy] at h2; simp at h2
    · rw [if_neg hi] at hr hy
      refine ⟨fun h2 => ?_, fun _ => ?_⟩
      · rw [hy] at h2; simp at h2
      · rw [hr, hy]; simp [h']

end Go.Proofs.Ytldpgnkenkkgkaa.Join
