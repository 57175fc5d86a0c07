/-
The reader of proofs as texts: '(*reader).word' by one contract, and 'Read'.
-/
import Derived.Test.YtldpgnkenkkgkaaH3
import Derived.Test.YtldpgnkenkkgkaaLit
import Derived.Test.YtldpgnkenkkgkaaNumP
namespace Go.Proofs.Ytldpgnkenkkgkaa.G
open Go.RowKit Go.Proofs.YtldpgnkenkkgkaaW.PrintWords Go.Proofs.YtldpgnkenkkgkaaW.PrintLast Go.Proofs.YtldpgnkenkkgkaaW.PrintMore
attribute [local go_sem] max2_int min2_int max_two min_two max_three min_three max_four min_four
set_option linter.unusedVariables false
set_option linter.unusedSimpArgs false

/-- What a word does: an error's number, and the reader behind it. -/
def wordSpec (L : List S35) (del : Bool) (lits : List Int) (inn : Bool) (s : List Int) : Int × List S35 × Bool × List Int × Bool :=
  if inn = false ∧ s = [100] then
    (if L.length = 262144 then (3, L, del, lits, inn) else (0, L, true, lits, true))
  else if (Num.numSpec s).2 = false ∨ ((Num.numSpec s).1 ≠ 0 ∧ Lit.isLit (Num.numSpec s).1 = false) then (2, L, del, lits, inn)
  else if inn = false ∧ L.length = 262144 then (3, L, del, lits, inn)
  else if (Num.numSpec s).1 = 0 then (0, L ++ [⟨del, lits⟩], false, [], false)
  else if lits.length = 4096 then (3, L, del, lits, inn)
  else (0, L, del, lits ++ [(Num.numSpec s).1], true)

theorem word_calls (w0 w : World) (g : Nat) (L : List S35) (del : Bool) (lits : List Int) (inn : Bool) (s : ByteArray) (hL : L.length ≤ 262144) (hW : lits.length ≤ 4096) (h : RD w0 w g L del lits inn) :
    Calls Try.prog 15 #[.pointer (some ⟨g, 0, none⟩), .string s] w fun e w' => e = .returned (.int .i64 (wordSpec L del lits inn (bytesOf s)).1) ∧
      RD w0 w' g (wordSpec L del lits inn (bytesOf s)).2.1 (wordSpec L del lits inn (bytesOf s)).2.2.1 (wordSpec L del lits inn (bytesOf s)).2.2.2.1 (wordSpec L del lits inn (bytesOf s)).2.2.2.2 := by
  have hN := Num.Number_spec s 20 (by omega)
  have hd : (s.toList == [100]) = decide (bytesOf s = [100]) := Str.beq_toList s [100]
  unfold wordSpec
  by_cases c1 : inn = false ∧ bytesOf s = [100]
  · obtain ⟨rfl, e⟩ := c1
    have hd' : (s.toList == [100]) = true := by rw [hd, e]; rfl
    rw [if_pos ⟨rfl, e⟩]
    by_cases c2 : L.length = 262144
    · rw [if_pos c2]; exact word_fulld w0 w g L del lits s 20 _ _ hN hd' c2 h
    · rw [if_neg c2]; exact word_d w0 w g L del lits s 20 _ _ hN hd' c2 h
  rw [if_neg c1]
  have hD : inn = true ∨ (s.toList == [100]) = false := by
    cases inn with
    | true => exact .inl rfl
    | false => exact .inr (by rw [hd]; exact decide_eq_false (fun e => c1 ⟨rfl, e⟩))
  generalize hns : Num.numSpec (bytesOf s) = ns at hN ⊢
  obtain ⟨n, ok⟩ := ns
  simp only
  cases ok with
  | false => rw [if_pos (.inl rfl)]; exact word_text w0 w g L del lits inn s 20 n hN hD h
  | true =>
    have hC := Lit.Check_one n 20 (by omega)
    by_cases c3 : n ≠ 0 ∧ Lit.isLit n = false
    · rw [if_pos (.inr c3)]
      rw [c3.2] at hC
      exact word_wild w0 w g L del lits inn s 20 n hN c3.1 hC hD h
    have c4 : ¬ (true = false ∨ (n ≠ 0 ∧ Lit.isLit n = false)) := by
      rintro (h | h)
      · cases h
      · exact c3 h
    rw [if_neg c4]
    by_cases c5 : inn = false ∧ L.length = 262144
    · obtain ⟨rfl, e⟩ := c5
      rw [if_pos ⟨rfl, e⟩]
      refine word_full w0 w g L del lits s 20 n hN ?_ (hD.resolve_left (by simp)) e h
      by_cases hn : n = 0
      · exact .inr hn
      · have : Lit.isLit n = true := by
          cases hb : Lit.isLit n with
          | true => rfl
          | false => exact absurd ⟨hn, hb⟩ c3
        rw [this] at hC; exact .inl hC
    rw [if_neg c5]
    have hD2 : inn = true ∨ ((s.toList == [100]) = false ∧ L.length ≠ 262144) := by
      rcases hD with h1 | h1
      · exact .inl h1
      · cases inn with
        | true => exact .inl rfl
        | false => exact .inr ⟨h1, fun e => c5 ⟨rfl, e⟩⟩
    by_cases hn : n = 0
    · subst hn
      rw [if_pos rfl]
      exact word_end w0 w g L del lits inn s 20 hN hL hD2 h
    rw [if_neg hn]
    have : Lit.isLit n = true := by
      cases hb : Lit.isLit n with
      | true => rfl
      | false => exact absurd ⟨hn, hb⟩ c3
    rw [this] at hC
    by_cases c6 : lits.length = 4096
    · rw [if_pos c6]; exact word_wide w0 w g L del lits inn s 20 n hN hn hC hD2 c6 h
    · rw [if_neg c6]; exact word_more w0 w g L del lits inn s 20 n hN hn hC hD2 (by omega) h

end Go.Proofs.Ytldpgnkenkkgkaa.G
