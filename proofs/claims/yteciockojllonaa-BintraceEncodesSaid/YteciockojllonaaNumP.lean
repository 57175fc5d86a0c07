/-
Which number a word is: the program's 'dimacs.Number' reckons 'numSpec'.
-/
import Derived.Test.YteciockojllonaaPre
import Derived.Test.Yteciockojllonaaf41
namespace Go.Proofs.Yteciockojllonaa.Num
open Go.RowKit Go.Proofs.Yteciockojllonaa.G Go.Proofs.YteciockojllonaaW.PrintWords Go.Proofs.YteciockojllonaaW.PrintLast Go.Proofs.Yteciockojllonaa.Pre Go.Proofs.Yteciockojllonaa.Str

theorem valOf_take {l : List Int} {i : Nat} (h : i < l.length) : valOf (l.take (i + 1)) = 10 * valOf (l.take i) + (l[i] - 48) := by
  rw [List.take_succ_eq_append_getElem h, valOf_snoc]

theorem Number_l0 (s d : ByteArray) (hd : (bytesOf d).length ≤ 10) (m : Nat) : ∀ (k i : Nat), i ≤ (bytesOf d).length → (bytesOf d).length - i = m → m < k → ((bytesOf d).take i).all isDig = true →
    dimacs_Number.l0 k s d (valOf ((bytesOf d).take i)) (d.size : Int) (i : Int) =
      some (if (bytesOf d).all isDig then (if (bytesOf d).length < (bytesOf s).length then (-valOf (bytesOf d), true) else (valOf (bytesOf d), true)) else (0, false)) := by
  have hpow := pow10_le (bytesOf d).length hd
  induction m with
  | zero =>
    intro k i h1 hm hk ha
    obtain ⟨k, rfl⟩ : ∃ q, k = q + 1 := ⟨k - 1, by omega⟩
    have e : (bytesOf d).take i = bytesOf d := List.take_of_length_le (by omega)
    rw [e] at ha ⊢
    have h0 := valOf_nonneg _ ha
    have h2 := valOf_lt _ ha
    simp only [dimacs_Number.l0, size_len]
    rw [if_neg (by omega), ha, if_pos rfl, w64 (by omega) (by omega)]
    by_cases h : (bytesOf d).length < (bytesOf s).length
    · rw [if_pos (by omega), if_pos h]
    · rw [if_neg (by omega), if_neg h]
  | succ m ih =>
    intro k i h1 hm hk ha
    obtain ⟨k, rfl⟩ : ∃ q, k = q + 1 := ⟨k - 1, by omega⟩
    have hi : i < (bytesOf d).length := by omega
    have h0 := valOf_nonneg _ ha
    have h2 := valOf_lt _ ha
    have hb := bytes_range d _ (List.getElem_mem hi)
    have hpi := pow10_le ((bytesOf d).take i).length (by rw [List.length_take]; omega)
    simp only [dimacs_Number.l0, size_len, bt_rd]
    rw [if_pos (by omega), if_pos (by omega), if_pos (by omega), rd_nat hi]
    by_cases h3 : (bytesOf d)[i] < 48
    · rw [if_pos h3, if_neg]
      rw [List.all_eq_true]; intro hall
      have := hall _ (List.getElem_mem hi)
      rw [isDig_iff] at this; omega
    · rw [if_neg h3]
      by_cases h4 : (bytesOf d)[i] > 57
      · rw [if_pos h4, if_neg]
        rw [List.all_eq_true]; intro hall
        have := hall _ (List.getElem_mem hi)
        rw [isDig_iff] at this; omega
      · rw [if_neg h4, w64 (x := 10 * _) (by omega) (by omega), w64 (x := 10 * _ + _) (by omega) (by omega), w64 (x := (i : Int) + 1) (by omega) (by omega)]
        have e : 10 * valOf ((bytesOf d).take i) + ((bytesOf d)[i] - 48) % 256 = valOf ((bytesOf d).take (i + 1)) := by rw [valOf_take hi]; omega
        rw [e]
        have := ih k (i + 1) (by omega) (by omega) (by omega) (by
          rw [List.take_succ_eq_append_getElem hi, List.all_append, ha]; simp [isDig]; omega)
        rw [size_len] at this
        exact_mod_cast this

theorem Number_j1 (s d : ByteArray) (k : Nat) (hk : 14 < k) (hb : bytesOf d = body (bytesOf s)) : dimacs_Number.j1 k s d = some (numSpec (bytesOf s)) := by
  obtain ⟨k, rfl⟩ : ∃ q, k = q + 2 := ⟨k - 2, by omega⟩
  simp only [dimacs_Number.j1, dimacs_Number.j2, toList_iff, size_len, bt_rd]
  unfold numSpec
  rw [← hb]
  by_cases h1 : bytesOf d = []
  · rw [if_pos (by simpa using h1), if_pos trivial, if_pos (.inl h1)]
  rw [if_neg (by simpa using h1)]
  by_cases h2 : (bytesOf d).length > 10
  · rw [if_pos (by omega), if_pos trivial, if_pos (.inr (.inl h2))]
  rw [if_neg (by omega)]
  have hpos : 0 < (bytesOf d).length := by cases h : bytesOf d with | nil => exact absurd h h1 | cons a t => simp
  rw [if_pos (by omega), rd_zero hpos]
  have hh := head_get (l := bytesOf d) hpos
  have l0 := Number_l0 s d (by omega) (bytesOf d).length k 0 (by omega) (by omega) (by omega) (by simp)
  rw [show valOf (List.take 0 (bytesOf d)) = 0 from rfl, size_len, show ((0 : Nat) : Int) = 0 from rfl] at l0
  have l0' := l0
  by_cases h3 : (bytesOf d)[0] = 48
  · rw [if_pos h3]
    by_cases h4 : bytesOf s = [48]
    · have : (s.toList != [48]) = false := by rw [bne_eq_false_iff_eq, toList_iff, h4]; rfl
      have hc : ¬ (bytesOf d = [] ∨ (bytesOf d).length > 10 ∨ ((bytesOf d).head? = some 48 ∧ bytesOf s ≠ [48])) := by
        rintro (h | h | ⟨_, h⟩)
        · exact h1 h
        · exact h2 h
        · exact h h4
      rw [this, if_neg (by simp), l0', if_neg hc]
    · have : (s.toList != [48]) = true := by rw [bne_iff_ne]; intro h; exact h4 ((toList_iff _ _).1 h)
      rw [this, if_pos rfl, if_pos (.inr (.inr ⟨by rw [hh, h3], h4⟩))]
  · have hc : ¬ (bytesOf d = [] ∨ (bytesOf d).length > 10 ∨ ((bytesOf d).head? = some 48 ∧ bytesOf s ≠ [48])) := by
      rintro (h | h | ⟨h, _⟩)
      · exact h1 h
      · exact h2 h
      · rw [hh] at h; exact h3 (Option.some.inj h)
    rw [if_neg h3, if_neg (by simp), l0', if_neg hc]

/-- The program's number of a word. -/
theorem Number_spec (s : ByteArray) (k : Nat) (hk : 15 < k) : dimacs_Number.f k s = some (numSpec (bytesOf s)) := by
  obtain ⟨k, rfl⟩ : ∃ q, k = q + 1 := ⟨k - 1, by omega⟩
  unfold dimacs_Number.f
  simp only [toList_iff, size_len, bt_rd]
  by_cases h1 : bytesOf s = []
  · rw [if_pos (by simpa using h1)]
    simp only [dimacs_Number.j0]
    rw [if_neg (by simp)]
    exact Number_j1 s s k (by omega) (by rw [h1]; rfl)
  · rw [if_neg (by simpa using h1)]
    have hpos : 0 < (bytesOf s).length := by cases h : bytesOf s with | nil => exact absurd h h1 | cons a t => simp
    have hh := head_get (l := bytesOf s) hpos
    rw [if_pos (by omega), rd_zero hpos]
    simp only [dimacs_Number.j0]
    by_cases h2 : (bytesOf s)[0] = 45
    · rw [if_pos (by simp [h2]), size_len, if_pos (by omega)]
      refine Number_j1 s _ k (by omega) ?_
      rw [bytes_tail, List.drop_one]; unfold body; rw [hh, h2, if_pos rfl]
    · rw [if_neg (by simp [h2])]
      refine Number_j1 s s k (by omega) ?_
      unfold body; rw [hh, if_neg (by intro h; exact h2 (Option.some.inj h))]

end Go.Proofs.Yteciockojllonaa.Num
