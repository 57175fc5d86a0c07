/-
Which number a word is: the reference's 'Number' reckons 'numSpec', its 'Digits' 'digs'.
-/
import Derived.Test.YtldpgnkenkkgkaaPre
import Derived.Test.Ytldpgnkenkkgkaaf17
namespace Go.Proofs.Ytldpgnkenkkgkaa.Num
open Go.RowKit Go.Proofs.Ytldpgnkenkkgkaa.G Go.Proofs.YtldpgnkenkkgkaaW.PrintWords Go.Proofs.YtldpgnkenkkgkaaW.PrintLast Go.Proofs.Ytldpgnkenkkgkaa.Pre Go.Proofs.Ytldpgnkenkkgkaa.Str

theorem Digits_nat (n : Nat) : ∀ (k : Nat), n < 9223372036854775807 → n + 1 < k → ∃ r, fathomref03_Digits.f k (n : Int) = some r ∧ bytesOf r = digN n ∧ (digN n).length ≤ n + 1 := by
  induction n using Nat.strongRecOn with
  | _ n ih =>
    intro k hn hk
    obtain ⟨k, rfl⟩ : ∃ q, k = q + 1 := ⟨k - 1, by omega⟩
    simp only [fathomref03_Digits.f]
    rw [if_neg (by omega)]
    by_cases h : n < 10
    · rw [if_pos (by omega), if_pos (by omega), w64 (by omega) (by omega), if_pos (by omega), if_pos (by omega)]
      refine ⟨_, rfl, ?_, by rw [digN_small h]; simp⟩
      rw [digN_small h, bytes_extract]
      have : n = 0 ∨ n = 1 ∨ n = 2 ∨ n = 3 ∨ n = 4 ∨ n = 5 ∨ n = 6 ∨ n = 7 ∨ n = 8 ∨ n = 9 := by omega
      rcases this with rfl | rfl | rfl | rfl | rfl | rfl | rfl | rfl | rfl | rfl <;> decide +kernel
    · have e1 : Int.tdiv (n : Int) 10 = ((n / 10 : Nat) : Int) := by rw [Int.tdiv_eq_ediv_of_nonneg (by omega)]; omega
      have e2 : Int.tmod (n : Int) 10 = ((n % 10 : Nat) : Int) := by rw [Int.tmod_eq_emod_of_nonneg (by omega)]; omega
      rw [if_neg (by omega), e1, e2, w64 (x := ((n / 10 : Nat) : Int)) (by omega) (by omega)]
      obtain ⟨r1, h1, h2, h3⟩ := ih (n / 10) (by omega) k (by omega) (by omega)
      obtain ⟨r2, h4, h5, h6⟩ := ih (n % 10) (by omega) k (by omega) (by omega)
      rw [h1, h4]; simp only [Option.bind_some]
      have h7 : (digN (n % 10)).length = 1 := by rw [digN_small (by omega)]; rfl
      have s1 : r1.size = (digN (n / 10)).length := by rw [size_nat, h2]
      have s2 : r2.size = (digN (n % 10)).length := by rw [size_nat, h5]
      rw [if_pos (by omega)]
      refine ⟨_, rfl, ?_, ?_⟩
      · rw [bytes_append, h2, h5, digN_big h, digN_small (n := n % 10) (by omega)]
      · rw [digN_big h, List.length_append]; simp; omega

theorem Digits_spec (n : Int) (h1 : -9223372036854775806 ≤ n) (h2 : n ≤ 9223372036854775806) (k : Nat) (hk : n.natAbs + 2 < k) : ∃ r, fathomref03_Digits.f k n = some r ∧ bytesOf r = digs n := by
  unfold digs
  by_cases h : n < 0
  · obtain ⟨k, rfl⟩ : ∃ q, k = q + 1 := ⟨k - 1, by omega⟩
    rw [if_pos h]
    simp only [fathomref03_Digits.f]
    rw [if_pos h, w64 (by omega) (by omega), show -n = (n.natAbs : Int) from by omega]
    obtain ⟨r, h3, h4, h5⟩ := Digits_nat n.natAbs k (by omega) (by omega)
    rw [h3]; simp only [Option.bind_some]
    have s1 : r.size = (digN n.natAbs).length := by rw [size_nat, h4]
    have hl := digN_len 19 n.natAbs (by omega)
    rw [if_pos (by omega)]
    exact ⟨_, rfl, by rw [bytes_append, h4]; rfl⟩
  · rw [if_neg h]
    obtain ⟨r, h3, h4, h5⟩ := Digits_nat n.natAbs k (by omega) (by omega)
    rw [show n = (n.natAbs : Int) from by omega]
    exact ⟨r, h3, h4⟩

theorem refVal_take {l : List Int} {i : Nat} (h : i < l.length) : refVal (l.take (i + 1)) = if isDig l[i] then refVal (l.take i) * 10 + (l[i] - 48) else refVal (l.take i) := by
  rw [List.take_succ_eq_append_getElem h, refVal_snoc]
theorem refVal_bd (l : List Int) : 0 ≤ refVal l ∧ refVal l < 10 ^ l.length := by
  induction l using snocInd with
  | nil => simp [refVal]
  | snoc l c ih =>
    rw [refVal_snoc, List.length_append, List.length_singleton, Int.pow_succ]
    by_cases h : isDig c = true
    · rw [if_pos h]; rw [isDig_iff] at h; omega
    · rw [if_neg h]; omega
theorem pow11_le (m : Nat) (h : m ≤ 11) : (10 : Int) ^ m ≤ 100000000000 := by
  have := Nat.pow_le_pow_right (n := 10) (by omega) h
  have h2 : ((10 ^ m : Nat) : Int) ≤ ((10 ^ 11 : Nat) : Int) := Int.ofNat_le.2 this
  rw [Int.natCast_pow] at h2
  simpa using h2

theorem refj1 (s : ByteArray) (v : Int) (h1 : -100000000000 ≤ v) (h2 : v ≤ 100000000000) (neg : Bool) (k : Nat) (hk : 10000000010 < k) :
    fathomref03_Number.j1 k s v neg = some (if (if neg then -v else v) > 9999999999 ∨ (if neg then -v else v) < -9999999999 then (0, false) else if digs (if neg then -v else v) = bytesOf s then ((if neg then -v else v), true) else (0, false)) := by
  obtain ⟨k, rfl⟩ : ∃ q, k = q + 1 := ⟨k - 1, by omega⟩
  simp only [fathomref03_Number.j1]
  have main : ∀ n : Int, -100000000000 ≤ n → n ≤ 100000000000 → (if n > 9999999999 then some ((0 : Int), false) else (if n < (-9999999999) then (some (0, false)) else ((fathomref03_Digits.f k n).bind fun t132 => (if t132.toList = s.toList then (some (n, true)) else (some (0, false)))))) = some (if n > 9999999999 ∨ n < -9999999999 then (0, false) else if digs n = bytesOf s then (n, true) else (0, false)) := by
    intro n a b
    by_cases c1 : n > 9999999999
    · rw [if_pos c1, if_pos (.inl c1)]
    by_cases c2 : n < -9999999999
    · rw [if_neg c1, if_pos c2, if_pos (.inr c2)]
    rw [if_neg c1, if_neg c2, if_neg (by omega)]
    obtain ⟨r, h3, h4⟩ := Digits_spec n (by omega) (by omega) k (by omega)
    rw [h3]; simp only [Option.bind_some, toList_eq_iff, h4]
    by_cases c3 : digs n = bytesOf s
    · rw [if_pos c3, if_pos c3]
    · rw [if_neg c3, if_neg c3]
  cases neg with
  | true => simp only [if_true]; rw [w64 (by omega) (by omega)]; exact main (-v) (by omega) (by omega)
  | false => simp only [Bool.false_eq_true, if_false]; exact main v (by omega) (by omega)

theorem ref_l0 (s : ByteArray) (hs : (bytesOf s).length ≤ 11) (m : Nat) : ∀ (k i : Nat), i ≤ (bytesOf s).length → (bytesOf s).length - i = m → 10000000020 + m < k →
    fathomref03_Number.l0 k s (refVal ((bytesOf s).take i)) (i : Int) = some (refNum (bytesOf s)) := by
  induction m with
  | zero =>
    intro k i h1 hm hk
    obtain ⟨k, rfl⟩ : ∃ q, k = q + 1 := ⟨k - 1, by omega⟩
    have e : (bytesOf s).take i = bytesOf s := List.take_of_length_le (by omega)
    rw [e]
    have hb := refVal_bd (bytesOf s)
    have hp := pow11_le (bytesOf s).length hs
    simp only [fathomref03_Number.l0, size_len, bt_rd]
    rw [if_neg (by omega)]
    have fin : ∀ neg : Bool, neg = decide ((bytesOf s).head? = some 45) → fathomref03_Number.j1 k s (refVal (bytesOf s)) neg = some (refNum (bytesOf s)) := by
      intro neg hneg
      rw [refj1 s _ (by omega) (by omega) neg k (by omega)]
      unfold refNum
      rw [if_neg (show ¬ (bytesOf s).length > 11 by omega), hneg]
      simp only [decide_eq_true_eq]
    by_cases h0 : (bytesOf s).length > 0
    · rw [if_pos (by omega), if_pos (by omega), rd_zero h0]
      apply fin
      have hh := head_get (l := bytesOf s) h0
      rw [hh]
      by_cases h : (bytesOf s)[0] = 45 <;> simp [h]
    · rw [if_neg (by omega)]
      apply fin
      have : bytesOf s = [] := List.length_eq_zero_iff.1 (by omega)
      rw [this]; rfl
  | succ m ih =>
    intro k i h1 hm hk
    obtain ⟨k, rfl⟩ : ∃ q, k = q + 1 := ⟨k - 1, by omega⟩
    have hi : i < (bytesOf s).length := by omega
    have hb := refVal_bd ((bytesOf s).take i)
    have hp := pow11_le ((bytesOf s).take i).length (by rw [List.length_take]; omega)
    have hr := bytes_range s _ (List.getElem_mem hi)
    have next := ih k (i + 1) (by omega) (by omega) (by omega)
    rw [refVal_take hi] at next
    have next' : fathomref03_Number.l0 k s (if isDig (bytesOf s)[i] then refVal ((bytesOf s).take i) * 10 + ((bytesOf s)[i] - 48) else refVal ((bytesOf s).take i)) ((i : Int) + 1) = some (refNum (bytesOf s)) := by exact_mod_cast next
    simp only [fathomref03_Number.l0, size_len, bt_rd]
    rw [if_pos (by omega), if_pos (by omega), rd_nat hi, w64 (x := (i : Int) + 1) (by omega) (by omega)]
    by_cases c1 : (bytesOf s)[i] ≥ 48
    · rw [if_pos c1]
      by_cases c2 : (bytesOf s)[i] ≤ 57
      · rw [if_pos c2, w64 (x := _ * 10) (by omega) (by omega), w64 (x := _ * 10 + _) (by omega) (by omega), show ((bytesOf s)[i] - 48) % 256 = (bytesOf s)[i] - 48 from by omega]
        rw [if_pos (by rw [isDig_iff]; omega)] at next'; exact next'
      · rw [if_neg c2]
        rw [if_neg (by rw [isDig_iff]; omega)] at next'; exact next'
    · rw [if_neg c1]
      rw [if_neg (by rw [isDig_iff]; omega)] at next'; exact next'

/-- The reference's number of a word. -/
theorem refNumber_spec (s : ByteArray) (k : Nat) (hk : 10000000040 < k) : fathomref03_Number.f k s = some (numSpec (bytesOf s)) := by
  unfold fathomref03_Number.f
  by_cases h : (bytesOf s).length > 11
  · rw [size_len, if_pos (by omega), ← refNum_eq]
    unfold refNum; rw [if_pos h]
  · rw [size_len, if_neg (by omega), ← refNum_eq]
    have := ref_l0 s (by omega) (bytesOf s).length k 0 (by omega) (by omega) (by omega)
    simpa [refVal] using this

end Go.Proofs.Ytldpgnkenkkgkaa.Num
