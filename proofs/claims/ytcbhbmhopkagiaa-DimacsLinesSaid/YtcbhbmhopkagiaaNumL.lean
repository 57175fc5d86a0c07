/-
Which number a word is, and a number's digits: by the program and by the reference.
-/
import Derived.Test.YtcbhbmhopkagiaaNum0
import Derived.Test.YtcbhbmhopkagiaaML
set_option linter.unusedVariables false
set_option linter.unusedSimpArgs false
set_option maxRecDepth 100000
namespace Go.Proofs.Ytcbhbmhopkagiaa.M
open Go Go.Proofs.Ytcbhbmhopkagiaa.Vm Go.Proofs.Ytcbhbmhopkagiaa.Pl
namespace Num
open Str
theorem w_id {n : Int} (h : -9223372036854775808 ≤ n) (h' : n ≤ 9223372036854775807) : w64 n = n := w64_id h h'
theorem beq_int (a b : Int) : (a == b) = decide (a = b) := by
  by_cases h : a = b
  · rw [decide_eq_true h, h]; simp
  · rw [decide_eq_false h]; simp [h]
theorem u8_dig {c : Int} (h1 : 48 ≤ c) (h2 : c ≤ 57) : w64 (IntKind.u8.wrap (c - 48)) = c - 48 := by
  have : IntKind.u8.wrap (c - 48) = c - 48 := by
    simp [IntKind.wrap, IntKind.signed, IntKind.bits]
    omega
  rw [this, w_id (by omega) (by omega)]
theorem bytes_lit (l : List UInt8) : bytesD (ByteArray.mk l.toArray) = l.map fun b => (b.toNat : Int) := rfl
theorem b_empty : bytesD ByteArray.empty = [] := rfl
theorem b_zero : bytesD (ByteArray.mk #[48]) = [48] := rfl
theorem b_minus : bytesD (ByteArray.mk #[45]) = [45] := rfl
/-! ### the program's number -/
theorem valOf_take {l : List Int} {i : Nat} (h : i < l.length) : valOf (l.take (i + 1)) = 10 * valOf (l.take i) + (l[i] - 48) := by
  rw [List.take_succ_eq_append_getElem h, valOf_snoc]
theorem num_loop6 (k : Nat) (d : ByteArray) (hd : (bytesD d).length ≤ 10) : ∀ (m i : Nat), (bytesD d).length - i = m → i ≤ (bytesD d).length → ((bytesD d).take i).all isDig = true → ∀ j, m < j →
    l6_506 k j d (valOf ((bytesD d).take i)) ((bytesD d).length : Int) (i : Int) = if (bytesD d).all isDig = true then some (.inl ((valOf (bytesD d), ()), ())) else some (.inr ((0, false, ()), ())) := by
  have hpow := pow10_le (bytesD d).length hd
  intro m
  induction m with
  | zero =>
    intro i hm h1 ha j hj
    obtain ⟨j, rfl, _⟩ := succ_of (n := 0) (by omega : 0 + 1 ≤ j)
    show b6_506 k (l6_506 k j) d _ _ i = _
    have e : (bytesD d).take i = bytesD d := List.take_of_length_le (by omega)
    rw [e] at ha ⊢
    unfold b6_506
    rw [decide_eq_false (by omega : ¬ (i : Int) < ((bytesD d).length : Int)), ha, if_pos rfl]; rfl
  | succ m ih =>
    intro i hm h1 ha j hj
    obtain ⟨j, rfl, hj2⟩ := succ_of (by omega : m + 1 + 1 ≤ j)
    show b6_506 k (l6_506 k j) d _ _ i = _
    have hi : i < (bytesD d).length := by omega
    have h0 := valOf_nonneg _ ha
    have h2 := valOf_lt _ ha
    have hpi := pow10_le ((bytesD d).take i).length (by rw [List.length_take]; omega)
    have hx : (bytesD d)[i]? = some (bytesD d)[i] := List.getElem?_eq_getElem hi
    unfold b6_506
    rw [decide_eq_true (by omega : (i : Int) < ((bytesD d).length : Int)), cond_true, ixs_nat hx]
    by_cases h3 : (bytesD d)[i] < 48
    · rw [decide_eq_true h3, cond_true, if_neg]
      intro hall
      have := List.all_eq_true.1 hall _ (List.getElem_mem hi)
      rw [isDig_iff] at this; omega
    · rw [decide_eq_false h3, cond_false, ixs_nat hx]
      by_cases h4 : (bytesD d)[i] > 57
      · rw [decide_eq_true h4, cond_true, if_neg]
        intro hall
        have := List.all_eq_true.1 hall _ (List.getElem_mem hi)
        rw [isDig_iff] at this; omega
      · have hw1 : w64 ((i : Int) + 1) = ((i + 1 : Nat) : Int) := by rw [w_id (by omega) (by omega)]; omega
        rw [decide_eq_false h4, cond_false, ixs_nat hx, u8_dig (by omega) (by omega), w_id (n := 10 * _) (by omega) (by omega), w_id (n := 10 * _ + _) (by omega) (by omega), ← valOf_take hi, hw1]
        rw [ih (i + 1) (by omega) (by omega) (by
          rw [List.take_succ_eq_append_getElem hi, List.all_append, ha]; simp [isDig]; omega) j hj2]
        split <;> rfl
theorem number6 (k : Nat) (hk : 20 < k) (s : ByteArray) (hs : s.size ≤ 1000000) : f6 k s = some (((numSpec (bytesD s)).1, (numSpec (bytesD s)).2, ()), ()) := by
  have hss := size_nat s
  -- the text without its sign
  obtain ⟨d, hd1, hd2⟩ : ∃ d, l6_14 k s s = some ((d, ()), ()) ∧ bytesD d = body (bytesD s) := by
    unfold l6_14
    rw [beq_str, b_empty]
    by_cases h1 : bytesD s = []
    · rw [decide_eq_true h1]
      exact ⟨s, rfl, by rw [h1]; rfl⟩
    · rw [decide_eq_false h1, Bool.not_false, cond_true]
      have hpos : 0 < (bytesD s).length := by cases h : bytesD s with | nil => exact absurd h h1 | cons a t => simp
      have hh := head_get (l := bytesD s) hpos
      have hx : (bytesD s)[0]? = some (bytesD s)[0] := List.getElem?_eq_getElem hpos
      have e0 : ∀ {R : Type} {K : Int → Option R}, ixs s 0 K = K (bytesD s)[0] := fun {R K} => ixs_nat (i := 0) hx
      rw [e0, beq_int]
      by_cases h2 : (bytesD s)[0] = 45
      · rw [decide_eq_true h2, cond_true, gd_dec (by omega)]
        refine ⟨_, rfl, ?_⟩
        rw [bytes_tail, List.drop_one]; unfold body; rw [hh, h2, if_pos rfl]
      · rw [decide_eq_false h2, cond_false]
        refine ⟨s, rfl, ?_⟩
        unfold body; rw [hh, if_neg (by intro h; exact h2 (Option.some.inj h))]
  have hds := size_nat d
  unfold f6
  rw [hd1]
  simp only [Option.bind_some]
  unfold l6_30 l6_60 numSpec
  rw [beq_str, b_empty, ← hd2]
  by_cases h1 : bytesD d = []
  · rw [decide_eq_true h1, if_pos (.inl h1)]; rfl
  rw [decide_eq_false h1, cond_false]
  by_cases h2 : (bytesD d).length > 10
  · rw [decide_eq_true (by omega : (d.size : Int) > 10), if_pos (.inr (.inl h2))]; rfl
  rw [decide_eq_false (by omega : ¬ (d.size : Int) > 10), cond_false]
  have hpos : 0 < (bytesD d).length := by cases h : bytesD d with | nil => exact absurd h h1 | cons a t => simp
  have hh := head_get (l := bytesD d) hpos
  have hx : (bytesD d)[0]? = some (bytesD d)[0] := List.getElem?_eq_getElem hpos
  have e0 : ∀ {R : Type} {K : Int → Option R}, ixs d 0 K = K (bytesD d)[0] := fun {R K} => ixs_nat (i := 0) hx
  have hl := num_loop6 k d (by omega) (bytesD d).length 0 (by omega) (by omega) (by simp) k (by omega)
  rw [show valOf ((bytesD d).take 0) = 0 from rfl, show ((0 : Nat) : Int) = 0 from rfl] at hl
  have hlt : (bytesD d).length ≤ (bytesD s).length := by
    rw [hd2]; unfold body; split
    · rw [List.length_tail]; omega
    · exact Nat.le_refl _
  have rest : (match (some (.inl ((), ())) : Option (Unit × Unit ⊕ (Int × Bool × Unit) × Unit)) with | some _ => true | none => false) = true := rfl
  have fin : ((l6_62 k ()).bind fun y3 =>
      (l6_126 k d y3.1.1).bind fun y4 =>
      match y4 with
      | .inl y4_0 =>
        (l6_508 k s d).bind fun y5 =>
        cond y5.1.1
          (some (((w64 (0 - y4_0.1.1)), true, ()), ()))
          (some ((y4_0.1.1, true, ()), ()))
      | .inr y4_1 =>
        (some ((y4_1.1.1, y4_1.1.2.1, ()), ()) : Option R6)) = some (((if (bytesD d).all isDig then (if (bytesD d).length < (bytesD s).length then (-valOf (bytesD d), true) else (valOf (bytesD d), true)) else (0, false)).1, (if (bytesD d).all isDig then (if (bytesD d).length < (bytesD s).length then (-valOf (bytesD d), true) else (valOf (bytesD d), true)) else (0, false)).2, ()), ()) := by
    unfold l6_62 l6_126 l6_252 l6_508
    simp only [Option.bind_some]
    have hsz : (d.size : Int) = ((bytesD d).length : Int) := size_len d
    rw [hsz, hl]
    cases ha : (bytesD d).all isDig with
    | false => rfl
    | true =>
      have h0 := valOf_nonneg _ ha
      have h2' := valOf_lt _ ha
      have hpow := pow10_le (bytesD d).length (by omega)
      simp only [if_true, Option.bind_some]
      rw [size_len s]
      by_cases h : (bytesD d).length < (bytesD s).length
      · rw [decide_eq_true (by omega : ((bytesD d).length : Int) < ((bytesD s).length : Int)), if_pos h, w_id (by omega) (by omega), Int.zero_sub]; rfl
      · rw [decide_eq_false (by omega : ¬ ((bytesD d).length : Int) < ((bytesD s).length : Int)), if_neg h]; rfl
  rw [e0, beq_int]
  by_cases h3 : (bytesD d)[0] = 48
  · rw [decide_eq_true h3, cond_true, beq_str, b_zero]
    by_cases h4 : bytesD s = [48]
    · have hc : ¬ (bytesD d = [] ∨ (bytesD d).length > 10 ∨ ((bytesD d).head? = some 48 ∧ bytesD s ≠ [48])) := by
        rintro (h | h | ⟨_, h⟩)
        · exact h1 h
        · exact h2 h
        · exact h h4
      rw [decide_eq_true h4, if_neg hc]
      exact fin
    · rw [decide_eq_false h4, if_pos (.inr (.inr ⟨by rw [hh, h3], h4⟩))]; rfl
  · have hc : ¬ (bytesD d = [] ∨ (bytesD d).length > 10 ∨ ((bytesD d).head? = some 48 ∧ bytesD s ≠ [48])) := by
      rintro (h | h | ⟨h, _⟩)
      · exact h1 h
      · exact h2 h
      · rw [hh] at h; exact h3 (Option.some.inj h)
    rw [decide_eq_false h3, cond_false, if_neg hc]
    exact fin
/-! ### the reference's digits and number -/
theorem digits_nat (n : Nat) : ∀ (k : Nat), n < 9223372036854775807 → n + 1 < k → ∃ r, f8 k (n : Int) = some ((r, ()), ()) ∧ bytesD r = digN n ∧ (digN n).length ≤ n + 1 := by
  induction n using Nat.strongRecOn with
  | _ n ih =>
    intro k hn hk
    obtain ⟨k, rfl⟩ : ∃ q, k = q + 1 := ⟨k - 1, by omega⟩
    rw [f8_succ]
    unfold b8
    rw [decide_eq_false (by omega : ¬ (n : Int) < 0), cond_false]
    by_cases h : n < 10
    · have hw : w64 ((n : Int) + 1) = ((n + 1 : Nat) : Int) := by rw [w_id (by omega) (by omega)]; omega
      have hz : s_3.size = 10 := rfl
      rw [decide_eq_true (by omega : (n : Int) < 10), cond_true, hw, hz, gd_dec (by omega), gd_dec (by omega), gd_dec (by omega), gd_dec (by omega)]
      refine ⟨_, rfl, ?_, by rw [digN_small h]; simp⟩
      rw [digN_small h, bytes_extract]
      have : n = 0 ∨ n = 1 ∨ n = 2 ∨ n = 3 ∨ n = 4 ∨ n = 5 ∨ n = 6 ∨ n = 7 ∨ n = 8 ∨ n = 9 := by omega
      rcases this with rfl | rfl | rfl | rfl | rfl | rfl | rfl | rfl | rfl | rfl <;> decide +kernel
    · have e1 : Int.tdiv (n : Int) 10 = ((n / 10 : Nat) : Int) := by rw [Int.tdiv_eq_ediv_of_nonneg (by omega)]; omega
      have e2 : Int.tmod (n : Int) 10 = ((n % 10 : Nat) : Int) := by rw [Int.tmod_eq_emod_of_nonneg (by omega)]; omega
      rw [decide_eq_false (by omega : ¬ (n : Int) < 10), cond_false, e1, e2, w_id (n := ((n / 10 : Nat) : Int)) (by omega) (by omega)]
      obtain ⟨r1, h1, h2, h3⟩ := ih (n / 10) (by omega) k (by omega) (by omega)
      obtain ⟨r2, h4, h5, h6⟩ := ih (n % 10) (by omega) k (by omega) (by omega)
      rw [h1, h4]
      simp only [Option.bind_some]
      have h7 : (digN (n % 10)).length = 1 := by rw [digN_small (by omega)]; rfl
      have s1 : r1.size = (digN (n / 10)).length := by rw [size_nat, h2]
      have s2 : r2.size = (digN (n % 10)).length := by rw [size_nat, h5]
      rw [gd_dec (by omega)]
      refine ⟨_, rfl, ?_, ?_⟩
      · rw [bytes_append, h2, h5, digN_big h, digN_small (n := n % 10) (by omega)]
      · rw [digN_big h, List.length_append]; simp; omega
theorem digits_spec (n : Int) (h1 : -9223372036854775806 ≤ n) (h2 : n ≤ 9223372036854775806) (k : Nat) (hk : n.natAbs + 2 < k) : ∃ r, f8 k n = some ((r, ()), ()) ∧ bytesD r = digs n := by
  unfold digs
  by_cases h : n < 0
  · obtain ⟨k, rfl⟩ : ∃ q, k = q + 1 := ⟨k - 1, by omega⟩
    rw [if_pos h, f8_succ]
    unfold b8
    rw [decide_eq_true h, cond_true, w_id (by omega) (by omega), show 0 - n = (n.natAbs : Int) from by omega]
    obtain ⟨r, h3, h4, h5⟩ := digits_nat n.natAbs k (by omega) (by omega)
    rw [h3]
    simp only [Option.bind_some]
    have s1 : r.size = (digN n.natAbs).length := by rw [size_nat, h4]
    have hl := digN_len 19 n.natAbs (by omega)
    have hz : (ByteArray.mk #[45]).size = 1 := rfl
    rw [hz, gd_dec (by omega)]
    exact ⟨_, rfl, by rw [bytes_append, h4]; rfl⟩
  · rw [if_neg h]
    obtain ⟨r, h3, h4, h5⟩ := digits_nat n.natAbs k (by omega) (by omega)
    rw [show n = (n.natAbs : Int) from by omega]
    exact ⟨r, h3, h4⟩
theorem refVal_take {l : List Int} {i : Nat} (h : i < l.length) : refVal (l.take (i + 1)) = if isDig l[i] then refVal (l.take i) * 10 + (l[i] - 48) else refVal (l.take i) := by
  rw [List.take_succ_eq_append_getElem h, refVal_snoc]
theorem refVal_bd (l : List Int) : 0 ≤ refVal l ∧ refVal l < 10 ^ l.length := by
  induction l using snocInd with
  | nil => simp [refVal]
  | snoc l c ih =>
    rw [refVal_snoc, List.length_append, List.length_singleton, Int.pow_succ]
    by_cases h : isDig c = true
    · rw [if_pos h]; rw [isDig_iff] at h; omega
    · rw [if_neg h]; omega
theorem pow11_le (m : Nat) (h : m ≤ 11) : (10 : Int) ^ m ≤ 100000000000 := by
  have := Nat.pow_le_pow_right (n := 10) (by omega) h
  have h2 : ((10 ^ m : Nat) : Int) ≤ ((10 ^ 11 : Nat) : Int) := Int.ofNat_le.2 this
  rw [Int.natCast_pow] at h2
  simpa using h2
end Num
end Go.Proofs.Ytcbhbmhopkagiaa.M
