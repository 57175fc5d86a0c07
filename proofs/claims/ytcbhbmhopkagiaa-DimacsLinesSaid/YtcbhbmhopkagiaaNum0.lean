/-
Decimal numbers as texts, plainly: 'numSpec' is which number a word is; 'digs' a number's digits; 'refNum' what the reference reckons. Strings as lists of numbers.
-/
import Derived.Test.YtcbhbmhopkagiaaPl
import Derived.Test.YtcbhbmhopkagiaaVm40
import Derived.Lib.Strings
import Derived.Lib.IndexBytes
set_option linter.unusedVariables false
set_option linter.unusedSimpArgs false
namespace Go.Proofs.Ytcbhbmhopkagiaa.M
open Go Go.Proofs.Ytcbhbmhopkagiaa.Vm Go.Proofs.Ytcbhbmhopkagiaa.Pl
namespace Str
theorem u8_inj {a b : UInt8} (h : (a.toNat : Int) = b.toNat) : a = b := UInt8.toNat_inj.1 (by omega)
theorem map_inj : ∀ {l m : List UInt8}, l.map (fun b => (b.toNat : Int)) = m.map (fun b => (b.toNat : Int)) → l = m
  | [], [], _ => rfl
  | [], _ :: _, h => by simp at h
  | _ :: _, [], h => by simp at h
  | a :: l, b :: m, h => by
    simp only [List.map_cons, List.cons.injEq] at h
    rw [u8_inj h.1, map_inj h.2]
theorem toList_data (s : ByteArray) : s.toList = s.data.toList := ByteArray.toList_eq s
theorem toList_eq_iff (s t : ByteArray) : s.toList = t.toList ↔ bytesD s = bytesD t := by
  rw [toList_data, toList_data]
  exact ⟨fun h => by unfold bytesD; rw [h], fun h => map_inj h⟩
theorem beq_str (s t : ByteArray) : (s.toList == t.toList) = decide (bytesD s = bytesD t) := by
  by_cases h : bytesD s = bytesD t
  · rw [decide_eq_true h, (toList_eq_iff s t).2 h, beq_self_eq_true]
  · rw [decide_eq_false h]; exact beq_eq_false_iff_ne.2 fun e => h ((toList_eq_iff s t).1 e)
theorem size_nat (s : ByteArray) : s.size = (bytesD s).length := by unfold bytesD; rw [List.length_map, Array.length_toList]; rfl
theorem size_len (s : ByteArray) : (s.size : Int) = ((bytesD s).length : Int) := by rw [size_nat]
theorem bytes_range (s : ByteArray) : ∀ x ∈ bytesD s, 0 ≤ x ∧ x ≤ 255 := by
  intro x hx; unfold bytesD at hx
  rw [List.mem_map] at hx; obtain ⟨b, _, rfl⟩ := hx
  have := b.toNat_lt
  omega
theorem bytes_extract (s : ByteArray) (a b : Nat) : bytesD (s.extract a b) = ((bytesD s).drop a).take (b - a) := by
  unfold bytesD; rw [Lib.extract_data, List.map_take, List.map_drop]
theorem bytes_tail (s : ByteArray) (a : Nat) : bytesD (s.extract a s.size) = (bytesD s).drop a := by
  unfold bytesD; rw [Lib.extract_to_end, List.map_drop]
theorem bytes_strOf (xs : List Int) (h : ∀ x ∈ xs, 0 ≤ x ∧ x ≤ 255) : bytesD (strOfNums xs) = xs := by
  unfold bytesD; rw [strOfNums_data, List.map_map]
  conv => rhs; rw [← List.map_id xs]
  apply List.map_congr_left
  intro x hx
  have := h x hx
  simp only [Function.comp, id]
  rw [UInt8.toNat_ofNat']; omega
theorem bytes_append (s t : ByteArray) : bytesD (s ++ t) = bytesD s ++ bytesD t := by
  unfold bytesD
  rw [show (s ++ t).data = s.data ++ t.data from ByteArray.data_append, Array.toList_append, List.map_append]
theorem ixs_nat {R : Type} {s : ByteArray} {i : Nat} {c : Int} {K : Int → Option R} (h : (bytesD s)[i]? = some c) : ixs s (i : Int) K = K c := by
  unfold ixs
  rw [decide_eq_true (by omega : (0 : Int) ≤ i)]
  unfold bytesD at h
  rw [List.getElem?_map] at h
  obtain ⟨b, h1, rfl⟩ := Option.map_eq_some_iff.1 h
  have : s.data.toList[(i : Int).toNat]? = some b := h1
  rw [this]; rfl
end Str
namespace Num
theorem head_get {l : List Int} (h : 0 < l.length) : l.head? = some l[0] := by rw [List.head?_eq_getElem?, List.getElem?_eq_getElem h]
def isDig (c : Int) : Bool := decide (48 ≤ c ∧ c ≤ 57)
def valOf (l : List Int) : Int := l.foldl (fun n c => 10 * n + (c - 48)) 0
def refVal (l : List Int) : Int := l.foldl (fun n c => if isDig c then n * 10 + (c - 48) else n) 0
def body (l : List Int) : List Int := if l.head? = some 45 then l.tail else l
def numSpec (l : List Int) : Int × Bool :=
  if body l = [] ∨ (body l).length > 10 ∨ ((body l).head? = some 48 ∧ l ≠ [48]) then (0, false)
  else if (body l).all isDig then (if (body l).length < l.length then (-valOf (body l), true) else (valOf (body l), true)) else (0, false)

/-- The digits of a natural number. -/
def digN (n : Nat) : List Int := if n < 10 then [48 + (n : Int)] else digN (n / 10) ++ [48 + ((n % 10 : Nat) : Int)]
termination_by n
decreasing_by omega
def digs (n : Int) : List Int := if n < 0 then 45 :: digN n.natAbs else digN n.natAbs
def refNum (l : List Int) : Int × Bool :=
  if l.length > 11 then (0, false)
  else
    let n := if l.head? = some 45 then -refVal l else refVal l
    if n > 9999999999 ∨ n < -9999999999 then (0, false) else if digs n = l then (n, true) else (0, false)

theorem digN_small {n : Nat} (h : n < 10) : digN n = [48 + (n : Int)] := by rw [digN, if_pos h]
theorem digN_big {n : Nat} (h : ¬ n < 10) : digN n = digN (n / 10) ++ [48 + ((n % 10 : Nat) : Int)] := by rw [digN, if_neg h]

theorem snocInd {α : Type} {P : List α → Prop} (nil : P []) (snoc : ∀ l c, P l → P (l ++ [c])) : ∀ l, P l := by
  intro l
  rw [← List.reverse_reverse l]
  induction l.reverse with
  | nil => exact nil
  | cons a t ih => rw [List.reverse_cons]; exact snoc _ _ ih

theorem valOf_snoc (l : List Int) (c : Int) : valOf (l ++ [c]) = 10 * valOf l + (c - 48) := by simp [valOf, List.foldl_append]
theorem refVal_snoc (l : List Int) (c : Int) : refVal (l ++ [c]) = if isDig c then refVal l * 10 + (c - 48) else refVal l := by simp [refVal, List.foldl_append]
theorem isDig_iff (c : Int) : isDig c = true ↔ 48 ≤ c ∧ c ≤ 57 := by simp [isDig]

theorem digN_ne (n : Nat) : digN n ≠ [] := by
  by_cases h : n < 10
  · rw [digN_small h]; simp
  · rw [digN_big h]; simp
theorem digN_all (n : Nat) : (digN n).all isDig = true := by
  induction n using Nat.strongRecOn with
  | _ n ih =>
    by_cases h : n < 10
    · rw [digN_small h]; simp [isDig]; omega
    · rw [digN_big h, List.all_append, ih (n / 10) (by omega)]; simp [isDig]; omega
theorem valOf_digN (n : Nat) : valOf (digN n) = n := by
  induction n using Nat.strongRecOn with
  | _ n ih =>
    by_cases h : n < 10
    · rw [digN_small h]; simp [valOf]; omega
    · rw [digN_big h, valOf_snoc, ih (n / 10) (by omega)]; omega
theorem digN_head (n : Nat) (h : 0 < n) : ∃ c l, digN n = c :: l ∧ 49 ≤ c ∧ c ≤ 57 := by
  induction n using Nat.strongRecOn with
  | _ n ih =>
    by_cases hs : n < 10
    · rw [digN_small hs]; exact ⟨_, [], rfl, by omega, by omega⟩
    · obtain ⟨c, l, e, h1, h2⟩ := ih (n / 10) (by omega) (by omega)
      rw [digN_big hs, e]; exact ⟨c, _, rfl, h1, h2⟩
theorem digN_len (m : Nat) : ∀ n : Nat, n < 10 ^ (m + 1) → (digN n).length ≤ m + 1 := by
  induction m with
  | zero => intro n h; rw [digN_small (by omega)]; simp
  | succ m ih =>
    intro n h
    by_cases hs : n < 10
    · rw [digN_small hs]; simp
    · rw [digN_big hs, List.length_append]
      have := ih (n / 10) (by rw [Nat.pow_succ] at h; omega)
      simp; omega

theorem valOf_nonneg (l : List Int) (h : l.all isDig = true) : 0 ≤ valOf l := by
  induction l using snocInd with
  | nil => simp [valOf]
  | snoc l c ih =>
    rw [List.all_append] at h; simp only [Bool.and_eq_true] at h
    have h1 := ih h.1
    have h2 : isDig c = true := by simpa using h.2
    rw [isDig_iff] at h2; rw [valOf_snoc]; omega
theorem valOf_lt (l : List Int) (h : l.all isDig = true) : valOf l < 10 ^ l.length := by
  induction l using snocInd with
  | nil => simp [valOf]
  | snoc l c ih =>
    rw [List.all_append] at h; simp only [Bool.and_eq_true] at h
    have h1 := ih h.1
    have h2 : isDig c = true := by simpa using h.2
    rw [isDig_iff] at h2; rw [valOf_snoc, List.length_append]
    simp only [List.length_singleton]
    rw [Int.pow_succ]; omega
theorem refVal_eq (l : List Int) (h : l.all isDig = true) : refVal l = valOf l := by
  induction l using snocInd with
  | nil => rfl
  | snoc l c ih =>
    rw [List.all_append] at h; simp only [Bool.and_eq_true] at h
    have h2 : isDig c = true := by simpa using h.2
    rw [valOf_snoc, refVal_snoc, ih h.1, if_pos h2]; omega
theorem refVal_cons45 (l : List Int) : refVal (45 :: l) = refVal l := by
  unfold refVal
  simp [List.foldl_cons, isDig]
theorem valOf_pos (c : Int) (l : List Int) (h : (c :: l).all isDig = true) (hc : c ≠ 48) : 1 ≤ valOf (c :: l) := by
  induction l using snocInd with
  | nil => simp [isDig] at h; simp [valOf]; omega
  | snoc l d ih =>
    have e : c :: (l ++ [d]) = (c :: l) ++ [d] := rfl
    rw [e, List.all_append] at h; simp only [Bool.and_eq_true] at h
    have h1 := ih h.1
    have h2 : isDig d = true := by simpa using h.2
    rw [isDig_iff] at h2; rw [e, valOf_snoc]; omega
theorem digN_valOf (l : List Int) (h : l.all isDig = true) (hne : l ≠ []) (h0 : l.head? = some 48 → l = [48]) : digN (valOf l).natAbs = l := by
  induction l using snocInd with
  | nil => exact absurd rfl hne
  | snoc l c ih =>
    rw [List.all_append] at h; simp only [Bool.and_eq_true] at h
    have h2 : isDig c = true := by simpa using h.2
    rw [isDig_iff] at h2
    rw [valOf_snoc]
    cases l with
    | nil =>
      simp only [List.nil_append, valOf, List.foldl_nil]
      rw [digN_small (by omega)]; congr 1; omega
    | cons b l =>
      have hb : b ≠ 48 := by rintro rfl; have := h0 rfl; simp at this
      have hp := valOf_pos b l h.1 hb
      have h0' : (b :: l).head? = some 48 → (b :: l) = [48] := by intro e; simp at e; exact absurd e hb
      have e := ih h.1 (by simp) h0'
      have hn := valOf_nonneg (b :: l) h.1
      rw [digN_big (by omega)]
      have e1 : (10 * valOf (b :: l) + (c - 48)).natAbs / 10 = (valOf (b :: l)).natAbs := by omega
      have e2 : (((10 * valOf (b :: l) + (c - 48)).natAbs % 10 : Nat) : Int) = c - 48 := by omega
      rw [e1, e2, e]; congr 2; omega

theorem numSpec_digs (n : Int) (h1 : -9999999999 ≤ n) (h2 : n ≤ 9999999999) : numSpec (digs n) = (n, true) := by
  have hl := digN_len 9 n.natAbs (by omega)
  have ha := digN_all n.natAbs
  have hv := valOf_digN n.natAbs
  have hne := digN_ne n.natAbs
  unfold digs
  by_cases hn : n < 0
  · rw [if_pos hn]
    obtain ⟨c, l, e, h3, h4⟩ := digN_head n.natAbs (by omega)
    have hb : body (45 :: digN n.natAbs) = digN n.natAbs := by simp [body]
    unfold numSpec
    have hx : ¬ (digN n.natAbs = [] ∨ (digN n.natAbs).length > 10 ∨ ((digN n.natAbs).head? = some 48 ∧ 45 :: digN n.natAbs ≠ [48])) := by
      rintro (h | h | ⟨h, _⟩)
      · exact hne h
      · omega
      · rw [e] at h; simp at h; omega
    rw [hb, if_neg hx, ha, if_pos rfl, if_pos (by simp), hv]
    congr 1; omega
  · rw [if_neg hn]
    have hb : body (digN n.natAbs) = digN n.natAbs := by
      unfold body; rw [if_neg]; intro h
      by_cases hz : n.natAbs = 0
      · rw [hz, digN_small (by omega)] at h; simp at h
      · obtain ⟨c, l, e, h3, h4⟩ := digN_head n.natAbs (by omega)
        rw [e] at h; simp at h; omega
    unfold numSpec
    rw [hb, if_neg, ha, if_pos rfl, if_neg (by omega), hv]
    · congr 1; omega
    · rintro (h | h | ⟨h, h'⟩)
      · exact hne h
      · omega
      · by_cases hz : n.natAbs = 0
        · rw [hz, digN_small (by omega)] at h'; simp at h'
        · obtain ⟨c, l, e, h3, h4⟩ := digN_head n.natAbs (by omega)
          rw [e] at h; simp at h; omega

theorem pow10_le (m : Nat) (h : m ≤ 10) : (10 : Int) ^ m ≤ 10000000000 := by
  have := Nat.pow_le_pow_right (n := 10) (by omega) h
  have h2 : ((10 ^ m : Nat) : Int) ≤ ((10 ^ 10 : Nat) : Int) := Int.ofNat_le.2 this
  rw [Int.natCast_pow] at h2
  simpa using h2

theorem refNum_minus (t : List Int) (ha : t.all isDig = true) (hne : t ≠ []) (hlen : t.length ≤ 10) (h48 : t.head? ≠ some 48) : refNum (45 :: t) = (-valOf t, true) := by
  have hv0 := valOf_nonneg _ ha
  have hvl := valOf_lt _ ha
  have hpw := pow10_le _ hlen
  have hdv := digN_valOf t ha hne (fun h => absurd h h48)
  have hp : 1 ≤ valOf t := by
    cases t with
    | nil => exact absurd rfl hne
    | cons c t => exact valOf_pos c t ha (by rintro rfl; exact h48 rfl)
  have e : digs (-valOf t) = 45 :: t := by
    unfold digs; rw [if_pos (by omega), Int.natAbs_neg, hdv]
  unfold refNum
  rw [if_neg (by simp; omega)]
  simp only [List.head?_cons, if_true, refVal_cons45, refVal_eq t ha]
  rw [if_neg (by omega), if_pos e]

theorem refNum_plain (l : List Int) (ha : l.all isDig = true) (hne : l ≠ []) (hlen : l.length ≤ 10) (h45 : l.head? ≠ some 45) (h48 : l.head? = some 48 → l = [48]) : refNum l = (valOf l, true) := by
  have hv0 := valOf_nonneg _ ha
  have hvl := valOf_lt _ ha
  have hpw := pow10_le _ hlen
  have hdv := digN_valOf l ha hne h48
  have e : digs (valOf l) = l := by
    unfold digs; rw [if_neg (by omega)]; exact hdv
  unfold refNum
  rw [if_neg (by omega)]
  simp only [h45, if_false, refVal_eq l ha]
  rw [if_neg (by omega), if_pos e]

theorem refNum_eq (l : List Int) : refNum l = numSpec l := by
  by_cases hs : (numSpec l).2 = true
  · -- a canonical word
    by_cases hc : body l = [] ∨ (body l).length > 10 ∨ ((body l).head? = some 48 ∧ l ≠ [48])
    · unfold numSpec at hs; rw [if_pos hc] at hs; simp at hs
    by_cases ha : (body l).all isDig = true
    · have hne : body l ≠ [] := fun h => hc (.inl h)
      have hlen : (body l).length ≤ 10 := by
        apply Nat.le_of_not_lt; intro h; exact hc (.inr (.inl h))
      have h48 : (body l).head? = some 48 → l = [48] := by
        intro h; apply Classical.byContradiction; intro h'; exact hc (.inr (.inr ⟨h, h'⟩))
      unfold numSpec
      rw [if_neg hc, if_pos ha]
      by_cases hm : l.head? = some 45
      · obtain ⟨t, rfl⟩ : ∃ t, l = 45 :: t := by cases l with | nil => simp at hm | cons a t => simp at hm; exact ⟨t, by rw [hm]⟩
        have hb : body (45 :: t) = t := by simp [body]
        rw [hb] at ha hne hlen h48 ⊢
        rw [refNum_minus t ha hne hlen (by intro h; have := h48 h; simp at this), if_pos (by simp)]
      · have hb : body l = l := by simp [body, hm]
        rw [hb] at ha hne hlen h48 ⊢
        rw [refNum_plain l ha hne hlen hm h48, if_neg (by omega)]
    · unfold numSpec at hs; rw [if_neg hc, if_neg ha] at hs; simp at hs
  · -- none: what the reference reckons can't print to it
    have hz : numSpec l = (0, false) := by
      unfold numSpec at hs ⊢
      split
      · rfl
      · split
        · rename_i h1 h2; rw [if_neg h1, if_pos h2] at hs; split at hs <;> simp at hs
        · rfl
    rw [hz]; unfold refNum
    by_cases h1 : l.length > 11
    · rw [if_pos h1]
    · rw [if_neg h1]; simp only []
      generalize (if l.head? = some 45 then -refVal l else refVal l) = n
      by_cases h2 : n > 9999999999 ∨ n < -9999999999
      · rw [if_pos h2]
      · rw [if_neg h2, if_neg]
        intro e
        apply hs
        rw [← e, numSpec_digs _ (by omega) (by omega)]
end Num
end Go.Proofs.Ytcbhbmhopkagiaa.M
