/- Several texts in one. -/
import Derived.Test.YteciockojllonaaK0
import Derived.Lib.Strings
import Derived.Lib.IndexBytes
import Derived.Laws.BytesArg
import Derived.WalkKit
import Derived.Lib.SlBytesConst
import Derived.ChangeArms
import Derived.DataReads

/-
Small plain facts on the printed words: rounds, reads, numbers that need no wrap.
-/
namespace Go.Proofs.Yteciockojllonaa.Pre
open Go.RowKit Go.Proofs.YteciockojllonaaW.PrintWords Go.Proofs.YteciockojllonaaW.PrintLast

theorem w64 {x : Int} (h1 : -9223372036854775808 ≤ x) (h2 : x ≤ 9223372036854775807) : wrap64 x = x := by unfold wrap64; omega
theorem rd_nat {l : List Int} {i : Nat} (h : i < l.length) : rd l (i : Int) = l[i] := by
  unfold rd; rw [Int.toNat_natCast, List.getD_eq_getElem?_getD, List.getElem?_eq_getElem h]; rfl
theorem rd_int {l : List Int} {i : Int} (h0 : 0 ≤ i) (h : i < l.length) : rd l i = l[i.toNat]'(by omega) := by
  obtain ⟨n, rfl⟩ := Int.eq_ofNat_of_zero_le h0
  exact rd_nat (by omega)
theorem rd_zero {l : List Int} (h : 0 < l.length) : rd l 0 = l[0] := rd_nat (i := 0) h
theorem head_get {l : List Int} (h : 0 < l.length) : l.head? = some l[0] := by rw [List.head?_eq_getElem?, List.getElem?_eq_getElem h]
theorem drop_cons {α : Type} {l : List α} {i : Nat} (h : i < l.length) : l.drop i = l[i] :: l.drop (i + 1) := List.drop_eq_getElem_cons h
/-- From some rounds on. -/
theorem ev_at {α : Type} {g : Nat → Option α} {r : α} (h : ∀ k, LeO (g k) (g (k + 1))) (n : Nat) (hr : g n = some r) (k : Nat) (hk : n ≤ k) : g k = some r := at_rounds h hk hr
/-- Two that are known from some rounds on. -/
theorem Ev.both {α β : Type} {g : Nat → Option α} {f : Nat → Option β} {a : α} {b : β} (h : Ev g a) (h' : Ev f b) : ∃ K, ∀ k, K ≤ k → g k = some a ∧ f k = some b := by
  obtain ⟨K, hK⟩ := h; obtain ⟨K', hK'⟩ := h'
  exact ⟨K + K', fun k hk => ⟨hK k (by omega), hK' k (by omega)⟩⟩

end Go.Proofs.Yteciockojllonaa.Pre

/-
Strings as lists of numbers.
-/
namespace Go.Proofs.Yteciockojllonaa.Str
open Go.RowKit Go.Proofs.YteciockojllonaaW.PrintWords Go.Proofs.YteciockojllonaaW.PrintLast Go.Proofs.Yteciockojllonaa.Pre

theorem toList_data (s : ByteArray) : s.toList = s.data.toList := ByteArray.toList_eq s
theorem u8_inj {a b : UInt8} (h : (a.toNat : Int) = b.toNat) : a = b := UInt8.toNat_inj.1 (by omega)
theorem map_inj : ∀ {l m : List UInt8}, l.map (fun b => (b.toNat : Int)) = m.map (fun b => (b.toNat : Int)) → l = m
  | [], [], _ => rfl
  | [], _ :: _, h => by simp at h
  | _ :: _, [], h => by simp at h
  | a :: l, b :: m, h => by
    simp only [List.map_cons, List.cons.injEq] at h
    rw [u8_inj h.1, map_inj h.2]
theorem toList_iff (s : ByteArray) (m : List UInt8) : s.toList = m ↔ bytesOf s = m.map (fun b => (b.toNat : Int)) := by
  rw [toList_data]; unfold bytesOf
  exact ⟨fun h => by rw [h], fun h => map_inj h⟩
theorem toList_eq_iff (s t : ByteArray) : s.toList = t.toList ↔ bytesOf s = bytesOf t := by
  rw [toList_iff, toList_data t]; rfl
theorem size_len (s : ByteArray) : (s.size : Int) = ((bytesOf s).length : Int) := by rw [bytesOf_length]
theorem size_nat (s : ByteArray) : s.size = (bytesOf s).length := by rw [bytesOf_length]
theorem bt_rd (s : ByteArray) (i : Int) : bt s i = rd (bytesOf s) i := (rd_bytesOf s i).symm
theorem bytes_range (s : ByteArray) : ∀ x ∈ bytesOf s, 0 ≤ x ∧ x ≤ 255 := by
  intro x hx; unfold bytesOf at hx
  rw [List.mem_map] at hx; obtain ⟨b, _, rfl⟩ := hx
  have := b.toNat_lt; omega
theorem bytes_extract (s : ByteArray) (a b : Nat) : bytesOf (s.extract a b) = ((bytesOf s).drop a).take (b - a) := by
  unfold bytesOf; rw [Lib.extract_data, List.map_take, List.map_drop]
theorem bytes_tail (s : ByteArray) (a : Nat) : bytesOf (s.extract a s.size) = (bytesOf s).drop a := by
  unfold bytesOf; rw [Lib.extract_to_end, List.map_drop]
theorem bytes_strOf (xs : List Int) (h : ∀ x ∈ xs, 0 ≤ x ∧ x ≤ 255) : bytesOf (strOfNums xs) = xs := by
  unfold bytesOf; rw [strOfNums_data, List.map_map]
  conv => rhs; rw [← List.map_id xs]
  apply List.map_congr_left
  intro x hx
  have := h x hx
  simp only [Function.comp, id]
  rw [UInt8.toNat_ofNat']; omega
theorem bytes_append (s t : ByteArray) : bytesOf (s ++ t) = bytesOf s ++ bytesOf t := by
  unfold bytesOf
  rw [show (s ++ t).data = s.data ++ t.data from ByteArray.data_append, Array.toList_append, List.map_append]
/-- Behind a test of texts: a test of lists. -/
theorem beq_toList (s : ByteArray) (m : List UInt8) : (s.toList == m) = decide (bytesOf s = m.map (fun b => (b.toNat : Int))) := by
  by_cases h : s.toList = m
  · rw [beq_iff_eq.2 h, decide_eq_true ((toList_iff s m).1 h)]
  · rw [beq_eq_false_iff_ne.2 h, decide_eq_false (fun h2 => h ((toList_iff s m).2 h2))]

end Go.Proofs.Yteciockojllonaa.Str

/-
Plain lists: decimal numbers as texts. 'numSpec' is which number a word is; 'digs' a number's digits; 'refNum' what the reference reckons. No Go, no memory.
-/
namespace Go.Proofs.Yteciockojllonaa.Num

def isDig (c : Int) : Bool := decide (48 ≤ c ∧ c ≤ 57)
def valOf (l : List Int) : Int := l.foldl (fun n c => 10 * n + (c - 48)) 0
def refVal (l : List Int) : Int := l.foldl (fun n c => if isDig c then n * 10 + (c - 48) else n) 0
def body (l : List Int) : List Int := if l.head? = some 45 then l.tail else l
def numSpec (l : List Int) : Int × Bool :=
  if body l = [] ∨ (body l).length > 10 ∨ ((body l).head? = some 48 ∧ l ≠ [48]) then (0, false)
  else if (body l).all isDig then (if (body l).length < l.length then (-valOf (body l), true) else (valOf (body l), true)) else (0, false)

/-- The digits of a natural number. -/
def digN (n : Nat) : List Int := if n < 10 then [48 + (n : Int)] else digN (n / 10) ++ [48 + ((n % 10 : Nat) : Int)]
termination_by n
decreasing_by omega
def digs (n : Int) : List Int := if n < 0 then 45 :: digN n.natAbs else digN n.natAbs
def refNum (l : List Int) : Int × Bool :=
  if l.length > 11 then (0, false)
  else
    let n := if l.head? = some 45 then -refVal l else refVal l
    if n > 9999999999 ∨ n < -9999999999 then (0, false) else if digs n = l then (n, true) else (0, false)

theorem digN_small {n : Nat} (h : n < 10) : digN n = [48 + (n : Int)] := by rw [digN, if_pos h]
theorem digN_big {n : Nat} (h : ¬ n < 10) : digN n = digN (n / 10) ++ [48 + ((n % 10 : Nat) : Int)] := by rw [digN, if_neg h]

theorem snocInd {α : Type} {P : List α → Prop} (nil : P []) (snoc : ∀ l c, P l → P (l ++ [c])) : ∀ l, P l := by
  intro l
  rw [← List.reverse_reverse l]
  induction l.reverse with
  | nil => exact nil
  | cons a t ih => rw [List.reverse_cons]; exact snoc _ _ ih

theorem valOf_snoc (l : List Int) (c : Int) : valOf (l ++ [c]) = 10 * valOf l + (c - 48) := by simp [valOf, List.foldl_append]
theorem refVal_snoc (l : List Int) (c : Int) : refVal (l ++ [c]) = if isDig c then refVal l * 10 + (c - 48) else refVal l := by simp [refVal, List.foldl_append]
theorem isDig_iff (c : Int) : isDig c = true ↔ 48 ≤ c ∧ c ≤ 57 := by simp [isDig]

theorem digN_ne (n : Nat) : digN n ≠ [] := by
  by_cases h : n < 10
  · rw [digN_small h]; simp
  · rw [digN_big h]; simp
theorem digN_all (n : Nat) : (digN n).all isDig = true := by
  induction n using Nat.strongRecOn with
  | _ n ih =>
    by_cases h : n < 10
    · rw [digN_small h]; simp [isDig]; omega
    · rw [digN_big h, List.all_append, ih (n / 10) (by omega)]; simp [isDig]; omega
theorem valOf_digN (n : Nat) : valOf (digN n) = n := by
  induction n using Nat.strongRecOn with
  | _ n ih =>
    by_cases h : n < 10
    · rw [digN_small h]; simp [valOf]; omega
    · rw [digN_big h, valOf_snoc, ih (n / 10) (by omega)]; omega
theorem digN_head (n : Nat) (h : 0 < n) : ∃ c l, digN n = c :: l ∧ 49 ≤ c ∧ c ≤ 57 := by
  induction n using Nat.strongRecOn with
  | _ n ih =>
    by_cases hs : n < 10
    · rw [digN_small hs]; exact ⟨_, [], rfl, by omega, by omega⟩
    · obtain ⟨c, l, e, h1, h2⟩ := ih (n / 10) (by omega) (by omega)
      rw [digN_big hs, e]; exact ⟨c, _, rfl, h1, h2⟩
theorem digN_len (m : Nat) : ∀ n : Nat, n < 10 ^ (m + 1) → (digN n).length ≤ m + 1 := by
  induction m with
  | zero => intro n h; rw [digN_small (by omega)]; simp
  | succ m ih =>
    intro n h
    by_cases hs : n < 10
    · rw [digN_small hs]; simp
    · rw [digN_big hs, List.length_append]
      have := ih (n / 10) (by rw [Nat.pow_succ] at h; omega)
      simp; omega

theorem valOf_nonneg (l : List Int) (h : l.all isDig = true) : 0 ≤ valOf l := by
  induction l using snocInd with
  | nil => simp [valOf]
  | snoc l c ih =>
    rw [List.all_append] at h; simp only [Bool.and_eq_true] at h
    have h1 := ih h.1
    have h2 : isDig c = true := by simpa using h.2
    rw [isDig_iff] at h2; rw [valOf_snoc]; omega
theorem valOf_lt (l : List Int) (h : l.all isDig = true) : valOf l < 10 ^ l.length := by
  induction l using snocInd with
  | nil => simp [valOf]
  | snoc l c ih =>
    rw [List.all_append] at h; simp only [Bool.and_eq_true] at h
    have h1 := ih h.1
    have h2 : isDig c = true := by simpa using h.2
    rw [isDig_iff] at h2; rw [valOf_snoc, List.length_append]
    simp only [List.length_singleton]
    rw [Int.pow_succ]; omega
theorem refVal_eq (l : List Int) (h : l.all isDig = true) : refVal l = valOf l := by
  induction l using snocInd with
  | nil => rfl
  | snoc l c ih =>
    rw [List.all_append] at h; simp only [Bool.and_eq_true] at h
    have h2 : isDig c = true := by simpa using h.2
    rw [valOf_snoc, refVal_snoc, ih h.1, if_pos h2]; omega
theorem refVal_cons45 (l : List Int) : refVal (45 :: l) = refVal l := by
  unfold refVal
  simp [List.foldl_cons, isDig]
theorem valOf_pos (c : Int) (l : List Int) (h : (c :: l).all isDig = true) (hc : c ≠ 48) : 1 ≤ valOf (c :: l) := by
  induction l using snocInd with
  | nil => simp [isDig] at h; simp [valOf]; omega
  | snoc l d ih =>
    have e : c :: (l ++ [d]) = (c :: l) ++ [d] := rfl
    rw [e, List.all_append] at h; simp only [Bool.and_eq_true] at h
    have h1 := ih h.1
    have h2 : isDig d = true := by simpa using h.2
    rw [isDig_iff] at h2; rw [e, valOf_snoc]; omega
theorem digN_valOf (l : List Int) (h : l.all isDig = true) (hne : l ≠ []) (h0 : l.head? = some 48 → l = [48]) : digN (valOf l).natAbs = l := by
  induction l using snocInd with
  | nil => exact absurd rfl hne
  | snoc l c ih =>
    rw [List.all_append] at h; simp only [Bool.and_eq_true] at h
    have h2 : isDig c = true := by simpa using h.2
    rw [isDig_iff] at h2
    rw [valOf_snoc]
    cases l with
    | nil =>
      simp only [List.nil_append, valOf, List.foldl_nil]
      rw [digN_small (by omega)]; congr 1; omega
    | cons b l =>
      have hb : b ≠ 48 := by rintro rfl; have := h0 rfl; simp at this
      have hp := valOf_pos b l h.1 hb
      have h0' : (b :: l).head? = some 48 → (b :: l) = [48] := by intro e; simp at e; exact absurd e hb
      have e := ih h.1 (by simp) h0'
      have hn := valOf_nonneg (b :: l) h.1
      rw [digN_big (by omega)]
      have e1 : (10 * valOf (b :: l) + (c - 48)).natAbs / 10 = (valOf (b :: l)).natAbs := by omega
      have e2 : (((10 * valOf (b :: l) + (c - 48)).natAbs % 10 : Nat) : Int) = c - 48 := by omega
      rw [e1, e2, e]; congr 2; omega

theorem numSpec_digs (n : Int) (h1 : -9999999999 ≤ n) (h2 : n ≤ 9999999999) : numSpec (digs n) = (n, true) := by
  have hl := digN_len 9 n.natAbs (by omega)
  have ha := digN_all n.natAbs
  have hv := valOf_digN n.natAbs
  have hne := digN_ne n.natAbs
  unfold digs
  by_cases hn : n < 0
  · rw [if_pos hn]
    obtain ⟨c, l, e, h3, h4⟩ := digN_head n.natAbs (by omega)
    have hb : body (45 :: digN n.natAbs) = digN n.natAbs := by simp [body]
    unfold numSpec
    have hx : ¬ (digN n.natAbs = [] ∨ (digN n.natAbs).length > 10 ∨ ((digN n.natAbs).head? = some 48 ∧ 45 :: digN n.natAbs ≠ [48])) := by
      rintro (h | h | ⟨h, _⟩)
      · exact hne h
      · omega
      · rw [e] at h; simp at h; omega
    rw [hb, if_neg hx, ha, if_pos rfl, if_pos (by simp), hv]
    congr 1; omega
  · rw [if_neg hn]
    have hb : body (digN n.natAbs) = digN n.natAbs := by
      unfold body; rw [if_neg]; intro h
      by_cases hz : n.natAbs = 0
      · rw [hz, digN_small (by omega)] at h; simp at h
      · obtain ⟨c, l, e, h3, h4⟩ := digN_head n.natAbs (by omega)
        rw [e] at h; simp at h; omega
    unfold numSpec
    rw [hb, if_neg, ha, if_pos rfl, if_neg (by omega), hv]
    · congr 1; omega
    · rintro (h | h | ⟨h, h'⟩)
      · exact hne h
      · omega
      · by_cases hz : n.natAbs = 0
        · rw [hz, digN_small (by omega)] at h'; simp at h'
        · obtain ⟨c, l, e, h3, h4⟩ := digN_head n.natAbs (by omega)
          rw [e] at h; simp at h; omega

theorem pow10_le (m : Nat) (h : m ≤ 10) : (10 : Int) ^ m ≤ 10000000000 := by
  have := Nat.pow_le_pow_right (n := 10) (by omega) h
  have h2 : ((10 ^ m : Nat) : Int) ≤ ((10 ^ 10 : Nat) : Int) := Int.ofNat_le.2 this
  rw [Int.natCast_pow] at h2
  simpa using h2

theorem refNum_minus (t : List Int) (ha : t.all isDig = true) (hne : t ≠ []) (hlen : t.length ≤ 10) (h48 : t.head? ≠ some 48) : refNum (45 :: t) = (-valOf t, true) := by
  have hv0 := valOf_nonneg _ ha
  have hvl := valOf_lt _ ha
  have hpw := pow10_le _ hlen
  have hdv := digN_valOf t ha hne (fun h => absurd h h48)
  have hp : 1 ≤ valOf t := by
    cases t with
    | nil => exact absurd rfl hne
    | cons c t => exact valOf_pos c t ha (by rintro rfl; exact h48 rfl)
  have e : digs (-valOf t) = 45 :: t := by
    unfold digs; rw [if_pos (by omega), Int.natAbs_neg, hdv]
  unfold refNum
  rw [if_neg (by simp; omega)]
  simp only [List.head?_cons, if_true, refVal_cons45, refVal_eq t ha]
  rw [if_neg (by omega), if_pos e]

theorem refNum_plain (l : List Int) (ha : l.all isDig = true) (hne : l ≠ []) (hlen : l.length ≤ 10) (h45 : l.head? ≠ some 45) (h48 : l.head? = some 48 → l = [48]) : refNum l = (valOf l, true) := by
  have hv0 := valOf_nonneg _ ha
  have hvl := valOf_lt _ ha
  have hpw := pow10_le _ hlen
  have hdv := digN_valOf l ha hne h48
  have e : digs (valOf l) = l := by
    unfold digs; rw [if_neg (by omega)]; exact hdv
  unfold refNum
  rw [if_neg (by omega)]
  simp only [h45, if_false, refVal_eq l ha]
  rw [if_neg (by omega), if_pos e]

theorem refNum_eq (l : List Int) : refNum l = numSpec l := by
  by_cases hs : (numSpec l).2 = true
  · -- a canonical word
    by_cases hc : body l = [] ∨ (body l).length > 10 ∨ ((body l).head? = some 48 ∧ l ≠ [48])
    · unfold numSpec at hs; rw [if_pos hc] at hs; simp at hs
    by_cases ha : (body l).all isDig = true
    · have hne : body l ≠ [] := fun h => hc (.inl h)
      have hlen : (body l).length ≤ 10 := by
        apply Nat.le_of_not_lt; intro h; exact hc (.inr (.inl h))
      have h48 : (body l).head? = some 48 → l = [48] := by
        intro h; apply Classical.byContradiction; intro h'; exact hc (.inr (.inr ⟨h, h'⟩))
      unfold numSpec
      rw [if_neg hc, if_pos ha]
      by_cases hm : l.head? = some 45
      · obtain ⟨t, rfl⟩ : ∃ t, l = 45 :: t := by cases l with | nil => simp at hm | cons a t => simp at hm; exact ⟨t, by rw [hm]⟩
        have hb : body (45 :: t) = t := by simp [body]
        rw [hb] at ha hne hlen h48 ⊢
        rw [refNum_minus t ha hne hlen (by intro h; have := h48 h; simp at this), if_pos (by simp)]
      · have hb : body l = l := by simp [body, hm]
        rw [hb] at ha hne hlen h48 ⊢
        rw [refNum_plain l ha hne hlen hm h48, if_neg (by omega)]
    · unfold numSpec at hs; rw [if_neg hc, if_neg ha] at hs; simp at hs
  · -- none: what the reference reckons can't print to it
    have hz : numSpec l = (0, false) := by
      unfold numSpec at hs ⊢
      split
      · rfl
      · split
        · rename_i h1 h2; rw [if_neg h1, if_pos h2] at hs; split at hs <;> simp at hs
        · rfl
    rw [hz]; unfold refNum
    by_cases h1 : l.length > 11
    · rw [if_pos h1]
    · rw [if_neg h1]; simp only []
      generalize (if l.head? = some 45 then -refVal l else refVal l) = n
      by_cases h2 : n > 9999999999 ∨ n < -9999999999
      · rw [if_pos h2]
      · rw [if_neg h2, if_neg]
        intro e
        apply hs
        rw [← e, numSpec_digs _ (by omega) (by omega)]

end Go.Proofs.Yteciockojllonaa.Num

/-
'[]byte("..")' of a constant: the row that is made is read, and no more.
-/
namespace Go.Proofs.Yteciockojllonaa.G
set_option linter.unusedSimpArgs false
set_option linter.unusedVariables false
open Go.RowKit Go.Proofs.YteciockojllonaaW.PrintWords Go.Proofs.YteciockojllonaaW.PrintLast

theorem C_row (W : World) (k : IntKind) (xs : List Int) (e : Nat) (m : Nat × Nat) (hx : xs.length ≤ 9223372036854775807) :
    (Kd.int k).C (W.alloc (.cells (xs.map (Value.int k)).toArray e m)) (some ⟨W.heap.size, 0, none⟩) xs.length xs := by
  refine Kd.C_of_reads (d := 0) (h1 := fun _ => rfl) ⟨rfl, hx, fun _ => ⟨_, rfl, fun j hj => ?_⟩⟩
  rw [add_plain]
  have hb : (W.alloc (.cells (xs.map (Value.int k)).toArray e m)).heap[W.heap.size]? = some (.cells (xs.map (Value.int k)).toArray e m) := by simpa using heap_alloc_new W _
  rw [cell_of_row _ _ j _ _ _ hb]
  simp [List.getD_eq_getElem?_getD, List.getElem?_eq_getElem hj]

end Go.Proofs.Yteciockojllonaa.G

/-
What came in, and can be read, is a value of the printed kinds: one lemma for each kind of kind.
-/
namespace Go.Proofs.Yteciockojllonaa.Read
set_option linter.unusedSimpArgs false
set_option linter.unusedVariables false
open Go.RowKit Go.Proofs.YteciockojllonaaW.PrintWords Go.Proofs.YteciockojllonaaW.PrintLast
variable {P : Program} {α β : Type}

/-- What lies as type t in memory that came in, and can be read, is a value of kind d that fits. -/
def Opens (P : Program) (t : TypeId) (d : Kd α) (fit : α → Prop) : Prop :=
  ∀ {H : Type} (enc : TypeId × Value → H) (w : World) (base : Nat) (spare : Nat → Bool) (held : Bool) (fuel : Nat) (cs : List Value) (x : DataW H × List MemPlace),
    DataW.trod enc P w base spare held fuel t cs = some x → ∃ a, d.K w a cs ∧ fit a

theorem Opens.imp {t : TypeId} {d : Kd α} {fit fit' : α → Prop} (h : Opens P t d fit) (hi : ∀ a, fit a → fit' a) : Opens P t d fit' := by
  intro H enc w base spare held fuel cs x hx
  obtain ⟨a, h1, h2⟩ := h enc w base spare held fuel cs x hx
  exact ⟨a, h1, hi a h2⟩
theorem opens_int {t : TypeId} {k : IntKind} (ht : P.underlying t = some (.int k)) : Opens P t (Kd.int k) (fun n => (Lit.int k n).wf = true) := by
  intro H enc w base spare held fuel cs x h
  obtain ⟨n, rfl, _, hw⟩ := DataW.trod_int ht h
  exact ⟨n, rfl, hw⟩
theorem opens_bool {t : TypeId} (ht : P.underlying t = some .bool) : Opens P t Kd.bool (fun _ => True) := by
  intro H enc w base spare held fuel cs x h
  obtain ⟨b, rfl, _⟩ := DataW.trod_bool ht h
  exact ⟨b, rfl, trivial⟩
theorem opens_string {t : TypeId} (ht : P.underlying t = some .string) : Opens P t Kd.string (fun s => s.size ≤ maxLen) := by
  intro H enc w base spare held fuel cs x h
  obtain ⟨s, rfl, _, hs⟩ := DataW.trod_string ht h
  exact ⟨s, rfl, hs⟩

theorem list_of {Q : Nat → α → Prop} : ∀ n, (∀ i, i < n → ∃ a, Q i a) → ∃ xs : List α, xs.length = n ∧ ∀ i a, xs[i]? = some a → Q i a
  | 0, _ => ⟨[], rfl, by simp⟩
  | n + 1, h => by
    obtain ⟨xs, hl, hx⟩ := list_of n (fun i hi => h i (by omega))
    obtain ⟨a, ha⟩ := h n (by omega)
    refine ⟨xs ++ [a], by simp [hl], fun i b hb => ?_⟩
    rcases Nat.lt_or_ge i xs.length with hi | hi
    · rw [List.getElem?_append_left hi] at hb; exact hx i b hb
    · rw [List.getElem?_append_right hi] at hb
      have h0 : i - xs.length = 0 := by
        apply Classical.byContradiction; intro hne
        rw [List.getElem?_eq_none (by simp; omega)] at hb; cases hb
      rw [h0] at hb
      obtain rfl : a = b := by simpa using hb
      rw [show i = n from by omega]; exact ha

theorem opens_slice {t e : TypeId} {d : Kd α} {fit : α → Prop} (ht : P.underlying t = some (.slice e)) (hsz : P.cellsOf e = d.sz) (he : Opens P e d fit) :
    Opens P t (Kd.slice e d) (fun xs => xs.length ≤ maxLen ∧ ∀ x ∈ xs, fit x) := by
  intro H enc w base spare held fuel cs x h
  rcases DataW.trod_slice ht h with ⟨rfl, _⟩ | ⟨a, len, cap, elems, rest, n, rfl, rfl, _, hb, hl, hm, hel, hcell, _⟩
  · exact ⟨[], ⟨none, 0, rfl, Nat.le_refl _, Kd.C_nil _ _⟩, by simp [maxLen], by simp⟩
  · have each : ∀ i, i < len → ∃ p, ∃ c, d.K w p c ∧ fit p ∧ w.cells? base (a.add (i * P.cellsOf e)) (P.cellsOf e) = some c := by
      intro i hi
      have h1 := hcell i hi
      rw [List.getElem?_eq_getElem (by omega), Option.bind_eq_some_iff] at h1
      obtain ⟨c, hc, h2⟩ := h1
      obtain ⟨p, h3, h4⟩ := he enc w base spare held n c _ h2
      exact ⟨p, c, h3, h4, hc⟩
    obtain ⟨xs, hxl, hx⟩ := list_of len each
    subst hxl
    refine ⟨xs, ⟨some a, cap, rfl, hl, rfl, by unfold maxLen at hm; omega, fun hn => ⟨a, rfl, fun j p hj => ?_⟩⟩, by omega, fun y hy => ?_⟩
    · obtain ⟨c, h3, h4, h5⟩ := hx j p hj
      refine ⟨c, d.K_len h3, h3, fun i u hu => ?_⟩
      obtain ⟨_, hcl, h6⟩ := World.cells?_some h5
      have hi := (List.getElem?_eq_some_iff.1 hu).1
      rw [← hsz, ← Addr.add_add, h6 i (by omega)]
      exact hu
    · obtain ⟨j, hj, rfl⟩ := List.getElem_of_mem hy
      obtain ⟨c, h3, h4, h5⟩ := hx j _ (List.getElem?_eq_getElem hj)
      exact h4

theorem opens_iso {t : TypeId} {d : Kd α} {fit : α → Prop} (h : Opens P t d fit) (g : β → α) (inv : ∀ a, ∃ b, g b = a) : Opens P t (Kd.iso d g) (fun b => fit (g b)) := by
  intro H enc w base spare held fuel cs x hx
  obtain ⟨a, h1, h2⟩ := h enc w base spare held fuel cs x hx
  obtain ⟨b, rfl⟩ := inv a
  exact ⟨b, h1, h2⟩
/-- The fields from cell o on are a value of kind d that fits. -/
def OpensF (P : Program) (o : Nat) (fs : List Field) (d : Kd α) (fit : α → Prop) : Prop :=
  ∀ {H : Type} (enc : TypeId × Value → H) (w : World) (base : Nat) (spare : Nat → Bool) (held : Bool) (n : Nat) (cs : List Value),
    (∀ f ∈ fs, ∃ y, DataW.trod enc P w base spare held n f.type ((cs.drop f.offset).take (P.cellsOf f.type)) = some y) → cs.length = o + (fs.map fun f => P.cellsOf f.type).sum →
    ∃ a, d.K w a (cs.drop o) ∧ fit a
theorem opensF_one {o : Nat} {f : Field} {d : Kd α} {fit : α → Prop} (ho : f.offset = o) (h : Opens P f.type d fit) : OpensF P o [f] d fit := by
  intro H enc w base spare held n cs hf hl
  obtain ⟨y, hy⟩ := hf f (by simp)
  obtain ⟨a, h1, h2⟩ := h enc w base spare held n _ y hy
  refine ⟨a, ?_, h2⟩
  rwa [ho, List.take_of_length_le (by simp at hl ⊢; omega)] at h1
theorem opensF_cons {o : Nat} {f : Field} {fs : List Field} {d : Kd α} {e : Kd β} {fit : α → Prop} {fit' : β → Prop} (ho : f.offset = o) (h : Opens P f.type d fit) (hr : OpensF P (o + P.cellsOf f.type) fs e fit') :
    OpensF P o (f :: fs) (Kd.pair d e) (fun x => fit x.1 ∧ fit' x.2) := by
  intro H enc w base spare held n cs hf hl
  obtain ⟨y, hy⟩ := hf f (by simp)
  obtain ⟨a, h1, h2⟩ := h enc w base spare held n _ y hy
  obtain ⟨b, h3, h4⟩ := hr enc w base spare held n cs (fun g hg => hf g (by simp [hg])) (by simp at hl; omega)
  refine ⟨(a, b), ⟨_, _, ?_, h1, h3⟩, h2, h4⟩
  rw [ho, ← List.drop_drop, List.take_append_drop]
theorem opens_struct {t : TypeId} {fs : Array Field} {d : Kd α} {fit : α → Prop} (ht : P.underlying t = some (.struct fs)) (hs : P.cellsOf t = (fs.toList.map fun f => P.cellsOf f.type).sum) (h : OpensF P 0 fs.toList d fit) : Opens P t d fit := by
  intro H enc w base spare held fuel cs x hx
  obtain ⟨xs, n, _, rfl, hl, hlen, hf⟩ := DataW.trod_struct ht hx
  obtain ⟨a, h1, h2⟩ := h enc w base spare held n cs (fun f hm => by
    obtain ⟨j, hj, rfl⟩ := List.getElem_of_mem hm
    have := hf j fs.toList[j] (by rw [← Array.getElem?_toList]; exact List.getElem?_eq_getElem hj)
    rw [Array.length_toList] at hj
    rw [List.getElem?_eq_getElem (by omega)] at this
    exact ⟨_, this⟩) (by omega)
  exact ⟨a, by simpa using h1, h2⟩

end Go.Proofs.Yteciockojllonaa.Read
