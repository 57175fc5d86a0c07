/-
Tokens: what the program tells of a place, and of a whole source; what the reference says of blanks.
-/
import Derived.Test.YticelgnmcjkknaaLexC
set_option linter.unusedVariables false
set_option linter.unusedSimpArgs false
set_option maxRecDepth 100000
namespace Go.Proofs.Yticelgnmcjkknaa.M
open Go Go.Proofs.Yticelgnmcjkknaa.Vm Go.Proofs.Yticelgnmcjkknaa.Pl
namespace Lex
theorem blank137 (k : Nat) (c : Int) : f137 k c = some ((blk c, ()), ()) := by
  unfold f137 blk
  cases c == 32 <;> cases c == 9 <;> cases c == 10 <;> rfl
theorem drop_at {b : List Int} {i : Nat} {c : Int} {r : List Int} (h : b.drop i = c :: r) : i < b.length ∧ b[i]? = some c ∧ b.drop (i + 1) = r := by
  have hlt : i < b.length := by
    rcases Nat.lt_or_ge i b.length with h' | h'
    · exact h'
    · rw [List.drop_of_length_le h'] at h; cases h
  rw [List.drop_eq_getElem_cons hlt] at h
  injection h with h1 h2
  exact ⟨hlt, by rw [List.getElem?_eq_getElem hlt, h1], h2⟩
theorem w_add {i : Nat} (h : i ≤ 1000000000) (n : Nat) (hn : n ≤ 1000000000) : w64 ((i : Int) + (n : Int)) = ((i + n : Nat) : Int) := by rw [w_id (by omega) (by omega)]; omega
theorem w_one {i : Nat} (h : i ≤ 1000000000) : w64 ((i : Int) + 1) = ((i + 1 : Nat) : Int) := by rw [w_id (by omega) (by omega)]; omega
/-! ### blanks -/
theorem st_skip {c : Int} {r : List Int} (hc : c ≠ 35) (hb : blk c = true) : st false (c :: r) = 1 + st false r := by
  show (if c = 35 then 1 + st true r else if blk c = true then 1 + st false r else 0) = _
  rw [if_neg hc, if_pos hb]
theorem note95 (k : Nat) {b : List Int} (hb : b.length ≤ 1000000) : ∀ (d i : Nat), b.length - i = d → ∀ j, d < j → l95_6300 k j b i = some ((((i + ((b.drop i).takeWhile (fun c => c != 10)).length : Nat) : Int), ()), ()) := by
  intro d
  induction d with
  | zero =>
    intro i hi j hj
    obtain ⟨j, rfl, _⟩ := succ_of (n := 0) (by omega : 0 + 1 ≤ j)
    show b95_6300 k (l95_6300 k j) b i = _
    unfold b95_6300
    rw [decide_eq_false (by omega : ¬ (i : Int) < b.length), List.drop_of_length_le (by omega)]; rfl
  | succ d ih =>
    intro i hi j hj
    obtain ⟨j, rfl, hj2⟩ := succ_of (by omega : d + 1 + 1 ≤ j)
    show b95_6300 k (l95_6300 k j) b i = _
    have hlt : i < b.length := by omega
    have hx : b[i]? = some b[i] := List.getElem?_eq_getElem hlt
    unfold b95_6300
    rw [decide_eq_true (by omega : (i : Int) < b.length), cond_true, ix_nat hx, w_one (by omega), ih (i + 1) (by omega) j hj2, List.drop_eq_getElem_cons hlt, List.takeWhile_cons]
    cases h : (b[i] != 10) with
    | false => rfl
    | true =>
      simp only [cond_true, Option.bind_some, if_true, List.length_cons]
      congr 4; omega
theorem skip_loop (k : Nat) {b : List Int} (hb : b.length ≤ 1000000) (hk : b.length < k) : ∀ (d i : Nat), b.length - i ≤ d → i ≤ b.length → ∀ j, d < j →
    l95_12 k j b i = some (.inl ((((i + st false (b.drop i) : Nat) : Int), ()), ())) ∨ l95_12 k j b i = some (.inr ((((i + st false (b.drop i) : Nat) : Int), ()), ())) := by
  intro d
  induction d with
  | zero =>
    intro i hi hib j hj
    obtain ⟨j, rfl, _⟩ := succ_of (n := 0) (by omega : 0 + 1 ≤ j)
    refine .inl ?_
    show b95_12 k (l95_12 k j) b i = _
    unfold b95_12
    rw [decide_eq_false (by omega : ¬ (i : Int) < b.length), List.drop_of_length_le (by omega)]; rfl
  | succ d ih =>
    intro i hi hib j hj
    obtain ⟨j, rfl, hj2⟩ := succ_of (by omega : d + 1 + 1 ≤ j)
    have e0 : l95_12 k (j + 1) b i = b95_12 k (l95_12 k j) b i := rfl
    rw [e0]
    cases hd : b.drop i with
    | nil =>
      refine .inl ?_
      have : b.length ≤ i := by
        have := congrArg List.length hd
        rw [List.length_drop, List.length_nil] at this; omega
      unfold b95_12
      rw [decide_eq_false (by omega : ¬ (i : Int) < b.length)]; rfl
    | cons c r =>
      obtain ⟨hlt, hx, hr⟩ := drop_at hd
      unfold b95_12
      rw [decide_eq_true (by omega : (i : Int) < b.length), cond_true, ix_nat hx, blank137]
      simp only [Option.bind_some]
      cases hbl : blk c with
      | true =>
        have hc : c ≠ 35 := by rintro rfl; exact absurd hbl (by decide)
        have es := st_skip (r := r) hc hbl
        rw [cond_true, w_one (by omega), es]
        have e1 : i + (1 + st false r) = i + 1 + st false (b.drop (i + 1)) := by rw [hr]; omega
        rw [e1]
        rcases ih (i + 1) (by omega) (by omega) j hj2 with h | h
        · rw [h]; exact .inl rfl
        · rw [h]; exact .inr rfl
      | false =>
        rw [cond_false, ix_nat hx]
        by_cases hc : c = 35
        · subst hc
          have en : ((35 : Int) == 35) = true := by decide
          have hq := note95 k hb (b.length - i) i rfl k (by omega)
          rw [hd, List.takeWhile_cons] at hq
          have e10 : ((35 : Int) != 10) = true := by decide
          rw [e10, if_pos rfl, List.length_cons] at hq
          have hle : (r.takeWhile (fun c => c != 10)).length ≤ r.length := tw_le _ r
          have hrl : r.length = b.length - (i + 1) := by rw [← hr, List.length_drop]
          rw [en, cond_true, hq]
          simp only [Option.bind_some]
          have es : st false (35 :: r) = 1 + st true r := by
            show (if (35 : Int) = 35 then 1 + st true r else if blk 35 = true then 1 + st false r else 0) = _
            rw [if_pos rfl]
          have hdr : b.drop (i + ((r.takeWhile (fun c => c != 10)).length + 1)) = r.drop (r.takeWhile (fun c => c != 10)).length := by
            rw [← hr, List.drop_drop]; congr 1; omega
          have e1 : i + st false (35 :: r) = i + ((r.takeWhile (fun c => c != 10)).length + 1) + st false (b.drop (i + ((r.takeWhile (fun c => c != 10)).length + 1))) := by
            rw [es, st_note r, hdr]; omega
          rw [e1]
          rcases ih (i + ((r.takeWhile (fun c => c != 10)).length + 1)) (by omega) (by omega) j hj2 with h | h
          · rw [h]; exact .inl rfl
          · rw [h]; exact .inr rfl
        · have en : (c == 35) = false := by simp [hc]
          rw [en, cond_false, st_zero hc hbl]
          exact .inr rfl
theorem skip95 (k : Nat) {b : List Int} (hb : b.length ≤ 1000000) (hk : b.length < k) {i : Nat} (hi : i ≤ b.length) : f95 k b i = some ((((i + st false (b.drop i) : Nat) : Int), ()), ()) := by
  unfold f95
  rcases skip_loop k hb hk (b.length - i) i (by omega) hi k (by omega) with h | h
  · rw [h]; rfl
  · rw [h]; rfl
theorem stop7260 (k : Nat) (c : Int) : l16_7260 k true c = some ((false, ()), ()) ∧ l16_7260 k false c = some ((!blk c, ()), ()) := by
  refine ⟨rfl, ?_⟩
  unfold l16_7260 blk bne
  cases c == 32 <;> cases c == 9 <;> cases c == 10 <;> rfl
theorem start_loop (k : Nat) {b : List Int} (hb : b.length ≤ 1000000) : ∀ (d i : Nat) (n : Bool), b.length - i = d → i ≤ b.length → ∀ j, d < j →
    l16_28 k j b i n = some (.inl ((((i + st n (b.drop i) : Nat) : Int), ()), ())) ∨ l16_28 k j b i n = some (.inr ((((i + st n (b.drop i) : Nat) : Int), ()), ())) := by
  intro d
  induction d with
  | zero =>
    intro i n hi hib j hj
    obtain ⟨j, rfl, _⟩ := succ_of (n := 0) (by omega : 0 + 1 ≤ j)
    refine .inl ?_
    show b16_28 k (l16_28 k j) b i n = _
    unfold b16_28
    rw [decide_eq_false (by omega : ¬ (i : Int) < b.length), List.drop_of_length_le (by omega)]
    cases n <;> rfl
  | succ d ih =>
    intro i n hi hib j hj
    obtain ⟨j, rfl, hj2⟩ := succ_of (by omega : d + 1 + 1 ≤ j)
    have e0 : l16_28 k (j + 1) b i n = b16_28 k (l16_28 k j) b i n := rfl
    rw [e0]
    have hlt : i < b.length := by omega
    have hd := List.drop_eq_getElem_cons hlt
    generalize b[i] = c at hd
    obtain ⟨_, hx, _⟩ := drop_at hd
    generalize hr : b.drop (i + 1) = r at hd
    have next : ∀ n' : Bool, st n (c :: r) = 1 + st n' r → (l16_28 k j b ((i + 1 : Nat) : Int) n').bind (fun y4 => match y4 with | .inl y4_0 => some (.inl ((y4_0.1.1, ()), ())) | .inr y4_1 => some (.inr ((y4_1.1.1, ()), ()))) = (some (.inl ((((i + st n (c :: r) : Nat) : Int), ()), ())) : Option R16_28) ∨
        (l16_28 k j b ((i + 1 : Nat) : Int) n').bind (fun y4 => match y4 with | .inl y4_0 => some (.inl ((y4_0.1.1, ()), ())) | .inr y4_1 => some (.inr ((y4_1.1.1, ()), ()))) = (some (.inr ((((i + st n (c :: r) : Nat) : Int), ()), ())) : Option R16_28) := by
      intro n' hs
      have e1 : i + st n (c :: r) = i + 1 + st n' (b.drop (i + 1)) := by rw [hs, hr]; omega
      rw [e1]
      rcases ih (i + 1) n' (by omega) (by omega) j hj2 with h | h
      · rw [h]; exact .inl rfl
      · rw [h]; exact .inr rfl
    rw [hd]
    unfold b16_28 l16_1814 l16_3628
    rw [decide_eq_true (by omega : (i : Int) < b.length), cond_true, ix_nat hx, w_one (by omega)]
    by_cases hc : c = 35
    · subst hc
      have e35 : ((35 : Int) == 35) = true := by decide
      have e10 : ((35 : Int) == 10) = false := by decide
      rw [e35, e10]
      simp only [cond_true, Option.bind_some, cond_false]
      rw [(stop7260 k 35).1]
      simp only [Option.bind_some, cond_false]
      refine next true ?_
      cases n
      · show (if (35 : Int) = 35 then 1 + st true r else if blk 35 = true then 1 + st false r else 0) = _
        rw [if_pos rfl]
      · show (if (35 : Int) = 10 then 1 + st false r else 1 + st true r) = _
        rw [if_neg (by decide)]
    · have e35 : (c == 35) = false := by simp [hc]
      rw [e35]
      simp only [cond_false, Option.bind_some]
      by_cases h10 : c = 10
      · subst h10
        have e10 : ((10 : Int) == 10) = true := by decide
        have eb : blk 10 = true := by decide
        rw [e10]
        simp only [cond_true, Option.bind_some]
        rw [(stop7260 k 10).2, eb]
        simp only [Option.bind_some, Bool.not_true, cond_false]
        refine next false ?_
        cases n
        · show (if (10 : Int) = 35 then 1 + st true r else if blk 10 = true then 1 + st false r else 0) = _
          rw [if_neg (by decide), if_pos eb]
        · show (if (10 : Int) = 10 then 1 + st false r else 1 + st true r) = _
          rw [if_pos rfl]
      · have e10 : (c == 10) = false := by simp [h10]
        rw [e10]
        simp only [cond_false, Option.bind_some]
        cases n with
        | true =>
          rw [(stop7260 k c).1]
          simp only [Option.bind_some, cond_false]
          refine next true ?_
          show (if c = 10 then 1 + st false r else 1 + st true r) = _
          rw [if_neg h10]
        | false =>
          rw [(stop7260 k c).2]
          simp only [Option.bind_some]
          cases hbl : blk c with
          | true =>
            simp only [Bool.not_true, cond_false]
            refine next false ?_
            exact st_skip hc hbl
          | false =>
            simp only [Bool.not_false, cond_true]
            rw [st_zero hc hbl]
            exact .inr rfl
theorem start16 (k : Nat) {b : List Int} (hb : b.length ≤ 1000000) (hk : b.length < k) {i : Nat} (hi : i ≤ b.length) : f16 k b i = some ((((i + st false (b.drop i) : Nat) : Int), ()), ()) := by
  unfold f16
  rcases start_loop k hb (b.length - i) i false rfl hi k (by omega) with h | h
  · rw [h]; rfl
  · rw [h]; rfl

/-! ### one token -/
def two (c d : Int) : Bool := Lib.contains s_22.data.toList (((ByteArray.mk #[32]) ++ strOfNums [c, d]) ++ (ByteArray.mk #[32])).data.toList
def ones (c : Int) : Bool := !decide (Lib.indexByte s_23.data.toList c.toNat.toUInt8 < 0)
theorem mm_min (a b : Int) : minmax false a b = min a b := by unfold minmax; simp only [Bool.false_eq_true, if_false]; split <;> omega
theorem digit_u8 {e : Int} (h : dg e = true) : w64 (IntKind.u8.wrap (e - 48)) = e - 48 ∧ 0 ≤ e - 48 ∧ e - 48 ≤ 9 := by
  unfold dg at h
  obtain ⟨h1, h2⟩ := Bool.and_eq_true_iff.1 h
  have h1 := of_decide_eq_true h1
  have h2 := of_decide_eq_true h2
  have : IntKind.u8.wrap (e - 48) = e - 48 := by
    simp [IntKind.wrap, IntKind.signed, IntKind.bits]
    omega
  rw [this, w_id (by omega) (by omega)]
  exact ⟨rfl, by omega, by omega⟩
theorem num_loop (k : Nat) {b : List Int} (hb : b.length ≤ 1000000) : ∀ (d i : Nat) (n : Int), b.length - i = d → 0 ≤ n → n ≤ 65536 → ∀ j, d < j →
    l97_60 k j b i n = some ((((i + ((b.drop i).takeWhile dg).length : Nat) : Int), numL n ((b.drop i).takeWhile dg), ()), ()) := by
  intro d
  induction d with
  | zero =>
    intro i n hi h0 h1 j hj
    obtain ⟨j, rfl, _⟩ := succ_of (n := 0) (by omega : 0 + 1 ≤ j)
    show b97_60 k (l97_60 k j) b i n = _
    unfold b97_60
    rw [decide_eq_false (by omega : ¬ (i : Int) < b.length), List.drop_of_length_le (by omega)]; rfl
  | succ d ih =>
    intro i n hi h0 h1 j hj
    obtain ⟨j, rfl, hj2⟩ := succ_of (by omega : d + 1 + 1 ≤ j)
    show b97_60 k (l97_60 k j) b i n = _
    have hlt : i < b.length := by omega
    have hx : b[i]? = some b[i] := List.getElem?_eq_getElem hlt
    unfold b97_60
    rw [decide_eq_true (by omega : (i : Int) < b.length), cond_true, ix_nat hx, f96_eq, ix_nat hx, List.drop_eq_getElem_cons hlt, List.takeWhile_cons]
    simp only [Option.bind_some]
    cases h : dg b[i] with
    | false => rfl
    | true =>
      obtain ⟨u1, u2, u3⟩ := digit_u8 h
      have e1 : minmax false 65536 (w64 (w64 (10 * n) + w64 (IntKind.u8.wrap (b[i] - 48)))) = min 65536 (10 * n + (b[i] - 48)) := by
        rw [mm_min, u1, w_id (n := 10 * n) (by omega) (by omega), w_id (by omega) (by omega)]
      simp only [cond_true, if_true]
      rw [e1, w_one (by omega), ih (i + 1) _ (by omega) (by omega) (by omega) j hj2]
      simp only [Option.bind_some, List.length_cons, numL]
      congr 4; omega
/-- What is told of a place, and what it is. -/
def Tells (b : List Int) (p : Nat) (y : D_Token × Int × Unit) : Prop := match tokS two ones (b.drop p) with
  | some (kd, n, v) => y = ((kd, (p : Int), strOfNums ((b.drop p).take n), v, ()), 0, ())
  | none => y.2.1 ≠ 0
theorem cut_text {b : List Int} {p n : Nat} : (b.take (p + n)).drop p = (b.drop p).take n := by
  rw [List.drop_take]; congr 1; omega
theorem number97 (k : Nat) {b : List Int} (hb : b.length ≤ 1000000) (hk : b.length < k) {p : Nat} {c : Int} {r : List Int} (hd : b.drop p = c :: r) (hc : dg c = true) : ∃ y, f97 k b p = some (y, ()) ∧ Tells b p y := by
  obtain ⟨hlt, hx, hr⟩ := drop_at hd
  have hl := num_loop k hb (b.length - p) p 0 rfl (by omega) (by omega) k (by omega)
  have hle : ((b.drop p).takeWhile dg).length ≤ b.length - p := by have := tw_le dg (b.drop p); rw [List.length_drop] at this; exact this
  generalize hds : (b.drop p).takeWhile dg = ds at hl hle
  have hnext : (cond (decide (((p + ds.length : Nat) : Int) < (b.length : Int))) (ix b ((p + ds.length : Nat) : Int) fun e4 => (f57 k e4).bind fun y5 => (some ((y5.1.1, ()), ()) : Option R97_248)) (some ((false, ()), ()))) = some ((hdB lt ((b.drop p).drop ds.length), ()), ()) := by
    rw [List.drop_drop]
    cases hq : b.drop (p + ds.length) with
    | nil =>
      have : b.length ≤ p + ds.length := by
        have := congrArg List.length hq
        rw [List.length_drop, List.length_nil] at this; omega
      rw [decide_eq_false (by omega)]; rfl
    | cons q s =>
      obtain ⟨q1, q2, _⟩ := drop_at hq
      rw [decide_eq_true (by omega), cond_true, ix_nat q2, f57_eq]; rfl
  have h248 : l97_248 k b p ((p + ds.length : Nat) : Int) = some ((((decide (c = 48) && decide (1 < ds.length)) || hdB lt ((b.drop p).drop ds.length), ()), ())) := by
    unfold l97_248
    rw [ix_nat hx, hnext]
    by_cases h48 : c = 48
    · have e : (c == 48) = true := by simp [h48]
      rw [e, decide_eq_true h48, cond_true, w_one (by omega)]
      by_cases h1 : 1 < ds.length
      · rw [decide_eq_true (by omega : ((p + ds.length : Nat) : Int) > ((p + 1 : Nat) : Int)), decide_eq_true h1]; rfl
      · rw [decide_eq_false (by omega : ¬ ((p + ds.length : Nat) : Int) > ((p + 1 : Nat) : Int)), decide_eq_false h1]; rfl
    · have e : (c == 48) = false := by simp [h48]
      rw [e, decide_eq_false h48]; rfl
  unfold f97
  rw [hl]
  simp only [Option.bind_some]
  rw [h248]
  simp only [Option.bind_some]
  have htok : tokS two ones (b.drop p) = if ((decide (c = 48) && decide (1 < ds.length)) || hdB lt ((b.drop p).drop ds.length)) = true then none else if 65535 < numL 0 ds then none else some (2, ds.length, numL 0 ds) := by
    rw [← hds, hd, tok_dg hc]
  unfold Tells
  rw [htok]
  cases ((decide (c = 48) && decide (1 < ds.length)) || hdB lt ((b.drop p).drop ds.length)) with
  | true => exact ⟨_, rfl, by simp⟩
  | false =>
    simp only [cond_false, Bool.false_eq_true, if_false]
    unfold l97_998
    simp only [Option.bind_some]
    by_cases hn : 65535 < numL 0 ds
    · rw [decide_eq_true (by omega : numL 0 ds > 65535), if_pos hn]
      exact ⟨_, rfl, by simp⟩
    · rw [decide_eq_false (by omega : ¬ numL 0 ds > 65535), if_neg hn, cond_false]
      rw [gd_dec (by omega), gd_dec (by omega), gd_dec (by omega), gd_dec (by omega)]
      refine ⟨_, rfl, ?_⟩
      rw [show (((p + ds.length : Nat) : Int)).toNat = p + ds.length by omega, show ((p : Nat) : Int).toNat = p by omega, cut_text]
theorem one98 (k : Nat) {b : List Int} (hb : b.length ≤ 1000000) {p : Nat} {c : Int} (hx : b[p]? = some c) (hlt : p < b.length) :
    (ix b (p : Int) fun e4 =>
      (f54 k s_23 e4).bind fun y5 =>
      cond (decide (y5.1.1 < 0))
        (some (((0, (p : Int), ByteArray.empty, 0, ()), 2, ()), ()))
        (gd (decide (0 ≤ (w64 ((p : Int) + 1)))) <|
        gd (decide ((w64 ((p : Int) + 1)).toNat ≤ b.length)) <|
        gd (decide (0 ≤ (p : Int))) <|
        gd (decide ((p : Int).toNat ≤ (w64 ((p : Int) + 1)).toNat)) <|
        (some (((3, (p : Int), (strOfNums ((b.take (w64 ((p : Int) + 1)).toNat).drop (p : Int).toNat)), 0, ()), 0, ()), ()) : Option R98))) =
    if ones c = true then some (((3, (p : Int), strOfNums ((b.drop p).take 1), 0, ()), 0, ()), ()) else some (((0, (p : Int), ByteArray.empty, 0, ()), 2, ()), ()) := by
  rw [ix_nat hx]
  unfold f54 ones
  simp only [Option.bind_some]
  rw [w_one (by omega)]
  by_cases h : Lib.indexByte s_23.data.toList c.toNat.toUInt8 < 0
  · rw [decide_eq_true h]; rfl
  · rw [decide_eq_false h, gd_dec (by omega), gd_dec (by omega), gd_dec (by omega), gd_dec (by omega)]
    rw [show (((p + 1 : Nat) : Int)).toNat = p + 1 by omega, show ((p : Nat) : Int).toNat = p by omega, cut_text]
    rfl
theorem sign98 (k : Nat) {b : List Int} (hb : b.length ≤ 1000000) (hr8 : ∀ x ∈ b, 0 ≤ x ∧ x ≤ 255) {p : Nat} {c : Int} {r : List Int} (hd : b.drop p = c :: r) (hc : dg c = false) (hl : lt c = false) (h32 : c ≠ 32) : ∃ y, f98 k b p = some (y, ()) ∧ Tells b p y := by
  obtain ⟨hlt, hx, hr⟩ := drop_at hd
  have hone := one98 k hb hx hlt
  unfold f98
  rw [hone]
  have fin : ∀ htok : tokS two ones (b.drop p) = if ones c = true then some (3, 1, 0) else none, ∃ y, (if ones c = true then some (((3, (p : Int), strOfNums ((b.drop p).take 1), 0, ()), 0, ()), ()) else some (((0, (p : Int), ByteArray.empty, 0, ()), 2, ()), ()) : Option R98) = some (y, ()) ∧ Tells b p y := by
    intro htok
    unfold Tells
    rw [htok]
    by_cases ho : ones c = true
    · rw [if_pos ho, if_pos ho]; exact ⟨_, rfl, rfl⟩
    · rw [if_neg ho, if_neg ho]; exact ⟨_, rfl, by simp⟩
  have e2 : w64 ((p : Int) + 2) = ((p + 2 : Nat) : Int) := by rw [w_id (by omega) (by omega)]; omega
  rw [e2]
  cases r with
  | nil =>
    have hlen : b.length = p + 1 := by
      have := congrArg List.length hd
      rw [List.length_drop] at this; simp at this; omega
    rw [decide_eq_false (by omega : ¬ ((p + 2 : Nat) : Int) ≤ (b.length : Int)), cond_false]
    refine fin ?_
    rw [hd, tok_sg hc hl]; rfl
  | cons d r' =>
    obtain ⟨hlt2, hx2, _⟩ := drop_at hr
    have htake : (b.take (p + 2)).drop p = [c, d] := by rw [cut_text, hd]; rfl
    have hs0 : ∀ {R : Type} {K : Int → Option R}, ixs (strOfNums [c, d]) 0 K = K c := by
      intro R K
      have h1 := hr8 c (List.mem_of_getElem? hx)
      have h2 : (L (strOfNums [c, d]))[0]? = some (UInt8.ofNat c.toNat) := rfl
      have := ixs_nat (K := K) h2
      rw [show ((0 : Nat) : Int) = 0 from rfl] at this
      rw [this, UInt8.toNat_ofNat', show ((c.toNat % 2 ^ 8 : Nat) : Int) = c by omega]
    have hs1 : ∀ {R : Type} {K : Int → Option R}, ixs (strOfNums [c, d]) 1 K = K d := by
      intro R K
      have h1 := hr8 d (List.mem_of_getElem? hx2)
      have h2 : (L (strOfNums [c, d]))[1]? = some (UInt8.ofNat d.toNat) := rfl
      have := ixs_nat (K := K) h2
      rw [show ((1 : Nat) : Int) = 1 from rfl] at this
      rw [this, UInt8.toNat_ofNat', show ((d.toNat % 2 ^ 8 : Nat) : Int) = d by omega]
    have h106 : l98_106 k (strOfNums [c, d]) = some ((decide (d ≠ 32) && two c d, ()), ()) := by
      unfold l98_106
      rw [hs0]
      have n32 : (c != 32) = true := by simp [h32]
      rw [n32, cond_true, hs1]
      by_cases hd32 : d = 32
      · have : (d != 32) = false := by simp [hd32]
        rw [this, cond_false, show decide (d ≠ 32) = false by simp [hd32]]; rfl
      · have : (d != 32) = true := by simp [hd32]
        rw [this, cond_true, show decide (d ≠ 32) = true by simp [hd32]]
        have z0 : (strOfNums [c, d]).size = 2 := rfl
        have z1 : (ByteArray.mk #[32]).size = 1 := rfl
        have z2 : ((ByteArray.mk #[32]) ++ strOfNums [c, d]).size = 3 := by rw [ByteArray.size_append]; rfl
        rw [z2, z1, z0, gd_dec (by omega), gd_dec (by omega)]
        unfold f55
        rw [gd_dec (by decide +kernel)]
        rfl
    rw [decide_eq_true (by omega : ((p + 2 : Nat) : Int) ≤ (b.length : Int)), cond_true, gd_dec (by omega), gd_dec (by omega), gd_dec (by omega), gd_dec (by omega)]
    rw [show (((p + 2 : Nat) : Int)).toNat = p + 2 by omega, show ((p : Nat) : Int).toNat = p by omega, htake, h106]
    simp only [Option.bind_some]
    have htok : tokS two ones (b.drop p) = if c ≠ 32 ∧ d ≠ 32 ∧ two c d = true then some (3, 2, 0) else if ones c then some (3, 1, 0) else none := by
      rw [hd, tok_sg hc hl]; rfl
    cases ht : (decide (d ≠ 32) && two c d) with
    | true =>
      obtain ⟨t1, t2⟩ := Bool.and_eq_true_iff.1 ht
      rw [cond_true]
      refine ⟨_, rfl, ?_⟩
      unfold Tells
      rw [htok, if_pos ⟨h32, of_decide_eq_true t1, t2⟩, hd]; rfl
    | false =>
      rw [cond_false]
      refine fin ?_
      rw [htok, if_neg]
      rintro ⟨_, t1, t2⟩
      rw [decide_eq_true t1, t2] at ht; cases ht
/-- What is told of any place: the end, or a token. -/
theorem next53 (k : Nat) {b : List Int} (hb : b.length ≤ 1000000) (hk : b.length < k) (hr8 : ∀ x ∈ b, 0 ≤ x ∧ x ≤ 255) {i : Nat} (hi : i ≤ b.length) :
    ∃ y, f53 k b i = some (y, ()) ∧ (match b.drop (i + st false (b.drop i)) with
      | [] => y = ((4, ((i + st false (b.drop i) : Nat) : Int), ByteArray.empty, 0, ()), 0, ())
      | _ :: _ => Tells b (i + st false (b.drop i)) y) := by
  have hle : st false (b.drop i) ≤ b.length - i := by have := st_le false (b.drop i); rw [List.length_drop] at this; exact this
  have hhd := st_head false (b.drop i)
  rw [List.drop_drop] at hhd
  unfold f53
  rw [decide_eq_false (by omega : ¬ (i : Int) < 0), decide_eq_false (by omega : ¬ (i : Int) > (b.length : Int)), cond_false, cond_false, skip95 k hb hk hi]
  simp only [Option.bind_some]
  have hpb : i + st false (b.drop i) ≤ b.length := by omega
  generalize i + st false (b.drop i) = p at hhd hpb
  cases hd : b.drop p with
  | nil =>
    have hpl : b.length ≤ p := by
      have := congrArg List.length hd
      rw [List.length_drop, List.length_nil] at this; omega
    have e : ((p : Int) == (b.length : Int)) = true := by rw [beq_int, decide_eq_true (by omega)]
    rw [e, cond_true]
    exact ⟨_, rfl, rfl⟩
  | cons c r =>
    obtain ⟨hlt, hx, hr⟩ := drop_at hd
    obtain ⟨q1, q2⟩ := hhd c r hd
    have h32 : c ≠ 32 := by rintro rfl; exact absurd q2 (by decide)
    have e : ((p : Int) == (b.length : Int)) = false := by rw [beq_int, decide_eq_false (by omega)]
    rw [e, cond_false, ix_nat hx, f96_eq]
    simp only [Option.bind_some]
    cases hc : dg c with
    | true =>
      obtain ⟨y, h1, h2⟩ := number97 k hb hk hd hc
      rw [cond_true, h1]
      exact ⟨y, rfl, h2⟩
    | false =>
      rw [cond_false, ix_nat hx, f57_eq]
      simp only [Option.bind_some]
      cases hl : lt c with
      | false =>
        obtain ⟨y, h1, h2⟩ := sign98 k hb hr8 hd hc hl h32
        rw [Bool.not_false, cond_true, h1]
        exact ⟨y, rfl, h2⟩
      | true =>
        have hrun := run58 k b (by omega) hk (i := p) (by omega)
        unfold runS at hrun
        have htw : ((b.drop p).takeWhile ld).length ≤ b.length - p := by have := tw_le ld (b.drop p); rw [List.length_drop] at this; exact this
        rw [Bool.not_true, cond_false, hrun]
        simp only [Option.bind_some]
        have htok : tokS two ones (b.drop p) = if 12 < ((b.drop p).takeWhile ld).length then none else some (1, ((b.drop p).takeWhile ld).length, 0) := by
          rw [hd, tok_lt hc hl]
        unfold Tells
        rw [htok]
        generalize ((b.drop p).takeWhile ld).length = n at htw
        have e1 : w64 (((p + n : Nat) : Int) - (p : Int)) = ((n : Nat) : Int) := by rw [w_id (by omega) (by omega)]; omega
        rw [e1]
        by_cases hn : 12 < n
        · rw [decide_eq_true (by omega : ((n : Nat) : Int) > 12), if_pos hn]
          exact ⟨_, rfl, by simp⟩
        · rw [decide_eq_false (by omega : ¬ ((n : Nat) : Int) > 12), if_neg hn, cond_false, gd_dec (by omega), gd_dec (by omega), gd_dec (by omega), gd_dec (by omega)]
          refine ⟨_, rfl, ?_⟩
          rw [show (((p + n : Nat) : Int)).toNat = p + n by omega, show ((p : Nat) : Int).toNat = p by omega, cut_text]
end Lex
end Go.Proofs.Yticelgnmcjkknaa.M
