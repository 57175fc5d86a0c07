/-
The theorem of signs: the plain law. For every input, no condition.
-/
import Derived.Test.YtepfhidiahleiaaVecS
import Derived.Test.YtepfhidiahleiaaTm
set_option linter.unusedVariables false
set_option linter.unusedSimpArgs false
set_option maxRecDepth 100000
namespace Go.Proofs.Ytepfhidiahleiaa.M
open Go Go.Proofs.Ytepfhidiahleiaa.Vm Go.Proofs.Ytepfhidiahleiaa.Pl
namespace Wrd
open Aig Vec Term
theorem awake8 (k : Nat) : f8 (k + 30) () = some ((true, ()), ()) := by kernel_rfl
theorem awake8E : E fun k => f8 k () = some ((true, ()), ()) := ⟨30, fun k hk => by obtain ⟨j, rfl⟩ : ∃ j, k = j + 30 := ⟨k - 30, by omega⟩; exact awake8 j⟩
theorem and1 (x : Int) : ibits .and .i64 x 1 = x % 2 := by
  have e1 : (BitVec.ofInt 64 x &&& BitVec.ofInt 64 1).toNat = (x % 2).toNat := by
    rw [BitVec.toNat_and]
    have h1 : (BitVec.ofInt 64 1).toNat = 1 := rfl
    rw [h1, Nat.and_one_is_mod, BitVec.toNat_ofInt]
    omega
  show IntKind.i64.wrap ((BitVec.ofInt 64 x &&& BitVec.ofInt 64 1).toNat : Int) = _
  rw [e1]
  have := w64_id (n := (((x % 2).toNat : Nat) : Int)) (by omega) (by omega)
  unfold w64 at this
  rw [this]; omega
theorem two_pos (i : Nat) : (0 : Int) < 2 ^ i := Int.pow_pos (by decide)
/-- A number's bits, as literals. -/
def litsB : Nat → Int → List Int
  | 0, _ => []
  | d + 1, n => (n % 2) :: litsB d (n / 2)
theorem litsB_len : ∀ (d : Nat) (n : Int), (litsB d n).length = d
  | 0, _ => rfl
  | d + 1, n => by rw [litsB, List.length_cons, litsB_len d]
theorem litsB_word {ins : List Bool} {g : List D_Gate} : ∀ (d : Nat) (n : Int), Word ins g (litsB d n) (bitsB d n)
  | 0, _ => Word.nil
  | d + 1, n => by
    have ih : Word ins g (litsB d (n / 2)) (bitsB d (n / 2)) := litsB_word d (n / 2)
    rcases (by omega : n % 2 = 0 ∨ n % 2 = 1) with h | h
    · refine ⟨fun x hx => ?_, ?_⟩
      · rw [litsB] at hx
        rcases List.mem_cons.1 hx with rfl | hx
        · rw [h]; exact isL_iff.2 (by omega)
        · exact ih.lit x hx
      · rw [litsB, bitsB, List.map_cons, ih.val, h, val_zero]; rfl
    · refine ⟨fun x hx => ?_, ?_⟩
      · rw [litsB] at hx
        rcases List.mem_cons.1 hx with rfl | hx
        · rw [h]; exact isL_iff.2 (by omega)
        · exact ih.lit x hx
      · rw [litsB, bitsB, List.map_cons, ih.val, h, val_one]; rfl
theorem const_loop (k : Nat) (n : Int) {w : Nat} (hw : w ≤ 16) : ∀ (d i : Nat) (a : List Int), w - i = d → a.length = i → i ≤ w → ∀ j, d < j → l29v2_122 k j n a w i = some ((a ++ litsB d (n / 2 ^ i), ()), ()) := by
  intro d
  induction d with
  | zero =>
    intro i a hi ha hiw j hj
    obtain ⟨j, rfl, _⟩ := succ_of (n := 0) (by omega : 0 + 1 ≤ j)
    show b29v2_122 k (l29v2_122 k j) n a w i = _
    unfold b29v2_122
    rw [decide_eq_false (by omega : ¬ (i : Int) < w)]
    simp [litsB]
  | succ d ih =>
    intro i a hi ha hiw j hj
    obtain ⟨j, rfl, hj2⟩ := succ_of (by omega : d + 1 + 1 ≤ j)
    show b29v2_122 k (l29v2_122 k j) n a w i = _
    have hw1 : w64 ((i : Int) + 1) = ((i + 1 : Nat) : Int) := by rw [w64_id (by omega) (by omega)]; omega
    have hmin : min ((i : Int).toNat) 64 = i := by omega
    have hdd : n / 2 ^ (i + 1) = n / 2 ^ i / 2 := by rw [Int.pow_succ, Int.ediv_ediv_of_nonneg (Int.le_of_lt (two_pos i))]
    unfold b29v2_122
    rw [decide_eq_true (by omega : (i : Int) < w), cond_true, decide_eq_false (by omega : ¬ (i : Int) < 0), cond_false, gd_dec (by unfold room; omega), hw1, hmin, and1, Int.fdiv_eq_ediv_of_nonneg _ (Int.le_of_lt (two_pos i)),
      ih (i + 1) _ (by omega) (by simp; omega) (by omega) j hj2, Option.bind_some, List.append_assoc, hdd]
    rfl
theorem const29 (k : Nat) (n : Int) {w : Nat} (h1 : 1 ≤ w) (hw : w ≤ 16) (hk : 16 < k) : f29v2 k n w = some ((litsB w n, ()), ()) := by
  unfold f29v2
  have := const_loop k n hw w 0 [] (by omega) rfl (by omega) k (by omega)
  rw [show ((0 : Nat) : Int) = 0 from rfl] at this
  rw [decide_eq_false (by omega : ¬ (w : Int) < 1), decide_eq_false (by omega : ¬ (w : Int) > 16), cond_false, cond_false, this]
  simp
/-- A word over no graph is its number. -/
theorem word_num (k : Nat) (hk : 20 < k) {g : List D_Gate} (hv : Valid g) {out : List Int} {w : Nat} (hw : w ≤ 8) {v : Int} (h : Word [] g out (bitsB w v)) : out.length = w ∧ f36 k [] out = some ((v % 2 ^ w, ()), ()) := by
  have hg := hv.1
  subst hg
  have hl : out.length = w := by rw [h.len, bitsB_len]
  refine ⟨hl, ?_⟩
  have e : out.map (value []) = bitsB w v := h.val
  rw [number43 k hk (by omega) fun x hx => lit_i64 (g := []) (by simp) (h.lit x hx), e, num_bits]
/-! ### signs -/
theorem f24_none (k : Nat) {op : ByteArray} (hm : op.toList ∉ signs) (w a b : Int) : f24 k w op a b = some ((0, ()), ()) := by
  have hb : ∀ c ∈ signs, (op.toList == c) = false := fun c hc => beq_eq_false_iff_ne.2 fun h => hm (h ▸ hc)
  simp only [signs, List.mem_cons, List.not_mem_nil, or_false, forall_eq_or_imp, forall_eq] at hb
  obtain ⟨h1, h2, h3, h4, h5, h6, h7, h8, h9, h10, h11, h12, h13, h14, h15, h16, h17, h18⟩ := hb
  unfold f24
  simp only [lit1, lit2, h1, h2, h3, h4, h5, h6, h7, h8, h9, h10, h11, h12, h13, h14, h15, h16, h17, h18, cond_false, Option.bind_some]
theorem sign_ne (k : Nat) (hk : 200 ≤ k) {op : ByteArray} (hm : op.toList ∈ signs) : ∃ n : Int, n ≠ 0 ∧ f26 k op = some ((n, ()), ()) := by
  obtain ⟨j, rfl⟩ : ∃ j, k = j + 200 := ⟨k - 200, by omega⟩
  simp only [signs, List.mem_cons, List.not_mem_nil, or_false] at hm
  rcases hm with h | h | h | h | h | h | h | h | h | h | h | h | h | h | h | h | h | h <;> have := of_list h <;> subst this
  · exact ⟨5, by decide, by kernel_rfl⟩
  · exact ⟨5, by decide, by kernel_rfl⟩
  · exact ⟨5, by decide, by kernel_rfl⟩
  · exact ⟨5, by decide, by kernel_rfl⟩
  · exact ⟨5, by decide, by kernel_rfl⟩
  · exact ⟨5, by decide, by kernel_rfl⟩
  · exact ⟨4, by decide, by kernel_rfl⟩
  · exact ⟨4, by decide, by kernel_rfl⟩
  · exact ⟨4, by decide, by kernel_rfl⟩
  · exact ⟨4, by decide, by kernel_rfl⟩
  · exact ⟨3, by decide, by kernel_rfl⟩
  · exact ⟨3, by decide, by kernel_rfl⟩
  · exact ⟨3, by decide, by kernel_rfl⟩
  · exact ⟨3, by decide, by kernel_rfl⟩
  · exact ⟨3, by decide, by kernel_rfl⟩
  · exact ⟨3, by decide, by kernel_rfl⟩
  · exact ⟨2, by decide, by kernel_rfl⟩
  · exact ⟨1, by decide, by kernel_rfl⟩
theorem apply_mod (k : Nat) {w : Nat} (h : Wd w) (a b : Int) (op : ByteArray) : f25 k w op a b = f25 k w op (a % 2 ^ w) (b % 2 ^ w) := by
  have e : ∀ x : Int, x % 2 ^ w % 2 ^ w = x % 2 ^ w := fun x => Int.emod_emod_of_dvd _ (Int.dvd_refl _)
  unfold f25
  simp only [mask_txt h, and_mask h, e]
theorem apply_out (k : Nat) {w : Int} (h : w < 1 ∨ w > 8) (a b : Int) (op : ByteArray) : f25 k w op a b = some ((0, ()), ()) := by
  have : f40 k w = some ((false, ()), ()) := by
    unfold f40
    by_cases h1 : w ≥ 1
    · rw [decide_eq_true h1, decide_eq_false (by omega)]; rfl
    · rw [decide_eq_false h1]; rfl
  unfold f25
  rw [this]; rfl
/-- What the words come to. -/
def Good (k : Nat) (w : Nat) (v : Int) (y : R7_2046) : Prop :=
  (∃ out r, y = .inl ((out, ()), r) ∧ out.length = w ∧ f36 k [] out = some ((v, ()), ())) ∨
  (∃ r1 r2 arr, y = .inr (.inl ((w, ()), (r1, r2, arr, ()))) ∧ w ≤ arr.length ∧ f36 k [] (arr.take w) = some ((v, ()), ())) ∨
  ∃ r, y = .inr (.inr ((true, ()), r))
theorem ne_lit {op : ByteArray} {l : List UInt8} (h : op.toList ≠ l) (o : ByteArray) (ho : o.toList = l) : (op.toList == o.toList) = false := by
  rw [ho]; exact beq_eq_false_iff_ne.2 h
theorem mapok_nil : MapOk [] [] := fun e he => rfl
theorem valid_nil : Valid [] := ⟨rfl, fun i e h => by simp at h⟩
/-- Each sign by its words. -/
theorem by_words {w : Nat} (h : Wd w) {a b : Int} (ha : Nm w a) (hb : Nm w b) (op : ByteArray) : E fun k => ∃ v y, f24 k w op a b = some ((v, ()), ()) ∧ l7_2046 k op (litsB w a) (litsB w b) [] [] = some y ∧ Good k w v y := by
  obtain ⟨e, hp1, hp⟩ := h.pw
  have hw1 := h.lo
  have hw2 := h.hi
  have ha0 := ha.1
  have ha1 := ha.2
  have hb0 := hb.1
  have hb1 := hb.2
  have ha2 : a < 256 := by rw [e] at ha1; omega
  have hb2 : b < 256 := by rw [e] at hb1; omega
  have hwa : Word [] [] (litsB w a) (bitsB w a) := litsB_word w a
  have hwb : Word [] [] (litsB w b) (bitsB w b) := litsB_word w b
  have md : ∀ x : Int, x % 2 ^ w % 2 ^ w = x % 2 ^ w := fun x => Int.emod_emod_of_dvd _ (Int.dvd_refl _)
  by_cases h43 : op.toList = [43]
  · have := of_list h43; subst this
    obtain ⟨g', m', out, _, hv', _, _, hwo, hE⟩ := add46 (ins := []) valid_nil mapok_nil (by simp) hw1 (by omega) hwa hwb
    refine (hE.and (E.ge 100)).mono fun k ⟨e1, hk⟩ => ?_
    have hn := word_num k (by omega) hv' hw2 hwo
    refine ⟨(a + b) % 2 ^ w, _, Eq.trans (b := (f27 k (w64 (a + b)) w).bind fun y => some ((y.1.1, ()), ())) (by kernel_rfl) ?_, Eq.trans (b := (f30 k (litsB w a) (litsB w b) [] []).bind fun y1 => match y1 with
      | .inl y1_0 => some (.inl (([], ()), ((y1_0.2.1.1, (), ()), y1_0.2.2.1, ())))
      | .inr y1_1 => some (.inl ((y1_1.1.1, ()), ((y1_1.2.1.1, (), ()), y1_1.2.2.1, ())))) (by kernel_rfl) (by rw [e1]; rfl), .inl ⟨out, _, rfl, hn.1, hn.2⟩⟩
    rw [mod27 k _ h, w64_id (by omega) (by omega)]; rfl
  by_cases h45 : op.toList = [45]
  · have := of_list h45; subst this
    obtain ⟨g', m', out, _, hv', _, _, hwo, hE⟩ := sub47 (ins := []) valid_nil mapok_nil (by simp) hw1 (by omega) hwa hwb
    refine (hE.and (E.ge 100)).mono fun k ⟨e1, hk⟩ => ?_
    dsimp only at e1
    have hn := word_num k (by omega) hv' hw2 hwo
    refine ⟨(a - b) % 2 ^ w, _, Eq.trans (b := (f27 k (w64 (a - b)) w).bind fun y => some ((y.1.1, ()), ())) (by kernel_rfl) ?_, Eq.trans (b := (f31 k (litsB w a) (litsB w b) [] []).bind fun y2 =>
      some (.inl ((y2.1.1, ()), ((y2.2.1.1, (), ()), y2.2.2.1, ())))) (by kernel_rfl) (by rw [e1]; rfl), .inl ⟨out, _, rfl, hn.1, hn.2⟩⟩
    rw [mod27 k _ h, w64_id (by omega) (by omega)]; rfl
  by_cases h42 : op.toList = [42]
  · have := of_list h42; subst this
    obtain ⟨g', m', out, _, hv', _, _, hwo, hE⟩ := mul49 (ins := []) valid_nil mapok_nil (by simp) hw1 (by omega) hwa hwb
    refine (hE.and (E.ge 100)).mono fun k ⟨e1, hk⟩ => ?_
    dsimp only at e1
    have hn := word_num k (by omega) hv' hw2 hwo
    have h1 : 0 ≤ a * b := Int.mul_nonneg ha0 hb0
    have h2 : a * b ≤ 256 * 256 := Int.mul_le_mul (by omega) (by omega) hb0 (by omega)
    refine ⟨(a * b) % 2 ^ w, _, Eq.trans (b := (f27 k (w64 (a * b)) w).bind fun y => some ((y.1.1, ()), ())) (by kernel_rfl) ?_, Eq.trans (b := (f32 k (litsB w a) (litsB w b) [] []).bind fun y3 =>
      some (.inl ((y3.1.1, ()), ((y3.2.1.1, (), ()), y3.2.2.1, ())))) (by kernel_rfl) (by rw [e1]; rfl), .inl ⟨out, _, rfl, hn.1, hn.2⟩⟩
    rw [mod27 k _ h, w64_id (by omega) (by omega)]; rfl
  by_cases h47 : op.toList = [47]
  · have := of_list h47; subst this
    obtain ⟨g', m', qa, rest, _, hv', _, _, hwq, hwr, hE⟩ := div60 (ins := []) valid_nil mapok_nil (by simp) ha0 ha1 hb0 hb1 hw1 (by omega) hwa hwb
    refine (hE.and (E.ge 100)).mono fun k ⟨e1, hk⟩ => ?_
    have hn := word_num k (by omega) hv' hw2 hwq
    refine ⟨quo w a b % 2 ^ w, .inr (.inl ((w, ()), ((g', (), ()), m', qa, ()))), Eq.trans (b := (f61 k a b w).bind fun y => some ((y.1.1, ()), ())) (by kernel_rfl) ?_, Eq.trans (b := (f33 k (litsB w a) (litsB w b) [] []).bind fun y4 => match y4 with
      | .inl y4_0 => some (.inl ((y4_0.1.1, ()), ((y4_0.2.1.1, (), ()), y4_0.2.2.1, ())))
      | .inr y4r => match y4r with
        | .inl y4_1 => some (.inr (.inl ((y4_1.1.1, ()), ((y4_1.2.1.1, (), ()), y4_1.2.2.1, y4_1.2.2.2.1, ()))))
        | .inr y4_2 => some (.inr (.inl ((y4_2.1.1, ()), ((y4_2.2.1.1, (), ()), y4_2.2.2.1, y4_2.2.2.2.1, ()))))) (by kernel_rfl) (by rw [e1]; rfl), .inr (.inl ⟨_, _, qa, rfl, by omega, by rw [List.take_of_length_le (by omega)]; exact hn.2⟩)⟩
    rw [div61 k (by omega) ha0 (by omega) hb0 ha1]; rfl
  by_cases h37 : op.toList = [37]
  · have := of_list h37; subst this
    obtain ⟨g', m', qa, rest, _, hv', _, _, hwq, hwr, hE⟩ := div60 (ins := []) valid_nil mapok_nil (by simp) ha0 ha1 hb0 hb1 hw1 (by omega) hwa hwb
    have hwrt : Word [] g' (rest.take w) (bitsB w (a % b)) := by
      rw [← take_bits w 1]
      exact ⟨fun z hz => hwr.lit z (List.mem_of_mem_take hz), by rw [List.map_take, hwr.val]⟩
    have lr : rest.length = w + 1 := by rw [hwr.len, bitsB_len]
    have hr : (a % b) % 2 ^ w = a % b := by
      have h1 : 0 ≤ a % b ∧ a % b ≤ a := by
        rcases Int.lt_or_le 0 b with h | h
        · refine ⟨Int.emod_nonneg _ (by omega), ?_⟩
          have h3 := Int.mul_ediv_add_emod a b
          have := Int.mul_nonneg hb0 (Int.ediv_nonneg ha0 hb0)
          omega
        · rw [show b = 0 by omega, Int.emod_zero]; exact ⟨ha0, Int.le_refl _⟩
      exact Int.emod_eq_of_lt h1.1 (by omega)
    refine (hE.and (E.ge 100)).mono fun k ⟨e1, hk⟩ => ?_
    have hn := word_num k (by omega) hv' hw2 hwrt
    rw [hr] at hn
    refine ⟨a % b, .inr (.inl ((w, ()), ((g', (), ()), m', rest, ()))), Eq.trans (b := (f62 k a b).bind fun y => some ((y.1.1, ()), ())) (by kernel_rfl) ?_, Eq.trans (b := (f33 k (litsB w a) (litsB w b) [] []).bind fun y5 => match y5 with
      | .inl y5_0 => some (.inl ((y5_0.1.2.1, ()), ((y5_0.2.1.1, (), ()), y5_0.2.2.1, ())))
      | .inr y5r => match y5r with
        | .inl y5_1 => some (.inl ((y5_1.1.2.1, ()), ((y5_1.2.1.1, (), ()), y5_1.2.2.1, ())))
        | .inr y5_2 => some (.inr (.inl ((y5_2.1.2.1, ()), ((y5_2.2.1.1, (), ()), y5_2.2.2.1, y5_2.2.2.2.2.1, ()))))) (by kernel_rfl) (by rw [e1]; rfl), .inr (.inl ⟨_, _, rest, rfl, by omega, hn.2⟩)⟩
    rw [rest62 k ha0]; rfl
  by_cases h60 : op.toList = [60, 60]
  · have := of_list h60; subst this
    obtain ⟨g', m', out, _, hv', _, _, hwo, hE⟩ := shl56 (ins := []) valid_nil mapok_nil (by simp) hw1 (by omega) hwa hwb
    refine (hE.and (E.ge 100)).mono fun k ⟨e1, hk⟩ => ?_
    dsimp only at e1
    have hn := word_num k (by omega) hv' hw2 hwo
    rw [hn.1] at e1
    refine ⟨(a * 2 ^ (b % 2 ^ w).toNat) % 2 ^ w, .inr (.inl ((w, ()), ((g', (), ()), m', out, ()))), Eq.trans (b := (f63 k a b w).bind fun y => some ((y.1.1, ()), ())) (by kernel_rfl) ?_, Eq.trans (b := (f34 k (litsB w a) (litsB w b) [] []).bind fun y6 => match y6 with
      | .inl y6_0 => some (.inl ((y6_0.1.1, ()), ((y6_0.2.1.1, (), ()), y6_0.2.2.1, ())))
      | .inr y6_1 => some (.inr (.inl ((y6_1.1.1, ()), ((y6_1.2.1.1, (), ()), y6_1.2.2.1, y6_1.2.2.2.1, ()))))) (by kernel_rfl) (by rw [e1]; rfl), .inr (.inl ⟨_, _, out, rfl, by omega, by rw [List.take_of_length_le (by omega)]; exact hn.2⟩)⟩
    rw [shl57 k hw1 hw2 ha0 (by omega) hb0 hb1]; rfl
  by_cases h62 : op.toList = [62, 62]
  · have := of_list h62; subst this
    obtain ⟨g', m', out, _, hv', _, _, hwo, hE⟩ := shr58 (ins := []) valid_nil mapok_nil (by simp) ha0 ha1 hw1 (by omega) hwa hwb
    refine (hE.and (E.ge 100)).mono fun k ⟨e1, hk⟩ => ?_
    dsimp only at e1
    have hn := word_num k (by omega) hv' hw2 hwo
    rw [hn.1] at e1
    refine ⟨(a / 2 ^ (b % 2 ^ w).toNat) % 2 ^ w, .inr (.inl ((w, ()), ((g', (), ()), m', out, ()))), Eq.trans (b := (f64 k a b w).bind fun y => some ((y.1.1, ()), ())) (by kernel_rfl) ?_, Eq.trans (b := (f35 k (litsB w a) (litsB w b) [] []).bind fun y7 => match y7 with
      | .inl y7_0 => some (.inl ((y7_0.1.1, ()), ((y7_0.2.1.1, (), ()), y7_0.2.2.1, ())))
      | .inr y7_1 => some (.inr (.inl ((y7_1.1.1, ()), ((y7_1.2.1.1, (), ()), y7_1.2.2.1, y7_1.2.2.2.1, ()))))) (by kernel_rfl) (by rw [e1]; rfl), .inr (.inl ⟨_, _, out, rfl, by omega, by rw [List.take_of_length_le (by omega)]; exact hn.2⟩)⟩
    rw [shr59 k hw1 hw2 ha0 ha1 (by omega) hb0 hb1]; rfl
  refine (awake8E.and (E.ge 300)).mono fun k ⟨e8, hk⟩ => ?_
  obtain ⟨n, _, _, hn⟩ := apply_eq k (by omega) h ha hb op
  refine ⟨n, .inr (.inr ((true, ()), (([], (), ()), [], ()))), hn, ?_, .inr (.inr ⟨_, rfl⟩)⟩
  unfold l7_2046
  rw [ne_lit h43 _ (lit1 43), ne_lit h45 _ (lit1 45), ne_lit h42 _ (lit1 42), ne_lit h47 _ (lit1 47), ne_lit h37 _ (lit1 37), ne_lit h60 _ (lit2 60 60), ne_lit h62 _ (lit2 62 62), e8]
  rfl
end Wrd
open Term Wrd in
theorem Pure.TermApplies (width : Int) (_ : Fit i64 width) (op : ByteArray) (_ : Fit .str op) (x : List Int) (hx : Fit (.arr 2 (.int .u16)) x) : ∃ k, f7 k width op x = some ((true, ()), ()) := by
  have hx' := hx.inv
  have hl : x.length = 2 := hx'.1
  obtain ⟨A, B, rfl⟩ : ∃ A B, x = [A, B] := by
    match x, hl with
    | [A, B], _ => exact ⟨A, B, rfl⟩
  have hr : ∀ y ∈ [A, B], 0 ≤ y ∧ y ≤ 65535 := fun y hy => by
    have h1 := (hx'.2 y hy).inv
    have h1 : (Lit.int .u16 y).wf = true := h1
    simp [Lit.wf, show IntKind.u16.min = 0 from by decide, show IntKind.u16.max = 65535 from by decide] at h1
    exact h1
  have hA := hr A (by simp)
  have hB := hr B (by simp)
  have eA : w64 A = A := w64_id (by omega) (by omega)
  have eB : w64 B = B := w64_id (by omega) (by omega)
  by_cases hw : width < 1 ∨ width > 8
  · refine (awake8E.mono fun k e => ?_).ex
    unfold f7
    simp only [List.getElem?_cons_zero, List.getElem?_cons_succ, Option.bind_some, eA, eB]
    rw [apply_out k hw]
    simp only [Option.bind_some, beq_self_eq_true, cond_true]
    by_cases h1 : width < 1
    · rw [decide_eq_true h1, e]; rfl
    · rw [decide_eq_false h1, decide_eq_true (by omega : width > 8), e]; rfl
  · obtain ⟨w, rfl⟩ : ∃ w : Nat, width = (w : Int) := ⟨width.toNat, by omega⟩
    have h : Wd w := ⟨by omega, by omega⟩
    refine ((by_words h (nm_mod (w := w) A) (nm_mod (w := w) B) op).mono3 awake8E (E.ge 1000) fun k hby e hk => ?_).ex
    obtain ⟨v, y, h24, hly, hgood⟩ := hby
    obtain ⟨n, _, h25, hn⟩ := apply_eq k (by omega) h (nm_mod (w := w) A) (nm_mod (w := w) B) op
    rw [h24] at hn
    simp only [Option.some.injEq, Prod.mk.injEq, and_true] at hn
    subst hn
    unfold f7
    simp only [List.getElem?_cons_zero, List.getElem?_cons_succ, Option.bind_some, eA, eB]
    rw [apply_mod k h, h25]
    simp only [Option.bind_some]
    rw [decide_eq_false (by omega : ¬ (w : Int) < 1), decide_eq_false (by omega : ¬ (w : Int) > 8), cond_false, cond_false]
    by_cases hm : op.toList ∈ signs
    · obtain ⟨s, hs0, hs⟩ := sign_ne k (by omega) hm
      have es : (s == 0) = false := by simp [hs0]
      rw [hs]
      simp only [Option.bind_some, es, cond_false]
      rw [mod27 k A h, mod27 k B h]
      simp only [Option.bind_some]
      rw [h24]
      simp only [Option.bind_some, bne_self_eq_false, cond_false]
      unfold f28
      simp only [Option.bind_some]
      rw [const29 k _ h.lo (by have := h.hi; omega) (by omega), const29 k _ h.lo (by have := h.hi; omega) (by omega)]
      simp only [Option.bind_some]
      rw [hly]
      simp only [Option.bind_some]
      rcases hgood with ⟨out, r, rfl, k1, k2⟩ | ⟨r1, r2, arr, rfl, k1, k2⟩ | ⟨r, rfl⟩
      · dsimp only
        rw [k2]
        simp only [Option.bind_some, beq_self_eq_true, cond_true, k1]
        rw [e]; rfl
      · dsimp only
        rw [gd_dec (by omega), List.drop_zero, k2]
        simp only [Option.bind_some, beq_self_eq_true, cond_true]
        rw [e]; rfl
      · rfl
    · obtain ⟨s, _, hs, hz⟩ := sign_eq k (by omega) op
      have hv := f24_none k hm (w : Int) (A % 2 ^ w) (B % 2 ^ w)
      rw [h24] at hv
      simp only [Option.some.injEq, Prod.mk.injEq, and_true] at hv
      subst hv
      rw [hs, hz hm]
      simp only [Option.bind_some, beq_self_eq_true, cond_true]
      rw [e]; rfl
end Go.Proofs.Ytepfhidiahleiaa.M
