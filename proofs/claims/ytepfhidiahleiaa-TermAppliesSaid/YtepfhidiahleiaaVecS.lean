/-
Words of literals: bit by bit, and moved.
-/
import Derived.Test.YtepfhidiahleiaaVec
set_option linter.unusedVariables false
set_option linter.unusedSimpArgs false
set_option maxRecDepth 100000
namespace Go.Proofs.Ytepfhidiahleiaa.M
open Go Go.Proofs.Ytepfhidiahleiaa.Vm Go.Proofs.Ytepfhidiahleiaa.Pl
namespace Vec
open Aig
variable {g : List D_Gate} {m : Mp} {ins : List Bool}

/-! ### bit by bit -/
theorem bits_get : ∀ (w i : Nat) (n : Int), i < w → (bitsB w n)[i]? = some (decide (bit n i = 1))
  | 0, i, n, h => by omega
  | w + 1, 0, n, h => by rw [bitsB]; simp [bit]
  | w + 1, i + 1, n, h => by
    rw [bitsB, List.getElem?_cons_succ, bits_get w i (n / 2) (by omega)]
    unfold bit
    rw [Int.ediv_ediv_of_nonneg (by decide), Int.pow_succ, Int.mul_comm]
theorem bit_two (n : Int) (i : Nat) : bit n i = 0 ∨ bit n i = 1 := by unfold bit; omega
theorem zip_get (f : Bool → Bool → Bool) : ∀ (xs ys : List Bool) (i : Nat) (x y : Bool), xs[i]? = some x → ys[i]? = some y → (zipB f xs ys)[i]? = some (f x y)
  | [], _, i, x, y, h, _ => by simp at h
  | _ :: _, [], i, x, y, _, h => by simp at h
  | a :: xs, b :: ys, 0, x, y, h, h' => by simp at h h'; subst h; subst h'; rfl
  | a :: xs, b :: ys, i + 1, x, y, h, h' => by rw [zipB, List.getElem?_cons_succ]; exact zip_get f xs ys i x y (by simpa using h) (by simpa using h')
/-- The sign of kind c. -/
def kindS (c : Nat) (x y : Bool) : Bool := match c with
  | 0 => x && y
  | 1 => x || y
  | _ => !(x == y)
theorem kind_one (k : Nat) {c : Nat} (hc : c ≤ 2) {x y : Int} (hx : x = 0 ∨ x = 1) (hy : y = 0 ∨ y = 1) : l65_14924 k c x y = some ((kindS c (decide (x = 1)) (decide (y = 1)), ()), ()) := by
  have hc : c = 0 ∨ c = 1 ∨ c = 2 := by omega
  rcases hc with rfl | rfl | rfl <;> rcases hx with rfl | rfl <;> rcases hy with rfl | rfl <;> rfl
theorem bits_loop51 (k : Nat) (hk : 16 < k) {c : Nat} (hc : c ≤ 2) {x y : Int} (hx0 : 0 ≤ x) (hx1 : x ≤ 65536) (hy0 : 0 ≤ y) (hy1 : y ≤ 65536) {w : Nat} (hw : w ≤ 16) : ∀ (i : Nat), i ≤ w → ∀ j, i < j →
    l65_58 k j c x y (num ((zipB (kindS c) (bitsB w x) (bitsB w y)).drop i)) ((i : Int) - 1) = some ((num (zipB (kindS c) (bitsB w x) (bitsB w y)), ()), ()) := by
  have hzl : (zipB (kindS c) (bitsB w x) (bitsB w y)).length = w := by rw [zipB_len _ _ _ (by rw [bitsB_len, bitsB_len]), bitsB_len]
  intro i
  induction i with
  | zero =>
    intro hi j hj
    obtain ⟨j, rfl, _⟩ := succ_of (n := 0) (by omega : 0 + 1 ≤ j)
    show b65_58 k (l65_58 k j) c x y _ _ = _
    unfold b65_58
    rw [decide_eq_false (by omega : ¬ ((0 : Nat) : Int) - 1 ≥ 0), List.drop_zero]; rfl
  | succ i ih =>
    intro hi j hj
    obtain ⟨j, rfl, hj2⟩ := succ_of (by omega : i + 1 + 1 ≤ j)
    show b65_58 k (l65_58 k j) c x y _ _ = _
    have hz := zip_get (kindS c) _ _ i _ _ (bits_get w i x (by omega)) (bits_get w i y (by omega))
    have hlt := Vm.getElem?_lt hz
    have hz' := hz
    rw [List.getElem?_eq_getElem hlt] at hz'
    have hz' := Option.some.inj hz'
    have hdr : num ((zipB (kindS c) (bitsB w x) (bitsB w y)).drop i) = (if kindS c (decide (bit x i = 1)) (decide (bit y i = 1)) then 1 else 0) + 2 * num ((zipB (kindS c) (bitsB w x) (bitsB w y)).drop (i + 1)) := by
      rw [List.drop_eq_getElem_cons hlt, num, hz']
    have h0 := num_nonneg ((zipB (kindS c) (bitsB w x) (bitsB w y)).drop (i + 1))
    have h1 := num_lt ((zipB (kindS c) (bitsB w x) (bitsB w y)).drop (i + 1))
    rw [List.length_drop, hzl] at h1
    have h2 := two_pow16 (i := w - (i + 1)) (by omega)
    have ih := ih (by omega) j hj2
    rw [hdr] at ih
    unfold b65_58
    rw [show ((i + 1 : Nat) : Int) - 1 = (i : Int) by omega, decide_eq_true (by omega : (i : Int) ≥ 0), cond_true, bit41 k hx0 hx1 (by omega) hk]
    simp only [Option.bind_some]
    rw [bit41 k hy0 hy1 (by omega) hk]
    simp only [Option.bind_some]
    rw [kind_one k hc (bit_two _ _) (bit_two _ _)]
    simp only [Option.bind_some]
    generalize num ((zipB (kindS c) (bitsB w x) (bitsB w y)).drop (i + 1)) = v at *
    rw [w_id (n := (i : Int) - 1) (by omega) (by omega), w_id (n := 2 * v) (by omega) (by omega), w_id (n := 2 * v + 1) (by omega) (by omega), w_id (n := 2 * v + 0) (by omega) (by omega)]
    cases hk : kindS c (decide (bit x i = 1)) (decide (bit y i = 1)) with
    | true =>
      rw [hk] at ih
      simp only [if_true] at ih
      rw [cond_true, show 2 * v + 1 = 1 + 2 * v by omega, ih]; rfl
    | false =>
      rw [hk] at ih
      simp only [Bool.false_eq_true, if_false] at ih
      rw [cond_false, show 2 * v + 0 = 0 + 2 * v by omega, ih]; rfl
theorem bits51 (k : Nat) (hk : 40 < k) {c : Nat} (hc : c ≤ 2) {x y : Int} (hx0 : 0 ≤ x) (hx1 : x ≤ 65536) (hy0 : 0 ≤ y) (hy1 : y ≤ 65536) {w : Nat} (hw : w ≤ 16) : f65 k c x y w = some ((num (zipB (kindS c) (bitsB w x) (bitsB w y)), ()), ()) := by
  have hzl : (zipB (kindS c) (bitsB w x) (bitsB w y)).length = w := by rw [zipB_len _ _ _ (by rw [bitsB_len, bitsB_len]), bitsB_len]
  have := bits_loop51 k (by omega) hc hx0 hx1 hy0 hy1 hw w (Nat.le_refl _) k (by omega)
  rw [List.drop_of_length_le (by omega)] at this
  unfold f65
  rw [w_id (n := (w : Int) - 1) (by omega) (by omega)]
  have e : (0 : Int) = num [] := rfl
  rw [e, this]; rfl

/-! ### moved -/
theorem whole92v2 (k : Nat) {a : List Int} (ha : a.length ≤ 16) (h : ∀ x ∈ a, isL g x = true) (hk : 16 < k) : f70v2 k a.length a = some (.inr ((a.length, ()), (a, ()))) := by
  unfold f70v2 f97 f108
  rw [gd_dec (by omega), List.drop_zero, List.take_of_length_le (Nat.le_refl _)]
  have := index_loop k ha (fun x hx => by have := (isL_iff.1 (h x hx)).1; omega) a.length 0 (by omega) k (by omega)
  rw [show ((0 : Nat) : Int) = 0 from rfl] at this
  rw [this]
  rfl
theorem clone102 (k : Nat) {a : List Int} (h1 : 1 ≤ a.length) (h2 : a.length ≤ 17) : f73v7 k a = some ((a.length, ()), (a, ())) := by
  unfold f73v7
  have : a.isEmpty = false := by cases a with
    | nil => simp at h1
    | cons => rfl
  rw [this, cond_false, cond_false, gd_dec (by unfold room; omega), Nat.zero_add, List.nil_append]
theorem far100 (k : Nat) {a : List Int} {w : Nat} (ha : a.length = w) (h1 : 1 ≤ w) (h2 : w ≤ 16) (n : Nat) : f78 k w n a = some ((w, ()), (a, (List.replicate (min n w) 0 ++ a.take (w - min n w), ()))) := by
  have hmm : minmax false n (w : Int) = ((min n w : Nat) : Int) := by unfold minmax; simp only [Bool.false_eq_true, if_false]; split <;> omega
  unfold f78 l78_6
  rw [zero_const h1 h2]
  simp only [Option.bind_some]
  rw [hmm, Int.toNat_natCast, gd_dec (by omega), gd_dec (by omega), gd_dec (by omega), gd_dec (by rw [List.length_replicate]; omega), List.drop_zero, List.take_of_length_le (l := a) (by omega), ha, show min w (w - min n w) = w - min n w by omega, Nat.zero_add, show min n w + (w - min n w) = w by omega, List.drop_of_length_le (by simp), List.append_nil, List.take_replicate, show min (min n w) w = min n w by omega]
theorem far101 (k : Nat) {a : List Int} {w : Nat} (ha : a.length = w) (h1 : 1 ≤ w) (h2 : w ≤ 16) (n : Nat) : f79 k w n a = some ((w, ()), (a, (a.drop (min n w) ++ List.replicate (min n w) 0, ()))) := by
  have hmm : minmax false n (w : Int) = ((min n w : Nat) : Int) := by unfold minmax; simp only [Bool.false_eq_true, if_false]; split <;> omega
  unfold f79 l79_6
  rw [zero_const h1 h2]
  simp only [Option.bind_some]
  have hl : (a.drop (min n w)).length = w - min n w := by rw [List.length_drop]; omega
  rw [hmm, Int.toNat_natCast, gd_dec (by omega), gd_dec (by omega), gd_dec (by omega), gd_dec (by rw [List.length_replicate]; omega), Nat.zero_add, List.take_zero, List.nil_append, List.take_of_length_le (l := a.drop _) (by omega), List.take_of_length_le (by omega), hl, Nat.zero_add, show min (w - min n w) w = w - min n w by omega, List.drop_replicate, show w - (w - min n w) = min n w by omega]
theorem far_same (k : Nat) : ∀ j, l77v2_62670 k j = l77_62670 k j
  | 0 => rfl
  | j + 1 => by
    show b77v2_62670 k (l77v2_62670 k j) = b77_62670 k (l77_62670 k j)
    rw [far_same k j]; rfl
theorem pick_loop99 {b : List Int} {w i : Nat} (hw : w ≤ 16) {c : Int} {cb : Bool} (hc : b[i]? = some c) {fs os : List Bool} {far old : List Int} : ∀ (d k0 : Nat) (g : List D_Gate) (m : Mp) (pre : List Int) (bs : List Bool), w - k0 = d → k0 ≤ w → Valid g → MapOk g m → g.length + 3 * d ≤ 1000000 → far.length = w → old.length = w →
    Word ins g far fs → Word ins g old os → isL g c = true → Aig.val ins g c = cb → Word ins g pre bs → pre.length = k0 →
    ∃ (g' : List D_Gate) (m' : Mp) (out : List Int), (∃ e, g' = g ++ e) ∧ Valid g' ∧ MapOk g' m' ∧ g'.length ≤ g.length + 3 * d ∧ Word ins g' out (bs ++ zipB (fun x y => cond cb x y) (fs.drop k0) (os.drop k0)) ∧
      E fun k => ∀ j, d < j → l77_62670 k j b w i w w k0 g m (pre ++ old.drop k0) far = some ((), ((g', (), ()), m', out, far, ())) := by
  intro d
  induction d with
  | zero =>
    intro k0 g m pre bs hd hkw hv hm hg hfl hol hwf hwo lc vc hwp hp
    refine ⟨g, m, pre, ⟨[], by simp⟩, hv, hm, by omega, ?_, .all fun k j hj => ?_⟩
    · rw [List.drop_of_length_le (by have := hwf.len; omega), zipB, List.append_nil]; exact hwp
      all_goals simp
    · obtain ⟨j, rfl, _⟩ := succ_of (n := 0) (by omega : 0 + 1 ≤ j)
      show b77_62670 k (l77_62670 k j) b w i w w k0 g m _ far = _
      unfold b77_62670
      rw [decide_eq_false (by omega : ¬ (k0 : Int) < w), List.drop_of_length_le (by omega), List.append_nil]; rfl
  | succ d ih =>
    intro k0 g m pre bs hd hkw hv hm hg hfl hol hwf hwo lc vc hwp hp
    have hw1 : w64 ((k0 : Int) + 1) = ((k0 + 1 : Nat) : Int) := by rw [w_id (by omega) (by omega)]; omega
    obtain ⟨x, bx, hx, hbx, lx, vx⟩ := hwf.get (i := k0) (by omega)
    obtain ⟨y, by_, hy, hby, ly, vy⟩ := hwo.get (i := k0) (by omega)
    obtain ⟨g1, m1, r, he1, hv1, hm1, hl1, lr, vr, hE1⟩ := ite_op (ins := ins) hv hm (by omega) lc lx ly
    have hwc := old_lit (ins := ins) he1 lc
    obtain ⟨g2, m2, out2, he2, hv2, hm2, hl2, hw2', hE2⟩ := ih (k0 + 1) g1 m1 (pre ++ [r]) (bs ++ [cond cb bx by_]) (by omega) (by omega) hv1 hm1 (by omega) hfl hol (old_word he1 hwf) (old_word he1 hwo) hwc.1 (by rw [hwc.2, vc]) ((old_word he1 hwp).snoc lr (by rw [vr, vc, vx, vy])) (by rw [List.length_append, hp]; rfl)
    refine ⟨g2, m2, out2, ext_trans he1 he2, hv2, hm2, by omega, ?_, hE1.mono2 hE2 fun k e1 e2 j hj => ?_⟩
    · rw [zipB_drop _ hbx hby]
      rw [List.append_assoc] at hw2'; exact hw2'
    · obtain ⟨j, rfl, hj2⟩ := succ_of (by omega : d + 1 + 1 ≤ j)
      show b77_62670 k (l77_62670 k j) b w i w w k0 g m _ far = _
      dsimp only at e1
      have hlt := Vm.getElem?_lt hy
      have hdr : old.drop k0 = y :: old.drop (k0 + 1) := by
        rw [List.drop_eq_getElem_cons hlt]
        rw [List.getElem?_eq_getElem hlt] at hy
        rw [Option.some.inj hy]
      have hset : (pre ++ old.drop k0).set (0 + (k0 : Int).toNat) r = (pre ++ [r]) ++ old.drop (k0 + 1) := by
        rw [show 0 + (k0 : Int).toNat = pre.length by omega, hdr, List.set_append_right _ _ (Nat.le_refl _), Nat.sub_self, List.set_cons_zero, List.append_assoc]; rfl
      have hgx : far[0 + (k0 : Int).toNat]? = some x := by rw [show 0 + (k0 : Int).toNat = k0 by omega]; exact hx
      have hgy : (pre ++ old.drop k0)[0 + (k0 : Int).toNat]? = some y := by
        rw [show 0 + (k0 : Int).toNat = k0 by omega, hdr, List.getElem?_append_right (by omega), hp, Nat.sub_self]; rfl
      unfold b77_62670
      rw [decide_eq_true (by omega : (k0 : Int) < w), cond_true, ix_nat hc, gd_dec (by omega), gd_dec (by omega), hgx]
      simp only [Option.bind_some]
      rw [gd_dec (by omega), gd_dec (by omega), hgy]
      simp only [Option.bind_some]
      rw [e1]
      simp only [Option.bind_some]
      rw [gd_dec (by omega), gd_dec (by omega), gd_dec (by rw [List.length_append, List.length_drop]; omega), hset, hw1, e2 j hj2]; rfl
/-- A word moved up. -/
theorem shl_word {a : List Int} {w : Nat} {v : Int} (hwa : Word ins g a (bitsB w v)) (n : Nat) : Word ins g (List.replicate (min n w) 0 ++ a.take (w - min n w)) (bitsB w (v * 2 ^ n)) := by
  have h1 := row_bits (w := w) (i := min n w) (by omega) v true
  have e : ((bitsB w v).take (w - min n w)).map (· && true) = (bitsB w v).take (w - min n w) := by simp
  rw [e] at h1
  have h2 : bitsB w (v * 2 ^ n) = bitsB w (v * (2 ^ min n w * (if true then 1 else 0))) := by
    rw [if_pos rfl, Int.mul_one]
    rcases Nat.lt_or_ge w n with h | h
    · rw [show min n w = w by omega]
      refine bits_congr ?_
      rw [show n = w + (n - w) by omega, Int.pow_add, Int.mul_left_comm, Int.mul_emod_right, Int.mul_emod_left]
    · rw [show min n w = n by omega]
  rw [h2, ← h1]
  exact ⟨fun x hx => by
    rcases List.mem_append.1 hx with hx | hx
    · rw [(List.mem_replicate.1 hx).2]; exact isL_iff.2 (by omega)
    · exact hwa.lit x (List.mem_of_mem_take hx), by rw [List.map_append, List.map_replicate, val_zero, List.map_take, hwa.val]⟩
theorem bits_drop : ∀ (n w : Nat) (v : Int), n ≤ w → (bitsB w v).drop n = bitsB (w - n) (v / 2 ^ n)
  | 0, w, v, h => by simp
  | n + 1, 0, v, h => by omega
  | n + 1, w + 1, v, h => by
    rw [bitsB, List.drop_succ_cons, bits_drop n w (v / 2) (by omega), Int.ediv_ediv_of_nonneg (by decide), Int.pow_succ, Int.mul_comm 2, show w + 1 - (n + 1) = w - n by omega]
/-- A word moved down. -/
theorem shr_word {a : List Int} {w : Nat} {v : Int} (h0 : 0 ≤ v) (hv1 : v < 2 ^ w) (hwa : Word ins g a (bitsB w v)) (n : Nat) : Word ins g (a.drop (min n w) ++ List.replicate (min n w) 0) (bitsB w (v / 2 ^ n)) := by
  have hq : v / 2 ^ n = v / 2 ^ min n w := by
    rcases Nat.lt_or_ge w n with h | h
    · rw [show min n w = w by omega, Int.ediv_eq_zero_of_lt h0 hv1, Int.ediv_eq_zero_of_lt h0]
      refine Int.lt_of_lt_of_le hv1 ?_
      have : (2 : Nat) ^ w ≤ 2 ^ n := Nat.pow_le_pow_right (by omega) (by omega)
      have h2 : ((2 ^ w : Nat) : Int) ≤ ((2 ^ n : Nat) : Int) := by omega
      simpa using h2
    · rw [show min n w = n by omega]
  have e : (bitsB w v).drop (min n w) ++ List.replicate (min n w) false = bitsB w (v / 2 ^ n) := by
    refine word_bits (by rw [List.length_append, List.length_drop, List.length_replicate, bitsB_len]; omega) ?_
    have hp := pow_pos2 (min n w)
    have hpw : (2 : Int) ^ w = 2 ^ min n w * 2 ^ (w - min n w) := by rw [← Int.pow_add, show min n w + (w - min n w) = w by omega]
    have k0 : 0 ≤ v / 2 ^ min n w := Int.ediv_nonneg h0 (by omega)
    have k1 : v / 2 ^ min n w < 2 ^ (w - min n w) := Int.ediv_lt_of_lt_mul hp (by rw [Int.mul_comm, ← hpw]; exact hv1)
    have k2 : v / 2 ^ min n w ≤ v := Int.ediv_le_self _ h0
    rw [num_append, num_zeros, Int.mul_zero, Int.add_zero, bits_drop _ _ _ (by omega), num_bits, hq, Int.emod_eq_of_lt k0 k1, Int.emod_eq_of_lt k0 (by omega)]
  rw [← e]
  exact ⟨fun x hx => by
    rcases List.mem_append.1 hx with hx | hx
    · exact hwa.lit x (List.mem_of_mem_drop hx)
    · rw [(List.mem_replicate.1 hx).2]; exact isL_iff.2 (by omega), by rw [List.map_append, List.map_replicate, val_zero, List.map_drop, hwa.val]⟩
theorem num_step {w i : Nat} {y : Int} {yb : Bool} (hyb : (bitsB w y)[i]? = some yb) : (num ((bitsB w y).take (i + 1))).toNat = (num ((bitsB w y).take i)).toNat + (if yb then 2 ^ i else 0) := by
  have hlt := Vm.getElem?_lt hyb
  have hyb' : (bitsB w y)[i] = yb := by rw [List.getElem?_eq_getElem hlt] at hyb; exact Option.some.inj hyb
  rw [bitsB_len] at hlt
  rw [List.take_succ_eq_append_getElem (by rw [bitsB_len]; exact hlt), num_append, hyb', List.length_take, bitsB_len, show min i w = i by omega]
  have h0 := num_nonneg ((bitsB w y).take i)
  have hc : ((2 ^ i : Nat) : Int) = (2 : Int) ^ i := by simp
  cases yb with
  | false => simp [num]
  | true =>
    have hp := pow_pos2 i
    have hp2 : 0 < 2 ^ i := Nat.two_pow_pos i
    simp only [num, if_true, Int.mul_zero, Int.add_zero, Int.mul_one]
    rw [← hc]; omega
theorem two_of (i : Nat) (hi : i ≤ 16) : w64 (1 * 2 ^ (min (i : Int).toNat 64)) = ((2 ^ i : Nat) : Int) := by
  have hc : ((2 ^ i : Nat) : Int) = (2 : Int) ^ i := by simp
  have h := two_pow16 hi
  rw [Int.one_mul, show min (i : Int).toNat 64 = i by omega, w_id (by omega) (by omega), hc]
theorem shl_loop {b : List Int} {w : Nat} {x y : Int} (h1 : 1 ≤ w) (hw : w ≤ 16) : ∀ (d i : Nat) (g : List D_Gate) (m : Mp) (out : List Int), w - i = d → i ≤ w → Valid g → MapOk g m → g.length + 48 * d ≤ 1000000 → Word ins g b (bitsB w y) → Word ins g out (bitsB w (x * 2 ^ (num ((bitsB w y).take i)).toNat)) →
    ∃ (g' : List D_Gate) (m' : Mp) (out' : List Int), (∃ e, g' = g ++ e) ∧ Valid g' ∧ MapOk g' m' ∧ g'.length ≤ g.length + 48 * d ∧ Word ins g' out' (bitsB w (x * 2 ^ (y % 2 ^ w).toNat)) ∧
      E fun k => ∀ j, d < j → l77_122 k j b w w i g m out = some ((), ((g', (), ()), m', out', ())) := by
  intro d
  induction d with
  | zero =>
    intro i g m out hd hiw hv hm hg hwb hwo
    refine ⟨g, m, out, ⟨[], by simp⟩, hv, hm, by omega, ?_, .all fun k j hj => ?_⟩
    · rw [List.take_of_length_le (by rw [bitsB_len]; omega), num_bits] at hwo; exact hwo
    · obtain ⟨j, rfl, _⟩ := succ_of (n := 0) (by omega : 0 + 1 ≤ j)
      show b77_122 k (l77_122 k j) b w w i g m out = _
      unfold b77_122
      rw [decide_eq_false (by omega : ¬ (i : Int) < w)]; rfl
  | succ d ih =>
    intro i g m out hd hiw hv hm hg hwb hwo
    have lo : out.length = w := by rw [hwo.len, bitsB_len]
    have hw1 : w64 ((i : Int) + 1) = ((i + 1 : Nat) : Int) := by rw [w_id (by omega) (by omega)]; omega
    obtain ⟨yl, yb, hy, hyb, ly, vy⟩ := hwb.get (i := i) (by have := hwb.len; rw [bitsB_len] at this; omega)
    have hfar := shl_word hwo (2 ^ i)
    obtain ⟨g1, m1, o1, he1, hv1, hm1, hl1, hwo1, hE1⟩ := pick_loop99 (ins := ins) (b := b) (i := i) hw hy w 0 g m [] [] (by omega) (by omega) hv hm (by omega) (by rw [hfar.len, bitsB_len]) lo hfar hwo ly vy Word.nil rfl
    rw [List.drop_zero, List.drop_zero, List.nil_append, zip_pick _ _ _ (by rw [bitsB_len, bitsB_len])] at hwo1
    have hnext : Word ins g1 o1 (bitsB w (x * 2 ^ (num ((bitsB w y).take (i + 1))).toNat)) := by
      rw [num_step hyb]
      cases yb with
      | true => simp only [if_true]; rw [Int.pow_add, ← Int.mul_assoc]; exact hwo1
      | false => simp only [Bool.false_eq_true, if_false, Nat.add_zero]; exact hwo1
    obtain ⟨g3, m3, o3, he3, hv3, hm3, hl3, hw3, hE3⟩ := ih (i + 1) g1 m1 o1 (by omega) (by omega) hv1 hm1 (by omega) (old_word he1 hwb) hnext
    refine ⟨g3, m3, o3, ext_trans he1 he3, hv3, hm3, by omega, hw3, hE1.mono2 (hE3.and (E.ge 40)) fun k e1 e3 j hj => ?_⟩
    obtain ⟨e3, hk⟩ := e3
    obtain ⟨j, rfl, hj2⟩ := succ_of (by omega : d + 1 + 1 ≤ j)
    show b77_122 k (l77_122 k j) b w w i g m out = _
    have e1 := e1 k (by omega)
    rw [List.drop_zero, List.nil_append, show ((0 : Nat) : Int) = 0 from rfl] at e1
    unfold b77_122
    rw [decide_eq_true (by omega : (i : Int) < w), cond_true, decide_eq_false (by omega : ¬ (i : Int) < 0), cond_false, two_of i (by omega), far100 k lo h1 hw]
    simp only [Option.bind_some]
    rw [e1]
    simp only [Option.bind_some]
    rw [hw1, e3 j hj2]; rfl
theorem shr_loop {b : List Int} {w : Nat} {x y : Int} (hx0 : 0 ≤ x) (hx1 : x < 2 ^ w) (h1 : 1 ≤ w) (hw : w ≤ 16) : ∀ (d i : Nat) (g : List D_Gate) (m : Mp) (out : List Int), w - i = d → i ≤ w → Valid g → MapOk g m → g.length + 48 * d ≤ 1000000 → Word ins g b (bitsB w y) → Word ins g out (bitsB w (x / 2 ^ (num ((bitsB w y).take i)).toNat)) →
    ∃ (g' : List D_Gate) (m' : Mp) (out' : List Int), (∃ e, g' = g ++ e) ∧ Valid g' ∧ MapOk g' m' ∧ g'.length ≤ g.length + 48 * d ∧ Word ins g' out' (bitsB w (x / 2 ^ (y % 2 ^ w).toNat)) ∧
      E fun k => ∀ j, d < j → l77v2_122 k j b w w i g m out = some ((), ((g', (), ()), m', out', ())) := by
  intro d
  induction d with
  | zero =>
    intro i g m out hd hiw hv hm hg hwb hwo
    refine ⟨g, m, out, ⟨[], by simp⟩, hv, hm, by omega, ?_, .all fun k j hj => ?_⟩
    · rw [List.take_of_length_le (by rw [bitsB_len]; omega), num_bits] at hwo; exact hwo
    · obtain ⟨j, rfl, _⟩ := succ_of (n := 0) (by omega : 0 + 1 ≤ j)
      show b77v2_122 k (l77v2_122 k j) b w w i g m out = _
      unfold b77v2_122
      rw [decide_eq_false (by omega : ¬ (i : Int) < w)]; rfl
  | succ d ih =>
    intro i g m out hd hiw hv hm hg hwb hwo
    have lo : out.length = w := by rw [hwo.len, bitsB_len]
    have hw1 : w64 ((i : Int) + 1) = ((i + 1 : Nat) : Int) := by rw [w_id (by omega) (by omega)]; omega
    obtain ⟨yl, yb, hy, hyb, ly, vy⟩ := hwb.get (i := i) (by have := hwb.len; rw [bitsB_len] at this; omega)
    have hp := pow_pos2 (num ((bitsB w y).take i)).toNat
    have k0 : 0 ≤ x / 2 ^ (num ((bitsB w y).take i)).toNat := Int.ediv_nonneg hx0 (by omega)
    have k2 : x / 2 ^ (num ((bitsB w y).take i)).toNat ≤ x := Int.ediv_le_self _ hx0
    have hfar := shr_word k0 (by omega) hwo (2 ^ i)
    obtain ⟨g1, m1, o1, he1, hv1, hm1, hl1, hwo1, hE1⟩ := pick_loop99 (ins := ins) (b := b) (i := i) hw hy w 0 g m [] [] (by omega) (by omega) hv hm (by omega) (by rw [hfar.len, bitsB_len]) lo hfar hwo ly vy Word.nil rfl
    rw [List.drop_zero, List.drop_zero, List.nil_append, zip_pick _ _ _ (by rw [bitsB_len, bitsB_len])] at hwo1
    have hnext : Word ins g1 o1 (bitsB w (x / 2 ^ (num ((bitsB w y).take (i + 1))).toNat)) := by
      rw [num_step hyb]
      cases yb with
      | true => simp only [if_true]; rw [Int.pow_add, ← Int.ediv_ediv_of_nonneg (by omega)]; exact hwo1
      | false => simp only [Bool.false_eq_true, if_false, Nat.add_zero]; exact hwo1
    obtain ⟨g3, m3, o3, he3, hv3, hm3, hl3, hw3, hE3⟩ := ih (i + 1) g1 m1 o1 (by omega) (by omega) hv1 hm1 (by omega) (old_word he1 hwb) hnext
    refine ⟨g3, m3, o3, ext_trans he1 he3, hv3, hm3, by omega, hw3, hE1.mono2 (hE3.and (E.ge 40)) fun k e1 e3 j hj => ?_⟩
    obtain ⟨e3, hk⟩ := e3
    obtain ⟨j, rfl, hj2⟩ := succ_of (by omega : d + 1 + 1 ≤ j)
    show b77v2_122 k (l77v2_122 k j) b w w i g m out = _
    have e1 := e1 k (by omega)
    rw [List.drop_zero, List.nil_append, show ((0 : Nat) : Int) = 0 from rfl] at e1
    unfold b77v2_122
    rw [decide_eq_true (by omega : (i : Int) < w), cond_true, decide_eq_false (by omega : ¬ (i : Int) < 0), cond_false, two_of i (by omega), far101 k lo h1 hw]
    simp only [Option.bind_some]
    rw [far_same, e1]
    simp only [Option.bind_some]
    rw [hw1, e3 j hj2]; rfl
/-- What a function that hands back an array of literals comes to. -/
def OpA (ins : List Bool) (g : List D_Gate) (N : Nat) (f : Nat → Option R34) (bs : List Bool) : Prop :=
  ∃ (g' : List D_Gate) (m' : Mp) (out : List Int), (∃ e, g' = g ++ e) ∧ Valid g' ∧ MapOk g' m' ∧ g'.length ≤ g.length + N ∧ Word ins g' out bs ∧ E fun k => f k = some (.inr ((out.length, ()), ((g', (), ()), m', out, ())))
theorem shl56 (hv : Valid g) (hm : MapOk g m) (hg : g.length + 768 ≤ 1000000) {a b : List Int} {w : Nat} {x y : Int} (h1 : 1 ≤ w) (h2 : w ≤ 16) (hwa : Word ins g a (bitsB w x)) (hwb : Word ins g b (bitsB w y)) :
    OpA ins g 768 (fun k => f34 k a b g m) (bitsB w (x * 2 ^ (y % 2 ^ w).toNat)) := by
  have la : a.length = w := by rw [hwa.len, bitsB_len]
  have lb : b.length = w := by rw [hwb.len, bitsB_len]
  obtain ⟨g', m', out, he, hv', hm', hl, hw, hE⟩ := shl_loop (ins := ins) (b := b) (x := x) (y := y) h1 h2 w 0 g m a (by omega) (by omega) hv hm (by omega) hwb (by rw [List.take_zero]; simpa [num] using hwa)
  refine ⟨g', m', out, he, hv', hm', by omega, hw, hE.mono2 (E.ge 60) fun k e hk => ?_⟩
  have lo : out.length = w := by rw [hw.len, bitsB_len]
  have hwh := whole92v2 (g := g') k (a := out) (by omega) hw.lit (by omega)
  rw [lo] at hwh
  show f34 k a b g m = _
  have e := e k (by omega)
  rw [show ((0 : Nat) : Int) = 0 from rfl] at e
  unfold f34 f77 l77_14
  rw [pair95 k (by omega) (by omega) (by omega) (by omega) (by omega) hwa.lit hwb.lit]
  simp only [Option.bind_some, Bool.not_true, cond_false]
  rw [clone102 k (by omega) (by omega)]
  simp only [Option.bind_some]
  rw [lb, la, e]
  simp only [Option.bind_some]
  rw [hwh, lo]; rfl
theorem shr58 (hv : Valid g) (hm : MapOk g m) (hg : g.length + 768 ≤ 1000000) {a b : List Int} {w : Nat} {x y : Int} (hx0 : 0 ≤ x) (hx1 : x < 2 ^ w) (h1 : 1 ≤ w) (h2 : w ≤ 16) (hwa : Word ins g a (bitsB w x)) (hwb : Word ins g b (bitsB w y)) :
    OpA ins g 768 (fun k => f35 k a b g m) (bitsB w (x / 2 ^ (y % 2 ^ w).toNat)) := by
  have la : a.length = w := by rw [hwa.len, bitsB_len]
  have lb : b.length = w := by rw [hwb.len, bitsB_len]
  obtain ⟨g', m', out, he, hv', hm', hl, hw, hE⟩ := shr_loop (ins := ins) (b := b) (x := x) (y := y) hx0 hx1 h1 h2 w 0 g m a (by omega) (by omega) hv hm (by omega) hwb (by rw [List.take_zero]; simpa [num] using hwa)
  refine ⟨g', m', out, he, hv', hm', by omega, hw, hE.mono2 (E.ge 60) fun k e hk => ?_⟩
  have lo : out.length = w := by rw [hw.len, bitsB_len]
  have hwh := whole92v2 (g := g') k (a := out) (by omega) hw.lit (by omega)
  rw [lo] at hwh
  show f35 k a b g m = _
  have e := e k (by omega)
  rw [show ((0 : Nat) : Int) = 0 from rfl] at e
  unfold f35 f77v2 l77v2_14
  rw [pair95 k (by omega) (by omega) (by omega) (by omega) (by omega) hwa.lit hwb.lit]
  simp only [Option.bind_some, Bool.not_true, cond_false]
  rw [clone102 k (by omega) (by omega)]
  simp only [Option.bind_some]
  rw [lb, la, e]
  simp only [Option.bind_some]
  rw [hwh, lo]; rfl
end Vec
end Go.Proofs.Ytepfhidiahleiaa.M
/-
Words of literals: divided.
-/
set_option linter.unusedVariables false
set_option linter.unusedSimpArgs false
set_option maxRecDepth 100000
namespace Go.Proofs.Ytepfhidiahleiaa.M
open Go Go.Proofs.Ytepfhidiahleiaa.Vm Go.Proofs.Ytepfhidiahleiaa.Pl
namespace Vec
open Aig
variable {g : List D_Gate} {m : Mp} {ins : List Bool}

/-! ### numbers -/
theorem div_step {x y : Int} (hx : 0 ≤ x) (hy : 0 ≤ y) (n : Nat) :
    (if y ≤ 2 * (x / 2 ^ (n + 1) % y) + bit x n then 2 * (x / 2 ^ (n + 1) % y) + bit x n - y else 2 * (x / 2 ^ (n + 1) % y) + bit x n) = x / 2 ^ n % y ∧
    (0 < y → decide (y ≤ 2 * (x / 2 ^ (n + 1) % y) + bit x n) = decide (bit (x / y) n = 1)) ∧ 0 ≤ x / 2 ^ (n + 1) % y ∧ 2 * (x / 2 ^ (n + 1) % y) + bit x n ≤ x / 2 ^ n := by
  have hp := pow_pos2 n
  have hX : 0 ≤ x / 2 ^ n := Int.ediv_nonneg hx (by omega)
  have hu : x / 2 ^ (n + 1) = x / 2 ^ n / 2 := by rw [Int.pow_succ, ← Int.ediv_ediv_of_nonneg (by omega)]
  have hb : bit x n = x / 2 ^ n % 2 := rfl
  have hq : 0 < y → bit (x / y) n = x / 2 ^ n / y % 2 := fun h => by
    unfold bit
    rw [Int.ediv_ediv_of_nonneg hy, Int.ediv_ediv_of_nonneg (by omega), Int.mul_comm]
  rw [hu, hb]
  generalize x / 2 ^ n = X at *
  rcases Int.lt_or_le 0 y with h0 | h0
  · rw [hq h0]
    have h1 := Int.emod_nonneg (X / 2) (show y ≠ 0 by omega)
    have h2 := Int.emod_lt_of_pos (X / 2) h0
    have h3 := Int.mul_ediv_add_emod (X / 2) y
    have hle : X / 2 % y ≤ X / 2 := by
      have := Int.mul_nonneg hy (Int.ediv_nonneg (show 0 ≤ X / 2 by omega) hy)
      omega
    have hle2 : 2 * (X / 2 % y) + X % 2 ≤ X := by omega
    generalize hs : X / 2 % y = s at *
    generalize hq' : X / 2 / y = q at *
    have hr : X = (2 * s + X % 2) + y * (2 * q) := by
      rw [Int.mul_left_comm]; omega
    have hm : X % y = (2 * s + X % 2) % y := by
      conv => lhs; rw [hr]
      exact Int.add_mul_emod_self_left ..
    have hd : X / y = (2 * s + X % 2) / y + 2 * q := by
      conv => lhs; rw [hr]
      exact Int.add_mul_ediv_left _ _ (by omega)
    have hX2 : 0 ≤ X % 2 ∧ X % 2 < 2 := by omega
    generalize X % 2 = b at *
    refine ⟨?_, fun _ => ?_, h1, by omega⟩
    · rw [hm]
      by_cases h : y ≤ 2 * s + b
      · rw [if_pos h]
        have : (2 * s + b) % y = (2 * s + b - y) % y := by
          conv => lhs; rw [show 2 * s + b = (2 * s + b - y) + y * 1 by omega]
          exact Int.add_mul_emod_self_left ..
        rw [this, Int.emod_eq_of_lt (by omega) (by omega)]
      · rw [if_neg h, Int.emod_eq_of_lt (by omega) (by omega)]
    · rw [hd]
      by_cases h : y ≤ 2 * s + b
      · have : (2 * s + b) / y = 1 := by
          conv => lhs; rw [show 2 * s + b = (2 * s + b - y) + y * 1 by omega]
          rw [Int.add_mul_ediv_left _ _ (by omega), Int.ediv_eq_zero_of_lt (by omega) (by omega)]; rfl
        rw [this, decide_eq_true h, decide_eq_true (by omega)]
      · have : (2 * s + b) / y = 0 := Int.ediv_eq_zero_of_lt (by omega) (by omega)
        rw [this, decide_eq_false h, decide_eq_false (by omega)]
  · have : y = 0 := by omega
    subst this
    rw [Int.emod_zero, Int.emod_zero, if_pos (by omega)]
    exact ⟨by omega, fun h => by omega, by omega, by omega⟩
/-- The quotient; of a division by 0, all ones. -/
def quo (w : Nat) (x y : Int) : Int := if y = 0 then 2 ^ w - 1 else x / y
theorem ones_bit {w n : Nat} (h : n < w) : bit (2 ^ w - 1) n = 1 := by
  unfold bit
  have h1 : (2 : Int) ^ w = 2 ^ n * (2 * 2 ^ (w - n - 1)) := by
    rw [← Int.mul_assoc, ← Int.pow_succ, ← Int.pow_add, show n + 1 + (w - n - 1) = w by omega]
  have hp := pow_pos2 n
  have hp2 := pow_pos2 (w - n - 1)
  rw [h1]
  generalize (2 : Int) ^ (w - n - 1) = r at *
  have : (2 : Int) ^ n * (2 * r) - 1 = (2 ^ n - 1) + 2 ^ n * (2 * r - 1) := by rw [Int.mul_sub]; omega
  rw [this, Int.add_mul_ediv_left _ _ (by omega), Int.ediv_eq_zero_of_lt (by omega) (by omega)]
  omega
theorem quo_bit {w n : Nat} {x y : Int} (hx : 0 ≤ x) (hy : 0 ≤ y) (h : n < w) : decide (y ≤ 2 * (x / 2 ^ (n + 1) % y) + bit x n) = decide (bit (quo w x y) n = 1) := by
  obtain ⟨_, h2, h3, h4⟩ := div_step hx hy n
  unfold quo
  by_cases h0 : y = 0
  · rw [if_pos h0, ones_bit h]
    have := bit_two x n
    rw [decide_eq_true (by omega)]; rfl
  · rw [if_neg h0]; exact h2 (by omega)
theorem quo_back {w : Nat} {x y : Int} : quo w x y * y + x % y = x := by
  unfold quo
  by_cases h0 : y = 0
  · subst h0; rw [Int.mul_zero, Int.emod_zero, Int.zero_add]
  · rw [if_neg h0, Int.mul_comm]; exact Int.mul_ediv_add_emod x y
theorem take_bits : ∀ (w k : Nat) (v : Int), (bitsB (w + k) v).take w = bitsB w v
  | 0, k, v => by simp [bitsB]
  | w + 1, k, v => by rw [show w + 1 + k = (w + k) + 1 by omega, bitsB, List.take_succ_cons, take_bits w k]; rfl
theorem cons_bits (w : Nat) {r : Int} {b : Int} (hb : b = 0 ∨ b = 1) : decide (b = 1) :: bitsB w r = bitsB (w + 1) (2 * r + b) := by
  rw [bitsB]
  congr 2
  · rw [show (2 * r + b) % 2 = b by omega]
  · omega
theorem pad_bits {w : Nat} {y : Int} (h0 : 0 ≤ y) (h1 : y < 2 ^ w) : bitsB w y ++ [false] = bitsB (w + 1) y := by
  refine word_bits (by rw [List.length_append, bitsB_len]; rfl) ?_
  have : y < 2 ^ (w + 1) := by rw [Int.pow_succ]; omega
  rw [num_append, num_bits, Int.emod_eq_of_lt h0 h1, Int.emod_eq_of_lt h0 this]
  simp [num]
theorem Word.set {a : List Int} {bs : List Bool} (h : Word ins g a bs) {x : Int} {b : Bool} (hx : isL g x = true) (hv : Aig.val ins g x = b) (i : Nat) : Word ins g (a.set i x) (bs.set i b) :=
  ⟨fun z hz => by
    rcases List.mem_or_eq_of_mem_set hz with h1 | rfl
    · exact h.lit z h1
    · exact hx, by rw [List.map_set, h.val, hv]⟩

/-! ### a sum whose first word is an array -/
theorem lift96v4 (k : Nat) : ∀ (j : Nat) (a b : List Int) (c : Int) (out : List Int) (n i : Int) (g : List D_Gate) (m : Mp) (y : R69_58), l69_58 k j a b c out n i g m = some y → l69v4_58 k j a.length b c out n i g m a = some (y.1, (y.2.1, y.2.2.1, a, ())) := by
  intro j
  induction j with
  | zero => intro a b c out n i g m y h; cases h
  | succ j ih =>
    intro a b c out n i g m y h
    have h : b69_58 k (l69_58 k j) a b c out n i g m = some y := h
    show b69v4_58 k (l69v4_58 k j) a.length b c out n i g m a = _
    unfold b69_58 at h
    unfold b69v4_58
    simp only [ixo]
    cases hd : decide (i < n) with
    | false =>
      rw [hd] at h
      obtain rfl := Option.some.inj h
      rfl
    | true =>
      rw [hd, cond_true] at h
      rw [cond_true]
      obtain ⟨e1, q1, h⟩ := ix_case h
      obtain ⟨e2, q2, h⟩ := ix_case h
      obtain ⟨y3, h3, h⟩ := bind_some h
      obtain ⟨y4, h4, h⟩ := bind_some h
      obtain ⟨hr, h⟩ := gd_case h
      rw [q1, q2] at h
      obtain ⟨y7, h7, h⟩ := bind_some h
      obtain ⟨y8, h8, h⟩ := bind_some h
      obtain ⟨y9, h9, h⟩ := bind_some h
      obtain ⟨y10, h10, h⟩ := bind_some h
      obtain rfl := Option.some.inj h
      rw [q1, q2, h3]
      simp only [Option.bind_some]
      rw [h4]
      simp only [Option.bind_some]
      rw [hr, q1, q2, h7]
      simp only [gd_true, Option.bind_some]
      rw [h8]
      simp only [Option.bind_some]
      rw [h9]
      simp only [Option.bind_some]
      rw [ih _ _ _ _ _ _ _ _ _ h10]; rfl
theorem sum96v4 (k : Nat) {a b : List Int} {c : Int} {n : Nat} (hn : a.length = n) {y : R69} (h : f69 k a b c g m = some y) : f69v4 k n b c g m a = some (y.1, (y.2.1, y.2.2.1, a, ())) := by
  subst hn
  unfold f69 at h
  obtain ⟨y1, h1, h⟩ := bind_some h
  obtain rfl := Option.some.inj h
  unfold f69v4
  rw [lift96v4 k _ _ _ _ _ _ _ _ _ _ h1]; rfl
theorem less103v2 (hv : Valid g) (hm : MapOk g m) (hg : g.length + 153 ≤ 1000000) {a b : List Int} {n : Nat} {xs ys : List Bool} (ha : a.length = n) (hwa : Word ins g a xs) (hwb : Word ins g b ys) (hab : a.length = b.length) (h2 : n ≤ 17) :
    ∃ (g' : List D_Gate) (m' : Mp) (r : Int), (∃ e, g' = g ++ e) ∧ Valid g' ∧ MapOk g' m' ∧ g'.length ≤ g.length + 153 ∧ isL g' r = true ∧ Aig.val ins g' r = decide (num xs < num ys) ∧ E fun k => f74v2 k n b g m a = some ((r, ()), ((g', (), ()), m', a, ())) := by
  have hlen : xs.length = ys.length := by rw [← hwa.len, ← hwb.len]; exact hab
  have lo : isL g 1 = true := isL_iff.2 (by omega)
  obtain ⟨g1, m1, c, out, he1, hv1, hm1, hl1, lc, vc, hw1, hE1⟩ := sum96 (ins := ins) hv hm hg hwa hwb.nots (by rw [List.length_map]; exact hab) (by omega) lo (cb := true) val_one
  have hc := isL_iff.1 lc
  refine ⟨g1, m1, nt c, he1, hv1, hm1, by omega, isL_nt lc, ?_, hE1.mono2 (E.ge 40) fun k e1 hk => ?_⟩
  · rw [vnt lc, vc, less_carry hlen]
    by_cases h : num ys ≤ num xs
    · rw [decide_eq_true h, decide_eq_false (by omega)]; rfl
    · rw [decide_eq_false h, decide_eq_true (by omega)]; rfl
  · unfold f74v2
    rw [turned104 k (by omega) (by omega) (by omega) hwb.lit]
    simp only [Option.bind_some]
    rw [sum96v4 k ha e1]
    simp only [Option.bind_some, beq_int]
    rw [decide_eq_false (by omega : ¬ c = -1), cond_false, xor1w (by omega) lc]
theorem sub96v4 (hv : Valid g) (hm : MapOk g m) (hg : g.length + 153 ≤ 1000000) {a b : List Int} {n : Nat} {x y : Int} (ha : a.length = n) (hwa : Word ins g a (bitsB n x)) (hwb : Word ins g b (bitsB n y)) (h2 : n ≤ 17) :
    ∃ (g' : List D_Gate) (m' : Mp) (c : Int) (out : List Int), (∃ e, g' = g ++ e) ∧ Valid g' ∧ MapOk g' m' ∧ g'.length ≤ g.length + 153 ∧ Word ins g' out (bitsB n (x - y)) ∧ E fun k => f69v4 k n (b.map nt) 1 g m a = some ((out, c, ()), ((g', (), ()), m', a, ())) := by
  have hb : b.length = n := by rw [hwb.len, bitsB_len]
  have lo : isL g 1 = true := isL_iff.2 (by omega)
  obtain ⟨g1, m1, c, out, he1, hv1, hm1, hl1, lc, vc, hw1, hE1⟩ := sum96 (ins := ins) hv hm hg hwa hwb.nots (by rw [List.length_map]; omega) (by omega) lo (cb := true) val_one
  rw [sub_bits] at hw1
  exact ⟨g1, m1, c, out, he1, hv1, hm1, hl1, hw1, hE1.mono fun k e => sum96v4 k ha e⟩
theorem pick_loop60 {qa : List Int} {w n i : Nat} (hn : n ≤ 17) (hiw' : i < w) {c : Int} {cb : Bool} (hc : qa[i]? = some c) {fs os : List Bool} {far old : List Int} : ∀ (d k0 : Nat) (g : List D_Gate) (m : Mp) (pre : List Int) (bs : List Bool), n - k0 = d → k0 ≤ n → Valid g → MapOk g m → g.length + 3 * d ≤ 1000000 → far.length = n → old.length = n →
    Word ins g far fs → Word ins g old os → isL g c = true → Aig.val ins g c = cb → Word ins g pre bs → pre.length = k0 →
    ∃ (g' : List D_Gate) (m' : Mp) (out : List Int), (∃ e, g' = g ++ e) ∧ Valid g' ∧ MapOk g' m' ∧ g'.length ≤ g.length + 3 * d ∧ Word ins g' out (bs ++ zipB (fun x y => cond cb x y) (fs.drop k0) (os.drop k0)) ∧
      E fun k => ∀ j, d < j → l33_4182654 k j w n i far n k0 g m qa (pre ++ old.drop k0) = some ((), ((g', (), ()), m', qa, out, ())) := by
  intro d
  induction d with
  | zero =>
    intro k0 g m pre bs hd hkw hv hm hg hfl hol hwf hwo lc vc hwp hp
    refine ⟨g, m, pre, ⟨[], by simp⟩, hv, hm, by omega, ?_, .all fun k j hj => ?_⟩
    · rw [List.drop_of_length_le (by have := hwf.len; omega), zipB, List.append_nil]; exact hwp
      all_goals simp
    · obtain ⟨j, rfl, _⟩ := succ_of (n := 0) (by omega : 0 + 1 ≤ j)
      show b33_4182654 k (l33_4182654 k j) w n i far n k0 g m qa _ = _
      unfold b33_4182654
      rw [decide_eq_false (by omega : ¬ (k0 : Int) < n), List.drop_of_length_le (by omega), List.append_nil]; rfl
  | succ d ih =>
    intro k0 g m pre bs hd hkw hv hm hg hfl hol hwf hwo lc vc hwp hp
    have hw1 : w64 ((k0 : Int) + 1) = ((k0 + 1 : Nat) : Int) := by rw [w_id (by omega) (by omega)]; omega
    obtain ⟨x, bx, hx, hbx, lx, vx⟩ := hwf.get (i := k0) (by omega)
    obtain ⟨y, by_, hy, hby, ly, vy⟩ := hwo.get (i := k0) (by omega)
    obtain ⟨g1, m1, r, he1, hv1, hm1, hl1, lr, vr, hE1⟩ := ite_op (ins := ins) hv hm (by omega) lc lx ly
    have hwc := old_lit (ins := ins) he1 lc
    obtain ⟨g2, m2, out2, he2, hv2, hm2, hl2, hw2', hE2⟩ := ih (k0 + 1) g1 m1 (pre ++ [r]) (bs ++ [cond cb bx by_]) (by omega) (by omega) hv1 hm1 (by omega) hfl hol (old_word he1 hwf) (old_word he1 hwo) hwc.1 (by rw [hwc.2, vc]) ((old_word he1 hwp).snoc lr (by rw [vr, vc, vx, vy])) (by rw [List.length_append, hp]; rfl)
    refine ⟨g2, m2, out2, ext_trans he1 he2, hv2, hm2, by omega, ?_, hE1.mono2 hE2 fun k e1 e2 j hj => ?_⟩
    · rw [zipB_drop _ hbx hby]
      rw [List.append_assoc] at hw2'; exact hw2'
    · obtain ⟨j, rfl, hj2⟩ := succ_of (by omega : d + 1 + 1 ≤ j)
      show b33_4182654 k (l33_4182654 k j) w n i far n k0 g m qa _ = _
      dsimp only at e1
      have hlt := Vm.getElem?_lt hy
      have hdr : old.drop k0 = y :: old.drop (k0 + 1) := by
        rw [List.drop_eq_getElem_cons hlt]
        rw [List.getElem?_eq_getElem hlt] at hy
        rw [Option.some.inj hy]
      have hset : (pre ++ old.drop k0).set (0 + (k0 : Int).toNat) r = (pre ++ [r]) ++ old.drop (k0 + 1) := by
        rw [show 0 + (k0 : Int).toNat = pre.length by omega, hdr, List.set_append_right _ _ (Nat.le_refl _), Nat.sub_self, List.set_cons_zero, List.append_assoc]; rfl
      have hgc : qa[0 + (i : Int).toNat]? = some c := by rw [show 0 + (i : Int).toNat = i by omega]; exact hc
      have hgy : (pre ++ old.drop k0)[0 + (k0 : Int).toNat]? = some y := by
        rw [show 0 + (k0 : Int).toNat = k0 by omega, hdr, List.getElem?_append_right (by omega), hp, Nat.sub_self]; rfl
      unfold b33_4182654
      rw [decide_eq_true (by omega : (k0 : Int) < n), cond_true, gd_dec (by omega), gd_dec (by omega), hgc]
      simp only [Option.bind_some]
      rw [ix_nat hx, gd_dec (by omega), gd_dec (by omega), hgy]
      simp only [Option.bind_some]
      rw [e1]
      simp only [Option.bind_some]
      rw [gd_dec (by omega), gd_dec (by omega), gd_dec (by rw [List.length_append, List.length_drop]; omega), hset, hw1, e2 j hj2]; rfl
end Vec
end Go.Proofs.Ytepfhidiahleiaa.M
/-
Words of literals: the division's rounds.
-/
set_option linter.unusedVariables false
set_option linter.unusedSimpArgs false
set_option maxRecDepth 100000
namespace Go.Proofs.Ytepfhidiahleiaa.M
open Go Go.Proofs.Ytepfhidiahleiaa.Vm Go.Proofs.Ytepfhidiahleiaa.Pl
namespace Vec
open Aig
variable {g : List D_Gate} {m : Mp} {ins : List Bool}
theorem div_core {w n : Nat} {x y : Int} (h1 : 1 ≤ w) (hw : w ≤ 16) (hx0 : 0 ≤ x) (hx1 : x < 2 ^ w) (hy0 : 0 ≤ y) (hy1 : y < 2 ^ w) (hn : n < w) {a wide qa T : List Int} {e : Int} (hv : Valid g) (hm : MapOk g m) (hg : g.length + 400 ≤ 1000000)
    (hwa : Word ins g a (bitsB w x)) (hww : Word ins g wide (bitsB (w + 1) y)) (hwq : Word ins g qa (List.replicate (n + 1) false ++ (bitsB w (quo w x y)).drop (n + 1))) (hwT : Word ins g T (bitsB w (x / 2 ^ (n + 1) % y))) (he : a[n]? = some e) :
    ∃ (g' : List D_Gate) (m' : Mp) (l : Int) (g1 : List D_Gate) (m1 : Mp) (g2 : List D_Gate) (m2 : Mp) (c : Int) (d rest : List Int), (∃ e, g' = g ++ e) ∧ Valid g' ∧ MapOk g' m' ∧ g'.length ≤ g.length + 400 ∧ 0 ≤ l ∧ ibits .xor .i64 l 1 = nt l ∧
      Word ins g' (qa.set n (nt l)) (List.replicate n false ++ (bitsB w (quo w x y)).drop n) ∧ Word ins g' rest (bitsB (w + 1) (x / 2 ^ n % y)) ∧
      E fun k => f74v2 k (1 + w) wide g m ([e] ++ T) = some ((l, ()), ((g1, (), ()), m1, [e] ++ T, ())) ∧ f75 k wide = some ((wide.map nt, ()), ()) ∧ f69v4 k (1 + w) (wide.map nt) 1 g1 m1 ([e] ++ T) = some ((d, c, ()), ((g2, (), ()), m2, [e] ++ T, ())) ∧
        l33_4182654 k k w (1 + w) n d (1 + (w : Int)) 0 g2 m2 (qa.set n (nt l)) ([e] ++ T) = some ((), ((g', (), ()), m', qa.set n (nt l), rest, ())) := by
  have hlT : T.length = w := by rw [hwT.len, bitsB_len]
  have hlw : wide.length = w + 1 := by rw [hww.len, bitsB_len]
  have hlq : qa.length = w := by rw [hwq.len, List.length_append, List.length_replicate, List.length_drop, bitsB_len]; omega
  obtain ⟨d1, _, d3, d4⟩ := div_step hx0 hy0 n
  have d2 := quo_bit (w := w) hx0 hy0 hn
  have hb2 := bit_two x n
  have hXx : x / 2 ^ n ≤ x := Int.ediv_le_self _ hx0
  obtain ⟨e', be, he', hbe, le, ve⟩ := hwa.get (i := n) (by have := hwa.len; rw [bitsB_len] at this; omega)
  rw [he] at he'
  obtain rfl := Option.some.inj he'
  rw [bits_get w n x hn] at hbe
  obtain rfl := Option.some.inj hbe
  have hwR : Word ins g ([e] ++ T) (bitsB (w + 1) (2 * (x / 2 ^ (n + 1) % y) + bit x n)) := by
    rw [← cons_bits w hb2]
    refine ⟨fun z hz => ?_, ?_⟩
    · rcases List.mem_append.1 hz with h | h
      · rw [List.mem_singleton.1 h]; exact le
      · exact hwT.lit z h
    · rw [List.map_append, List.map_cons, List.map_nil, hwT.val, ve]; rfl
  generalize hR : 2 * (x / 2 ^ (n + 1) % y) + bit x n = R at *
  have hp1 : (2 : Int) ^ (w + 1) = 2 * 2 ^ w := by rw [Int.pow_succ]; omega
  obtain ⟨g1, m1, l, he1, hv1, hm1, hl1, ll, vl, hE1⟩ := less103v2 (ins := ins) (n := 1 + w) hv hm (by omega) (by rw [List.length_append, hlT]; rfl) hwR hww (by rw [List.length_append, hlT, hlw]; simp; omega) (by omega)
  rw [num_bits, num_bits, Int.emod_eq_of_lt (by omega) (by omega), Int.emod_eq_of_lt (by omega) (by omega)] at vl
  have vn : Aig.val ins g1 (nt l) = decide (y ≤ R) := by
    rw [vnt ll, vl]
    by_cases h : y ≤ R
    · rw [decide_eq_true h, decide_eq_false (by omega)]; rfl
    · rw [decide_eq_false h, decide_eq_true (by omega)]; rfl
  obtain ⟨g2, m2, c, d, he2, hv2, hm2, hl2, hwd, hE2⟩ := sub96v4 (ins := ins) (a := [e] ++ T) (n := 1 + w) (x := R) (y := y) hv1 hm1 (by omega) (by rw [List.length_append, hlT]; rfl) (by rw [Nat.add_comm 1 w]; exact old_word he1 hwR) (by rw [Nat.add_comm 1 w]; exact old_word he1 hww) (by omega)
  have lln := isL_nt ll
  have l2 := old_lit (ins := ins) he2 lln
  have hc : (qa.set n (nt l))[n]? = some (nt l) := List.getElem?_set_self (by omega)
  obtain ⟨g3, m3, rest, he3, hv3, hm3, hl3, hwr, hE3⟩ := pick_loop60 (ins := ins) (qa := qa.set n (nt l)) (w := w) (n := 1 + w) (i := n) (by omega) hn hc (1 + w) 0 g2 m2 [] [] (by omega) (by omega) hv2 hm2 (by omega) (by rw [hwd.len, bitsB_len]) (by rw [List.length_append, hlT]; rfl) hwd (old_word (ext_trans he1 he2) hwR) l2.1 (l2.2.trans vn) Word.nil rfl
  rw [List.drop_zero, List.drop_zero, List.nil_append, zip_pick _ _ _ (by rw [bitsB_len, bitsB_len, Nat.add_comm])] at hwr
  have hll := isL_iff.1 ll
  refine ⟨g3, m3, l, g1, m1, g2, m2, c, d, rest, ext_trans (ext_trans he1 he2) he3, hv3, hm3, by omega, hll.1, xor1w (by omega) ll, ?_, ?_, hE1.mono2 (hE2.and (hE3.and (E.ge 60))) fun k e1 e2 => ?_⟩
  · have hw0 := (old_word (ext_trans (ext_trans he1 he2) he3) hwq).set (old_lit (ins := ins) (ext_trans he2 he3) lln).1 ((old_lit (ins := ins) (ext_trans he2 he3) lln).2.trans vn) n
    have ebit : (List.replicate (n + 1) false ++ (bitsB w (quo w x y)).drop (n + 1)).set n (decide (y ≤ R)) = List.replicate n false ++ (bitsB w (quo w x y)).drop n := by
      have hlt : n < (bitsB w (quo w x y)).length := by rw [bitsB_len]; exact hn
      have hg := bits_get w n (quo w x y) hn
      rw [List.getElem?_eq_getElem hlt] at hg
      rw [List.drop_eq_getElem_cons hlt, Option.some.inj hg, ← d2, List.replicate_succ', List.append_assoc, List.set_append_right _ _ (by simp)]
      simp
    rw [ebit] at hw0; exact hw0
  · rw [← d1]
    by_cases h : y ≤ R
    · rw [decide_eq_true h, cond_true, Nat.add_comm 1 w] at hwr
      rw [if_pos h]; exact hwr
    · rw [decide_eq_false h, cond_false] at hwr
      rw [if_neg h]; exact hwr
  · obtain ⟨e2, e3, hk⟩ := e2
    have e3 := e3 k (by omega)
    rw [List.drop_zero, List.nil_append, show ((0 : Nat) : Int) = 0 from rfl, show ((1 + w : Nat) : Int) = 1 + (w : Int) by omega] at e3
    exact ⟨e1, turned104 k (by omega) (g := g) (by omega) (by omega) hww.lit, e2, e3⟩
theorem l60s1 (k j : Nat) : l33_2042s1 k (j + 1) = b33_2042s1 k (l33_2042s0 k j) (l33_2042s1 k j) := rfl
theorem l60s0 (k j : Nat) : l33_2042s0 k (j + 1) = b33_2042s0 k (l33_2042s0 k j) (l33_2042s1 k j) := rfl
theorem div_loop {w : Nat} {x y : Int} (h1 : 1 ≤ w) (hw : w ≤ 16) (hx0 : 0 ≤ x) (hx1 : x < 2 ^ w) (hy0 : 0 ≤ y) (hy1 : y < 2 ^ w) {a wide : List Int} : ∀ (n : Nat) (g : List D_Gate) (m : Mp) (qa rest : List Int), n ≤ w → Valid g → MapOk g m → g.length + 400 * n ≤ 1000000 →
    Word ins g a (bitsB w x) → Word ins g wide (bitsB (w + 1) y) → Word ins g qa (List.replicate n false ++ (bitsB w (quo w x y)).drop n) → Word ins g rest (bitsB (w + 1) (x / 2 ^ n % y)) →
    ∃ (g' : List D_Gate) (m' : Mp) (qa' rest' : List Int), (∃ e, g' = g ++ e) ∧ Valid g' ∧ MapOk g' m' ∧ g'.length ≤ g.length + 400 * n ∧ Word ins g' qa' (bitsB w (quo w x y)) ∧ Word ins g' rest' (bitsB (w + 1) (x % y)) ∧
      E fun k => ∀ j, n < j → l33_2042s1 k j a w (1 + w) w wide ((n : Int) - 1) g m qa rest = some (.inl ((w, 1 + w, ()), ((g', (), ()), m', qa', rest', ()))) ∨ ∃ o, l33_2042s1 k j a w (1 + w) w wide ((n : Int) - 1) g m qa rest = some (.inr (.inl ((w, 1 + w, ()), ((g', (), ()), m', qa', o, rest', ())))) := by
  intro n
  induction n with
  | zero =>
    intro g m qa rest hnw hv hm hg hwa hww hwq hwr
    refine ⟨g, m, qa, rest, ⟨[], by simp⟩, hv, hm, by omega, by simpa using hwq, by simpa using hwr, .all fun k j hj => .inl ?_⟩
    obtain ⟨j, rfl, _⟩ := succ_of (n := 0) (by omega : 0 + 1 ≤ j)
    rw [l60s1]
    unfold b33_2042s1
    rw [decide_eq_false (by omega : ¬ ((0 : Nat) : Int) - 1 ≥ 0)]; rfl
  | succ n ih =>
    intro g m qa rest hnw hv hm hg hwa hww hwq hwr
    have hlr : rest.length = w + 1 := by rw [hwr.len, bitsB_len]
    have hlq : qa.length = w := by rw [hwq.len, List.length_append, List.length_replicate, List.length_drop, bitsB_len]; omega
    have hwT : Word ins g (rest.take w) (bitsB w (x / 2 ^ (n + 1) % y)) := by
      rw [← take_bits w 1]
      exact ⟨fun z hz => hwr.lit z (List.mem_of_mem_take hz), by rw [List.map_take, hwr.val]⟩
    obtain ⟨e, be, he, _, _, _⟩ := hwa.get (i := n) (by have := hwa.len; rw [bitsB_len] at this; omega)
    obtain ⟨g1, m1, l, ga, ma, gb, mb, c, d, r1, he1, hv1, hm1, hl1, hl0, hx, hwq1, hwr1, hE1⟩ := div_core (ins := ins) h1 hw hx0 hx1 hy0 hy1 (by omega : n < w) hv hm (by omega) hwa hww hwq hwT he
    obtain ⟨g2, m2, q2, r2, he2, hv2, hm2, hl2, hwq2, hwr2, hE2⟩ := ih g1 m1 _ r1 (by omega) hv1 hm1 (by omega) (old_word he1 hwa) (old_word he1 hww) hwq1 hwr1
    refine ⟨g2, m2, q2, r2, ext_trans he1 he2, hv2, hm2, by omega, hwq2, hwr2, hE1.mono2 (hE2.and (E.ge 60)) fun k e1 e2 j hj => .inr ⟨rest, ?_⟩⟩
    obtain ⟨e1, e2', e3, e4⟩ := e1
    obtain ⟨e5, hk⟩ := e2
    obtain ⟨j, rfl, hj2⟩ := succ_of (by omega : n + 1 + 1 ≤ j)
    rw [l60s1]
    have hT : (rest.drop 0).take (w : Int).toNat = rest.take w := by rw [List.drop_zero, Int.toNat_natCast]
    have hTl : (rest.take w).length = w := by rw [List.length_take]; omega
    have hTe : (rest.take w).isEmpty = false := by
      cases hc : rest.take w with
      | nil => rw [hc] at hTl; simp at hTl; omega
      | cons => rfl
    have hw1 : w64 ((n : Int) - 1) = (n : Int) - 1 := w_id (by omega) (by omega)
    unfold b33_2042s1
    rw [show ((n + 1 : Nat) : Int) - 1 = (n : Int) by omega, decide_eq_true (by omega : (n : Int) ≥ 0), cond_true, ix_nat he, gd_dec (by omega), gd_dec (by omega), gd_dec (by omega), hT, hTe, cond_false, hTl, gd_dec (by unfold room; omega), e1]
    simp only [Option.bind_some, beq_int]
    rw [decide_eq_false (by omega : ¬ l = -1), cond_false, gd_true, gd_dec (by omega), gd_dec (by omega), e2']
    simp only [Option.bind_some]
    rw [e3]
    simp only [Option.bind_some]
    rw [hx, show 0 + (n : Int).toNat = n by omega, e4]
    simp only [Option.bind_some]
    rw [hw1]
    rcases e5 j hj2 with e5 | ⟨o, e5⟩
    · rw [e5]; rfl
    · rw [e5]; rfl
theorem whole_more (k : Nat) {w : Nat} {a : List Int} (ha : w ≤ a.length) (hw : w ≤ 16) (h : ∀ x ∈ a, isL g x = true) (hk : 16 < k) : f70v2 k w a = some (.inr ((w, ()), (a, ()))) := by
  unfold f70v2 f97 f108
  have hl : (a.take w).length = w := by rw [List.length_take]; omega
  rw [gd_dec (by omega), List.drop_zero]
  have := index_loop k (a := a.take w) (by omega) (fun x hx => by have := (isL_iff.1 (h x (List.mem_of_mem_take hx))).1; omega) (a.take w).length 0 (by omega) k (by omega)
  rw [show ((0 : Nat) : Int) = 0 from rfl] at this
  rw [this]
  rfl
theorem clone102v4 (k : Nat) {a : List Int} (h2 : a.length ≤ 17) : f73v4 k a = some ((a, ()), ()) := by
  unfold f73v4 f73v6
  rw [gd_dec (by unfold room; omega), List.nil_append]
theorem div60 (hv : Valid g) (hm : MapOk g m) (hg : g.length + 6400 ≤ 1000000) {a b : List Int} {w : Nat} {x y : Int} (hx0 : 0 ≤ x) (hx1 : x < 2 ^ w) (hy0 : 0 ≤ y) (hy1 : y < 2 ^ w) (h1 : 1 ≤ w) (hw : w ≤ 16) (hwa : Word ins g a (bitsB w x)) (hwb : Word ins g b (bitsB w y)) :
    ∃ (g' : List D_Gate) (m' : Mp) (qa rest : List Int), (∃ e, g' = g ++ e) ∧ Valid g' ∧ MapOk g' m' ∧ g'.length ≤ g.length + 6400 ∧ Word ins g' qa (bitsB w (quo w x y)) ∧ Word ins g' rest (bitsB (w + 1) (x % y)) ∧
      E fun k => f33 k a b g m = some (.inr (.inr ((w, w, ()), ((g', (), ()), m', qa, rest, ())))) := by
  have la : a.length = w := by rw [hwa.len, bitsB_len]
  have lb : b.length = w := by rw [hwb.len, bitsB_len]
  obtain ⟨n, rfl⟩ : ∃ n, w = n + 1 := ⟨w - 1, by omega⟩
  have lz : isL g 0 = true := isL_iff.2 (by omega)
  have hww : Word ins g (b ++ [0]) (bitsB (n + 1 + 1) y) := by
    rw [← pad_bits hy0 hy1]
    exact hwb.snoc lz val_zero
  have hwT : Word ins g (List.replicate (n + 1) 0) (bitsB (n + 1) (x / 2 ^ (n + 1) % y)) := by
    rw [Int.ediv_eq_zero_of_lt hx0 hx1, Int.zero_emod]; exact zero_word _
  have hwq : Word ins g (List.replicate (n + 1) 0) (List.replicate (n + 1) false ++ (bitsB (n + 1) (quo (n + 1) x y)).drop (n + 1)) := by
    rw [List.drop_of_length_le (by rw [bitsB_len]; omega), List.append_nil]
    exact ⟨fun x hx => by rw [(List.mem_replicate.1 hx).2]; exact lz, by rw [List.map_replicate, val_zero]⟩
  obtain ⟨e, be, he, _, _, _⟩ := hwa.get (i := n) (by omega)
  obtain ⟨g1, m1, l, ga, ma, gb, mb, c, d, r1, he1, hv1, hm1, hl1, hl0, hx, hwq1, hwr1, hE1⟩ := div_core (ins := ins) h1 hw hx0 hx1 hy0 hy1 (by omega : n < n + 1) hv hm (by omega) hwa hww hwq hwT he
  obtain ⟨g2, m2, q2, r2, he2, hv2, hm2, hl2, hwq2, hwr2, hE2⟩ := div_loop (ins := ins) h1 hw hx0 hx1 hy0 hy1 n g1 m1 _ r1 (by omega) hv1 hm1 (by omega) (old_word he1 hwa) (old_word he1 hww) hwq1 hwr1
  refine ⟨g2, m2, q2, r2, ext_trans he1 he2, hv2, hm2, by omega, hwq2, hwr2, hE1.mono2 (hE2.and (E.ge 60)) fun k e1 e2 => ?_⟩
  obtain ⟨e1, e2', e3, e4⟩ := e1
  obtain ⟨e5, hk⟩ := e2
  have lq2 : q2.length = n + 1 := by rw [hwq2.len, bitsB_len]
  have lr2 : r2.length = n + 1 + 1 := by rw [hwr2.len, bitsB_len]
  have w1 := whole_more (g := g2) k (w := n + 1) (a := q2) (by omega) hw hwq2.lit (by omega)
  have w2 := whole_more (g := g2) k (w := n + 1) (a := r2) (by omega) hw hwr2.lit (by omega)
  have hloop : l33_2042s0 k k a (n + 1) (List.replicate (n + 1) 0 ++ [0]) (n + 1 : Nat) (b ++ [0]) (n : Int) g m (List.replicate (n + 1) 0) = some (.inr (.inl ((n + 1, 1 + (n + 1), ()), ((g2, (), ()), m2, q2, r2, ())))) := by
    obtain ⟨j, hj, hj2⟩ := succ_of (by omega : n + 1 + 1 ≤ k)
    have hun : l33_2042s0 k k a (n + 1) (List.replicate (n + 1) 0 ++ [0]) (n + 1 : Nat) (b ++ [0]) (n : Int) g m (List.replicate (n + 1) 0) = b33_2042s0 k (l33_2042s0 k j) (l33_2042s1 k j) a (n + 1) (List.replicate (n + 1) 0 ++ [0]) (n + 1 : Nat) (b ++ [0]) (n : Int) g m (List.replicate (n + 1) 0) := by
      rw [← l60s0, ← hj]
    rw [hun]
    have hT : ((List.replicate (n + 1) (0 : Int) ++ [0]).take (((n + 1 : Nat) : Int).toNat)).drop 0 = List.replicate (n + 1) 0 := by
      rw [List.drop_zero, show ((n + 1 : Nat) : Int).toNat = n + 1 by omega, List.take_append_of_le_length (by simp)]; simp
    have hTe : (List.replicate (n + 1) (0 : Int)).isEmpty = false := rfl
    have hw1 : w64 ((n : Int) - 1) = (n : Int) - 1 := w_id (by omega) (by omega)
    unfold b33_2042s0
    rw [decide_eq_true (by omega : (n : Int) ≥ 0), cond_true, ix_nat he, gd_dec (by omega), gd_dec (by simp), hT, hTe, cond_false, List.length_replicate, gd_dec (by unfold room; omega), e1]
    simp only [Option.bind_some, beq_int]
    rw [decide_eq_false (by omega : ¬ l = -1), cond_false, gd_true, gd_dec (by omega), gd_dec (by omega), e2']
    simp only [Option.bind_some]
    rw [e3]
    simp only [Option.bind_some]
    rw [hx, show 0 + (n : Int).toNat = n by omega, e4]
    simp only [Option.bind_some]
    rw [hw1]
    rcases e5 j hj2 with e5 | ⟨o, e5⟩
    · rw [e5]; rfl
    · rw [e5]; rfl
  unfold f33 l33_254 l33_510
  rw [pair95 k (by omega) (by omega) (by omega) (by omega) (by omega) hwa.lit hwb.lit]
  simp only [Option.bind_some, Bool.not_true, cond_false]
  rw [clone102v4 k (by omega)]
  simp only [Option.bind_some]
  rw [gd_dec (by unfold room; omega), la, zero37 k (by omega) h1 hw]
  simp only [Option.bind_some]
  rw [gd_dec (by rw [List.length_replicate]; unfold room; omega), zero_const h1 hw]
  simp only [Option.bind_some]
  rw [show w64 (((n + 1 : Nat) : Int) - 1) = (n : Int) by rw [w_id (by omega) (by omega)]; omega, hloop]
  simp only [Option.bind_some]
  rw [w1]
  simp only [Option.bind_some]
  rw [decide_eq_false (by omega : ¬ n + 1 = 0), cond_false, gd_dec (by omega), gd_dec (by omega), Int.toNat_natCast, w2]
  simp only [Option.bind_some]
  rw [decide_eq_false (by omega : ¬ n + 1 = 0), cond_false, gd_dec (by omega), gd_dec (by omega)]
end Vec
end Go.Proofs.Ytepfhidiahleiaa.M
/-
What the reference says of quotients, rests and shifts.
-/
set_option linter.unusedVariables false
set_option linter.unusedSimpArgs false
set_option maxRecDepth 100000
namespace Go.Proofs.Ytepfhidiahleiaa.M
open Go Go.Proofs.Ytepfhidiahleiaa.Vm Go.Proofs.Ytepfhidiahleiaa.Pl
namespace Vec
open Aig
variable {g : List D_Gate} {m : Mp} {ins : List Bool}
theorem div61 (k : Nat) {x y : Int} {w : Nat} (hw : w ≤ 16) (hx0 : 0 ≤ x) (hx1 : x ≤ 65536) (hy0 : 0 ≤ y) (hx2 : x < 2 ^ w) : f61 k x y w = some ((quo w x y % 2 ^ w, ()), ()) := by
  have hp := two_pow16 hw
  unfold f61 quo
  rw [beq_int]
  by_cases h : y = 0
  · rw [decide_eq_true h, cond_true, power55 k hw, if_pos h]
    simp only [Option.bind_some]
    rw [w_id (by omega) (by omega), Int.emod_eq_of_lt (by omega) (by omega)]
  · have h2 : x / y ≤ x := Int.ediv_le_self _ hx0
    have h3 : 0 ≤ x / y := Int.ediv_nonneg hx0 hy0
    rw [decide_eq_false h, cond_false, cond_false, if_neg h, tdiv_pos hx0, w_id (by omega) (by omega), Int.emod_eq_of_lt h3 (by omega)]
theorem rest62 (k : Nat) {x y : Int} (hx0 : 0 ≤ x) : f62 k x y = some ((x % y, ()), ()) := by
  unfold f62
  rw [beq_int]
  by_cases h : y = 0
  · rw [decide_eq_true h, cond_true, h, Int.emod_zero]
  · rw [decide_eq_false h, cond_false, cond_false, tmod_pos hx0]
theorem shl57 (k : Nat) {x y : Int} {w : Nat} (h1 : 1 ≤ w) (hw : w ≤ 8) (hx0 : 0 ≤ x) (hx1 : x ≤ 256) (hy0 : 0 ≤ y) (hy1 : y < 2 ^ w) : f63 k x y w = some (((x * 2 ^ (y % 2 ^ w).toNat) % 2 ^ w, ()), ()) := by
  rw [Int.emod_eq_of_lt hy0 hy1]
  obtain ⟨q, rfl⟩ : ∃ q : Nat, y = (q : Int) := ⟨y.toNat, by omega⟩
  rw [Int.toNat_natCast]
  unfold f63
  by_cases h : w ≤ q
  · rw [decide_eq_true (by omega : (q : Int) ≥ w), cond_true]
    rw [show q = w + (q - w) by omega, Int.pow_add, Int.mul_left_comm, Int.mul_emod_right]
  · rw [decide_eq_false (by omega : ¬ (q : Int) ≥ w), cond_false, power55 k (by omega)]
    simp only [Option.bind_some]
    have h2 : (2 : Int) ^ q ≤ 65536 := (two_pow16 (i := q) (by omega)).2
    have h3 := Int.mul_nonneg hx0 (Int.le_of_lt (pow_pos2 q))
    have h4 : x * 2 ^ q ≤ 256 * 65536 := Int.mul_le_mul hx1 h2 (Int.le_of_lt (pow_pos2 q)) (by omega)
    rw [w_id (by omega) (by omega), mod_any k (by omega)]; rfl
theorem shr59 (k : Nat) {x y : Int} {w : Nat} (h1 : 1 ≤ w) (hw : w ≤ 8) (hx0 : 0 ≤ x) (hx1 : x < 2 ^ w) (hx2 : x ≤ 256) (hy0 : 0 ≤ y) (hy1 : y < 2 ^ w) : f64 k x y w = some (((x / 2 ^ (y % 2 ^ w).toNat) % 2 ^ w, ()), ()) := by
  rw [Int.emod_eq_of_lt hy0 hy1]
  obtain ⟨q, rfl⟩ : ∃ q : Nat, y = (q : Int) := ⟨y.toNat, by omega⟩
  rw [Int.toNat_natCast]
  have hp := pow_pos2 q
  have k0 : 0 ≤ x / 2 ^ q := Int.ediv_nonneg hx0 (by omega)
  have k2 : x / 2 ^ q ≤ x := Int.ediv_le_self _ hx0
  rw [Int.emod_eq_of_lt k0 (by omega)]
  unfold f64
  by_cases h : w ≤ q
  · rw [decide_eq_true (by omega : (q : Int) ≥ w), cond_true]
    rw [Int.ediv_eq_zero_of_lt hx0]
    refine Int.lt_of_lt_of_le hx1 ?_
    have : (2 : Nat) ^ w ≤ 2 ^ q := Nat.pow_le_pow_right (by omega) (by omega)
    have h2 : ((2 ^ w : Nat) : Int) ≤ ((2 ^ q : Nat) : Int) := by omega
    simpa using h2
  · rw [decide_eq_false (by omega : ¬ (q : Int) ≥ w), cond_false, power55 k (by omega)]
    simp only [Option.bind_some]
    rw [decide_eq_false (by omega : ¬ (2 : Int) ^ q = 0), cond_false, tdiv_pos hx0, w_id (by omega) (by omega)]
end Vec
end Go.Proofs.Ytepfhidiahleiaa.M
