/-
Words of bits: questions, one of two words; the law's own words.
-/
import Derived.Test.YtgljnnokifggkaaVecY
set_option linter.unusedVariables false
set_option linter.unusedSimpArgs false
set_option maxRecDepth 100000
namespace Go.Proofs.Ytgljnnokifggkaa.M
open Go Go.Proofs.Ytgljnnokifggkaa.Vm Go.Proofs.Ytgljnnokifggkaa.Pl
namespace Vec
open Aig
variable {g : List D_Gate} {m : Mp} {ins : List Bool}

/-! ### all of some literals -/
theorem AllS_len : ∀ (l : List Int) (g : List D_Gate) (o : Int), Valid g → (AllS g l o).1.length ≤ g.length + l.length ∧ Valid (AllS g l o).1
  | [], g, o, hv => ⟨by simp [AllS], hv⟩
  | x :: l, g, o, hv => by
    have h1 := (And_keeps keeps_valid o x hv)
    have := AllS_len l (And g o x).1 (And g o x).2 h1.1
    rw [AllS, List.length_cons]
    exact ⟨by omega, this.2⟩
theorem all_op (hv : Valid g) (hm : MapOk g m) (hg : g.length + 20 ≤ 1000000) {q : List Int} (hq : q.length ≤ 20) (h : ∀ x ∈ q, isL g x = true) : Op ins g 20 (fun k => f29 k q g m) (q.all (Aig.val ins g)) := by
  have h1 : isL g 1 = true := isL_iff.2 (by omega)
  have := All_told (ins := ins) q g 1 hv h1 h (by omega)
  rw [val_one, Bool.true_and] at this
  exact op_of (all29E hq hv hm (by omega)) this (by have := (AllS_len q g 1 hv).1; omega)
theorem all_word {a : List Int} {bs : List Bool} (h : Word ins g a bs) : a.all (Aig.val ins g) = bs.all id := by
  rw [← h.val, List.all_map]; rfl
theorem eq_bits : ∀ xs ys : List Bool, xs.length = ys.length → (notS (zipB (fun x y => !(x == y)) xs ys)).all id = decide (xs = ys)
  | [], [], _ => by simp [zipB, notS]
  | [], _ :: _, h => by simp at h
  | _ :: _, [], h => by simp at h
  | x :: xs, y :: ys, h => by
    have ih := eq_bits xs ys (by simpa using h)
    unfold notS at ih ⊢
    rw [zipB, List.map_cons, List.all_cons, ih]
    cases x <;> cases y <;> simp
theorem none_bits : ∀ xs : List Bool, (notS xs).all id = decide (num xs = 0)
  | [] => by simp [notS, num]
  | x :: xs => by
    have ih := none_bits xs
    have h0 := num_nonneg xs
    unfold notS at ih ⊢
    rw [List.map_cons, List.all_cons, ih, num]
    cases x
    · by_cases h : num xs = 0
      · simp [h]
      · simp [h]
    · have : ¬ (1 + 2 * num xs = 0) := by omega
      simp [this]
theorem eq64 (hv : Valid g) (hm : MapOk g m) (hg : g.length + 100 ≤ 1000000) {a b : List Int} {xs ys : List Bool} (hwa : Word ins g a xs) (hwb : Word ins g b ys) (hab : a.length = b.length) (h1 : 1 ≤ a.length) (h2 : a.length ≤ 16) :
    Op ins g 68 (fun k => f64 k a b g m) (decide (num xs = num ys)) := by
  have hlen : xs.length = ys.length := by rw [← hwa.len, ← hwb.len]; exact hab
  obtain ⟨g1, m1, out, he1, hv1, hm1, hl1, hw1, hE1⟩ := xor53 (ins := ins) hv hm (by omega) hwa hwb hab h1 h2
  have hol : out.length = a.length := by rw [hw1.len, zipB_len _ _ _ hlen, hwa.len]
  have hwn := hw1.nots
  obtain ⟨g2, m2, r, he2, hv2, hm2, hl2, lr, vr, hE2⟩ := all_op (ins := ins) hv1 hm1 (by omega) (q := out.map nt) (by rw [List.length_map]; omega) hwn.lit
  refine ⟨g2, m2, r, ext_trans he1 he2, hv2, hm2, by omega, lr, ?_, hE1.mono3 hE2 (E.ge 40) fun k e1 e2 hk => ?_⟩
  · rw [vr, all_word hwn, eq_bits _ _ hlen]
    by_cases h : xs = ys
    · rw [decide_eq_true h, h, decide_eq_true rfl]
    · rw [decide_eq_false h, decide_eq_false fun e => h (num_inj _ _ hlen e)]
  · dsimp only at e1 e2
    show f64 k a b g m = _
    unfold f64
    rw [e1]
    simp only [Option.bind_some]
    have hne : out.isEmpty = false := by cases out with
      | nil => simp at hol; omega
      | cons => rfl
    rw [hne, cond_false, not54 k (by omega) (by omega) (by omega) (by omega) hw1.lit]
    simp only [Option.bind_some]
    rw [e2]; rfl
theorem less65 (hv : Valid g) (hm : MapOk g m) (hg : g.length + 200 ≤ 1000000) {a b : List Int} {xs ys : List Bool} (hwa : Word ins g a xs) (hwb : Word ins g b ys) (hab : a.length = b.length) (h1 : 1 ≤ a.length) (h2 : a.length ≤ 16) :
    Op ins g 153 (fun k => f65 k a b g m) (decide (num xs < num ys)) := by
  have hlen : xs.length = ys.length := by rw [← hwa.len, ← hwb.len]; exact hab
  have lo : isL g 1 = true := isL_iff.2 (by omega)
  obtain ⟨g1, m1, c, out, he1, hv1, hm1, hl1, lc, vc, hw1, hE1⟩ := sum96 (ins := ins) hv hm (by omega) hwa hwb.nots (by rw [List.length_map]; exact hab) (by omega) lo (cb := true) val_one
  have hc := isL_iff.1 lc
  refine ⟨g1, m1, nt c, he1, hv1, hm1, by omega, isL_nt lc, ?_, hE1.mono2 (E.ge 40) fun k e1 hk => ?_⟩
  · rw [vnt lc, vc, less_carry hlen]
    by_cases h : num ys ≤ num xs
    · rw [decide_eq_true h, decide_eq_false (by omega)]; rfl
    · rw [decide_eq_false h, decide_eq_true (by omega)]; rfl
  · show f65 k a b g m = _
    unfold f65 f103
    rw [pair95 k (by omega) (by omega) hab h1 h2 hwa.lit hwb.lit]
    simp only [Option.bind_some, Bool.not_true, cond_false]
    rw [turned104 k (by omega) (by omega) (by omega) hwb.lit]
    simp only [Option.bind_some]
    rw [e1]
    simp only [Option.bind_some, beq_int]
    rw [decide_eq_false (by omega : ¬ c = -1), cond_false, xor1w (by omega) lc]
    rfl
/-! ### one of two words -/
theorem ite_loop {a b : List Int} {xs ys : List Bool} (hab : a.length = b.length) (ha : a.length ≤ 16) {c : Int} {cb : Bool} : ∀ (d i : Nat) (g : List D_Gate) (m : Mp) (out : List Int) (bs : List Bool), a.length - i = d → i ≤ a.length → Valid g → MapOk g m → g.length + 3 * d ≤ 1000000 →
    Word ins g a xs → Word ins g b ys → isL g c = true → Aig.val ins g c = cb → Word ins g out bs → out.length = i →
    ∃ (g' : List D_Gate) (m' : Mp) (out' : List Int), (∃ e, g' = g ++ e) ∧ Valid g' ∧ MapOk g' m' ∧ g'.length ≤ g.length + 3 * d ∧ Word ins g' out' (bs ++ zipB (fun x y => cond cb x y) (xs.drop i) (ys.drop i)) ∧
      E fun k => ∀ j, d < j → l97_122 k j a b out a.length i g m c = some ((out', ()), (((), ()), (g', (), ()), m', (c, ()), ())) := by
  intro d
  induction d with
  | zero =>
    intro i g m out bs hi hia hv hm hg hwa hwb lc vc hwo ho
    refine ⟨g, m, out, ⟨[], by simp⟩, hv, hm, by omega, ?_, .all fun k j hj => ?_⟩
    · have e1 : xs.drop i = [] := List.drop_of_length_le (by have := hwa.len; omega)
      rw [e1]; simpa [zipB] using hwo
    · obtain ⟨j, rfl, _⟩ := succ_of (n := 0) (by omega : 0 + 1 ≤ j)
      show b97_122 k (l97_122 k j) a b out a.length i g m c = _
      unfold b97_122
      rw [decide_eq_false (by omega : ¬ (i : Int) < a.length)]; rfl
  | succ d ih =>
    intro i g m out bs hi hia hv hm hg hwa hwb lc vc hwo ho
    have hw1 : w64 ((i : Int) + 1) = ((i + 1 : Nat) : Int) := by rw [w_id (by omega) (by omega)]; omega
    obtain ⟨x, bx, hx, hbx, lx, vx⟩ := hwa.get (i := i) (by omega)
    obtain ⟨y, by_, hy, hby, ly, vy⟩ := hwb.get (i := i) (by omega)
    obtain ⟨g1, m1, r, he1, hv1, hm1, hl1, lr, vr, hE1⟩ := ite_op (ins := ins) hv hm (by omega) lc lx ly
    have lc1 := old_lit (ins := ins) he1 lc
    obtain ⟨g2, m2, out2, he2, hv2, hm2, hl2, hw2, hE2⟩ := ih (i + 1) g1 m1 (out ++ [r]) (bs ++ [cond cb bx by_]) (by omega) (by omega) hv1 hm1 (by omega) (old_word he1 hwa) (old_word he1 hwb) lc1.1 (by rw [lc1.2, vc]) ((old_word he1 hwo).snoc lr (by rw [vr, vc, vx, vy])) (by rw [List.length_append, ho]; rfl)
    refine ⟨g2, m2, out2, ext_trans he1 he2, hv2, hm2, by omega, ?_, hE1.mono2 hE2 fun k e1 e2 j hj => ?_⟩
    · rw [zipB_drop _ hbx hby]
      rw [List.append_assoc] at hw2; exact hw2
    · obtain ⟨j, rfl, hj2⟩ := succ_of (by omega : d + 1 + 1 ≤ j)
      show b97_122 k (l97_122 k j) a b out a.length i g m c = _
      dsimp only at e1
      unfold b97_122 f105
      rw [decide_eq_true (by omega : (i : Int) < a.length), cond_true, ix_nat hx, ix_nat hy, e1]
      simp only [Option.bind_some]
      rw [gd_dec (by unfold room; omega), hw1, e2 j hj2]; rfl
theorem zip_pick (c : Bool) : ∀ xs ys : List Bool, xs.length = ys.length → zipB (fun x y => cond c x y) xs ys = cond c xs ys
  | [], [], _ => by cases c <;> rfl
  | [], _ :: _, h => by simp at h
  | _ :: _, [], h => by simp at h
  | x :: xs, y :: ys, h => by
    rw [zipB, zip_pick c xs ys (by simpa using h)]
    cases c <;> rfl
theorem ite63 (hv : Valid g) (hm : MapOk g m) (hg : g.length + 48 ≤ 1000000) {a b : List Int} {xs ys : List Bool} {c : Int} {cb : Bool} (lc : isL g c = true) (vc : Aig.val ins g c = cb) (hwa : Word ins g a xs) (hwb : Word ins g b ys) (hab : a.length = b.length) (h1 : 1 ≤ a.length) (h2 : a.length ≤ 16) :
    OpW ins g 48 (fun k => f63 k c a b g m) (cond cb xs ys) := by
  have hlen : xs.length = ys.length := by rw [← hwa.len, ← hwb.len]; exact hab
  obtain ⟨g', m', out, he, hv', hm', hl, hw, hE⟩ := ite_loop (ins := ins) hab h2 (c := c) (cb := cb) a.length 0 g m [] [] (by omega) (by omega) hv hm (by omega) hwa hwb lc vc Word.nil rfl
  rw [List.drop_zero, List.drop_zero, List.nil_append, zip_pick _ _ _ hlen] at hw
  refine ⟨g', m', out, he, hv', hm', by omega, hw, hE.mono2 (E.ge 30) fun k e hk => ?_⟩
  have hol : out.length = a.length := by
    rw [hw.len]; cases cb
    · show ys.length = _; rw [← hlen, hwa.len]
    · exact hwa.len.symm
  have e := e k (by omega)
  rw [show ((0 : Nat) : Int) = 0 from rfl] at e
  show f63 k c a b g m = _
  unfold f63 f97
  rw [is24 k (by omega), lc]
  simp only [Option.bind_some, Bool.not_true, cond_false]
  rw [pair95 k (by omega) (by omega) hab h1 h2 hwa.lit hwb.lit]
  simp only [Option.bind_some, Bool.not_true, cond_false]
  rw [e]
  simp only [Option.bind_some]
  rw [whole92 (g := g') k (by omega) hw.lit (by omega)]
  rfl

/-! ### the law's words -/
theorem evL_more (t : List Bool) : ∀ (r : List D_Gate) (v : List Bool) (q : Nat), q + cnt r ≤ ins.length → evL (ins ++ t) r v q = evL ins r v q
  | [], v, q, _ => rfl
  | e :: r, v, q, h => by
    by_cases he : e = inp
    · have hc : cnt (e :: r) = cnt r + 1 := by simp [cnt, he]
      rw [evL, if_pos he, evL, if_pos he, evL_more t r _ (q + 1) (by omega)]
      congr 2
      rw [List.getD_eq_getElem?_getD, List.getD_eq_getElem?_getD, List.getElem?_append_left (by omega)]
    · have hc : cnt (e :: r) = cnt r := by simp [cnt, he]
      rw [evL, if_neg he, evL, if_neg he, evL_more t r _ q (by omega)]
theorem val_more (t : List Bool) (h : cnt g ≤ ins.length) (l : Int) : Aig.val (ins ++ t) g l = Aig.val ins g l := by
  unfold Aig.val Ev
  rw [evL_more t g [] 0 (by omega)]
theorem word_more {a : List Int} {bs : List Bool} (hw : Word ins g a bs) (h : cnt g ≤ ins.length) (t : List Bool) : Word (ins ++ t) g a bs :=
  ⟨hw.lit, by rw [← hw.val]; exact List.map_congr_left fun x _ => val_more t h x⟩
theorem in_val (h : cnt g = ins.length) (b : Bool) : isL (g ++ [inp]) (2 * g.length + 2) = true ∧ Aig.val (ins ++ [b]) (g ++ [inp]) (2 * g.length + 2) = b := by
  refine ⟨isL_iff.2 (by rw [List.length_append]; simp; omega), ?_⟩
  unfold Aig.val
  have hl : (Ev (g ++ [inp]) (ins ++ [b])).length = g.length + 1 := by rw [Ev_len]; simp
  rw [value_lit (by omega) (by rw [hl]; omega), Ev_snoc, if_pos rfl]
  have e1 : ((2 * (g.length : Int) + 2) / 2 - 1).toNat = g.length := by omega
  have e2 : ¬ (2 * (g.length : Int) + 2) % 2 = 1 := by omega
  have hE : (Ev g (ins ++ [b])).length = g.length := Ev_len
  rw [e1, List.getD_eq_getElem?_getD, List.getElem?_append_right (by omega), hE, Nat.sub_self, List.getElem?_cons_zero, decide_eq_false e2, h]
  have : (ins ++ [b]).getD ins.length false = b := by
    rw [List.getD_eq_getElem?_getD, List.getElem?_append_right (Nat.le_refl _)]; simp
  rw [Option.getD_some, this]
  cases b <;> rfl
theorem cnt_inp (g : List D_Gate) : cnt (g ++ [inp]) = cnt g + 1 := by unfold cnt; rw [List.filter_append]; simp
def bit (n : Int) (i : Nat) : Int := n / 2 ^ i % 2
theorem power55 (k : Nat) {w : Nat} (hw : w ≤ 16) : f55 k w = some (((2 ^ w : Int), ()), ()) := by
  unfold f55
  have hp := two_pow16 hw
  have hmin : min ((w : Int).toNat) 64 = w := by omega
  rw [decide_eq_false (by omega : ¬ (w : Int) < 0), cond_false, hmin, Int.one_mul, w_id (by omega) (by omega)]
theorem mod42 (k : Nat) {n : Int} (hn : 0 ≤ n) {w : Nat} (hw : w ≤ 16) : f42 k n w = some ((n % 2 ^ w, ()), ()) := by
  unfold f42
  have hp := two_pow16 hw
  rw [power55 k hw]
  simp only [Option.bind_some]
  generalize (2 : Int) ^ w = q at hp
  have h1 := Int.emod_nonneg n (show q ≠ 0 by omega)
  rw [decide_eq_false (by omega : ¬ q = 0), cond_false, tmod_pos hn, decide_eq_false (by omega : ¬ n % q < 0), cond_false]
theorem bit_loop (k : Nat) {b : Nat} (hb : b ≤ 16) : ∀ (d i : Nat) (n : Int), 0 ≤ n → n ≤ 65536 → b - i = d → ∀ j, d < j → l41_26 k j n b i = some ((n / 2 ^ d, ()), ()) := by
  intro d
  induction d with
  | zero =>
    intro i n h0 h1 hi j hj
    obtain ⟨j, rfl, _⟩ := succ_of (n := 0) (by omega : 0 + 1 ≤ j)
    show b41_26 k (l41_26 k j) n b i = _
    unfold b41_26
    rw [decide_eq_false (by omega : ¬ (i : Int) < b)]
    simp
  | succ d ih =>
    intro i n h0 h1 hi j hj
    obtain ⟨j, rfl, hj2⟩ := succ_of (by omega : d + 1 + 1 ≤ j)
    show b41_26 k (l41_26 k j) n b i = _
    have hw1 : w64 ((i : Int) + 1) = ((i + 1 : Nat) : Int) := by rw [w_id (by omega) (by omega)]; omega
    unfold b41_26
    rw [decide_eq_true (by omega : (i : Int) < b), cond_true, tdiv_pos h0, w_id (n := n / 2) (by omega) (by omega), hw1, ih (i + 1) (n / 2) (by omega) (by omega) (by omega) j hj2, Option.bind_some]
    have : n / 2 / 2 ^ d = n / 2 ^ (d + 1) := by
      rw [Int.ediv_ediv_of_nonneg (by decide), Int.pow_succ, Int.mul_comm]
    rw [this]
theorem bit41 (k : Nat) {n : Int} {i : Nat} (h0 : 0 ≤ n) (h1 : n ≤ 65536) (hi : i ≤ 16) (hk : 16 < k) : f41 k n i = some ((bit n i, ()), ()) := by
  unfold f41
  have := bit_loop k hi i 0 n h0 h1 (by omega) k (by omega)
  rw [show ((0 : Nat) : Int) = 0 from rfl] at this
  rw [this]
  simp only [Option.bind_some]
  rw [tmod_pos (Int.ediv_nonneg h0 (Int.le_of_lt (Int.pow_pos (by decide))))]
  rfl
theorem u64_id {n : Int} (h : 0 ≤ n) (h' : n ≤ 1000) : IntKind.u64.wrap n = n := by
  simp [IntKind.wrap, IntKind.signed, IntKind.bits]; omega
/-- Graph and inputs have grown. -/
structure Grow (ins : List Bool) (g : List D_Gate) (ins' : List Bool) (g' : List D_Gate) : Prop where
  gr : ∃ e, g' = g ++ e
  inr : ∃ t, ins' = ins ++ t
theorem Grow.word {ins' : List Bool} {g' : List D_Gate} (h : Grow ins g ins' g') (hc : cnt g ≤ ins.length) {a : List Int} {bs : List Bool} (hw : Word ins g a bs) : Word ins' g' a bs := by
  obtain ⟨t, rfl⟩ := h.inr
  exact old_word h.gr (word_more hw hc t)
theorem word_loop {n : Int} (hn0 : 0 ≤ n) (hn1 : n ≤ 65536) {w : Nat} (hw : w ≤ 16) {fixed : Int} : ∀ (d i : Nat) (g : List D_Gate) (m : Mp) (ins : List Bool) (out : List Int) (bs : List Bool), w - i = d → i ≤ w → Valid g → MapOk g m → cnt g = ins.length → g.length + d ≤ 1000 → ins.length + d ≤ 1000 →
    Word ins g out bs → out.length = i →
    ∃ (g' : List D_Gate) (m' : Mp) (ins' : List Bool) (out' : List Int), Grow ins g ins' g' ∧ Valid g' ∧ MapOk g' m' ∧ cnt g' = ins'.length ∧ g'.length ≤ g.length + d ∧ ins'.length ≤ ins.length + d ∧ Word ins' g' out' (bs ++ bitsB d (n / 2 ^ i)) ∧
      E fun k => ∀ j, d < j → l94_58 k j n w fixed ins out i g m = some ((ins', out', ()), ((g', (), ()), m', ())) := by
  intro d
  induction d with
  | zero =>
    intro i g m ins out bs hi hia hv hm hc hg hil hwo ho
    refine ⟨g, m, ins, out, ⟨⟨[], by simp⟩, ⟨[], by simp⟩⟩, hv, hm, hc, by omega, by omega, by simpa [bitsB] using hwo, .all fun k j hj => ?_⟩
    obtain ⟨j, rfl, _⟩ := succ_of (n := 0) (by omega : 0 + 1 ≤ j)
    show b94_58 k (l94_58 k j) n w fixed ins out i g m = _
    unfold b94_58
    rw [decide_eq_false (by omega : ¬ (i : Int) < w)]; rfl
  | succ d ih =>
    intro i g m ins out bs hi hia hv hm hc hg hil hwo ho
    have hw1 : w64 ((i : Int) + 1) = ((i + 1 : Nat) : Int) := by rw [w_id (by omega) (by omega)]; omega
    have hu := u64_id (n := (i : Int)) (by omega) (by omega)
    have hbits : bitsB (d + 1) (n / 2 ^ i) = decide (bit n i = 1) :: bitsB d (n / 2 ^ (i + 1)) := by
      rw [bitsB]
      have : n / 2 ^ i / 2 = n / 2 ^ (i + 1) := by rw [Int.ediv_ediv_of_nonneg (Int.le_of_lt (Int.pow_pos (by decide))), Int.pow_succ]
      rw [this]; rfl
    have hb01 : bit n i = 0 ∨ bit n i = 1 := by unfold bit; omega
    by_cases hfx : Int.tmod (Int.fdiv fixed (2 ^ (min ((i : Int)).toNat 32))) 2 = 1
    · -- a constant
      have lb : isL g (bit n i) = true := isL_iff.2 (by omega)
      have vb : Aig.val ins g (bit n i) = decide (bit n i = 1) := by
        rcases hb01 with h | h <;> rw [h]
        · exact val_zero
        · exact val_one
      obtain ⟨g2, m2, ins2, out2, hgr, hv2, hm2, hc2, hl2, hil2, hw2, hE2⟩ := ih (i + 1) g m ins (out ++ [bit n i]) (bs ++ [decide (bit n i = 1)]) (by omega) (by omega) hv hm hc (by omega) (by omega) (hwo.snoc lb vb) (by rw [List.length_append, ho]; rfl)
      refine ⟨g2, m2, ins2, out2, hgr, hv2, hm2, hc2, by omega, by omega, by rw [hbits]; rw [List.append_assoc] at hw2; exact hw2, hE2.mono2 (E.ge 20) fun k e hk j hj => ?_⟩
      obtain ⟨j, rfl, hj2⟩ := succ_of (by omega : d + 1 + 1 ≤ j)
      show b94_58 k (l94_58 k j) n w fixed ins out i g m = _
      unfold b94_58
      rw [decide_eq_true (by omega : (i : Int) < w), cond_true, bit41 k hn0 hn1 (by omega) (by omega)]
      simp only [Option.bind_some]
      rw [hu, decide_eq_false (by omega : ¬ (i : Int) < 0), cond_false]
      rw [beq_int, decide_eq_true hfx, cond_true, gd_dec (by unfold room; omega), hw1, e j hj2]; rfl
    · -- an input
      obtain ⟨ln, vn⟩ := in_val (g := g) hc (decide (bit n i = 1))
      have hgr1 : Grow ins g (ins ++ [decide (bit n i = 1)]) (g ++ [inp]) := ⟨⟨_, rfl⟩, ⟨_, rfl⟩⟩
      obtain ⟨g2, m2, ins2, out2, hgr, hv2, hm2, hc2, hl2, hil2, hw2, hE2⟩ := ih (i + 1) (g ++ [inp]) m (ins ++ [decide (bit n i = 1)]) (out ++ [(2 * g.length + 2 : Int)]) (bs ++ [decide (bit n i = 1)]) (by omega) (by omega) (valid_inp hv) (map_inp hm)
        (by rw [cnt_inp, hc]; simp) (by rw [List.length_append]; simp; omega) (by rw [List.length_append]; simp; omega) ((hgr1.word (by omega) hwo).snoc ln vn) (by rw [List.length_append, ho]; rfl)
      rw [List.length_append] at hl2 hil2
      simp only [List.length_cons, List.length_nil] at hl2 hil2
      refine ⟨g2, m2, ins2, out2, ⟨ext_trans hgr1.gr hgr.gr, by obtain ⟨t, ht⟩ := hgr.inr; exact ⟨[decide (bit n i = 1)] ++ t, by rw [ht, List.append_assoc]⟩⟩, hv2, hm2, hc2, by omega, by omega, by rw [hbits]; rw [List.append_assoc] at hw2; exact hw2, hE2.mono2 (E.ge 20) fun k e hk j hj => ?_⟩
      obtain ⟨j, rfl, hj2⟩ := succ_of (by omega : d + 1 + 1 ≤ j)
      show b94_58 k (l94_58 k j) n w fixed ins out i g m = _
      unfold b94_58
      rw [decide_eq_true (by omega : (i : Int) < w), cond_true, bit41 k hn0 hn1 (by omega) (by omega)]
      simp only [Option.bind_some]
      rw [hu, decide_eq_false (by omega : ¬ (i : Int) < 0), cond_false]
      rw [beq_int, decide_eq_false hfx, cond_false, in25 k (by omega)]
      simp only [Option.bind_some, List.nil_append]
      rw [gd_dec (by unfold room; omega), gd_dec (by unfold room; omega), gd_dec (by unfold room; omega), beq_int, hw1, e j hj2]; rfl
/-- A graph, two words in it, and its inputs. -/
theorem words44 {t : D_Two} (ha0 : 0 ≤ t.1) (ha1 : t.1 ≤ 65535) (hb0 : 0 ≤ t.2.1) (hb1 : t.2.1 ≤ 65535) {w : Nat} (hw1 : 1 ≤ w) (hw : w ≤ 16) :
    ∃ (g : List D_Gate) (m : Mp) (ins : List Bool) (a b : List Int), Valid g ∧ MapOk g m ∧ cnt g = ins.length ∧ g.length ≤ 40 ∧ ins.length ≤ 40 ∧ Word ins g a (bitsB w (t.1 % 2 ^ w)) ∧ Word ins g b (bitsB w (t.2.1 % 2 ^ w)) ∧
      E fun k => f44 k t w = some (((), a, b, ins, ()), ((g, (), ()), m, ())) := by
  have hp := two_pow16 hw
  have hm0 := Int.emod_nonneg t.1 (show (2 : Int) ^ w ≠ 0 by omega)
  have hm1 := Int.emod_lt_of_pos t.1 hp.1
  have hn0 := Int.emod_nonneg t.2.1 (show (2 : Int) ^ w ≠ 0 by omega)
  have hn1 := Int.emod_lt_of_pos t.2.1 hp.1
  obtain ⟨g1, m1, ins1, a, hgr1, hv1, hm1', hc1, hl1, hil1, hw1', hE1⟩ := word_loop (n := t.1 % 2 ^ w) hm0 (by omega) hw (fixed := t.2.2.1) w 0 [] [] [] [] [] (by omega) (by omega) (fun i e he => by simp at he) (fun e _ => rfl) rfl (by simp; omega) (by simp; omega) Word.nil rfl
  obtain ⟨g2, m2, ins2, b, hgr2, hv2, hm2', hc2, hl2, hil2, hw2', hE2⟩ := word_loop (n := t.2.1 % 2 ^ w) hn0 (by omega) hw (fixed := Int.fdiv t.2.2.1 (2 ^ 16)) w 0 g1 m1 ins1 [] [] (by omega) (by omega) hv1 hm1' hc1 (by simp at hl1; omega) (by simp at hil1; omega) Word.nil rfl
  rw [Int.pow_zero, Int.ediv_one, List.nil_append] at hw1' hw2'
  simp only [List.length_nil, Nat.zero_add] at hl1 hil1
  refine ⟨g2, m2, ins2, a, b, hv2, hm2', hc2, by omega, by omega, hgr2.word (by omega) hw1', hw2', hE1.mono3 hE2 (E.ge 40) fun k e1 e2 hk => ?_⟩
  have e1 := e1 k (by omega)
  have e2 := e2 k (by omega)
  rw [show ((0 : Nat) : Int) = 0 from rfl] at e1 e2
  unfold f44 f38 f94
  simp only [Option.bind_some]
  rw [w_id (by omega) (by omega), mod42 k ha0 hw]
  simp only [Option.bind_some]
  rw [e1]
  simp only [Option.bind_some]
  rw [w_id (by omega) (by omega), mod42 k hb0 hw]
  simp only [Option.bind_some]
  rw [e2]
  rfl
theorem awake40 (k : Nat) : f40 (k + 20) () = some ((true, ()), ()) := by kernel_rfl
theorem awake40E : E fun k => f40 k () = some ((true, ()), ()) := ⟨20, fun k hk => by obtain ⟨j, rfl⟩ : ∃ j, k = j + 20 := ⟨k - 20, by omega⟩; exact awake40 j⟩
end Vec
end Go.Proofs.Ytgljnnokifggkaa.M
