/-
Words of literals: products and sums of arrays; the law of division.
-/
import Derived.Test.YtgljnnokifggkaaVecQ
set_option linter.unusedVariables false
set_option linter.unusedSimpArgs false
set_option maxRecDepth 100000
namespace Go.Proofs.Ytgljnnokifggkaa.M
open Go Go.Proofs.Ytgljnnokifggkaa.Vm Go.Proofs.Ytgljnnokifggkaa.Pl
namespace Vec
open Aig
variable {g : List D_Gate} {m : Mp} {ins : List Bool}
theorem ixw {R A : Type} {n : Nat} {b : List A} (hn : n ≤ b.length) {t : Int} {f : A → Option R} : gd (decide (0 ≤ t)) (gd (decide (t.toNat < n)) ((b[(0 + t.toNat)]?).bind f)) = ix (b.take n) t f := by
  unfold gd ix
  cases decide (0 ≤ t) with
  | false => rfl
  | true =>
    rw [Nat.zero_add, List.getElem?_take]
    by_cases h : t.toNat < n
    · rw [decide_eq_true h, if_pos h]; rfl
    · rw [decide_eq_false h, if_neg h]; rfl
theorem lift96w (k : Nat) {q : Nat} {arr : List Int} (hq : q ≤ arr.length) : ∀ (j : Nat) (a : List Int) (c : Int) (out : List Int) (n i : Int) (g : List D_Gate) (m : Mp) (y : R96_58), l96_58 k j a (arr.take q) c out n i g m = some y → l96v3_58 k j a q c out n i g m arr = some (y.1, (y.2.1, y.2.2.1, arr, ())) := by
  intro j
  induction j with
  | zero => intro a c out n i g m y h; cases h
  | succ j ih =>
    intro a c out n i g m y h
    have h : b96_58 k (l96_58 k j) a (arr.take q) c out n i g m = some y := h
    show b96v3_58 k (l96v3_58 k j) a q c out n i g m arr = _
    unfold b96_58 at h
    unfold b96v3_58
    simp only [ixw hq]
    cases hd : decide (i < n) with
    | false =>
      rw [hd] at h
      obtain rfl := Option.some.inj h
      rfl
    | true =>
      rw [hd, cond_true] at h
      rw [cond_true]
      obtain ⟨e1, q1, h⟩ := ix_case h
      obtain ⟨e2, q2, h⟩ := ix_case h
      obtain ⟨y3, h3, h⟩ := bind_some h
      obtain ⟨y4, h4, h⟩ := bind_some h
      obtain ⟨hr, h⟩ := gd_case h
      rw [q1, q2] at h
      obtain ⟨y7, h7, h⟩ := bind_some h
      obtain ⟨y8, h8, h⟩ := bind_some h
      obtain ⟨y9, h9, h⟩ := bind_some h
      obtain ⟨y10, h10, h⟩ := bind_some h
      obtain rfl := Option.some.inj h
      rw [q1, q2, h3]
      simp only [Option.bind_some]
      rw [h4]
      simp only [Option.bind_some]
      rw [hr, q1, q2, h7]
      simp only [gd_true, Option.bind_some]
      rw [h8]
      simp only [Option.bind_some]
      rw [h9]
      simp only [Option.bind_some]
      rw [ih _ _ _ _ _ _ _ _ h10]; rfl
theorem sum96w (k : Nat) {q : Nat} {arr : List Int} (hq : q ≤ arr.length) {a : List Int} {c : Int} {y : R96} (h : f96 k a (arr.take q) c g m = some y) : f96v3 k a q c g m arr = some (y.1, (y.2.1, y.2.2.1, arr, ())) := by
  unfold f96 at h
  obtain ⟨y1, h1, h⟩ := bind_some h
  obtain rfl := Option.some.inj h
  unfold f96v3
  rw [lift96w k hq _ _ _ _ _ _ _ _ _ h1]; rfl
theorem add46w (hv : Valid g) (hm : MapOk g m) (hg : g.length + 153 ≤ 1000000) {a arr : List Int} {w : Nat} {x y : Int} (h1 : 1 ≤ w) (h2 : w ≤ 16) (hwa : Word ins g a (bitsB w x)) (hq : w ≤ arr.length) (hwb : Word ins g (arr.take w) (bitsB w y)) :
    ∃ (g' : List D_Gate) (m' : Mp) (out : List Int), (∃ e, g' = g ++ e) ∧ Valid g' ∧ MapOk g' m' ∧ g'.length ≤ g.length + 153 ∧ Word ins g' out (bitsB w (x + y)) ∧ E fun k => f46v3 k a w g m arr = some (.inr ((out, ()), ((g', (), ()), m', arr, ()))) := by
  have la : a.length = w := by rw [hwa.len, bitsB_len]
  have lb : (arr.take w).length = w := by rw [hwb.len, bitsB_len]
  have lz : isL g 0 = true := isL_iff.2 (by omega)
  obtain ⟨g', m', c', out, he, hv', hm', hl, lc, vc, hw, hE⟩ := sum96 (ins := ins) hv hm hg hwa hwb (by omega) (by omega) lz (cb := false) val_zero
  rw [add_bits] at hw
  refine ⟨g', m', out, he, hv', hm', hl, hw, hE.mono2 (E.ge 40) fun k e hk => ?_⟩
  have hol : out.length = w := by rw [hw.len, bitsB_len]
  have e3 := sum96w k hq e
  unfold f46v3
  rw [gd_dec (by omega), List.drop_zero, pair95 k (by omega) (by omega) (by omega) (by omega) (by omega) hwa.lit hwb.lit]
  simp only [Option.bind_some, Bool.not_true, cond_false]
  rw [e3]
  simp only [Option.bind_some]
  rw [whole92 (g := g') k (by omega) hw.lit (by omega)]
  rfl

theorem liftA (k : Nat) : ∀ (j : Nat) (a b : List Int) (i : Int) (row : Nat) (k0 : Int) (g : List D_Gate) (m : Mp) (arr : List Int) (y : R49_125338), l49_125338 k j a b i row k0 g m arr = some y → l49v2_125338 k j a.length b i row k0 g m a arr = some (y.1, (y.2.1, y.2.2.1, a, y.2.2.2.1, ())) := by
  intro j
  induction j with
  | zero => intro a b i row k0 g m arr y h; cases h
  | succ j ih =>
    intro a b i row k0 g m arr y h
    have h : b49_125338 k (l49_125338 k j) a b i row k0 g m arr = some y := h
    show b49v2_125338 k (l49v2_125338 k j) a.length b i row k0 g m a arr = _
    unfold b49_125338 at h
    unfold b49v2_125338
    simp only [ixo]
    cases hd : decide (k0 < (a.length : Int)) with
    | false =>
      rw [hd] at h
      obtain rfl := Option.some.inj h
      rfl
    | true =>
      rw [hd, cond_true] at h
      rw [cond_true]
      obtain ⟨e1, q1, h⟩ := ix_case h
      obtain ⟨e2, q2, h⟩ := ix_case h
      obtain ⟨y3, h3, h⟩ := bind_some h
      obtain ⟨r1, h⟩ := gd_case h
      obtain ⟨r2, h⟩ := gd_case h
      obtain ⟨r3, h⟩ := gd_case h
      obtain ⟨y4, h4, h⟩ := bind_some h
      obtain rfl := Option.some.inj h
      rw [q1, q2, h3]
      simp only [Option.bind_some]
      rw [r1, r2, r3, gd_true, gd_true, gd_true, ih _ _ _ _ _ _ _ _ _ h4]; rfl
def mapB (a : List Int) : R49_122 → R49v2_122
  | .inl y => .inl (y.1, (y.2.1, y.2.2.1, a, ()))
  | .inr y => .inr (y.1, (y.2.1, y.2.2.1, a, ()))
theorem liftB (k : Nat) : ∀ (j : Nat) (a b out : List Int) (n i : Int) (g : List D_Gate) (m : Mp) (y : R49_122), l49_122 k j a b out n i g m = some y → l49v2_122 k j a.length b out n i g m a = some (mapB a y) := by
  intro j
  induction j with
  | zero => intro a b out n i g m y h; cases h
  | succ j ih =>
    intro a b out n i g m y h
    have h : b49_122 k (l49_122 k j) a b out n i g m = some y := h
    show b49v2_122 k (l49v2_122 k j) a.length b out n i g m a = _
    unfold b49_122 l49_15666 at h
    unfold b49v2_122 l49v2_15666
    cases hd : decide (i < n) with
    | false =>
      rw [hd] at h
      obtain rfl := Option.some.inj h
      rfl
    | true =>
      rw [hd, cond_true] at h
      rw [cond_true]
      obtain ⟨y1, h1, h⟩ := bind_some h
      obtain ⟨z, hz, h1⟩ := bind_some h1
      obtain rfl := Option.some.inj h1
      obtain ⟨y2, h2, h⟩ := bind_some h
      obtain ⟨y3, h3, h⟩ := bind_some h
      rw [hz]
      simp only [Option.bind_some]
      rw [liftA k _ _ _ _ _ _ _ _ _ _ h2]
      simp only [Option.bind_some]
      rw [h3]
      simp only [Option.bind_some]
      cases y3 with
      | inl y3 =>
        obtain rfl := Option.some.inj h
        rfl
      | inr y3 =>
        dsimp only at h ⊢
        cases hem : y3.1.1.isEmpty with
        | true => rw [hem] at h; cases h
        | false =>
          rw [hem, cond_false] at h
          rw [cond_false]
          obtain ⟨y4, h4, h⟩ := bind_some h
          rw [ih _ _ _ _ _ _ _ _ h4]
          cases y4 with
          | inl y4 => obtain rfl := Option.some.inj h; rfl
          | inr y4 => obtain rfl := Option.some.inj h; rfl
theorem lift49 (k : Nat) {a b : List Int} {n : Nat} (hn : a.length = n) {y : R49} (h : f49 k a b g m = some y) : f49v2 k n b g m a = some (y.1, (y.2.1, y.2.2.1, a, ())) := by
  subst hn
  unfold f49 at h
  unfold f49v2
  rw [gd_dec (by omega), List.drop_zero, List.take_of_length_le (Nat.le_refl _)]
  obtain ⟨y1, h1, h⟩ := bind_some h
  rw [h1]
  simp only [Option.bind_some]
  cases hc : !y1.1.1 with
  | true =>
    rw [hc] at h
    obtain rfl := Option.some.inj h
    rfl
  | false =>
    rw [hc, cond_false] at h
    rw [cond_false]
    obtain ⟨y2, h2, h⟩ := bind_some h
    obtain ⟨y3, h3, h⟩ := bind_some h
    rw [h2]
    simp only [Option.bind_some]
    rw [liftB k _ _ _ _ _ _ _ _ _ h3]
    cases y3 with
    | inl y3 => obtain rfl := Option.some.inj h; rfl
    | inr y3 => obtain rfl := Option.some.inj h; rfl
theorem div61 (k : Nat) {x y : Int} {w : Nat} (hw : w ≤ 16) (hx0 : 0 ≤ x) (hx1 : x ≤ 65536) (hy0 : 0 ≤ y) (hx2 : x < 2 ^ w) : f61 k x y w = some ((quo w x y % 2 ^ w, ()), ()) := by
  have hp := two_pow16 hw
  unfold f61 quo
  rw [beq_int]
  by_cases h : y = 0
  · rw [decide_eq_true h, cond_true, power55 k hw, if_pos h]
    simp only [Option.bind_some]
    rw [w_id (by omega) (by omega), Int.emod_eq_of_lt (by omega) (by omega)]
  · have h2 : x / y ≤ x := Int.ediv_le_self _ hx0
    have h3 : 0 ≤ x / y := Int.ediv_nonneg hx0 hy0
    rw [decide_eq_false h, cond_false, cond_false, if_neg h, tdiv_pos hx0, w_id (by omega) (by omega), Int.emod_eq_of_lt h3 (by omega)]
theorem rest62 (k : Nat) {x y : Int} (hx0 : 0 ≤ x) : f62 k x y = some ((x % y, ()), ()) := by
  unfold f62
  rw [beq_int]
  by_cases h : y = 0
  · rw [decide_eq_true h, cond_true, h, Int.emod_zero]
  · rw [decide_eq_false h, cond_false, cond_false, tmod_pos hx0]
end Vec
open Aig Vec in
theorem Pure.VecDivides (t : D_Two) (ht : Fit T_Two t) (width : Int) (hwd : Fit (.int .u8) width) : ∃ k, f11 k t width = some ((true, ()), ()) := by
  obtain ⟨w, hw1, hw8, hwe⟩ := width_of hwd
  obtain ⟨ha0, ha1, hb0, hb1⟩ := fit_two ht
  obtain ⟨g, m, ins, a, b, hv, hm, hc, hg, hil, hwa, hwb, hE1⟩ := words44 ha0 ha1 hb0 hb1 hw1 (by omega : w ≤ 16)
  have hp := pow_pos2 w
  have hp8 : (2 : Int) ^ w ≤ 256 := by
    have : (2 : Nat) ^ w ≤ 2 ^ 8 := Nat.pow_le_pow_right (by omega) hw8
    have h2 : ((2 ^ w : Nat) : Int) ≤ 256 := by omega
    simpa using h2
  have xa0 := Int.emod_nonneg t.1 (show (2 : Int) ^ w ≠ 0 by omega)
  have xa1 := Int.emod_lt_of_pos t.1 hp
  have xb0 := Int.emod_nonneg t.2.1 (show (2 : Int) ^ w ≠ 0 by omega)
  have xb1 := Int.emod_lt_of_pos t.2.1 hp
  have e42a : ∀ k, f42 k (w64 t.1) w = some ((t.1 % 2 ^ w, ()), ()) := fun k => by rw [w_id (n := t.1) (by omega) (by omega)]; exact mod_any k (by omega)
  have e42b : ∀ k, f42 k (w64 t.2.1) w = some ((t.2.1 % 2 ^ w, ()), ()) := fun k => by rw [w_id (n := t.2.1) (by omega) (by omega)]; exact mod_any k (by omega)
  generalize t.1 % 2 ^ w = x at *
  generalize t.2.1 % 2 ^ w = y at *
  obtain ⟨g1, m1, qa, rest, he1, hv1, hm1, hl1, hwq, hwr, hE2⟩ := div60 (ins := ins) hv hm (by omega) xa0 xa1 xb0 xb1 hw1 (by omega) hwa hwb
  have lq : qa.length = w := by rw [hwq.len, bitsB_len]
  have lr : rest.length = w + 1 := by rw [hwr.len, bitsB_len]
  obtain ⟨g2, m2, o2, he2, hv2, hm2, hl2, w2, hE3⟩ := mul49 (ins := ins) hv1 hm1 (by omega) hw1 (by omega) hwq (old_word he1 hwb)
  have hwrt : Word ins g1 (rest.take w) (bitsB w (x % y)) := by
    rw [← take_bits w 1]
    exact ⟨fun z hz => hwr.lit z (List.mem_of_mem_take hz), by rw [List.map_take, hwr.val]⟩
  obtain ⟨g3, m3, o3, he3, hv3, hm3, hl3, w3, hE4⟩ := add46w (ins := ins) hv2 hm2 (by omega) hw1 (by omega) w2 (by omega) (old_word he2 hwrt)
  rw [quo_back] at w3
  refine ((hE1.and (hE2.and hE3)).mono3 hE4 (awake40E.and (E.ge 20000)) fun k e e' e'' => ?_).ex
  obtain ⟨e1, e2, e3⟩ := e
  obtain ⟨e6, hk⟩ := e''
  dsimp only at e3
  have e3 := lift49 k lq e3
  have his : ∀ {g : List D_Gate} {m : Mp} {o : List Int} {n n' : Int}, Valid g → g.length ≤ 12000 → Word ins g o (bitsB w n) → n' = n % 2 ^ w → f45 k ins o w n' g m = some ((true, ()), ()) := fun hv hl hw hn =>
    is45 k (by omega) hv (by omega) hw hw1 (by omega) (bitsB_len _ _) (by rw [num_bits]; exact hn)
  have hr0 : 0 ≤ x % y := by
    rcases Int.lt_or_le 0 y with h | h
    · exact Int.emod_nonneg _ (by omega)
    · rw [show y = 0 by omega, Int.emod_zero]; exact xa0
  have hr1 : x % y ≤ x := by
    rcases Int.lt_or_le 0 y with h | h
    · have h3 := Int.mul_ediv_add_emod x y
      have := Int.mul_nonneg xb0 (Int.ediv_nonneg xa0 xb0)
      omega
    · rw [show y = 0 by omega, Int.emod_zero]; exact Int.le_refl _
  unfold f11 l11_62
  rw [hwe, e1]
  simp only [Option.bind_some]
  rw [e42a, e42b]
  simp only [Option.bind_some]
  rw [e2]
  simp only [Option.bind_some]
  unfold l11_126s2
  rw [e3]
  simp only [Option.bind_some]
  rw [e']
  simp only [Option.bind_some]
  rw [div61 k (by omega) xa0 (by omega) xb0 xa1]
  simp only [Option.bind_some]
  rw [gd_dec (by omega), List.drop_zero, List.take_of_length_le (by omega), his hv3 (by omega) (old_word (ext_trans he2 he3) hwq) rfl]
  simp only [Option.bind_some, cond_true]
  rw [rest62 k xa0]
  simp only [Option.bind_some]
  rw [gd_dec (by omega), List.drop_zero, his hv3 (by omega) (old_word (ext_trans he2 he3) hwrt) (Int.emod_eq_of_lt hr0 (by omega)).symm]
  simp only [Option.bind_some, cond_true]
  rw [his hv3 (by omega) w3 (Int.emod_eq_of_lt xa0 xa1).symm]
  simp only [Option.bind_some, cond_true]
  rw [e6]; rfl
end Go.Proofs.Ytgljnnokifggkaa.M
