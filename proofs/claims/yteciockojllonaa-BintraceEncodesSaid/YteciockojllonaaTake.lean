/-
A literal out of bytes: what the program takes, and what the reference takes.
-/
import Derived.Test.YteciockojllonaaLeb
import Derived.Test.Yteciockojllonaaf32
import Derived.Test.Yteciockojllonaaf23
namespace Go.Proofs.Yteciockojllonaa.Take
set_option linter.unusedSimpArgs false
set_option linter.unusedVariables false
open Go.RowKit Go.Proofs.Yteciockojllonaa.G Go.Proofs.YteciockojllonaaW.PrintWords Go.Proofs.YteciockojllonaaW.PrintLast Go.Proofs.YteciockojllonaaW.PrintMore Go.Proofs.Yteciockojllonaa.Pre Go.Proofs.Yteciockojllonaa.Str Go.Proofs.Yteciockojllonaa.Lit Go.Proofs.Yteciockojllonaa.Leb

theorem ref_lit (a : Int) : fathomref01_Lit.f a = some (isLit a) := by
  unfold fathomref01_Lit.f isLit
  by_cases h : a = 0
  · rw [if_pos h]; simp [h]
  · rw [if_neg h]
    by_cases h1 : a ≥ -1048576
    · rw [if_pos h1]; simp [h, h1]
    · rw [if_neg h1]; simp; omega

def dec : List Int → Int
  | [] => 0
  | b :: c => b % 128 + 128 * dec c
theorem dec_nonneg : ∀ c, 0 ≤ dec c
  | [] => by simp [dec]
  | b :: c => by have := dec_nonneg c; simp only [dec]; omega
theorem dec_lt : ∀ c, dec c < 128 ^ c.length
  | [] => by simp [dec]
  | b :: c => by have := dec_lt c; simp only [dec, List.length_cons, Int.pow_succ]; omega
theorem dec_snoc : ∀ c b, dec (c ++ [b]) = dec c + (b % 128) * 128 ^ c.length
  | [], b => by simp [dec]
  | x :: c, b => by
    have := dec_snoc c b
    simp only [List.cons_append, dec, List.length_cons, Int.pow_succ, this, Int.mul_add]
    rw [show 128 * (b % 128 * 128 ^ c.length) = b % 128 * (128 ^ c.length * 128) from by rw [Int.mul_comm 128, Int.mul_assoc]]
    omega
theorem dec_take {l : List Int} {i : Nat} (h : i < l.length) : dec (l.take (i + 1)) = dec (l.take i) + (l[i] % 128) * 128 ^ i := by
  rw [List.take_add_one, List.getElem?_eq_getElem h, Option.toList_some, dec_snoc, List.length_take, Nat.min_eq_left (by omega)]
def xOf (v : Int) : Int := if v % 2 = 1 then -(v / 2) else v / 2
theorem num_xOf (v : Int) (h : 0 ≤ v) (hx : xOf v ≠ 0) : num (xOf v) = v.toNat := by
  unfold xOf at hx ⊢
  unfold num
  by_cases o : v % 2 = 1
  · rw [if_pos o] at hx ⊢; rw [if_pos (by omega)]; omega
  · rw [if_neg o] at hx ⊢; rw [if_neg (by omega)]; omega

theorem dec_zero (m : List Int) (b : Int) (hb : 0 ≤ b ∧ b < 128) (h : dec (m ++ [b]) = 0) : b = 0 := by
  rw [dec_snoc] at h
  have h1 := dec_nonneg m
  have h2 : (0 : Int) < 128 ^ m.length := Int.pow_pos (by decide)
  have h3 : b % 128 = b := by omega
  rw [h3] at h
  have h4 : b ≤ b * 128 ^ m.length := by
    have := Int.mul_le_mul_of_nonneg_left (show (1 : Int) ≤ 128 ^ m.length from h2) hb.1
    omega
  omega

theorem leb_iff (b : Int) (hb : 0 ≤ b ∧ b < 128) : ∀ m : List Int, (∀ x ∈ m, 128 ≤ x ∧ x ≤ 255) → (lebs (dec (m ++ [b])).toNat = m ++ [b] ↔ (m = [] ∨ b ≠ 0))
  | [], _ => by
    have : dec ([] ++ [b]) = b := by simp [dec]; omega
    rw [this, lebs_small (by omega)]; simp; omega
  | x :: m, hm => by
    obtain ⟨hx, hx2⟩ := hm x (by simp)
    have ih := leb_iff b hb m (fun y hy => hm y (by simp [hy]))
    have hD := dec_nonneg (m ++ [b])
    have hz := dec_zero m b hb
    have e0 : dec (x :: m ++ [b]) = x % 128 + 128 * dec (m ++ [b]) := rfl
    rw [e0]
    generalize hd : dec (m ++ [b]) = D at *
    by_cases h0 : D = 0
    · have hb0 := hz h0
      rw [h0, lebs_small (by omega)]
      simp [hb0]
    · have e : (x % 128 + 128 * D).toNat = (x - 128).toNat + 128 * D.toNat := by omega
      rw [e, lebs_big (by omega), show ((x - 128).toNat + 128 * D.toNat) % 128 = (x - 128).toNat from by omega, show ((x - 128).toNat + 128 * D.toNat) / 128 = D.toNat from by omega, show 128 + (((x - 128).toNat : Nat) : Int) = x from by omega]
      rw [List.cons_append, List.cons.injEq]
      simp only [true_and, reduceCtorEq, false_or]
      rw [ih]
      constructor
      · rintro (h | h)
        · subst h; intro hb0; apply h0; rw [← hd, hb0]; simp [dec]
        · exact h
      · exact .inr
theorem lebs_range (n : Nat) : ∀ x ∈ lebs n, 0 ≤ x ∧ x ≤ 255 := by
  induction n using Nat.strongRecOn with
  | _ n ih =>
    by_cases h : n < 128
    · rw [lebs_small h]; simp; omega
    · rw [lebs_big h]
      intro x hx
      rw [List.mem_cons] at hx
      rcases hx with rfl | hx
      · omega
      · exact ih (n / 128) (by omega) x hx

theorem and128 : ∀ m : Fin 256, (bits .and .u8 (m.val : Int) 128 = 0) = (m.val < 128) := by
  have h : ∀ m : Fin 256, decide (bits .and .u8 (m.val : Int) 128 = 0) = decide (m.val < 128) := by decide +kernel
  intro m; exact propext (decide_eq_decide.1 (h m))
theorem andn128 : ∀ m : Fin 256, wrap64 (bits .andNot .u8 (m.val : Int) 128) = (m.val : Int) % 128 := by decide +kernel
theorem and128' {b : Int} (h0 : 0 ≤ b) (h1 : b ≤ 255) : (bits .and .u8 b 128 = 0) = (b < 128) := by
  have := and128 ⟨b.toNat, by omega⟩
  simp only [Int.toNat_of_nonneg h0] at this
  rw [this]; exact propext (by omega)
theorem andn128' {b : Int} (h0 : 0 ≤ b) (h1 : b ≤ 255) : wrap64 (bits .andNot .u8 b 128) = b % 128 := by
  have := andn128 ⟨b.toNat, by omega⟩
  simpa only [Int.toNat_of_nonneg h0] using this
theorem pow128 (i : Nat) : (2 : Int) ^ (7 * i) = 128 ^ i := by rw [Int.pow_mul]; rfl
theorem shl128 (d : Int) (i : Nat) (hi : i ≤ 4) (h0 : 0 ≤ d * 128 ^ i) (h1 : d * 128 ^ i < 9223372036854775808) : shl .i64 d (wrap64 (7 * (i : Int))) = d * 128 ^ i := by
  rw [w64 (by omega) (by omega)]
  unfold shl
  rw [show (7 * (i : Int)).toNat = 7 * i from by omega, Nat.min_eq_left (by show 7 * i ≤ 64; omega), pow128, IntKind.wrap_i64]
  omega
theorem or_join (i A d : Nat) (hA : A < 2 ^ (7 * i)) (h : 2 ^ (7 * i) * d + A < 2 ^ 63) : bits .or .i64 (A : Int) ((2 ^ (7 * i) * d : Nat) : Int) = ((2 ^ (7 * i) * d + A : Nat) : Int) := by
  rw [(bits_nat .i64 63 (by decide) (fun n h0 h1 => by rw [IntKind.wrap_i64]; omega) A _ (by omega) (by omega)).2, Nat.or_comm, ← Nat.two_pow_add_eq_or_of_lt hA d]
theorem or128i (A d : Int) (i : Nat) (hA : 0 ≤ A) (hA1 : A < 128 ^ i) (hd : 0 ≤ d) (h : A + d * 128 ^ i < 9223372036854775808) : bits .or .i64 A (d * 128 ^ i) = A + d * 128 ^ i := by
  obtain ⟨a, rfl⟩ := Int.eq_ofNat_of_zero_le hA
  obtain ⟨e, rfl⟩ := Int.eq_ofNat_of_zero_le hd
  have hp : ((2 ^ (7 * i) : Nat) : Int) = 128 ^ i := by rw [← pow128]; simp
  have hm : (e : Int) * 128 ^ i = ((2 ^ (7 * i) * e : Nat) : Int) := by rw [← hp, Int.natCast_mul, Int.mul_comm]
  rw [hm] at h ⊢
  rw [← hp] at hA1
  have := or_join i a e (by omega) (by omega)
  rw [this]; omega

set_option maxHeartbeats 4000000 in
theorem take_go (l : List Int) (hb : ∀ x ∈ l, 0 ≤ x ∧ x ≤ 255) (hl : l.length ≤ 1000000000) (n : Nat) : ∀ (i : Nat), i + n = 5 → (∀ t (h : t < l.length), t < i → 128 ≤ l[t]) →
    ∃ x, ∃ m : Nat, ∃ ok, (∀ k, n + 10 < k → bintrace_take.l0 k (dec (l.take i)) l (l.length : Int) (i : Int) = some (x, (m : Int), ok)) ∧
      (∀ j, 3000000 < j → fathomref05_take.l0 (j + 2 * n) l (dec (l.take i)) (i : Int) (128 ^ i) = some (x, (m : Int))) ∧ (ok = true → 0 < m ∧ m ≤ l.length ∧ isLit x = true) ∧ (ok = false → m = 0) ∧
      (∀ t (ht : t < l.length), i ≤ t → t ≤ 4 → (∀ u (hu : u < l.length), i ≤ u → u < t → 128 ≤ l[u]) → l[t] < 128 → (t = 0 ∨ l[t] ≠ 0) → isLit (xOf (dec (l.take (t + 1)))) = true → ok = true ∧ x = xOf (dec (l.take (t + 1))) ∧ m = t + 1) := by
  induction n with
  | zero =>
    intro i hi _
    refine ⟨0, 0, false, fun k hk => ?_, fun j hj => ?_, by simp, by simp, fun t _ h1 h2 => by omega⟩
    · obtain ⟨k, rfl⟩ : ∃ q, k = q + 1 := ⟨k - 1, by omega⟩
      simp only [bintrace_take.l0]
      by_cases h : i < l.length
      · rw [if_pos (by omega), if_pos (by omega), if_pos (by omega), w64 (by omega) (by omega), if_pos (by omega)]; rfl
      · rw [if_neg (by omega)]; rfl
    · obtain ⟨j, rfl⟩ : ∃ q, j = q + 2 := ⟨j - 2, by omega⟩
      simp only [fathomref05_take.l0, fathomref05_take.j1, Nat.mul_zero, Nat.add_zero]
      rw [decide_eq_false (by omega)]; simp
  | succ n ih =>
    intro i hi hall
    by_cases h : i < l.length
    rotate_left
    · refine ⟨0, 0, false, fun k hk => ?_, fun j hj => ?_, by simp, by simp, fun t ht h1 _ => by omega⟩
      · obtain ⟨k, rfl⟩ : ∃ q, k = q + 1 := ⟨k - 1, by omega⟩
        simp only [bintrace_take.l0]; rw [if_neg (by omega)]; rfl
      · obtain ⟨j, rfl⟩ : ∃ q, j = q + 2 := ⟨j - 2, by omega⟩
        rw [show j + 2 + 2 * (n + 1) = (j + 2 * (n + 1)) + 2 from by omega]
        simp only [fathomref05_take.l0, fathomref05_take.j1]
        rw [if_neg (by omega)]; simp
    obtain ⟨b0, b1⟩ := hb _ (List.getElem_mem h)
    have hA0 := dec_nonneg (l.take i)
    have hA1 := dec_lt (l.take i)
    rw [List.length_take, Nat.min_eq_left (by omega)] at hA1
    have hV := dec_take h
    have hV0 := dec_nonneg (l.take (i + 1))
    have hV1 := dec_lt (l.take (i + 1))
    rw [List.length_take, Nat.min_eq_left (by omega)] at hV1
    have hP : (128 : Int) ^ (i + 1) ≤ 128 ^ 5 := by
      have := Nat.pow_le_pow_right (show 0 < 128 by decide) (show i + 1 ≤ 5 by omega)
      exact_mod_cast this
    have hP0 : (0 : Int) < 128 ^ i := Int.pow_pos (by decide)
    have hPs : (128 : Int) ^ (i + 1) = 128 ^ i * 128 := Int.pow_succ ..
    have hd0 : 0 ≤ l[i] % 128 * 128 ^ i := Int.mul_nonneg (by omega) (by omega)
    have e1 : Aside0 (shl .i64 (wrap64 (bits .andNot .u8 l[i] 128)) (wrap64 (7 * (i : Int))) = l[i] % 128 * 128 ^ i) := ⟨by
      rw [andn128' b0 b1, shl128 _ _ (by omega) hd0 (by omega)]⟩
    have e2 : Aside0 (bits .or .i64 (dec (l.take i)) (l[i] % 128 * 128 ^ i) = dec (l.take (i + 1))) := ⟨by
      rw [or128i _ _ _ hA0 hA1 (by omega) (by omega), hV]⟩
    have e3 : Aside0 (wrap64 (dec (l.take i) + wrap64 (wrap64 (Int.tmod l[i] 128) * 128 ^ i)) = dec (l.take (i + 1))) := ⟨by
      rw [Int.tmod_eq_emod_of_nonneg b0, w64 (x := l[i] % 128) (by omega) (by omega), w64 (x := l[i] % 128 * 128 ^ i) (by omega) (by omega), ← hV, w64 (by omega) (by omega)]⟩
    have e4 : Aside0 (rd l (i : Int) = l[i]) := ⟨rd_nat h⟩
    have e5 : Aside0 (wrap64 (wrap64 ((i : Int) + 1) - 1) = (i : Int)) := ⟨by rw [w64 (x := (i : Int) + 1) (by omega) (by omega), w64 (by omega) (by omega)]; omega⟩
    have e6 : Aside0 (wrap64 ((i : Int) + 1) = ((i + 1 : Nat) : Int)) := ⟨w64 (x := (i : Int) + 1) (by omega) (by omega)⟩
    have eT : l.take (i + 1) = l.take i ++ [l[i]] := by rw [List.take_add_one, List.getElem?_eq_getElem h, Option.toList_some]
    by_cases hlo : l[i] < 128
    · -- the last byte
      have hleb := leb_iff l[i] ⟨b0, hlo⟩ (l.take i) (fun y hy => by
        obtain ⟨t, ht, rfl⟩ := List.getElem_of_mem hy
        rw [List.length_take] at ht
        rw [List.getElem_take]
        exact ⟨hall t (by omega) (by omega), (hb _ (List.getElem_mem _)).2⟩)
      rw [← eT] at hleb
      have hnil : l.take i = [] ↔ i = 0 := by
        rw [← List.length_eq_zero_iff, List.length_take]; omega
      rw [hnil] at hleb
      generalize hVV : dec (l.take (i + 1)) = V at *
      have hVV' := Aside0.mk hVV
      clear hVV
      have hodd : Int.tmod V 2 = V % 2 := Int.tmod_eq_emod_of_nonneg hV0
      have hhalf : Int.tdiv V 2 = V / 2 := Int.tdiv_eq_ediv_of_nonneg hV0
      have hw1 : wrap64 (V / 2) = V / 2 := w64 (by omega) (by omega)
      have hw2 : wrap64 (-(V / 2)) = -(V / 2) := w64 (by omega) (by omega)
      have hx : (if V % 2 = 1 then -(V / 2) else V / 2) = xOf V := rfl
      -- the program
      have hp : ∀ k, 2 < k → bintrace_take.l0 (k + 1) (dec (l.take i)) l (l.length : Int) (i : Int) = if (i = 0 ∨ l[i] ≠ 0) ∧ isLit (xOf V) = true then some (xOf V, ((i + 1 : Nat) : Int), true) else some (0, 0, false) := by
        intro k hk
        simp only [bintrace_take.l0]
        rw [if_pos (by omega), if_pos (by omega), if_pos (by omega), e4.out, e1.out, e2.out, w64 (x := 7 * (i : Int)) (by omega) (by omega), if_neg (by omega), if_pos (by omega), if_pos (by rw [and128' b0 b1]; exact hlo), hodd, hhalf, hw1, hw2, e6.out]
        unfold xOf
        by_cases ho : V % 2 = 1
        · rw [if_pos ho, if_pos ho, Check_one _ _ (by omega)]
          by_cases hi0 : i = 0
          · rw [if_neg (by omega)]; cases isLit (-(V / 2)) <;> simp [hi0]
          · rw [if_pos (by omega)]
            by_cases hz : l[i] = 0
            · rw [if_pos hz]; simp [hi0, hz]
            · rw [if_neg hz]; cases isLit (-(V / 2)) <;> simp [hi0, hz]
        · rw [if_neg ho, if_neg ho, Check_one _ _ (by omega)]
          by_cases hi0 : i = 0
          · rw [if_neg (by omega)]; cases isLit (V / 2) <;> simp [hi0]
          · rw [if_pos (by omega)]
            by_cases hz : l[i] = 0
            · rw [if_pos hz]; simp [hi0, hz]
            · rw [if_neg hz]; cases isLit (V / 2) <;> simp [hi0, hz]
      have hr : ∀ j, 2999999 < j → fathomref05_take.l0 (j + 3) l (dec (l.take i)) (i : Int) (128 ^ i) = if (i = 0 ∨ l[i] ≠ 0) ∧ isLit (xOf V) = true then some (xOf V, ((i + 1 : Nat) : Int)) else some (0, 0) := by
        intro j hj
        have j2 : ∀ x, x = xOf V → fathomref05_take.j2 (j + 1) l (((i + 1 : Nat) : Int)) x = if (i = 0 ∨ l[i] ≠ 0) ∧ isLit (xOf V) = true then some (xOf V, ((i + 1 : Nat) : Int)) else some (0, 0) := by
          rintro x rfl
          simp only [fathomref05_take.j2]
          rw [ref_lit]
          simp only [Option.bind_some]
          cases hL : isLit (xOf V) with
          | false => simp
          | true =>
            obtain ⟨x0, x1, x2⟩ := (isLit_iff _).1 hL
            rw [if_pos rfl, Literal_spec _ x1 x2 _ (by omega), num_xOf V hV0 x0]
            simp only [Option.bind_some]
            rw [if_pos (by omega), if_pos (by omega), Int.toNat_natCast]
            have hs : ((strOfNums (lebs V.toNat)).toList = (strOfNums (l.take (i + 1))).toList) = (i = 0 ∨ l[i] ≠ 0) := by
              rw [toList_eq_iff, bytes_strOf _ (lebs_range _), bytes_strOf _ (fun y hy => hb y (List.mem_of_mem_take hy))]
              exact propext hleb
            simp only [hs, and_true]
        simp only [fathomref05_take.l0, fathomref05_take.j1]
        rw [if_pos (by omega), decide_eq_true (by omega), if_pos rfl, if_pos (by omega), if_pos (by omega), e5.out, if_pos (by omega), if_pos (by omega), e4.out, if_pos hlo, e3.out, hodd, hhalf, hw1, hw2, e6.out]
        by_cases ho : V % 2 = 1
        · rw [if_pos ho]; exact j2 _ (by unfold xOf; rw [if_pos ho])
        · rw [if_neg ho]; exact j2 _ (by unfold xOf; rw [if_neg ho])
      by_cases hc : (i = 0 ∨ l[i] ≠ 0) ∧ isLit (xOf V) = true
      · refine ⟨xOf V, i + 1, true, fun k hk => ?_, fun j hj => ?_, fun _ => ⟨by omega, by omega, hc.2⟩, by simp, fun t ht h1 _ h2 _ _ _ => ?_⟩
        rotate_left 2
        · have e : t = i := by
            apply Classical.byContradiction; intro hne
            have := h2 i h (by omega) (by omega)
            omega
          subst e; exact ⟨rfl, by rw [hVV'.out], rfl⟩
        · obtain ⟨k, rfl⟩ : ∃ q, k = q + 1 := ⟨k - 1, by omega⟩
          rw [hp k (by omega), if_pos hc]
        · rw [show j + 2 * (n + 1) = (j + 2 * n - 1) + 3 from by omega, hr _ (by omega), if_pos hc]
      · refine ⟨0, 0, false, fun k hk => ?_, fun j hj => ?_, by simp, by simp, fun t ht h1 _ h2 _ h3 h4 => ?_⟩
        rotate_left 2
        · exfalso
          have e : t = i := by
            apply Classical.byContradiction; intro hne
            have := h2 i h (by omega) (by omega)
            omega
          subst e; rw [hVV'.out] at h4; exact hc ⟨h3, h4⟩
        · obtain ⟨k, rfl⟩ : ∃ q, k = q + 1 := ⟨k - 1, by omega⟩
          rw [hp k (by omega), if_neg hc]; rfl
        · rw [show j + 2 * (n + 1) = (j + 2 * n - 1) + 3 from by omega, hr _ (by omega), if_neg hc]; rfl
    · obtain ⟨x, m, ok, g1, g2, g3, g4, g5⟩ := ih (i + 1) (by omega) (fun t ht hti => by
        by_cases e : t = i
        · subst e; omega
        · exact hall t ht (by omega))
      refine ⟨x, m, ok, fun k hk => ?_, fun j hj => ?_, g3, g4, fun t ht h1 h2 h3 h4 h5 h6 => ?_⟩
      rotate_left 2
      · have hne : t ≠ i := by rintro rfl; exact hlo h4
        exact g5 t ht (by omega) h2 (fun u hu h7 h8 => h3 u hu (by omega) h8) h4 h5 h6
      · obtain ⟨k, rfl⟩ : ∃ q, k = q + 1 := ⟨k - 1, by omega⟩
        have := g1 k (by omega)
        simp only [bintrace_take.l0]
        rw [if_pos (by omega), if_pos (by omega), if_pos (by omega), e4.out, e1.out, e2.out, w64 (x := 7 * (i : Int)) (by omega) (by omega), if_neg (by omega), if_pos (by omega), if_neg (by rw [and128' b0 b1]; exact hlo), e6.out]
        exact this
      · have := g2 j hj
        rw [show j + 2 * (n + 1) = (j + 2 * n) + 2 from by omega]
        simp only [fathomref05_take.l0, fathomref05_take.j1]
        rw [if_pos (by omega), decide_eq_true (by omega), if_pos rfl, if_pos (by omega), if_pos (by omega), e5.out, if_pos (by omega), if_pos (by omega), e4.out, if_neg hlo, e3.out, e6.out, w64 (x := 128 ^ i * 128) (by omega) (by omega), ← hPs]
        exact this

theorem take_both (l : List Int) (hb : ∀ x ∈ l, 0 ≤ x ∧ x ≤ 255) (hl : l.length ≤ 1000000000) :
    ∃ x, ∃ m : Nat, ∃ ok, (∀ k, 20 < k → bintrace_take.f k l = some (x, (m : Int), ok)) ∧ (∀ j, 3000010 < j → fathomref05_take.f j l = some (x, (m : Int))) ∧ (ok = true → 0 < m ∧ m ≤ l.length ∧ isLit x = true) ∧ (ok = false → m = 0) ∧
      (∀ t (ht : t < l.length), t ≤ 4 → (∀ u (hu : u < l.length), u < t → 128 ≤ l[u]) → l[t] < 128 → (t = 0 ∨ l[t] ≠ 0) → isLit (xOf (dec (l.take (t + 1)))) = true → ok = true ∧ x = xOf (dec (l.take (t + 1))) ∧ m = t + 1) := by
  obtain ⟨x, m, ok, g1, g2, g3, g4, g5⟩ := take_go l hb hl 5 0 rfl (fun t _ h => by omega)
  refine ⟨x, m, ok, fun k hk => ?_, fun j hj => ?_, g3, g4, fun t ht h2 h3 => g5 t ht (by omega) h2 (fun u hu _ h8 => h3 u hu h8)⟩
  · have := g1 k (by omega)
    unfold bintrace_take.f
    simpa [dec] using this
  · have := g2 (j - 10) (by omega)
    rw [show j - 10 + 2 * 5 = j from by omega] at this
    unfold fathomref05_take.f
    simpa [dec] using this

theorem lebs_split (n : Nat) : ∃ m b, lebs n = m ++ [b] ∧ (∀ x ∈ m, 128 ≤ x ∧ x ≤ 255) ∧ 0 ≤ b ∧ b < 128 ∧ (m = [] ∨ b ≠ 0) ∧ (m = [] → b = (n : Int)) := by
  induction n using Nat.strongRecOn with
  | _ n ih =>
    by_cases h : n < 128
    · exact ⟨[], (n : Int), by rw [lebs_small h]; rfl, by simp, by omega, by omega, .inl rfl, fun _ => rfl⟩
    · obtain ⟨m, b, h1, h2, h3, h4, h5, h6⟩ := ih (n / 128) (by omega)
      refine ⟨(128 + ((n % 128 : Nat) : Int)) :: m, b, by rw [lebs_big h, h1]; rfl, ?_, h3, h4, .inr ?_, by simp⟩
      · intro x hx
        rw [List.mem_cons] at hx
        rcases hx with rfl | hx
        · omega
        · exact h2 x hx
      · rcases h5 with h5 | h5
        · have := h6 h5; omega
        · exact h5
theorem lebs_dec (n : Nat) : dec (lebs n) = n := by
  induction n using Nat.strongRecOn with
  | _ n ih =>
    by_cases h : n < 128
    · rw [lebs_small h]; simp only [dec]; omega
    · rw [lebs_big h]; simp only [dec]; rw [ih (n / 128) (by omega)]; omega
theorem xOf_num (a : Int) (h : isLit a = true) : xOf (num a : Int) = a := by
  obtain ⟨h0, h1, h2⟩ := (isLit_iff a).1 h
  unfold xOf num
  by_cases h3 : a < 0
  · rw [if_pos h3]; rw [if_pos (by omega)]; omega
  · rw [if_neg h3]; rw [if_neg (by omega)]; omega

/-- A literal's bytes are taken as that literal, whatever follows. -/
theorem take_leb (a : Int) (h : isLit a = true) (rest : List Int) (hb : ∀ x ∈ rest, 0 ≤ x ∧ x ≤ 255) (hl : rest.length ≤ 999999000) (k : Nat) (hk : 20 < k) :
    bintrace_take.f k (lebs (num a) ++ rest) = some (a, ((lebs (num a)).length : Int), true) := by
  obtain ⟨h0, h1, h2⟩ := (isLit_iff a).1 h
  have hn := num_lt a h1 h2
  have h4 := lebs_len 3 (num a) (by omega)
  obtain ⟨x, m, ok, g1, _, _, _, g5⟩ := take_both (lebs (num a) ++ rest) (fun y hy => by
    rw [List.mem_append] at hy
    rcases hy with hy | hy
    · exact lebs_range _ y hy
    · exact hb y hy) (by rw [List.length_append]; omega)
  obtain ⟨c, b, e1, e2, e3, e4, e5, e6⟩ := lebs_split (num a)
  have hd := lebs_dec (num a)
  have hlen : (lebs (num a)).length = c.length + 1 := by rw [e1]; simp
  have ht : (lebs (num a) ++ rest).take (c.length + 1) = lebs (num a) := by rw [← hlen, List.take_left]
  have := g5 c.length (by rw [List.length_append]; omega) (by omega) (fun u hu huc => by
    rw [List.getElem_append_left (by omega)]
    simp only [e1]
    rw [List.getElem_append_left huc]
    exact (e2 _ (List.getElem_mem huc)).1) (by
      rw [List.getElem_append_left (by omega)]; simp only [e1]; simpa using e4) (by
      rw [List.getElem_append_left (by omega)]; simp only [e1]
      rcases e5 with e5 | e5
      · left; rw [e5]; rfl
      · right; simpa using e5) (by rw [ht, hd, xOf_num a h]; exact h)
  rw [ht, hd, xOf_num a h] at this
  obtain ⟨rfl, rfl, rfl⟩ := this
  rw [g1 k hk, hlen]

end Go.Proofs.Yteciockojllonaa.Take
