-- PRINTED by print.py (a twelfth state) out of the translation. Not trusted: Lean checks it.
import Derived.Test.YteciockojllonaaK0
import Derived.Test.Yteciockojllonaafm
namespace Go.Proofs.Yteciockojllonaa.G
open Go.RowKit Go.Proofs.YteciockojllonaaW.PrintWords Go.Proofs.YteciockojllonaaW.PrintLast Go.Proofs.YteciockojllonaaW.PrintMore
attribute [local go_sem] max2_int min2_int max_two min_two max_three min_three max_four min_four   -- for this text's walks alone
set_option linter.unusedVariables false
set_option linter.unusedSimpArgs false

/-! ### bintrace_take: function 32 -/
def bintrace_take.l0 : Nat → Int → List Int → Int → Int → Option (Int × Int × Bool)
  | 0, _, _, _, _ => none
  | k + 1, x5, x9, x10, x11 => if x11 < x10 then (if 0 ≤ x11 then (if x11 < (x9.length : Int) then (if (wrap64 (7 * x11)) > 28 then (some (0, 0, false)) else (if 0 ≤ (wrap64 (7 * x11)) then (if (Go.bits .and .u8 (rd x9 x11) 128) = 0 then (if (Int.tmod (Go.bits .or .i64 x5 (shl .i64 (wrap64 (Go.bits .andNot .u8 (rd x9 x11) 128)) (wrap64 (7 * x11)))) 2) = 1 then (if x11 > 0 then (if (rd x9 x11) = 0 then (some (0, 0, false)) else ((lit_Check.f k (([wrap64 (-(wrap64 (Int.tdiv (Go.bits .or .i64 x5 (shl .i64 (wrap64 (Go.bits .andNot .u8 (rd x9 x11) 128)) (wrap64 (7 * x11)))) 2)))] : List Int))).bind fun t175 => (if t175 = 0 then (some (wrap64 (-(wrap64 (Int.tdiv (Go.bits .or .i64 x5 (shl .i64 (wrap64 (Go.bits .andNot .u8 (rd x9 x11) 128)) (wrap64 (7 * x11)))) 2))), wrap64 (x11 + 1), true)) else (some (0, 0, false))))) else ((lit_Check.f k (([wrap64 (-(wrap64 (Int.tdiv (Go.bits .or .i64 x5 (shl .i64 (wrap64 (Go.bits .andNot .u8 (rd x9 x11) 128)) (wrap64 (7 * x11)))) 2)))] : List Int))).bind fun t179 => (if t179 = 0 then (some (wrap64 (-(wrap64 (Int.tdiv (Go.bits .or .i64 x5 (shl .i64 (wrap64 (Go.bits .andNot .u8 (rd x9 x11) 128)) (wrap64 (7 * x11)))) 2))), wrap64 (x11 + 1), true)) else (some (0, 0, false))))) else (if x11 > 0 then (if (rd x9 x11) = 0 then (some (0, 0, false)) else ((lit_Check.f k (([wrap64 (Int.tdiv (Go.bits .or .i64 x5 (shl .i64 (wrap64 (Go.bits .andNot .u8 (rd x9 x11) 128)) (wrap64 (7 * x11)))) 2)] : List Int))).bind fun t183 => (if t183 = 0 then (some (wrap64 (Int.tdiv (Go.bits .or .i64 x5 (shl .i64 (wrap64 (Go.bits .andNot .u8 (rd x9 x11) 128)) (wrap64 (7 * x11)))) 2), wrap64 (x11 + 1), true)) else (some (0, 0, false))))) else ((lit_Check.f k (([wrap64 (Int.tdiv (Go.bits .or .i64 x5 (shl .i64 (wrap64 (Go.bits .andNot .u8 (rd x9 x11) 128)) (wrap64 (7 * x11)))) 2)] : List Int))).bind fun t187 => (if t187 = 0 then (some (wrap64 (Int.tdiv (Go.bits .or .i64 x5 (shl .i64 (wrap64 (Go.bits .andNot .u8 (rd x9 x11) 128)) (wrap64 (7 * x11)))) 2), wrap64 (x11 + 1), true)) else (some (0, 0, false)))))) else (bintrace_take.l0 k (Go.bits .or .i64 x5 (shl .i64 (wrap64 (Go.bits .andNot .u8 (rd x9 x11) 128)) (wrap64 (7 * x11)))) x9 x10 (wrap64 (x11 + 1)))) else (none))) else (none)) else (none)) else (some (0, 0, false))
def bintrace_take.f (k : Nat) (l0 : List Int) : Option (Int × Int × Bool) := bintrace_take.l0 k 0 l0 (l0.length : Int) 0
theorem bintrace_take.mono_l : ∀ k, (∀ y0 y1 y2 y3, LeO (bintrace_take.l0 k y0 y1 y2 y3) (bintrace_take.l0 (k + 1) y0 y1 y2 y3))
  | 0 => fun _ _ _ _ r h => by simp [bintrace_take.l0] at h
  | k + 1 => by
    have ih0 := bintrace_take.mono_l k
    · intro y0 y1 y2 y3
      unfold bintrace_take.l0
      repeat' first
      | (with_reducible exact ih0 _ _ _ _)
      | (with_reducible exact lit_Check.mono _ _)
      | (with_reducible exact LeO.refl _)
      | (with_reducible exact LeO.none _)
      | (with_reducible refine LeO.ite ?_ ?_)
      | (with_reducible refine LeO.bind ?_ (fun _ => ?_))
      | exact ih0 _ _ _ _
      | exact lit_Check.mono _ _
      | exact LeO.none _
      | refine LeO.ite ?_ ?_
      | refine LeO.bind ?_ (fun _ => ?_)
theorem bintrace_take.mono : ∀ a0 k, LeO (bintrace_take.f k a0) (bintrace_take.f (k + 1) a0) := by
  intro a0 k
  have ih0 := bintrace_take.mono_l k
  unfold bintrace_take.f
  repeat' first
      | (with_reducible exact ih0 _ _ _ _)
      | (with_reducible exact lit_Check.mono _ _)
      | (with_reducible exact LeO.refl _)
      | (with_reducible exact LeO.none _)
      | (with_reducible refine LeO.ite ?_ ?_)
      | (with_reducible refine LeO.bind ?_ (fun _ => ?_))
      | exact ih0 _ _ _ _
      | exact lit_Check.mono _ _
      | exact LeO.none _
      | refine LeO.ite ?_ ?_
      | refine LeO.bind ?_ (fun _ => ?_)
set_option maxHeartbeats 8000000 in
set_option maxRecDepth 100000 in
theorem bintrace_take.calls (k : Nat) (A0 : Option Addr) (c0 : Nat) (l0 : List Int) (r1 : Int) (r2 : Int) (r3 : Bool) (w : World) (hr0 : Kd.C (Kd.int .u8) w A0 l0.length l0) (hc0 : l0.length ≤ c0) (h : bintrace_take.f k l0 = some (r1, r2, r3)) :
    Calls Try.prog 32 #[.slice A0 l0.length c0] w fun e w' => e = .returned (.tuple #[.int .i64 r1, .int .i64 r2, .bool r3]) ∧ Below w.heap.size w w' := by
  have HR0 := Aside0.mk hr0
  have HC0 := Aside0.mk hc0
  clear hr0 hc0
  have HB := Aside0.mk (Below.refl w.heap.size w)
  have H : (bintrace_take.l0 k 0 l0 (l0.length : Int) 0) = some (r1, r2, r3) := h
  clear h
  have H' := Aside0.mk H
  clear H
  go_enter Try.func32, Try.ntmps32
  go_wp2
  go_loopg [5, 11] k (fun kq v5 v11 w' => ∃ (x5_1 : Int) (x11_1 : Int), v5 = .int .i64 x5_1 ∧ v11 = .int .i64 x11_1 ∧ Aside0 (bintrace_take.l0 kq x5_1 l0 (l0.length : Int) x11_1 = some (r1, r2, r3)) ∧ Aside0 (kq ≤ k) ∧ Aside0 (Below w.heap.size w w'))
  case atStart => exact ⟨(0), (0), (by first | rfl | (simp; done) | (simp [*]; done)), (by first | rfl | (simp; done) | (simp [*]; done)), H', ⟨Nat.le_refl _⟩, ⟨by repeat (first | (with_reducible first | exact HB.out | apply below_alloc | apply pw_below_drewN | apply below_drew1) | exact HB.out)⟩⟩
  case round =>
    clear H'
    obtain ⟨x5_1, x11_1, rfl, rfl, HA, HK1, HB⟩ := hrel
    cases gk with
    | zero => exact absurd HA.out (by simp [bintrace_take.l0])
    | succ k1 =>
      have H := HA.out
      clear HA
      simp only [bintrace_take.l0] at H
      by_cases c2 : x11_1 < (l0.length : Int)
      · rw [if_pos c2] at H
        have c2b0 : decide (x11_1 < (l0.length : Int)) = true := decide_eq_true c2
        clear c2
        by_cases c3 : 0 ≤ x11_1
        · rw [if_pos c3] at H
          have c3b0 : decide (0 ≤ x11_1) = true := decide_eq_true c3
          clear c3
          by_cases c4 : x11_1 < (l0.length : Int)
          · rw [if_pos c4] at H
            have c4b0 : decide (x11_1 < (l0.length : Int)) = true := decide_eq_true c4
            clear c4
            by_cases c5 : (wrap64 (7 * x11_1)) > 28
            · rw [if_pos c5] at H
              have c5b0 : decide (28 < (wrap64 (7 * x11_1))) = true := decide_eq_true c5
              clear c5
              simp only [Option.some.injEq, Prod.mk.injEq] at H
              obtain ⟨rfl, rfl, rfl⟩ := H
              have p171 : 0 ≤ (x11_1 : Int) := of_decide_eq_true (by first | (with_reducible assumption) | assumption)
              have q171 : x11_1 < (l0.length : Int) := of_decide_eq_true (by first | (with_reducible assumption) | assumption)
              obtain ⟨ad171, e171, hx171_0⟩ := Kd.at_int HR0.out x11_1 p171 q171
              cases e171
              replace hx171_0 := (HB.out.cell (World.block_lt_of_cell? w _ hx171_0)).trans hx171_0
              replace p171 := eq_true p171
              replace q171 := eq_true q171
              go_wp2
              go_ret3
              exact ⟨by first | rfl | (simp [errW_none, errW_some] <;> rfl) | (simp [*, errW_none, errW_some] <;> rfl), by repeat (first | (with_reducible first | exact HB.out | apply below_alloc | apply pw_below_drewN | apply below_drew1) | exact HB.out)⟩
            · rw [if_neg c5] at H
              have c5b0 : decide (28 < (wrap64 (7 * x11_1))) = false := decide_eq_false c5
              clear c5
              obtain ⟨ji6, hji6⟩ : ∃ j_ : Int, (wrap64 (7 * x11_1)) = j_ := ⟨_, rfl⟩
              replace H : (if 0 ≤ (ji6) then (if (Go.bits .and .u8 (rd l0 x11_1) 128) = 0 then (if (Int.tmod (Go.bits .or .i64 x5_1 (shl .i64 (wrap64 (Go.bits .andNot .u8 (rd l0 x11_1) 128)) (ji6))) 2) = 1 then (if x11_1 > 0 then (if (rd l0 x11_1) = 0 then (some (0, 0, false)) else ((lit_Check.f k1 (([wrap64 (-(wrap64 (Int.tdiv (Go.bits .or .i64 x5_1 (shl .i64 (wrap64 (Go.bits .andNot .u8 (rd l0 x11_1) 128)) (ji6))) 2)))] : List Int))).bind fun t175 => (if t175 = 0 then (some (wrap64 (-(wrap64 (Int.tdiv (Go.bits .or .i64 x5_1 (shl .i64 (wrap64 (Go.bits .andNot .u8 (rd l0 x11_1) 128)) (ji6))) 2))), wrap64 (x11_1 + 1), true)) else (some (0, 0, false))))) else ((lit_Check.f k1 (([wrap64 (-(wrap64 (Int.tdiv (Go.bits .or .i64 x5_1 (shl .i64 (wrap64 (Go.bits .andNot .u8 (rd l0 x11_1) 128)) (ji6))) 2)))] : List Int))).bind fun t179 => (if t179 = 0 then (some (wrap64 (-(wrap64 (Int.tdiv (Go.bits .or .i64 x5_1 (shl .i64 (wrap64 (Go.bits .andNot .u8 (rd l0 x11_1) 128)) (ji6))) 2))), wrap64 (x11_1 + 1), true)) else (some (0, 0, false))))) else (if x11_1 > 0 then (if (rd l0 x11_1) = 0 then (some (0, 0, false)) else ((lit_Check.f k1 (([wrap64 (Int.tdiv (Go.bits .or .i64 x5_1 (shl .i64 (wrap64 (Go.bits .andNot .u8 (rd l0 x11_1) 128)) (ji6))) 2)] : List Int))).bind fun t183 => (if t183 = 0 then (some (wrap64 (Int.tdiv (Go.bits .or .i64 x5_1 (shl .i64 (wrap64 (Go.bits .andNot .u8 (rd l0 x11_1) 128)) (ji6))) 2), wrap64 (x11_1 + 1), true)) else (some (0, 0, false))))) else ((lit_Check.f k1 (([wrap64 (Int.tdiv (Go.bits .or .i64 x5_1 (shl .i64 (wrap64 (Go.bits .andNot .u8 (rd l0 x11_1) 128)) (ji6))) 2)] : List Int))).bind fun t187 => (if t187 = 0 then (some (wrap64 (Int.tdiv (Go.bits .or .i64 x5_1 (shl .i64 (wrap64 (Go.bits .andNot .u8 (rd l0 x11_1) 128)) (ji6))) 2), wrap64 (x11_1 + 1), true)) else (some (0, 0, false)))))) else (bintrace_take.l0 k1 (Go.bits .or .i64 x5_1 (shl .i64 (wrap64 (Go.bits .andNot .u8 (rd l0 x11_1) 128)) (ji6))) l0 (l0.length : Int) (wrap64 (x11_1 + 1)))) else (none)) = some (r1, r2, r3) := by first | (rw [hji6] at H; exact H) | (simp only [hji6] at H ⊢; exact H)
              (try rw [hji6] at c5b0)
              have hji6w : (IntKind.i64.wrap (7 * x11_1)) = ji6 := (i64_w _).trans hji6
              by_cases c7 : 0 ≤ (ji6)
              · rw [if_pos c7] at H
                have c7b0 := eq_true c7
                have c7b1 : decide (0 ≤ (ji6)) = true := decide_eq_true c7
                clear c7
                obtain ⟨ji8, hji8⟩ : ∃ j_ : Int, (shl .i64 (wrap64 (Go.bits .andNot .u8 (rd l0 x11_1) 128)) (ji6)) = j_ := ⟨_, rfl⟩
                replace H : (if (Go.bits .and .u8 (rd l0 x11_1) 128) = 0 then (if (Int.tmod (Go.bits .or .i64 x5_1 (ji8)) 2) = 1 then (if x11_1 > 0 then (if (rd l0 x11_1) = 0 then (some (0, 0, false)) else ((lit_Check.f k1 (([wrap64 (-(wrap64 (Int.tdiv (Go.bits .or .i64 x5_1 (ji8)) 2)))] : List Int))).bind fun t175 => (if t175 = 0 then (some (wrap64 (-(wrap64 (Int.tdiv (Go.bits .or .i64 x5_1 (ji8)) 2))), wrap64 (x11_1 + 1), true)) else (some (0, 0, false))))) else ((lit_Check.f k1 (([wrap64 (-(wrap64 (Int.tdiv (Go.bits .or .i64 x5_1 (ji8)) 2)))] : List Int))).bind fun t179 => (if t179 = 0 then (some (wrap64 (-(wrap64 (Int.tdiv (Go.bits .or .i64 x5_1 (ji8)) 2))), wrap64 (x11_1 + 1), true)) else (some (0, 0, false))))) else (if x11_1 > 0 then (if (rd l0 x11_1) = 0 then (some (0, 0, false)) else ((lit_Check.f k1 (([wrap64 (Int.tdiv (Go.bits .or .i64 x5_1 (ji8)) 2)] : List Int))).bind fun t183 => (if t183 = 0 then (some (wrap64 (Int.tdiv (Go.bits .or .i64 x5_1 (ji8)) 2), wrap64 (x11_1 + 1), true)) else (some (0, 0, false))))) else ((lit_Check.f k1 (([wrap64 (Int.tdiv (Go.bits .or .i64 x5_1 (ji8)) 2)] : List Int))).bind fun t187 => (if t187 = 0 then (some (wrap64 (Int.tdiv (Go.bits .or .i64 x5_1 (ji8)) 2), wrap64 (x11_1 + 1), true)) else (some (0, 0, false)))))) else (bintrace_take.l0 k1 (Go.bits .or .i64 x5_1 (ji8)) l0 (l0.length : Int) (wrap64 (x11_1 + 1)))) = some (r1, r2, r3) := by first | (rw [hji8] at H; exact H) | (simp only [hji8] at H ⊢; exact H)
                have hji8_ : (IntKind.i64.wrap ((wrap64 (Go.bits .andNot .u8 (rd l0 x11_1) 128)) * 2 ^ min (ji6).toNat 64)) = ji8 := hji8
                have hji8z : (ji6) ≤ 64 → (IntKind.i64.wrap ((wrap64 (Go.bits .andNot .u8 (rd l0 x11_1) 128)) * 2 ^ (ji6).toNat)) = ji8 := shl_small hji8
                have hji8y : (wrap64 ((wrap64 (Go.bits .andNot .u8 (rd l0 x11_1) 128)) * 2 ^ min (ji6).toNat 64)) = ji8 := (i64_w _).symm.trans hji8_
                have hji8x : (ji6) ≤ 64 → (wrap64 ((wrap64 (Go.bits .andNot .u8 (rd l0 x11_1) 128)) * 2 ^ (ji6).toNat)) = ji8 := fun h_ => (i64_w _).symm.trans (hji8z h_)
                by_cases c9 : (Go.bits .and .u8 (rd l0 x11_1) 128) = 0
                · rw [if_pos c9] at H
                  have c9b0 : ((Go.bits .and .u8 (rd l0 x11_1) 128) == 0) = true := beq_iff_eq.mpr c9
                  have c9b1 : ((Go.bits .and .u8 (rd l0 x11_1) 128) != 0) = false := bne_eq_false_iff_eq.mpr c9
                  clear c9
                  by_cases c10 : (Int.tmod (Go.bits .or .i64 x5_1 (ji8)) 2) = 1
                  · rw [if_pos c10] at H
                    have c10b0 : ((Int.tmod (Go.bits .or .i64 x5_1 (ji8)) 2) == 1) = true := beq_iff_eq.mpr c10
                    have c10b1 : ((Int.tmod (Go.bits .or .i64 x5_1 (ji8)) 2) != 1) = false := bne_eq_false_iff_eq.mpr c10
                    clear c10
                    by_cases c11 : x11_1 > 0
                    · rw [if_pos c11] at H
                      have c11b0 : decide (0 < x11_1) = true := decide_eq_true c11
                      clear c11
                      by_cases c12 : (rd l0 x11_1) = 0
                      · rw [if_pos c12] at H
                        have c12b0 : ((rd l0 x11_1) == 0) = true := beq_iff_eq.mpr c12
                        have c12b1 : ((rd l0 x11_1) != 0) = false := bne_eq_false_iff_eq.mpr c12
                        clear c12
                        simp only [Option.some.injEq, Prod.mk.injEq] at H
                        obtain ⟨rfl, rfl, rfl⟩ := H
                        have p171 : 0 ≤ (x11_1 : Int) := of_decide_eq_true (by first | (with_reducible assumption) | assumption)
                        have q171 : x11_1 < (l0.length : Int) := of_decide_eq_true (by first | (with_reducible assumption) | assumption)
                        obtain ⟨ad171, e171, hx171_0⟩ := Kd.at_int HR0.out x11_1 p171 q171
                        cases e171
                        replace hx171_0 := (HB.out.cell (World.block_lt_of_cell? w _ hx171_0)).trans hx171_0
                        replace p171 := eq_true p171
                        replace q171 := eq_true q171
                        go_wp2
                        go_ret3
                        exact ⟨by first | rfl | (simp [errW_none, errW_some] <;> rfl) | (simp only [← hji6, ← hji8]; first | rfl | (simp [errW_none, errW_some] <;> rfl)) | (simp [*, errW_none, errW_some] <;> rfl), by repeat (first | (with_reducible first | exact HB.out | apply below_alloc | apply pw_below_drewN | apply below_drew1) | exact HB.out)⟩
                      · rw [if_neg c12] at H
                        have c12b0 : ((rd l0 x11_1) == 0) = false := beq_eq_false_iff_ne.mpr c12
                        have c12b1 : ((rd l0 x11_1) != 0) = true := bne_iff_ne.mpr c12
                        obtain ⟨y172, hy172⟩ : ∃ y_ : List Int, y_ = (([wrap64 (-(wrap64 (Int.tdiv (Go.bits .or .i64 x5_1 (ji8)) 2)))] : List Int)) := ⟨_, rfl⟩
                        replace H : ((lit_Check.f k1 y172).bind fun t175 => (if t175 = 0 then (some (wrap64 (-(wrap64 (Int.tdiv (Go.bits .or .i64 x5_1 (ji8)) 2))), wrap64 (x11_1 + 1), true)) else (some (0, 0, false)))) = some (r1, r2, r3) := by first | (rw [hy172]; with_reducible exact H) | (have H2_ := (Option.bind_some _ _).symm.trans H; rw [hy172]; with_reducible exact H2_) | (have H2_ := (Option.bind_some _ _).symm.trans H; with_reducible exact H2_) | with_reducible exact H | (rw [hy172]; exact H) | exact H
                        have Ny172 := Aside0.mk hy172
                        clear hy172
                        replace H := Option.bind_eq_some_iff.mp H
                        obtain ⟨t175, A130, H⟩ := H
                        replace H : (if t175 = 0 then (some (wrap64 (-(wrap64 (Int.tdiv (Go.bits .or .i64 x5_1 (ji8)) 2))), wrap64 (x11_1 + 1), true)) else (some (0, 0, false))) = some (r1, r2, r3) := H
                        have A13 := Aside0.mk A130
                        clear A130
                        by_cases c14 : t175 = 0
                        · rw [if_pos c14] at H
                          have c14b0 : (t175 == 0) = true := beq_iff_eq.mpr c14
                          have c14b1 : (t175 != 0) = false := bne_eq_false_iff_eq.mpr c14
                          clear c14
                          simp only [Option.some.injEq, Prod.mk.injEq] at H
                          obtain ⟨rfl, rfl, rfl⟩ := H
                          have p171 : 0 ≤ (x11_1 : Int) := of_decide_eq_true (by first | (with_reducible assumption) | assumption)
                          have q171 : x11_1 < (l0.length : Int) := of_decide_eq_true (by first | (with_reducible assumption) | assumption)
                          obtain ⟨ad171, e171, hx171_0⟩ := Kd.at_int HR0.out x11_1 p171 q171
                          cases e171
                          replace hx171_0 := (HB.out.cell (World.block_lt_of_cell? w _ hx171_0)).trans hx171_0
                          replace p171 := eq_true p171
                          replace q171 := eq_true q171
                          go_wp2_with (first | ((with_reducible refine gate_dst (N := 45) rfl ?_); (try (refine gate_guard (by rfl) ?_; dsimp only)); refine Kd.R_lit (Kd.int .i64) _ 3 ?hg (N := 45) ?hd (xs := ([wrap64 (-(wrap64 (Int.tdiv (Go.bits .or .i64 x5_1 (ji8)) 2)))] : List Int)) (inner := [.int .i64 (wrap64 (-(wrap64 (Int.tdiv (Go.bits .or .i64 x5_1 (ji8)) 2))))]) (ok := fun _ => True) (okp := fun _ => True) ?hr ?hp (fun _ hk => hk) trivial (Below.refl _ _) (Nat.le_refl _) (by simp) ?_; (case hd => rfl); (case hg => rfl); (case hr => first | (go_simp; done) | (go_simp; rfl)); (case hp => exact (Reps.one (show Kd.M (Kd.int .i64) _ _ _ (wrap64 (-(wrap64 (Int.tdiv (Go.bits .or .i64 x5_1 (ji8)) 2)))) [.int .i64 (wrap64 (-(wrap64 (Int.tdiv (Go.bits .or .i64 x5_1 (ji8)) 2))))] from rfl) (Reps.none _ _))); intro v173 w15 ho16 hb hg_ hnew_; clear hg_ hnew_; (first | rw [← Ny172.out] at ho16 | (simp only [Int.reduceToNat] at ho16; rw [← Ny172.out] at ho16)); have n0_ := Aside0.mk (Kd.R_lower ho16 (below_size (by repeat (first | (with_reducible first | exact HB.out | apply below_alloc | apply pw_below_drewN | apply below_drew1) | exact HB.out)))); have n1_ := Aside0.mk (below_step (by repeat (first | (with_reducible first | exact HB.out | apply below_alloc | apply pw_below_drewN | apply below_drew1) | exact HB.out)) hb); clear HB; have HO174 := n0_; have HB := n1_; clear n0_ n1_; clear hb ho16; obtain ⟨Ao17, co17, eo17⟩ := Kd.R_slice HO174.out; subst eo17) | (go_at_call 18; (with_reducible refine (lit_Check.calls k1 _ _ y172 t175 _ ?side1 ?side2 A13.out).mono ?_); (case side1 => repeat (first | exact (Kd.R_reads' HO174.out).2.2 | (with_reducible refine Kd.C_alloc ?_ _) | (with_reducible refine Kd.C_drewN ?_ _) | (with_reducible refine Kd.C_drew ?_))); (case side2 => exact (Kd.R_reads' HO174.out).2.1); rintro e w' ⟨rfl, ⟨nd, rfl⟩⟩))
                          go_ret3
                          exact ⟨by first | rfl | (simp [errW_none, errW_some] <;> rfl) | (simp only [← hji6, ← hji8]; first | rfl | (simp [errW_none, errW_some] <;> rfl)) | (simp [*, errW_none, errW_some] <;> rfl), by repeat (first | (with_reducible first | exact HB.out | apply below_alloc | apply pw_below_drewN | apply below_drew1) | exact HB.out)⟩
                        · rw [if_neg c14] at H
                          have c14b0 : (t175 == 0) = false := beq_eq_false_iff_ne.mpr c14
                          have c14b1 : (t175 != 0) = true := bne_iff_ne.mpr c14
                          simp only [Option.some.injEq, Prod.mk.injEq] at H
                          obtain ⟨rfl, rfl, rfl⟩ := H
                          have p171 : 0 ≤ (x11_1 : Int) := of_decide_eq_true (by first | (with_reducible assumption) | assumption)
                          have q171 : x11_1 < (l0.length : Int) := of_decide_eq_true (by first | (with_reducible assumption) | assumption)
                          obtain ⟨ad171, e171, hx171_0⟩ := Kd.at_int HR0.out x11_1 p171 q171
                          cases e171
                          replace hx171_0 := (HB.out.cell (World.block_lt_of_cell? w _ hx171_0)).trans hx171_0
                          replace p171 := eq_true p171
                          replace q171 := eq_true q171
                          go_wp2_with (first | ((with_reducible refine gate_dst (N := 45) rfl ?_); (try (refine gate_guard (by rfl) ?_; dsimp only)); refine Kd.R_lit (Kd.int .i64) _ 3 ?hg (N := 45) ?hd (xs := ([wrap64 (-(wrap64 (Int.tdiv (Go.bits .or .i64 x5_1 (ji8)) 2)))] : List Int)) (inner := [.int .i64 (wrap64 (-(wrap64 (Int.tdiv (Go.bits .or .i64 x5_1 (ji8)) 2))))]) (ok := fun _ => True) (okp := fun _ => True) ?hr ?hp (fun _ hk => hk) trivial (Below.refl _ _) (Nat.le_refl _) (by simp) ?_; (case hd => rfl); (case hg => rfl); (case hr => first | (go_simp; done) | (go_simp; rfl)); (case hp => exact (Reps.one (show Kd.M (Kd.int .i64) _ _ _ (wrap64 (-(wrap64 (Int.tdiv (Go.bits .or .i64 x5_1 (ji8)) 2)))) [.int .i64 (wrap64 (-(wrap64 (Int.tdiv (Go.bits .or .i64 x5_1 (ji8)) 2))))] from rfl) (Reps.none _ _))); intro v173 w18 ho19 hb hg_ hnew_; clear hg_ hnew_; (first | rw [← Ny172.out] at ho19 | (simp only [Int.reduceToNat] at ho19; rw [← Ny172.out] at ho19)); have n0_ := Aside0.mk (Kd.R_lower ho19 (below_size (by repeat (first | (with_reducible first | exact HB.out | apply below_alloc | apply pw_below_drewN | apply below_drew1) | exact HB.out)))); have n1_ := Aside0.mk (below_step (by repeat (first | (with_reducible first | exact HB.out | apply below_alloc | apply pw_below_drewN | apply below_drew1) | exact HB.out)) hb); clear HB; have HO174 := n0_; have HB := n1_; clear n0_ n1_; clear hb ho19; obtain ⟨Ao20, co20, eo20⟩ := Kd.R_slice HO174.out; subst eo20) | (go_at_call 18; (with_reducible refine (lit_Check.calls k1 _ _ y172 t175 _ ?side1 ?side2 A13.out).mono ?_); (case side1 => repeat (first | exact (Kd.R_reads' HO174.out).2.2 | (with_reducible refine Kd.C_alloc ?_ _) | (with_reducible refine Kd.C_drewN ?_ _) | (with_reducible refine Kd.C_drew ?_))); (case side2 => exact (Kd.R_reads' HO174.out).2.1); rintro e w' ⟨rfl, ⟨nd, rfl⟩⟩))
                          go_ret3
                          exact ⟨by first | rfl | (simp [errW_none, errW_some] <;> rfl) | (simp only [← hji6, ← hji8]; first | rfl | (simp [errW_none, errW_some] <;> rfl)) | (simp [*, errW_none, errW_some] <;> rfl), by repeat (first | (with_reducible first | exact HB.out | apply below_alloc | apply pw_below_drewN | apply below_drew1) | exact HB.out)⟩
                    · rw [if_neg c11] at H
                      have c11b0 : decide (0 < x11_1) = false := decide_eq_false c11
                      clear c11
                      obtain ⟨y176, hy176⟩ : ∃ y_ : List Int, y_ = (([wrap64 (-(wrap64 (Int.tdiv (Go.bits .or .i64 x5_1 (ji8)) 2)))] : List Int)) := ⟨_, rfl⟩
                      replace H : ((lit_Check.f k1 y176).bind fun t179 => (if t179 = 0 then (some (wrap64 (-(wrap64 (Int.tdiv (Go.bits .or .i64 x5_1 (ji8)) 2))), wrap64 (x11_1 + 1), true)) else (some (0, 0, false)))) = some (r1, r2, r3) := by first | (rw [hy176]; with_reducible exact H) | (have H2_ := (Option.bind_some _ _).symm.trans H; rw [hy176]; with_reducible exact H2_) | (have H2_ := (Option.bind_some _ _).symm.trans H; with_reducible exact H2_) | with_reducible exact H | (rw [hy176]; exact H) | exact H
                      have Ny176 := Aside0.mk hy176
                      clear hy176
                      replace H := Option.bind_eq_some_iff.mp H
                      obtain ⟨t179, A210, H⟩ := H
                      replace H : (if t179 = 0 then (some (wrap64 (-(wrap64 (Int.tdiv (Go.bits .or .i64 x5_1 (ji8)) 2))), wrap64 (x11_1 + 1), true)) else (some (0, 0, false))) = some (r1, r2, r3) := H
                      have A21 := Aside0.mk A210
                      clear A210
                      by_cases c22 : t179 = 0
                      · rw [if_pos c22] at H
                        have c22b0 : (t179 == 0) = true := beq_iff_eq.mpr c22
                        have c22b1 : (t179 != 0) = false := bne_eq_false_iff_eq.mpr c22
                        clear c22
                        simp only [Option.some.injEq, Prod.mk.injEq] at H
                        obtain ⟨rfl, rfl, rfl⟩ := H
                        have p171 : 0 ≤ (x11_1 : Int) := of_decide_eq_true (by first | (with_reducible assumption) | assumption)
                        have q171 : x11_1 < (l0.length : Int) := of_decide_eq_true (by first | (with_reducible assumption) | assumption)
                        obtain ⟨ad171, e171, hx171_0⟩ := Kd.at_int HR0.out x11_1 p171 q171
                        cases e171
                        replace hx171_0 := (HB.out.cell (World.block_lt_of_cell? w _ hx171_0)).trans hx171_0
                        replace p171 := eq_true p171
                        replace q171 := eq_true q171
                        go_wp2_with (first | ((with_reducible refine gate_dst (N := 45) rfl ?_); (try (refine gate_guard (by rfl) ?_; dsimp only)); refine Kd.R_lit (Kd.int .i64) _ 3 ?hg (N := 45) ?hd (xs := ([wrap64 (-(wrap64 (Int.tdiv (Go.bits .or .i64 x5_1 (ji8)) 2)))] : List Int)) (inner := [.int .i64 (wrap64 (-(wrap64 (Int.tdiv (Go.bits .or .i64 x5_1 (ji8)) 2))))]) (ok := fun _ => True) (okp := fun _ => True) ?hr ?hp (fun _ hk => hk) trivial (Below.refl _ _) (Nat.le_refl _) (by simp) ?_; (case hd => rfl); (case hg => rfl); (case hr => first | (go_simp; done) | (go_simp; rfl)); (case hp => exact (Reps.one (show Kd.M (Kd.int .i64) _ _ _ (wrap64 (-(wrap64 (Int.tdiv (Go.bits .or .i64 x5_1 (ji8)) 2)))) [.int .i64 (wrap64 (-(wrap64 (Int.tdiv (Go.bits .or .i64 x5_1 (ji8)) 2))))] from rfl) (Reps.none _ _))); intro v177 w23 ho24 hb hg_ hnew_; clear hg_ hnew_; (first | rw [← Ny176.out] at ho24 | (simp only [Int.reduceToNat] at ho24; rw [← Ny176.out] at ho24)); have n0_ := Aside0.mk (Kd.R_lower ho24 (below_size (by repeat (first | (with_reducible first | exact HB.out | apply below_alloc | apply pw_below_drewN | apply below_drew1) | exact HB.out)))); have n1_ := Aside0.mk (below_step (by repeat (first | (with_reducible first | exact HB.out | apply below_alloc | apply pw_below_drewN | apply below_drew1) | exact HB.out)) hb); clear HB; have HO178 := n0_; have HB := n1_; clear n0_ n1_; clear hb ho24; obtain ⟨Ao25, co25, eo25⟩ := Kd.R_slice HO178.out; subst eo25) | (go_at_call 18; (with_reducible refine (lit_Check.calls k1 _ _ y176 t179 _ ?side1 ?side2 A21.out).mono ?_); (case side1 => repeat (first | exact (Kd.R_reads' HO178.out).2.2 | (with_reducible refine Kd.C_alloc ?_ _) | (with_reducible refine Kd.C_drewN ?_ _) | (with_reducible refine Kd.C_drew ?_))); (case side2 => exact (Kd.R_reads' HO178.out).2.1); rintro e w' ⟨rfl, ⟨nd, rfl⟩⟩))
                        go_ret3
                        exact ⟨by first | rfl | (simp [errW_none, errW_some] <;> rfl) | (simp only [← hji6, ← hji8]; first | rfl | (simp [errW_none, errW_some] <;> rfl)) | (simp [*, errW_none, errW_some] <;> rfl), by repeat (first | (with_reducible first | exact HB.out | apply below_alloc | apply pw_below_drewN | apply below_drew1) | exact HB.out)⟩
                      · rw [if_neg c22] at H
                        have c22b0 : (t179 == 0) = false := beq_eq_false_iff_ne.mpr c22
                        have c22b1 : (t179 != 0) = true := bne_iff_ne.mpr c22
                        simp only [Option.some.injEq, Prod.mk.injEq] at H
                        obtain ⟨rfl, rfl, rfl⟩ := H
                        have p171 : 0 ≤ (x11_1 : Int) := of_decide_eq_true (by first | (with_reducible assumption) | assumption)
                        have q171 : x11_1 < (l0.length : Int) := of_decide_eq_true (by first | (with_reducible assumption) | assumption)
                        obtain ⟨ad171, e171, hx171_0⟩ := Kd.at_int HR0.out x11_1 p171 q171
                        cases e171
                        replace hx171_0 := (HB.out.cell (World.block_lt_of_cell? w _ hx171_0)).trans hx171_0
                        replace p171 := eq_true p171
                        replace q171 := eq_true q171
                        go_wp2_with (first | ((with_reducible refine gate_dst (N := 45) rfl ?_); (try (refine gate_guard (by rfl) ?_; dsimp only)); refine Kd.R_lit (Kd.int .i64) _ 3 ?hg (N := 45) ?hd (xs := ([wrap64 (-(wrap64 (Int.tdiv (Go.bits .or .i64 x5_1 (ji8)) 2)))] : List Int)) (inner := [.int .i64 (wrap64 (-(wrap64 (Int.tdiv (Go.bits .or .i64 x5_1 (ji8)) 2))))]) (ok := fun _ => True) (okp := fun _ => True) ?hr ?hp (fun _ hk => hk) trivial (Below.refl _ _) (Nat.le_refl _) (by simp) ?_; (case hd => rfl); (case hg => rfl); (case hr => first | (go_simp; done) | (go_simp; rfl)); (case hp => exact (Reps.one (show Kd.M (Kd.int .i64) _ _ _ (wrap64 (-(wrap64 (Int.tdiv (Go.bits .or .i64 x5_1 (ji8)) 2)))) [.int .i64 (wrap64 (-(wrap64 (Int.tdiv (Go.bits .or .i64 x5_1 (ji8)) 2))))] from rfl) (Reps.none _ _))); intro v177 w26 ho27 hb hg_ hnew_; clear hg_ hnew_; (first | rw [← Ny176.out] at ho27 | (simp only [Int.reduceToNat] at ho27; rw [← Ny176.out] at ho27)); have n0_ := Aside0.mk (Kd.R_lower ho27 (below_size (by repeat (first | (with_reducible first | exact HB.out | apply below_alloc | apply pw_below_drewN | apply below_drew1) | exact HB.out)))); have n1_ := Aside0.mk (below_step (by repeat (first | (with_reducible first | exact HB.out | apply below_alloc | apply pw_below_drewN | apply below_drew1) | exact HB.out)) hb); clear HB; have HO178 := n0_; have HB := n1_; clear n0_ n1_; clear hb ho27; obtain ⟨Ao28, co28, eo28⟩ := Kd.R_slice HO178.out; subst eo28) | (go_at_call 18; (with_reducible refine (lit_Check.calls k1 _ _ y176 t179 _ ?side1 ?side2 A21.out).mono ?_); (case side1 => repeat (first | exact (Kd.R_reads' HO178.out).2.2 | (with_reducible refine Kd.C_alloc ?_ _) | (with_reducible refine Kd.C_drewN ?_ _) | (with_reducible refine Kd.C_drew ?_))); (case side2 => exact (Kd.R_reads' HO178.out).2.1); rintro e w' ⟨rfl, ⟨nd, rfl⟩⟩))
                        go_ret3
                        exact ⟨by first | rfl | (simp [errW_none, errW_some] <;> rfl) | (simp only [← hji6, ← hji8]; first | rfl | (simp [errW_none, errW_some] <;> rfl)) | (simp [*, errW_none, errW_some] <;> rfl), by repeat (first | (with_reducible first | exact HB.out | apply below_alloc | apply pw_below_drewN | apply below_drew1) | exact HB.out)⟩
                  · rw [if_neg c10] at H
                    have c10b0 : ((Int.tmod (Go.bits .or .i64 x5_1 (ji8)) 2) == 1) = false := beq_eq_false_iff_ne.mpr c10
                    have c10b1 : ((Int.tmod (Go.bits .or .i64 x5_1 (ji8)) 2) != 1) = true := bne_iff_ne.mpr c10
                    by_cases c29 : x11_1 > 0
                    · rw [if_pos c29] at H
                      have c29b0 : decide (0 < x11_1) = true := decide_eq_true c29
                      clear c29
                      by_cases c30 : (rd l0 x11_1) = 0
                      · rw [if_pos c30] at H
                        have c30b0 : ((rd l0 x11_1) == 0) = true := beq_iff_eq.mpr c30
                        have c30b1 : ((rd l0 x11_1) != 0) = false := bne_eq_false_iff_eq.mpr c30
                        clear c30
                        simp only [Option.some.injEq, Prod.mk.injEq] at H
                        obtain ⟨rfl, rfl, rfl⟩ := H
                        have p171 : 0 ≤ (x11_1 : Int) := of_decide_eq_true (by first | (with_reducible assumption) | assumption)
                        have q171 : x11_1 < (l0.length : Int) := of_decide_eq_true (by first | (with_reducible assumption) | assumption)
                        obtain ⟨ad171, e171, hx171_0⟩ := Kd.at_int HR0.out x11_1 p171 q171
                        cases e171
                        replace hx171_0 := (HB.out.cell (World.block_lt_of_cell? w _ hx171_0)).trans hx171_0
                        replace p171 := eq_true p171
                        replace q171 := eq_true q171
                        go_wp2
                        go_ret3
                        exact ⟨by first | rfl | (simp [errW_none, errW_some] <;> rfl) | (simp only [← hji6, ← hji8]; first | rfl | (simp [errW_none, errW_some] <;> rfl)) | (simp [*, errW_none, errW_some] <;> rfl), by repeat (first | (with_reducible first | exact HB.out | apply below_alloc | apply pw_below_drewN | apply below_drew1) | exact HB.out)⟩
                      · rw [if_neg c30] at H
                        have c30b0 : ((rd l0 x11_1) == 0) = false := beq_eq_false_iff_ne.mpr c30
                        have c30b1 : ((rd l0 x11_1) != 0) = true := bne_iff_ne.mpr c30
                        obtain ⟨y180, hy180⟩ : ∃ y_ : List Int, y_ = (([wrap64 (Int.tdiv (Go.bits .or .i64 x5_1 (ji8)) 2)] : List Int)) := ⟨_, rfl⟩
                        replace H : ((lit_Check.f k1 y180).bind fun t183 => (if t183 = 0 then (some (wrap64 (Int.tdiv (Go.bits .or .i64 x5_1 (ji8)) 2), wrap64 (x11_1 + 1), true)) else (some (0, 0, false)))) = some (r1, r2, r3) := by first | (rw [hy180]; with_reducible exact H) | (have H2_ := (Option.bind_some _ _).symm.trans H; rw [hy180]; with_reducible exact H2_) | (have H2_ := (Option.bind_some _ _).symm.trans H; with_reducible exact H2_) | with_reducible exact H | (rw [hy180]; exact H) | exact H
                        have Ny180 := Aside0.mk hy180
                        clear hy180
                        replace H := Option.bind_eq_some_iff.mp H
                        obtain ⟨t183, A310, H⟩ := H
                        replace H : (if t183 = 0 then (some (wrap64 (Int.tdiv (Go.bits .or .i64 x5_1 (ji8)) 2), wrap64 (x11_1 + 1), true)) else (some (0, 0, false))) = some (r1, r2, r3) := H
                        have A31 := Aside0.mk A310
                        clear A310
                        by_cases c32 : t183 = 0
                        · rw [if_pos c32] at H
                          have c32b0 : (t183 == 0) = true := beq_iff_eq.mpr c32
                          have c32b1 : (t183 != 0) = false := bne_eq_false_iff_eq.mpr c32
                          clear c32
                          simp only [Option.some.injEq, Prod.mk.injEq] at H
                          obtain ⟨rfl, rfl, rfl⟩ := H
                          have p171 : 0 ≤ (x11_1 : Int) := of_decide_eq_true (by first | (with_reducible assumption) | assumption)
                          have q171 : x11_1 < (l0.length : Int) := of_decide_eq_true (by first | (with_reducible assumption) | assumption)
                          obtain ⟨ad171, e171, hx171_0⟩ := Kd.at_int HR0.out x11_1 p171 q171
                          cases e171
                          replace hx171_0 := (HB.out.cell (World.block_lt_of_cell? w _ hx171_0)).trans hx171_0
                          replace p171 := eq_true p171
                          replace q171 := eq_true q171
                          go_wp2_with (first | ((with_reducible refine gate_dst (N := 45) rfl ?_); (try (refine gate_guard (by rfl) ?_; dsimp only)); refine Kd.R_lit (Kd.int .i64) _ 3 ?hg (N := 45) ?hd (xs := ([wrap64 (Int.tdiv (Go.bits .or .i64 x5_1 (ji8)) 2)] : List Int)) (inner := [.int .i64 (wrap64 (Int.tdiv (Go.bits .or .i64 x5_1 (ji8)) 2))]) (ok := fun _ => True) (okp := fun _ => True) ?hr ?hp (fun _ hk => hk) trivial (Below.refl _ _) (Nat.le_refl _) (by simp) ?_; (case hd => rfl); (case hg => rfl); (case hr => first | (go_simp; done) | (go_simp; rfl)); (case hp => exact (Reps.one (show Kd.M (Kd.int .i64) _ _ _ (wrap64 (Int.tdiv (Go.bits .or .i64 x5_1 (ji8)) 2)) [.int .i64 (wrap64 (Int.tdiv (Go.bits .or .i64 x5_1 (ji8)) 2))] from rfl) (Reps.none _ _))); intro v181 w33 ho34 hb hg_ hnew_; clear hg_ hnew_; (first | rw [← Ny180.out] at ho34 | (simp only [Int.reduceToNat] at ho34; rw [← Ny180.out] at ho34)); have n0_ := Aside0.mk (Kd.R_lower ho34 (below_size (by repeat (first | (with_reducible first | exact HB.out | apply below_alloc | apply pw_below_drewN | apply below_drew1) | exact HB.out)))); have n1_ := Aside0.mk (below_step (by repeat (first | (with_reducible first | exact HB.out | apply below_alloc | apply pw_below_drewN | apply below_drew1) | exact HB.out)) hb); clear HB; have HO182 := n0_; have HB := n1_; clear n0_ n1_; clear hb ho34; obtain ⟨Ao35, co35, eo35⟩ := Kd.R_slice HO182.out; subst eo35) | (go_at_call 18; (with_reducible refine (lit_Check.calls k1 _ _ y180 t183 _ ?side1 ?side2 A31.out).mono ?_); (case side1 => repeat (first | exact (Kd.R_reads' HO182.out).2.2 | (with_reducible refine Kd.C_alloc ?_ _) | (with_reducible refine Kd.C_drewN ?_ _) | (with_reducible refine Kd.C_drew ?_))); (case side2 => exact (Kd.R_reads' HO182.out).2.1); rintro e w' ⟨rfl, ⟨nd, rfl⟩⟩))
                          go_ret3
                          exact ⟨by first | rfl | (simp [errW_none, errW_some] <;> rfl) | (simp only [← hji6, ← hji8]; first | rfl | (simp [errW_none, errW_some] <;> rfl)) | (simp [*, errW_none, errW_some] <;> rfl), by repeat (first | (with_reducible first | exact HB.out | apply below_alloc | apply pw_below_drewN | apply below_drew1) | exact HB.out)⟩
                        · rw [if_neg c32] at H
                          have c32b0 : (t183 == 0) = false := beq_eq_false_iff_ne.mpr c32
                          have c32b1 : (t183 != 0) = true := bne_iff_ne.mpr c32
                          simp only [Option.some.injEq, Prod.mk.injEq] at H
                          obtain ⟨rfl, rfl, rfl⟩ := H
                          have p171 : 0 ≤ (x11_1 : Int) := of_decide_eq_true (by first | (with_reducible assumption) | assumption)
                          have q171 : x11_1 < (l0.length : Int) := of_decide_eq_true (by first | (with_reducible assumption) | assumption)
                          obtain ⟨ad171, e171, hx171_0⟩ := Kd.at_int HR0.out x11_1 p171 q171
                          cases e171
                          replace hx171_0 := (HB.out.cell (World.block_lt_of_cell? w _ hx171_0)).trans hx171_0
                          replace p171 := eq_true p171
                          replace q171 := eq_true q171
                          go_wp2_with (first | ((with_reducible refine gate_dst (N := 45) rfl ?_); (try (refine gate_guard (by rfl) ?_; dsimp only)); refine Kd.R_lit (Kd.int .i64) _ 3 ?hg (N := 45) ?hd (xs := ([wrap64 (Int.tdiv (Go.bits .or .i64 x5_1 (ji8)) 2)] : List Int)) (inner := [.int .i64 (wrap64 (Int.tdiv (Go.bits .or .i64 x5_1 (ji8)) 2))]) (ok := fun _ => True) (okp := fun _ => True) ?hr ?hp (fun _ hk => hk) trivial (Below.refl _ _) (Nat.le_refl _) (by simp) ?_; (case hd => rfl); (case hg => rfl); (case hr => first | (go_simp; done) | (go_simp; rfl)); (case hp => exact (Reps.one (show Kd.M (Kd.int .i64) _ _ _ (wrap64 (Int.tdiv (Go.bits .or .i64 x5_1 (ji8)) 2)) [.int .i64 (wrap64 (Int.tdiv (Go.bits .or .i64 x5_1 (ji8)) 2))] from rfl) (Reps.none _ _))); intro v181 w36 ho37 hb hg_ hnew_; clear hg_ hnew_; (first | rw [← Ny180.out] at ho37 | (simp only [Int.reduceToNat] at ho37; rw [← Ny180.out] at ho37)); have n0_ := Aside0.mk (Kd.R_lower ho37 (below_size (by repeat (first | (with_reducible first | exact HB.out | apply below_alloc | apply pw_below_drewN | apply below_drew1) | exact HB.out)))); have n1_ := Aside0.mk (below_step (by repeat (first | (with_reducible first | exact HB.out | apply below_alloc | apply pw_below_drewN | apply below_drew1) | exact HB.out)) hb); clear HB; have HO182 := n0_; have HB := n1_; clear n0_ n1_; clear hb ho37; obtain ⟨Ao38, co38, eo38⟩ := Kd.R_slice HO182.out; subst eo38) | (go_at_call 18; (with_reducible refine (lit_Check.calls k1 _ _ y180 t183 _ ?side1 ?side2 A31.out).mono ?_); (case side1 => repeat (first | exact (Kd.R_reads' HO182.out).2.2 | (with_reducible refine Kd.C_alloc ?_ _) | (with_reducible refine Kd.C_drewN ?_ _) | (with_reducible refine Kd.C_drew ?_))); (case side2 => exact (Kd.R_reads' HO182.out).2.1); rintro e w' ⟨rfl, ⟨nd, rfl⟩⟩))
                          go_ret3
                          exact ⟨by first | rfl | (simp [errW_none, errW_some] <;> rfl) | (simp only [← hji6, ← hji8]; first | rfl | (simp [errW_none, errW_some] <;> rfl)) | (simp [*, errW_none, errW_some] <;> rfl), by repeat (first | (with_reducible first | exact HB.out | apply below_alloc | apply pw_below_drewN | apply below_drew1) | exact HB.out)⟩
                    · rw [if_neg c29] at H
                      have c29b0 : decide (0 < x11_1) = false := decide_eq_false c29
                      clear c29
                      obtain ⟨y184, hy184⟩ : ∃ y_ : List Int, y_ = (([wrap64 (Int.tdiv (Go.bits .or .i64 x5_1 (ji8)) 2)] : List Int)) := ⟨_, rfl⟩
                      replace H : ((lit_Check.f k1 y184).bind fun t187 => (if t187 = 0 then (some (wrap64 (Int.tdiv (Go.bits .or .i64 x5_1 (ji8)) 2), wrap64 (x11_1 + 1), true)) else (some (0, 0, false)))) = some (r1, r2, r3) := by first | (rw [hy184]; with_reducible exact H) | (have H2_ := (Option.bind_some _ _).symm.trans H; rw [hy184]; with_reducible exact H2_) | (have H2_ := (Option.bind_some _ _).symm.trans H; with_reducible exact H2_) | with_reducible exact H | (rw [hy184]; exact H) | exact H
                      have Ny184 := Aside0.mk hy184
                      clear hy184
                      replace H := Option.bind_eq_some_iff.mp H
                      obtain ⟨t187, A390, H⟩ := H
                      replace H : (if t187 = 0 then (some (wrap64 (Int.tdiv (Go.bits .or .i64 x5_1 (ji8)) 2), wrap64 (x11_1 + 1), true)) else (some (0, 0, false))) = some (r1, r2, r3) := H
                      have A39 := Aside0.mk A390
                      clear A390
                      by_cases c40 : t187 = 0
                      · rw [if_pos c40] at H
                        have c40b0 : (t187 == 0) = true := beq_iff_eq.mpr c40
                        have c40b1 : (t187 != 0) = false := bne_eq_false_iff_eq.mpr c40
                        clear c40
                        simp only [Option.some.injEq, Prod.mk.injEq] at H
                        obtain ⟨rfl, rfl, rfl⟩ := H
                        have p171 : 0 ≤ (x11_1 : Int) := of_decide_eq_true (by first | (with_reducible assumption) | assumption)
                        have q171 : x11_1 < (l0.length : Int) := of_decide_eq_true (by first | (with_reducible assumption) | assumption)
                        obtain ⟨ad171, e171, hx171_0⟩ := Kd.at_int HR0.out x11_1 p171 q171
                        cases e171
                        replace hx171_0 := (HB.out.cell (World.block_lt_of_cell? w _ hx171_0)).trans hx171_0
                        replace p171 := eq_true p171
                        replace q171 := eq_true q171
                        go_wp2_with (first | ((with_reducible refine gate_dst (N := 45) rfl ?_); (try (refine gate_guard (by rfl) ?_; dsimp only)); refine Kd.R_lit (Kd.int .i64) _ 3 ?hg (N := 45) ?hd (xs := ([wrap64 (Int.tdiv (Go.bits .or .i64 x5_1 (ji8)) 2)] : List Int)) (inner := [.int .i64 (wrap64 (Int.tdiv (Go.bits .or .i64 x5_1 (ji8)) 2))]) (ok := fun _ => True) (okp := fun _ => True) ?hr ?hp (fun _ hk => hk) trivial (Below.refl _ _) (Nat.le_refl _) (by simp) ?_; (case hd => rfl); (case hg => rfl); (case hr => first | (go_simp; done) | (go_simp; rfl)); (case hp => exact (Reps.one (show Kd.M (Kd.int .i64) _ _ _ (wrap64 (Int.tdiv (Go.bits .or .i64 x5_1 (ji8)) 2)) [.int .i64 (wrap64 (Int.tdiv (Go.bits .or .i64 x5_1 (ji8)) 2))] from rfl) (Reps.none _ _))); intro v185 w41 ho42 hb hg_ hnew_; clear hg_ hnew_; (first | rw [← Ny184.out] at ho42 | (simp only [Int.reduceToNat] at ho42; rw [← Ny184.out] at ho42)); have n0_ := Aside0.mk (Kd.R_lower ho42 (below_size (by repeat (first | (with_reducible first | exact HB.out | apply below_alloc | apply pw_below_drewN | apply below_drew1) | exact HB.out)))); have n1_ := Aside0.mk (below_step (by repeat (first | (with_reducible first | exact HB.out | apply below_alloc | apply pw_below_drewN | apply below_drew1) | exact HB.out)) hb); clear HB; have HO186 := n0_; have HB := n1_; clear n0_ n1_; clear hb ho42; obtain ⟨Ao43, co43, eo43⟩ := Kd.R_slice HO186.out; subst eo43) | (go_at_call 18; (with_reducible refine (lit_Check.calls k1 _ _ y184 t187 _ ?side1 ?side2 A39.out).mono ?_); (case side1 => repeat (first | exact (Kd.R_reads' HO186.out).2.2 | (with_reducible refine Kd.C_alloc ?_ _) | (with_reducible refine Kd.C_drewN ?_ _) | (with_reducible refine Kd.C_drew ?_))); (case side2 => exact (Kd.R_reads' HO186.out).2.1); rintro e w' ⟨rfl, ⟨nd, rfl⟩⟩))
                        go_ret3
                        exact ⟨by first | rfl | (simp [errW_none, errW_some] <;> rfl) | (simp only [← hji6, ← hji8]; first | rfl | (simp [errW_none, errW_some] <;> rfl)) | (simp [*, errW_none, errW_some] <;> rfl), by repeat (first | (with_reducible first | exact HB.out | apply below_alloc | apply pw_below_drewN | apply below_drew1) | exact HB.out)⟩
                      · rw [if_neg c40] at H
                        have c40b0 : (t187 == 0) = false := beq_eq_false_iff_ne.mpr c40
                        have c40b1 : (t187 != 0) = true := bne_iff_ne.mpr c40
                        simp only [Option.some.injEq, Prod.mk.injEq] at H
                        obtain ⟨rfl, rfl, rfl⟩ := H
                        have p171 : 0 ≤ (x11_1 : Int) := of_decide_eq_true (by first | (with_reducible assumption) | assumption)
                        have q171 : x11_1 < (l0.length : Int) := of_decide_eq_true (by first | (with_reducible assumption) | assumption)
                        obtain ⟨ad171, e171, hx171_0⟩ := Kd.at_int HR0.out x11_1 p171 q171
                        cases e171
                        replace hx171_0 := (HB.out.cell (World.block_lt_of_cell? w _ hx171_0)).trans hx171_0
                        replace p171 := eq_true p171
                        replace q171 := eq_true q171
                        go_wp2_with (first | ((with_reducible refine gate_dst (N := 45) rfl ?_); (try (refine gate_guard (by rfl) ?_; dsimp only)); refine Kd.R_lit (Kd.int .i64) _ 3 ?hg (N := 45) ?hd (xs := ([wrap64 (Int.tdiv (Go.bits .or .i64 x5_1 (ji8)) 2)] : List Int)) (inner := [.int .i64 (wrap64 (Int.tdiv (Go.bits .or .i64 x5_1 (ji8)) 2))]) (ok := fun _ => True) (okp := fun _ => True) ?hr ?hp (fun _ hk => hk) trivial (Below.refl _ _) (Nat.le_refl _) (by simp) ?_; (case hd => rfl); (case hg => rfl); (case hr => first | (go_simp; done) | (go_simp; rfl)); (case hp => exact (Reps.one (show Kd.M (Kd.int .i64) _ _ _ (wrap64 (Int.tdiv (Go.bits .or .i64 x5_1 (ji8)) 2)) [.int .i64 (wrap64 (Int.tdiv (Go.bits .or .i64 x5_1 (ji8)) 2))] from rfl) (Reps.none _ _))); intro v185 w44 ho45 hb hg_ hnew_; clear hg_ hnew_; (first | rw [← Ny184.out] at ho45 | (simp only [Int.reduceToNat] at ho45; rw [← Ny184.out] at ho45)); have n0_ := Aside0.mk (Kd.R_lower ho45 (below_size (by repeat (first | (with_reducible first | exact HB.out | apply below_alloc | apply pw_below_drewN | apply below_drew1) | exact HB.out)))); have n1_ := Aside0.mk (below_step (by repeat (first | (with_reducible first | exact HB.out | apply below_alloc | apply pw_below_drewN | apply below_drew1) | exact HB.out)) hb); clear HB; have HO186 := n0_; have HB := n1_; clear n0_ n1_; clear hb ho45; obtain ⟨Ao46, co46, eo46⟩ := Kd.R_slice HO186.out; subst eo46) | (go_at_call 18; (with_reducible refine (lit_Check.calls k1 _ _ y184 t187 _ ?side1 ?side2 A39.out).mono ?_); (case side1 => repeat (first | exact (Kd.R_reads' HO186.out).2.2 | (with_reducible refine Kd.C_alloc ?_ _) | (with_reducible refine Kd.C_drewN ?_ _) | (with_reducible refine Kd.C_drew ?_))); (case side2 => exact (Kd.R_reads' HO186.out).2.1); rintro e w' ⟨rfl, ⟨nd, rfl⟩⟩))
                        go_ret3
                        exact ⟨by first | rfl | (simp [errW_none, errW_some] <;> rfl) | (simp only [← hji6, ← hji8]; first | rfl | (simp [errW_none, errW_some] <;> rfl)) | (simp [*, errW_none, errW_some] <;> rfl), by repeat (first | (with_reducible first | exact HB.out | apply below_alloc | apply pw_below_drewN | apply below_drew1) | exact HB.out)⟩
                · rw [if_neg c9] at H
                  have c9b0 : ((Go.bits .and .u8 (rd l0 x11_1) 128) == 0) = false := beq_eq_false_iff_ne.mpr c9
                  have c9b1 : ((Go.bits .and .u8 (rd l0 x11_1) 128) != 0) = true := bne_iff_ne.mpr c9
                  have H' := Aside0.mk H
                  clear H
                  have p171 : 0 ≤ (x11_1 : Int) := of_decide_eq_true (by first | (with_reducible assumption) | assumption)
                  have q171 : x11_1 < (l0.length : Int) := of_decide_eq_true (by first | (with_reducible assumption) | assumption)
                  obtain ⟨ad171, e171, hx171_0⟩ := Kd.at_int HR0.out x11_1 p171 q171
                  cases e171
                  replace hx171_0 := (HB.out.cell (World.block_lt_of_cell? w _ hx171_0)).trans hx171_0
                  replace p171 := eq_true p171
                  replace q171 := eq_true q171
                  go_wp2
                  go_roundg k1
                  case measure => have := HK1.out; omega
                  case rel => exact ⟨(Go.bits .or .i64 x5_1 (ji8)), (wrap64 (x11_1 + 1)), (by first | rfl | (simp; done) | (simp only [← hji8] <;> (first | rfl | simp)) | (simp [*]; done)), (by first | rfl | (simp; done) | (simp [*]; done)), H', ⟨by have := HK1.out; omega⟩, ⟨by repeat (first | (with_reducible first | exact HB.out | apply below_alloc | apply pw_below_drewN | apply below_drew1) | exact HB.out)⟩⟩
              · rw [if_neg c7] at H
                exact absurd H (by simp)
          · rw [if_neg c4] at H
            exact absurd H (by simp)
        · rw [if_neg c3] at H
          exact absurd H (by simp)
      · rw [if_neg c2] at H
        have c2b0 : decide (x11_1 < (l0.length : Int)) = false := decide_eq_false c2
        clear c2
        simp only [Option.some.injEq, Prod.mk.injEq] at H
        obtain ⟨rfl, rfl, rfl⟩ := H
        go_wp2
        go_ret3
        exact ⟨by first | rfl | (simp [errW_none, errW_some] <;> rfl) | (simp [*, errW_none, errW_some] <;> rfl), by repeat (first | (with_reducible first | exact HB.out | apply below_alloc | apply pw_below_drewN | apply below_drew1) | exact HB.out)⟩

end Go.Proofs.Yteciockojllonaa.G
