/-
'trace.Read': the walk.
-/
import Derived.Test.YteciockojllonaaH5
namespace Go.Proofs.Yteciockojllonaa.G
open Go.RowKit Go.Proofs.YteciockojllonaaW.PrintWords Go.Proofs.YteciockojllonaaW.PrintLast Go.Proofs.YteciockojllonaaW.PrintMore
attribute [local go_sem] max2_int min2_int max_two min_two max_three min_three max_four min_four
set_option linter.unusedVariables false
set_option linter.unusedSimpArgs false

theorem RD.new (w : World) : RD w (w.alloc (.cells #[.slice none 0 0, .bool false, .slice none 0 0, .bool false] 58)) w.heap.size [] false [] false :=
  ⟨.slice none 0 0, .slice none 0 0, by simpa using heap_alloc_new w _, Nat.le_refl _, Kd.S_nil _ _ _ _ _, Kd.R_nil _ _ _ _ _, below_alloc (Below.refl _ _) _⟩
theorem RD.bel {w0 W : World} {g : Nat} {L : List S39} {del : Bool} {lits : List Int} {inn : Bool} (h : RD w0 W g L del lits inn) : Below w0.heap.size w0 W := by
  obtain ⟨_, _, _, _, _, _, h5⟩ := h; exact h5

set_option maxHeartbeats 8000000 in
set_option maxRecDepth 100000 in
theorem trace_Read.calls (A0 : Option Addr) (c0 : Nat) (l0 : List Int) (r1 : List S39) (r2 : Int) (r3 : Int) (w : World) (hr0 : Kd.C (Kd.int .u8) w A0 l0.length l0) (hc0 : l0.length ≤ c0) (h : trace_Read.f l0 = some (r1, r2, r3)) :
    Calls Try.prog 28 #[.slice A0 l0.length c0] w fun e w' => ∃ v0_ : Value, e = .returned (.tuple #[v0_, .int .i64 r2, .int .i64 r3]) ∧ Kd.S k39 39 w' w.heap.size (fun _ => True) v0_ r1 ∧ Below w.heap.size w w' := by
  have HH := Option.some.inj h
  clear h
  have hm := Kd.C_max hr0
  have HR0 := Aside0.mk hr0
  have HC0 := Aside0.mk hc0
  clear hr0 hc0
  by_cases cl : l0.length > 4194304
  · rw [if_pos cl] at HH
    obtain ⟨rfl, rfl, rfl⟩ : [] = r1 ∧ 0 = r2 ∧ 3 = r3 := by simpa using HH
    have cl1 : decide (4194304 < l0.length) = true := decide_eq_true cl
    have cl2 : decide (4194304 < (l0.length : Int)) = true := decide_eq_true (by omega)
    clear cl HH
    go_enter Try.func28, Try.ntmps28
    go_wp2
    go_ret3
    exact ⟨.slice none 0 0, rfl, Kd.S_nil _ _ _ _ _, Below.refl _ _⟩
  · rw [if_neg cl] at HH
    have cl1 : decide (4194304 < l0.length) = false := decide_eq_false cl
    have cl2 : decide (4194304 < (l0.length : Int)) = false := decide_eq_false (by omega)
    have HG := Aside0.mk HH
    have hml : l0.length ≤ 4194304 := by omega
    clear cl HH
    go_enter Try.func28, Try.ntmps28
    go_wp2
    go_loopg [6, 7, 8, 17] (l0.length + 1) (fun gk v6 v7 v8 v17 wr => ∃ (i b : Nat) (L : List S39) (del : Bool) (lits : List Int) (inn : Bool), v17 = .int .i64 i ∧ v6 = .int .i64 b ∧ Aside0 (b ≤ i ∧ i + gk = l0.length + 1 ∧ L.length ≤ 262144 ∧ lits.length ≤ 4096 ∧ (inn = true → L.length < 262144)) ∧ Aside0 (RD w wr w.heap.size L del lits inn) ∧ Aside0 (readGo l0 gk i b L del lits inn = (r1, r2, r3)))
    case atStart => exact ⟨0, 0, [], false, [], false, rfl, rfl, ⟨Nat.le_refl _, by omega, by simp, by simp, by simp⟩, ⟨RD.new w⟩, HG⟩
    case round =>
      clear HG
      obtain ⟨i, b, L, del, lits, inn, rfl, rfl, HI, HRD, HGO⟩ := hrel
      obtain ⟨Al, cl', As, cs, q0, q1, q2, q3, qf, _, _, hgl⟩ := HRD.out.cells
      clear qf
      cases gk with
      | zero =>
        have hx : ¬ ((i : Int) < (l0.length : Int) + 1) := by have := HI.out.2.1; omega
        have HGO2 := HGO.out
        simp only [readGo] at HGO2
        cases inn with
        | true =>
          rw [if_pos rfl] at HGO2
          obtain ⟨rfl, rfl, rfl⟩ : [] = r1 ∧ (l0.length : Int) = r2 ∧ 2 = r3 := by simpa using HGO2
          clear HGO2
          go_wp2
          go_ret3
          exact ⟨.slice none 0 0, rfl, Kd.S_nil _ _ _ _ _, HRD.out.bel⟩
        | false =>
          rw [if_neg (by simp)] at HGO2
          obtain ⟨rfl, rfl, rfl⟩ : L = r1 ∧ 0 = r2 ∧ 0 = r3 := by simpa using HGO2
          clear HGO2
          obtain ⟨Al2, cl2', As2, cs2, hk2, hg2, hl2, hs2, hb2⟩ := HRD.out.open_
          have q0' := (blk_cell hk2 0).trans rfl
          clear q0
          have q0 : wr.cell? ⟨w.heap.size, 0, none⟩ = some (.slice Al2 L.length cl2') := q0'
          clear q0'
          have HL2 := Aside0.mk hl2
          clear hk2 hg2 hl2 hs2 hb2
          go_wp2
          go_ret3
          exact ⟨_, rfl, Kd.S_mono HL2.out (fun _ _ => trivial), HRD.out.bel⟩
      | succ k1 =>
        have hx : (i : Int) < (l0.length : Int) + 1 := by have := HI.out.2.1; omega
        by_cases hi : i < l0.length
        · have hi1 : decide (i < l0.length) = true := decide_eq_true hi
          have hi2 : decide ((i : Int) < (l0.length : Int)) = true := decide_eq_true (by omega)
          obtain ⟨ad, e, hx0⟩ := Kd.at_int HR0.out (i : Int) (by omega) (by omega)
          cases e
          rw [Int.toNat_natCast] at hx0
          replace hx0 := (HRD.out.bel.cell (World.block_lt_of_cell? w _ hx0)).trans hx0
          by_cases hb : blankI (rd l0 (i : Int)) = false
          · have HBL := Aside0.mk hb
            clear hb
            go_wp2_with (go_at_call 36; refine (trace_blank.calls (rd l0 (i : Int)) false _ (by rw [blank_spec, HBL.out])).mono ?_; rintro e w' ⟨rfl, ⟨nd, rfl⟩⟩)
            go_roundg k1
            case measure => omega
            case rel =>
              refine ⟨i + 1, b, L, del, lits, inn, by go_num, rfl, ⟨by have := HI.out.1; omega, by have := HI.out.2.1; omega, HI.out.2.2⟩, ⟨HRD.out.below (pw_below_drewN (Below.refl _ _) _)⟩, ⟨?_⟩⟩
              have hgo := HGO.out
              simp only [readGo] at hgo
              rw [if_pos ⟨of_decide_eq_true hi1, HBL.out⟩] at hgo
              exact hgo
          · have HBL := Aside0.mk (show blankI (rd l0 (i : Int)) = true by cases hq : blankI (rd l0 (i : Int)) with | true => rfl | false => exact absurd hq hb)
            clear hb
            have HNB := Aside0.mk (show ¬ (i < l0.length ∧ blankI (rd l0 (i : Int)) = false) from fun h => by have h2 := h.2; rw [HBL.out] at h2; cases h2)
            by_cases hbi : b < i
            · have hbi1 : decide (b < i) = true := decide_eq_true hbi
              have hbi2 : decide ((b : Int) < (i : Int)) = true := decide_eq_true (by omega)
              obtain ⟨i0, hi0, _, hsz, _⟩ := info_parts info5
              obtain ⟨A', hcut, hA, hCl⟩ := print_mid_of (P := Try.prog) (Value.int .u8) 0 25 5 .i64 .i64 Try.underlying25 hi0 hsz (some ad) c0 l0 (b : Int) (i : Int) (by omega) (by omega) (by have := HI.out.2.1; omega) HC0.out
              have hlen : ((l0.take i).drop b).length = i - b := by rw [List.length_drop, List.length_take]; have := HI.out.2.1; omega
              rw [Int.toNat_natCast, Int.toNat_natCast] at hcut hA
              have hcv := fun m => Kd.C_string (P := Try.prog) (A := A') (c := (c0 - b)) Try.underlying25 Try.underlying5 Try.underlying9 (Kd.C_drewN (Kd.C_below (Kd.C_of_reads (h1 := fun _ => rfl) (hA _ (Kd.reads_of_C HR0.out))) HRD.out.bel) m)
              have hcv0 := Kd.C_string (P := Try.prog) (A := A') (c := (c0 - b)) Try.underlying25 Try.underlying5 Try.underlying9 (Kd.C_below (Kd.C_of_reads (h1 := fun _ => rfl) (hA _ (Kd.reads_of_C HR0.out))) HRD.out.bel)
              rw [hlen] at hcut hcv hcv0
              clear hA hCl hi0 hsz hlen
              generalize hs : strOfNums ((l0.take i).drop b) = s at hcv hcv0
              have HS := Aside0.mk hs
              clear hs
              by_cases he : (wordSpec L del lits inn (bytesOf s)).1 = 0
              · have HE := Aside0.mk he
                clear he
                go_wp2_with (first | (go_at_call 36; refine (trace_blank.calls (rd l0 (i : Int)) true _ (by rw [blank_spec, HBL.out])).mono ?_; rintro e w' ⟨rfl, ⟨nd, rfl⟩⟩) | (go_at_call 37; refine (word_calls w _ _ L del lits inn _ HI.out.2.2.1 HI.out.2.2.2.1 (HRD.out.below (pw_below_drewN (Below.refl _ _) _))).mono ?_; rintro e w2 ⟨rfl, hRD2⟩; rw [HE.out]; have HRD2 := Aside0.mk hRD2; clear hRD2))
                go_roundg k1
                case measure => omega
                case rel =>
                  have hb_ := wordSpec_bd L del lits inn (bytesOf s) HI.out.2.2.1 HI.out.2.2.2.1 HI.out.2.2.2.2
                  refine ⟨i + 1, i + 1, _, _, _, _, by go_num, by go_num, ⟨Nat.le_refl _, by have := HI.out.2.1; omega, hb_.1, hb_.2.1, hb_.2.2⟩, HRD2, ⟨?_⟩⟩
                  have hgo := HGO.out
                  simp only [readGo] at hgo
                  rw [if_neg HNB.out, if_pos (of_decide_eq_true hbi1), HS.out, if_neg (by rw [HE.out]; simp)] at hgo
                  exact hgo
              · have hne1 : ((wordSpec L del lits inn (bytesOf s)).1 == 0) = false := beq_eq_false_iff_ne.mpr he
                have hne2 : ((wordSpec L del lits inn (bytesOf s)).1 != 0) = true := bne_iff_ne.mpr he
                have hgo := HGO.out
                simp only [readGo] at hgo
                rw [if_neg HNB.out, if_pos (of_decide_eq_true hbi1), HS.out, if_pos he] at hgo
                obtain ⟨rfl, rfl, rfl⟩ : [] = r1 ∧ (b : Int) = r2 ∧ (wordSpec L del lits inn (bytesOf s)).1 = r3 := by simpa using hgo
                clear hgo he HGO
                go_wp2_with (first | (go_at_call 36; refine (trace_blank.calls (rd l0 (i : Int)) true _ (by rw [blank_spec, HBL.out])).mono ?_; rintro e w' ⟨rfl, ⟨nd, rfl⟩⟩) | (go_at_call 37; refine (word_calls w _ _ L del lits inn _ HI.out.2.2.1 HI.out.2.2.2.1 (HRD.out.below (pw_below_drewN (Below.refl _ _) _))).mono ?_; rintro e w2 ⟨rfl, hRD2⟩; have HRD2 := Aside0.mk hRD2; clear hRD2))
                go_ret3
                exact ⟨.slice none 0 0, rfl, Kd.S_nil _ _ _ _ _, HRD2.out.bel⟩
            · have hbi1 : decide (b < i) = false := decide_eq_false hbi
              have hbi2 : decide ((b : Int) < (i : Int)) = false := decide_eq_false (by omega)
              go_wp2_with (first | (go_at_call 36; refine (trace_blank.calls (rd l0 (i : Int)) true _ (by rw [blank_spec, HBL.out])).mono ?_; rintro e w' ⟨rfl, ⟨nd, rfl⟩⟩) | fail)
              go_roundg k1
              case measure => omega
              case rel =>
                refine ⟨i + 1, i + 1, L, del, lits, inn, by go_num, by go_num, ⟨Nat.le_refl _, by have := HI.out.2.1; omega, HI.out.2.2⟩, ⟨HRD.out.below (pw_below_drewN (Below.refl _ _) _)⟩, ⟨?_⟩⟩
                have hgo := HGO.out
                simp only [readGo] at hgo
                rw [if_neg HNB.out, if_neg (of_decide_eq_false hbi1)] at hgo
                exact hgo
        · have hi1 : decide (i < l0.length) = false := decide_eq_false hi
          have hi2 : decide ((i : Int) < (l0.length : Int)) = false := decide_eq_false (by omega)
          have HNB := Aside0.mk (show ¬ (i < l0.length ∧ blankI (rd l0 (i : Int)) = false) from fun h => hi h.1)
          by_cases hbi : b < i
          · have hbi1 : decide (b < i) = true := decide_eq_true hbi
            have hbi2 : decide ((b : Int) < (i : Int)) = true := decide_eq_true (by omega)
            obtain ⟨i0, hi0, _, hsz, _⟩ := info_parts info5
            obtain ⟨A', hcut, hA, hCl⟩ := print_mid_of (P := Try.prog) (Value.int .u8) 0 25 5 .i64 .i64 Try.underlying25 hi0 hsz A0 c0 l0 (b : Int) (i : Int) (by omega) (by omega) (by have := HI.out.2.1; omega) HC0.out
            have hlen : ((l0.take i).drop b).length = i - b := by rw [List.length_drop, List.length_take]; have := HI.out.2.1; omega
            rw [Int.toNat_natCast, Int.toNat_natCast] at hcut hA
            have hcv := fun m => Kd.C_string (P := Try.prog) (A := A') (c := (c0 - b)) Try.underlying25 Try.underlying5 Try.underlying9 (Kd.C_drewN (Kd.C_below (Kd.C_of_reads (h1 := fun _ => rfl) (hA _ (Kd.reads_of_C HR0.out))) HRD.out.bel) m)
            have hcv0 := Kd.C_string (P := Try.prog) (A := A') (c := (c0 - b)) Try.underlying25 Try.underlying5 Try.underlying9 (Kd.C_below (Kd.C_of_reads (h1 := fun _ => rfl) (hA _ (Kd.reads_of_C HR0.out))) HRD.out.bel)
            rw [hlen] at hcut hcv hcv0
            clear hA hCl hi0 hsz hlen
            generalize hs : strOfNums ((l0.take i).drop b) = s at hcv hcv0
            have HS := Aside0.mk hs
            clear hs
            by_cases he : (wordSpec L del lits inn (bytesOf s)).1 = 0
            · have HE := Aside0.mk he
              clear he
              go_wp2_with (first | fail | (go_at_call 37; refine (word_calls w _ _ L del lits inn _ HI.out.2.2.1 HI.out.2.2.2.1 (HRD.out.below (Below.refl _ _))).mono ?_; rintro e w2 ⟨rfl, hRD2⟩; rw [HE.out]; have HRD2 := Aside0.mk hRD2; clear hRD2))
              go_roundg k1
              case measure => omega
              case rel =>
                have hb_ := wordSpec_bd L del lits inn (bytesOf s) HI.out.2.2.1 HI.out.2.2.2.1 HI.out.2.2.2.2
                refine ⟨i + 1, i + 1, _, _, _, _, by go_num, by go_num, ⟨Nat.le_refl _, by have := HI.out.2.1; omega, hb_.1, hb_.2.1, hb_.2.2⟩, HRD2, ⟨?_⟩⟩
                have hgo := HGO.out
                simp only [readGo] at hgo
                rw [if_neg HNB.out, if_pos (of_decide_eq_true hbi1), HS.out, if_neg (by rw [HE.out]; simp)] at hgo
                exact hgo
            · have hne1 : ((wordSpec L del lits inn (bytesOf s)).1 == 0) = false := beq_eq_false_iff_ne.mpr he
              have hne2 : ((wordSpec L del lits inn (bytesOf s)).1 != 0) = true := bne_iff_ne.mpr he
              have hgo := HGO.out
              simp only [readGo] at hgo
              rw [if_neg HNB.out, if_pos (of_decide_eq_true hbi1), HS.out, if_pos he] at hgo
              obtain ⟨rfl, rfl, rfl⟩ : [] = r1 ∧ (b : Int) = r2 ∧ (wordSpec L del lits inn (bytesOf s)).1 = r3 := by simpa using hgo
              clear hgo he HGO
              go_wp2_with (first | fail | (go_at_call 37; refine (word_calls w _ _ L del lits inn _ HI.out.2.2.1 HI.out.2.2.2.1 (HRD.out.below (Below.refl _ _))).mono ?_; rintro e w2 ⟨rfl, hRD2⟩; have HRD2 := Aside0.mk hRD2; clear hRD2))
              go_ret3
              exact ⟨.slice none 0 0, rfl, Kd.S_nil _ _ _ _ _, HRD2.out.bel⟩
          · have hbi1 : decide (b < i) = false := decide_eq_false hbi
            have hbi2 : decide ((b : Int) < (i : Int)) = false := decide_eq_false (by omega)
            go_wp2_with (first | fail | fail)
            go_roundg k1
            case measure => omega
            case rel =>
              refine ⟨i + 1, i + 1, L, del, lits, inn, by go_num, by go_num, ⟨Nat.le_refl _, by have := HI.out.2.1; omega, HI.out.2.2⟩, ⟨HRD.out.below (Below.refl _ _)⟩, ⟨?_⟩⟩
              have hgo := HGO.out
              simp only [readGo] at hgo
              rw [if_neg HNB.out, if_neg (of_decide_eq_false hbi1)] at hgo
              exact hgo

end Go.Proofs.Yteciockojllonaa.G
