/- Several texts in one. -/
import Derived.Test.Yteciockojllonaafm
import Derived.Test.Yteciockojllonaaf41
import Derived.Deep.RegionLaw
import Derived.Test.YteciockojllonaaLit
import Derived.Test.YteciockojllonaaNumP

/-
The reader of proofs as texts: '(*reader).word' and 'Read' by hand.
-/
namespace Go.Proofs.Yteciockojllonaa.G
open Go.RowKit Go.Proofs.YteciockojllonaaW.PrintWords Go.Proofs.YteciockojllonaaW.PrintLast Go.Proofs.YteciockojllonaaW.PrintMore
attribute [local go_sem] max2_int min2_int max_two min_two max_three min_three max_four min_four
set_option linter.unusedVariables false
set_option linter.unusedSimpArgs false

/-- What the reader at block g holds. -/
def RD (w0 W : World) (g : Nat) (L : List S39) (del : Bool) (lits : List Int) (inn : Bool) : Prop :=
  ∃ vl vs, W.heap[g]? = some (.cells #[vl, .bool del, vs, .bool inn] 58 (0, 0)) ∧ w0.heap.size ≤ g ∧
    Kd.S k39 39 W w0.heap.size (fun k => k ≠ g ∧ some k ≠ vs.ownBlock) vl L ∧
    Kd.R (Kd.int .i64) 3 W w0.heap.size (fun k => k ≠ g ∧ some k ≠ vl.ownBlock) vs lits ∧ Below w0.heap.size w0 W

theorem RD.below {w0 W W1 : World} {g : Nat} {L : List S39} {del : Bool} {lits : List Int} {inn : Bool} (h : RD w0 W g L del lits inn) (hb : Below W.heap.size W W1) : RD w0 W1 g L del lits inn := by
  obtain ⟨vl, vs, h1, h2, h3, h4, h5⟩ := h
  exact ⟨vl, vs, blk_below h1 hb, h2, Kd.S_below h3 hb, Kd.R_below h4 hb, below_then h5 h5.size hb⟩
theorem RD.del {w0 W : World} {g : Nat} {L : List S39} {del : Bool} {lits : List Int} {inn : Bool} (h : RD w0 W g L del lits inn) (b : Bool) : RD w0 (W.setCell ⟨g, 1, none⟩ (.bool b)) g L b lits inn := by
  obtain ⟨vl, vs, h1, h2, h3, h4, h5⟩ := h
  exact ⟨vl, vs, by simpa using blk_set h1 1 (.bool b), h2, Kd.S_far h3 (fun k hk => hk.1) _, Kd.R_far h4 (fun k hk => hk.1) _, h5.setCell h2 _⟩
theorem RD.inn {w0 W : World} {g : Nat} {L : List S39} {del : Bool} {lits : List Int} {inn : Bool} (h : RD w0 W g L del lits inn) (b : Bool) : RD w0 (W.setCell ⟨g, 3, none⟩ (.bool b)) g L del lits b := by
  obtain ⟨vl, vs, h1, h2, h3, h4, h5⟩ := h
  exact ⟨vl, vs, by simpa using blk_set h1 3 (.bool b), h2, Kd.S_far h3 (fun k hk => hk.1) _, Kd.R_far h4 (fun k hk => hk.1) _, h5.setCell h2 _⟩
theorem RD.cells {w0 W : World} {g : Nat} {L : List S39} {del : Bool} {lits : List Int} {inn : Bool} (h : RD w0 W g L del lits inn) :
    ∃ Al cl As cs, W.cell? ⟨g, 0, none⟩ = some (.slice Al L.length cl) ∧ W.cell? ⟨g, 1, none⟩ = some (.bool del) ∧ W.cell? ⟨g, 2, none⟩ = some (.slice As lits.length cs) ∧ W.cell? ⟨g, 3, none⟩ = some (.bool inn) ∧
      (∀ j, W.frozen? ⟨g, j, none⟩ = false) ∧ L.length ≤ 9223372036854775807 ∧ lits.length ≤ 9223372036854775807 ∧ g < W.heap.size := by
  obtain ⟨vl, vs, h1, h2, h3, h4, h5⟩ := h
  obtain ⟨Al, cl, rfl, hcl, hl⟩ := Kd.S_reads h3
  obtain ⟨As, cs, rfl, hcs, hs⟩ := Kd.R_reads h4
  exact ⟨Al, cl, As, cs, (blk_cell h1 0).trans rfl, (blk_cell h1 1).trans rfl, (blk_cell h1 2).trans rfl, (blk_cell h1 3).trans rfl, fun j => blk_frozen h1 j, Kd.C_max hl, Kd.C_max hs, blk_lt h1⟩
theorem RD.open_ {w0 W : World} {g : Nat} {L : List S39} {del : Bool} {lits : List Int} {inn : Bool} (h : RD w0 W g L del lits inn) :
    ∃ Al cl As cs, W.heap[g]? = some (.cells #[.slice Al L.length cl, .bool del, .slice As lits.length cs, .bool inn] 58 (0, 0)) ∧ w0.heap.size ≤ g ∧
    Kd.S k39 39 W w0.heap.size (fun k => k ≠ g ∧ some k ≠ (.slice As lits.length cs : Value).ownBlock) (.slice Al L.length cl) L ∧
    Kd.R (Kd.int .i64) 3 W w0.heap.size (fun k => k ≠ g ∧ some k ≠ (.slice Al L.length cl : Value).ownBlock) (.slice As lits.length cs) lits ∧ Below w0.heap.size w0 W := by
  obtain ⟨vl, vs, h1, h2, h3, h4, h5⟩ := h
  obtain ⟨Al, cl, rfl, hcl, hl⟩ := Kd.S_reads h3
  obtain ⟨As, cs, rfl, hcs, hs⟩ := Kd.R_reads h4
  exact ⟨Al, cl, As, cs, h1, h2, h3, h4, h5⟩
/-- A literal more: behind the append and the two stores. -/
theorem RD.more {w0 W w3 : World} {g : Nat} {L : List S39} {del : Bool} {lits : List Int} {inn : Bool} {n : Int} {vl vs v3 : Value}
    (h1 : W.heap[g]? = some (.cells #[vl, .bool del, vs, .bool inn] 58 (0, 0))) (h2 : w0.heap.size ≤ g)
    (h3 : Kd.S k39 39 W w0.heap.size (fun k => k ≠ g ∧ some k ≠ vs.ownBlock) vl L) (h4 : Kd.R (Kd.int .i64) 3 W w0.heap.size (fun k => k ≠ g ∧ some k ≠ vl.ownBlock) vs lits)
    (ho : Kd.R (Kd.int .i64) 3 w3 w0.heap.size (fun k => k ≠ g ∧ some k ≠ vl.ownBlock) v3 (lits ++ [n])) (hb : Below w0.heap.size w0 w3) (hg : W.grownBy w3 vs.ownBlock) (hat : v3.ownBlock = vs.ownBlock ∨ ∃ b, v3.ownBlock = some b ∧ W.heap.size ≤ b) :
    w3.heap[g]? = some (.cells #[vl, .bool del, vs, .bool inn] 58 (0, 0)) ∧ RD w0 ((w3.setCell ⟨g, 2, none⟩ v3).setCell ⟨g, 3, none⟩ (.bool true)) g L del (lits ++ [n]) true := by
  have hgn : some g ≠ vs.ownBlock := fun e => (h4.1 g e.symm).1 rfl
  have hk := blk_grown h1 hg hgn
  refine ⟨hk, vl, v3, ?_, h2, ?_, ?_, (hb.setCell h2 _).setCell h2 _⟩
  · have := blk_set (blk_set hk 2 v3) 3 (.bool true)
    simpa using this
  · exact Kd.S_far (Kd.S_far (Kd.S_after h3 hg hat) (fun k hk => hk.1) _) (fun k hk => hk.1) _
  · exact Kd.R_far (Kd.R_far ho (fun k hk => hk.1) _) (fun k hk => hk.1) _
theorem C_lit1 (W : World) (k : IntKind) (n : Int) (e : Nat) : (Kd.int k).C (W.alloc (.cells #[.int k n] e)) (some ⟨W.heap.size, 0, none⟩) [n].length [n] := by
  refine Kd.C_of_reads (d := 0) (h1 := fun _ => rfl) ⟨rfl, by simp, fun _ => ⟨_, rfl, fun j hj => ?_⟩⟩
  have : j = 0 := by simp at hj; omega
  subst this
  rw [add_plain]
  exact (blk_cell (g := W.heap.size) (by simpa using heap_alloc_new W (.cells #[.int k n] e)) 0).trans rfl

set_option maxHeartbeats 4000000 in
set_option maxRecDepth 100000 in
/-- What is no number, and no 'd' at the begin. -/
theorem word_text (w0 w : World) (g : Nat) (L : List S39) (del : Bool) (lits : List Int) (inn : Bool) (s : ByteArray) (k : Nat) (n : Int)
    (hN : dimacs_Number.f k s = some (n, false)) (hD : inn = true ∨ (s.toList == [100]) = false) (h : RD w0 w g L del lits inn) :
    Calls Try.prog 37 #[.pointer (some ⟨g, 0, none⟩), .string s] w fun e w' => e = .returned (.int .i64 2) ∧ RD w0 w' g L del lits inn := by
  obtain ⟨Al, cl, As, cs, c0, c1, c2, c3, hf, hmL, hmS, hgl⟩ := h.cells
  have HN := Aside0.mk hN
  have HR := Aside0.mk h
  clear hN h
  cases inn with
  | true =>
    clear hD
    go_enter Try.func37, Try.ntmps37
    go_wp2_with (go_at_call 41; refine (dimacs_Number.calls k s n false _ HN.out).mono ?_; rintro e w' ⟨rfl, ⟨nd, rfl⟩⟩)
    go_ret
    exact ⟨rfl, HR.out.below (pw_below_drewN (Below.refl _ _) _)⟩
  | false =>
    have hD' : (s.toList == [100]) = false := hD.resolve_left (by simp)
    clear hD
    go_enter Try.func37, Try.ntmps37
    go_wp2_with (go_at_call 41; refine (dimacs_Number.calls k s n false _ HN.out).mono ?_; rintro e w' ⟨rfl, ⟨nd, rfl⟩⟩)
    go_ret
    exact ⟨rfl, HR.out.below (pw_below_drewN (Below.refl _ _) _)⟩

set_option maxHeartbeats 4000000 in
set_option maxRecDepth 100000 in
/-- A number that is no literal. -/
theorem word_wild (w0 w : World) (g : Nat) (L : List S39) (del : Bool) (lits : List Int) (inn : Bool) (s : ByteArray) (k : Nat) (n : Int)
    (hN : dimacs_Number.f k s = some (n, true)) (hn : n ≠ 0) (hC : lit_Check.f k [n] = some 1) (hD : inn = true ∨ (s.toList == [100]) = false) (h : RD w0 w g L del lits inn) :
    Calls Try.prog 37 #[.pointer (some ⟨g, 0, none⟩), .string s] w fun e w' => e = .returned (.int .i64 2) ∧ RD w0 w' g L del lits inn := by
  obtain ⟨Al, cl, As, cs, c0, c1, c2, c3, hf, hmL, hmS, hgl⟩ := h.cells
  have HN := Aside0.mk hN
  have HC := Aside0.mk hC
  have HR := Aside0.mk h
  have hn1 : (n == 0) = false := beq_eq_false_iff_ne.mpr hn
  have hn2 : (n != 0) = true := bne_iff_ne.mpr hn
  clear hN h hC
  cases inn with
  | true =>
    clear hD
    go_enter Try.func37, Try.ntmps37
    go_wp2_with (first | (go_at_call 41; refine (dimacs_Number.calls k s n true _ HN.out).mono ?_; rintro e w' ⟨rfl, ⟨nd, rfl⟩⟩) | (go_at_call 18; refine (lit_Check.calls k _ 1 [n] 1 _ (C_lit1 _ _ _ _) (by simp) HC.out).mono ?_; rintro e w2 ⟨rfl, hd⟩; have HR2 := Aside0.mk (HR.out.below (below_step (by repeat (first | exact Below.refl _ _ | apply below_alloc | apply pw_below_drewN)) hd.below)); obtain ⟨Al2, cl2, As2, cs2, d0, d1, d2, d3, df, _, _, hgl2⟩ := HR2.out.cells; clear hd))
    go_ret
    exact ⟨rfl, HR2.out⟩
  | false =>
    have hD' : (s.toList == [100]) = false := hD.resolve_left (by simp)
    clear hD
    go_enter Try.func37, Try.ntmps37
    go_wp2_with (first | (go_at_call 41; refine (dimacs_Number.calls k s n true _ HN.out).mono ?_; rintro e w' ⟨rfl, ⟨nd, rfl⟩⟩) | (go_at_call 18; refine (lit_Check.calls k _ 1 [n] 1 _ (C_lit1 _ _ _ _) (by simp) HC.out).mono ?_; rintro e w2 ⟨rfl, hd⟩; have HR2 := Aside0.mk (HR.out.below (below_step (by repeat (first | exact Below.refl _ _ | apply below_alloc | apply pw_below_drewN)) hd.below)); obtain ⟨Al2, cl2, As2, cs2, d0, d1, d2, d3, df, _, _, hgl2⟩ := HR2.out.cells; clear hd))
    go_ret
    exact ⟨rfl, HR2.out⟩

set_option maxHeartbeats 4000000 in
set_option maxRecDepth 100000 in
/-- There is no room for another step: a number. -/
theorem word_full (w0 w : World) (g : Nat) (L : List S39) (del : Bool) (lits : List Int) (s : ByteArray) (k : Nat) (n : Int)
    (hN : dimacs_Number.f k s = some (n, true)) (hC : lit_Check.f k [n] = some 0 ∨ n = 0) (hD : (s.toList == [100]) = false) (hL : L.length = 262144) (h : RD w0 w g L del lits false) :
    Calls Try.prog 37 #[.pointer (some ⟨g, 0, none⟩), .string s] w fun e w' => e = .returned (.int .i64 3) ∧ RD w0 w' g L del lits false := by
  obtain ⟨Al, cl, As, cs, c0, c1, c2, c3, hf, hmL, hmS, hgl⟩ := h.cells
  have HN := Aside0.mk hN
  have HR := Aside0.mk h
  have hL1 : ((L.length : Int) == 262144) = true := by rw [hL]; rfl
  clear hN h
  by_cases hn : n = 0
  · subst hn
    clear hC hL
    go_enter Try.func37, Try.ntmps37
    go_wp2_with (go_at_call 41; refine (dimacs_Number.calls k s 0 true _ HN.out).mono ?_; rintro e w' ⟨rfl, ⟨nd, rfl⟩⟩)
    go_ret
    exact ⟨rfl, HR.out.below (by repeat (first | exact Below.refl _ _ | apply below_alloc | apply pw_below_drewN))⟩
  · have HC := Aside0.mk (hC.resolve_right hn)
    have hn1 : (n == 0) = false := beq_eq_false_iff_ne.mpr hn
    have hn2 : (n != 0) = true := bne_iff_ne.mpr hn
    clear hC hL
    go_enter Try.func37, Try.ntmps37
    go_wp2_with (first | (go_at_call 41; refine (dimacs_Number.calls k s n true _ HN.out).mono ?_; rintro e w' ⟨rfl, ⟨nd, rfl⟩⟩) | (go_at_call 18; refine (lit_Check.calls k _ 1 [n] 0 _ (C_lit1 _ _ _ _) (by simp) HC.out).mono ?_; rintro e w2 ⟨rfl, hd⟩; have HR2 := Aside0.mk (HR.out.below (below_step (by repeat (first | exact Below.refl _ _ | apply below_alloc | apply pw_below_drewN)) hd.below)); obtain ⟨Al2, cl2, As2, cs2, d0, d1, d2, d3, df, _, _, hgl2⟩ := HR2.out.cells; clear hd))
    go_ret
    exact ⟨rfl, HR2.out⟩

set_option maxHeartbeats 4000000 in
set_option maxRecDepth 100000 in
/-- There is no room for another step: 'd'. -/
theorem word_fulld (w0 w : World) (g : Nat) (L : List S39) (del : Bool) (lits : List Int) (s : ByteArray) (k : Nat) (n : Int) (ok : Bool)
    (hN : dimacs_Number.f k s = some (n, ok)) (hD : (s.toList == [100]) = true) (hL : L.length = 262144) (h : RD w0 w g L del lits false) :
    Calls Try.prog 37 #[.pointer (some ⟨g, 0, none⟩), .string s] w fun e w' => e = .returned (.int .i64 3) ∧ RD w0 w' g L del lits false := by
  obtain ⟨Al, cl, As, cs, c0, c1, c2, c3, hf, hmL, hmS, hgl⟩ := h.cells
  have HN := Aside0.mk hN
  have HR := Aside0.mk h
  have hL1 : ((L.length : Int) == 262144) = true := by rw [hL]; rfl
  clear hN h hL
  have hD1 : s.toList == [100] := hD
  go_enter Try.func37, Try.ntmps37
  go_wp2_with (go_at_call 41; refine (dimacs_Number.calls k s n ok _ HN.out).mono ?_; rintro e w' ⟨rfl, ⟨nd, rfl⟩⟩)
  go_ret
  exact ⟨rfl, HR.out.below (by repeat (first | exact Below.refl _ _ | apply below_alloc | apply pw_below_drewN))⟩

set_option maxHeartbeats 4000000 in
set_option maxRecDepth 100000 in
/-- 'd'. -/
theorem word_d (w0 w : World) (g : Nat) (L : List S39) (del : Bool) (lits : List Int) (s : ByteArray) (k : Nat) (n : Int) (ok : Bool)
    (hN : dimacs_Number.f k s = some (n, ok)) (hD : (s.toList == [100]) = true) (hL : L.length ≠ 262144) (h : RD w0 w g L del lits false) :
    Calls Try.prog 37 #[.pointer (some ⟨g, 0, none⟩), .string s] w fun e w' => e = .returned (.int .i64 0) ∧ RD w0 w' g L true lits true := by
  obtain ⟨Al, cl, As, cs, c0, c1, c2, c3, hf, hmL, hmS, hgl⟩ := h.cells
  have hf1 := hf 1
  have hf3 := hf 3
  have HN := Aside0.mk hN
  have HR := Aside0.mk h
  have hL1 : ((L.length : Int) == 262144) = false := beq_eq_false_iff_ne.mpr (by omega)
  clear hN h hL hf
  go_enter Try.func37, Try.ntmps37
  go_wp2_with (go_at_call 41; refine (dimacs_Number.calls k s n ok _ HN.out).mono ?_; rintro e w' ⟨rfl, ⟨nd, rfl⟩⟩)
  go_ret
  exact ⟨rfl, ((HR.out.below (pw_below_drewN (Below.refl _ _) nd)).del true).inn true⟩

set_option maxHeartbeats 4000000 in
set_option maxRecDepth 100000 in
/-- A literal too many. -/
theorem word_wide (w0 w : World) (g : Nat) (L : List S39) (del : Bool) (lits : List Int) (inn : Bool) (s : ByteArray) (k : Nat) (n : Int)
    (hN : dimacs_Number.f k s = some (n, true)) (hn : n ≠ 0) (hC : lit_Check.f k [n] = some 0) (hD : inn = true ∨ ((s.toList == [100]) = false ∧ L.length ≠ 262144)) (hW : lits.length = 4096) (h : RD w0 w g L del lits inn) :
    Calls Try.prog 37 #[.pointer (some ⟨g, 0, none⟩), .string s] w fun e w' => e = .returned (.int .i64 3) ∧ RD w0 w' g L del lits inn := by
  obtain ⟨Al, cl, As, cs, c0, c1, c2, c3, hf, hmL, hmS, hgl⟩ := h.cells
  have HN := Aside0.mk hN
  have HC := Aside0.mk hC
  have HR := Aside0.mk h
  have hn1 : (n == 0) = false := beq_eq_false_iff_ne.mpr hn
  have hn2 : (n != 0) = true := bne_iff_ne.mpr hn
  have hW1 : ((lits.length : Int) == 4096) = true := by rw [hW]; rfl
  clear hN h hC hW
  cases inn with
  | true =>
    clear hD
    go_enter Try.func37, Try.ntmps37
    go_wp2_with (first | (go_at_call 41; refine (dimacs_Number.calls k s n true _ HN.out).mono ?_; rintro e w' ⟨rfl, ⟨nd, rfl⟩⟩) | (go_at_call 18; refine (lit_Check.calls k _ 1 [n] 0 _ (C_lit1 _ _ _ _) (by simp) HC.out).mono ?_; rintro e w2 ⟨rfl, hd⟩; have HR2 := Aside0.mk (HR.out.below (below_step (by repeat (first | exact Below.refl _ _ | apply below_alloc | apply pw_below_drewN)) hd.below)); obtain ⟨Al2, cl2, As2, cs2, d0, d1, d2, d3, df, _, _, hgl2⟩ := HR2.out.cells; clear hd))
    go_ret
    exact ⟨rfl, HR2.out⟩
  | false =>
    obtain ⟨hD', hL'⟩ := hD.resolve_left (by simp)
    have hL1 : ((L.length : Int) == 262144) = false := beq_eq_false_iff_ne.mpr (by omega)
    clear hD hL'
    go_enter Try.func37, Try.ntmps37
    go_wp2_with (first | (go_at_call 41; refine (dimacs_Number.calls k s n true _ HN.out).mono ?_; rintro e w' ⟨rfl, ⟨nd, rfl⟩⟩) | (go_at_call 18; refine (lit_Check.calls k _ 1 [n] 0 _ (C_lit1 _ _ _ _) (by simp) HC.out).mono ?_; rintro e w2 ⟨rfl, hd⟩; have HR2 := Aside0.mk (HR.out.below (below_step (by repeat (first | exact Below.refl _ _ | apply below_alloc | apply pw_below_drewN)) hd.below)); obtain ⟨Al2, cl2, As2, cs2, d0, d1, d2, d3, df, _, _, hgl2⟩ := HR2.out.cells; clear hd))
    go_ret
    exact ⟨rfl, HR2.out⟩


set_option maxHeartbeats 4000000 in
set_option maxRecDepth 100000 in
/-- A literal more. -/
theorem word_more (w0 w : World) (g : Nat) (L : List S39) (del : Bool) (lits : List Int) (inn : Bool) (s : ByteArray) (k : Nat) (n : Int)
    (hN : dimacs_Number.f k s = some (n, true)) (hn : n ≠ 0) (hC : lit_Check.f k [n] = some 0) (hD : inn = true ∨ ((s.toList == [100]) = false ∧ L.length ≠ 262144)) (hW : lits.length < 4096) (h : RD w0 w g L del lits inn) :
    Calls Try.prog 37 #[.pointer (some ⟨g, 0, none⟩), .string s] w fun e w' => e = .returned (.int .i64 0) ∧ RD w0 w' g L del (lits ++ [n]) true := by
  obtain ⟨Al, cl, As, cs, c0, c1, c2, c3, hf, hmL, hmS, hgl⟩ := h.cells
  have HN := Aside0.mk hN
  have HC := Aside0.mk hC
  have HR := Aside0.mk h
  have hn1 : (n == 0) = false := beq_eq_false_iff_ne.mpr hn
  have hn2 : (n != 0) = true := bne_iff_ne.mpr hn
  have hW1 : ((lits.length : Int) == 4096) = false := beq_eq_false_iff_ne.mpr (by omega)
  clear hN h hC
  cases inn with
  | true =>
    clear hD
    go_enter Try.func37, Try.ntmps37
    go_wp2_with (first | (go_at_call 41; refine (dimacs_Number.calls k s n true _ HN.out).mono ?_; rintro e w' ⟨rfl, ⟨nd, rfl⟩⟩) | (go_at_call 18; refine (lit_Check.calls k _ 1 [n] 0 _ (C_lit1 _ _ _ _) (by simp) HC.out).mono ?_; rintro e w2 ⟨rfl, hd⟩; have HR2 := Aside0.mk (HR.out.below (below_step (by repeat (first | exact Below.refl _ _ | apply below_alloc | apply pw_below_drewN)) hd.below)); obtain ⟨Al2, cl2, As2, cs2, hk2, hg2, hl2, hs2, hb2⟩ := HR2.out.open_; have d0 := (blk_cell hk2 0).trans rfl; have d2 := (blk_cell hk2 2).trans rfl; have d3 := (blk_cell hk2 3).trans rfl; have HF := Aside0.mk (fun (k : Nat) (hk : w2.heap.size ≤ k) => (⟨fun e => by have := blk_lt hk2; omega, fun e => by have := Kd.S_lt hl2 k e.symm; omega⟩ : k ≠ g ∧ some k ≠ (.slice Al2 L.length cl2 : Value).ownBlock)); have HK2 := Aside0.mk hk2; have HG2 := Aside0.mk hg2; have HL2 := Aside0.mk hl2; have HS2 := Aside0.mk hs2; have HB2 := Aside0.mk hb2; clear hd hk2 hg2 hl2 hs2 hb2) | (at_builtin; refine Kd.R_append (Kd.int .i64) (w0 := w0) w0.heap.size rfl (.tmp 99) (.tmp 101) 37 3 (.int .i64 0) 8 rfl Try.underlying37 info3 rfl (by decide) (by omega) (.slice As2 lits.length cs2) lits n [.int .i64 n] (fun k => k ≠ g ∧ some k ≠ (.slice Al2 L.length cl2 : Value).ownBlock) (fun _ => False) rfl rfl rfl (fun _ hk => hk.elim) HF.out HS2.out HB2.out HB2.out.size ?aL ?_; (case aL => omega); intro v3 w3 ho hb hg hat; have HM := Aside0.mk (RD.more HK2.out HG2.out HL2.out HS2.out ho hb hg hat); clear hb hg hat; obtain ⟨A3, c3', rfl⟩ := Kd.R_slice ho; clear ho; have q2 := (blk_cell HM.out.1 2).trans rfl; have q3 := (blk_cell HM.out.1 3).trans rfl; have f2 := blk_frozen HM.out.1 2; have f3 := blk_frozen HM.out.1 3))
    go_ret
    exact ⟨rfl, by rw [show lits.length + 1 = (lits ++ [n]).length from by simp]; exact HM.out.2⟩
  | false =>
    obtain ⟨hD', hL'⟩ := hD.resolve_left (by simp)
    have hL1 : ((L.length : Int) == 262144) = false := beq_eq_false_iff_ne.mpr (by omega)
    clear hD hL'
    go_enter Try.func37, Try.ntmps37
    go_wp2_with (first | (go_at_call 41; refine (dimacs_Number.calls k s n true _ HN.out).mono ?_; rintro e w' ⟨rfl, ⟨nd, rfl⟩⟩) | (go_at_call 18; refine (lit_Check.calls k _ 1 [n] 0 _ (C_lit1 _ _ _ _) (by simp) HC.out).mono ?_; rintro e w2 ⟨rfl, hd⟩; have HR2 := Aside0.mk (HR.out.below (below_step (by repeat (first | exact Below.refl _ _ | apply below_alloc | apply pw_below_drewN)) hd.below)); obtain ⟨Al2, cl2, As2, cs2, hk2, hg2, hl2, hs2, hb2⟩ := HR2.out.open_; have d0 := (blk_cell hk2 0).trans rfl; have d2 := (blk_cell hk2 2).trans rfl; have d3 := (blk_cell hk2 3).trans rfl; have HF := Aside0.mk (fun (k : Nat) (hk : w2.heap.size ≤ k) => (⟨fun e => by have := blk_lt hk2; omega, fun e => by have := Kd.S_lt hl2 k e.symm; omega⟩ : k ≠ g ∧ some k ≠ (.slice Al2 L.length cl2 : Value).ownBlock)); have HK2 := Aside0.mk hk2; have HG2 := Aside0.mk hg2; have HL2 := Aside0.mk hl2; have HS2 := Aside0.mk hs2; have HB2 := Aside0.mk hb2; clear hd hk2 hg2 hl2 hs2 hb2) | (at_builtin; refine Kd.R_append (Kd.int .i64) (w0 := w0) w0.heap.size rfl (.tmp 99) (.tmp 101) 37 3 (.int .i64 0) 8 rfl Try.underlying37 info3 rfl (by decide) (by omega) (.slice As2 lits.length cs2) lits n [.int .i64 n] (fun k => k ≠ g ∧ some k ≠ (.slice Al2 L.length cl2 : Value).ownBlock) (fun _ => False) rfl rfl rfl (fun _ hk => hk.elim) HF.out HS2.out HB2.out HB2.out.size ?aL ?_; (case aL => omega); intro v3 w3 ho hb hg hat; have HM := Aside0.mk (RD.more HK2.out HG2.out HL2.out HS2.out ho hb hg hat); clear hb hg hat; obtain ⟨A3, c3', rfl⟩ := Kd.R_slice ho; clear ho; have q2 := (blk_cell HM.out.1 2).trans rfl; have q3 := (blk_cell HM.out.1 3).trans rfl; have f2 := blk_frozen HM.out.1 2; have f3 := blk_frozen HM.out.1 3))
    go_ret
    exact ⟨rfl, by rw [show lits.length + 1 = (lits ++ [n]).length from by simp]; exact HM.out.2⟩


end Go.Proofs.Yteciockojllonaa.G

/-
The reader of proofs as texts: '(*reader).word', the end of a step.
-/
namespace Go.Proofs.Yteciockojllonaa.G
open Go.RowKit Go.Proofs.YteciockojllonaaW.PrintWords Go.Proofs.YteciockojllonaaW.PrintLast Go.Proofs.YteciockojllonaaW.PrintMore
attribute [local go_sem] max2_int min2_int max_two min_two max_three min_three max_four min_four
set_option linter.unusedVariables false
set_option linter.unusedSimpArgs false


/-- A step more. -/
theorem RD.step {w0 W w3 : World} {g : Nat} {L : List S39} {del : Bool} {lits : List Int} {inn : Bool} {vl vs v3 : Value}
    (h1 : W.heap[g]? = some (.cells #[vl, .bool del, vs, .bool inn] 58 (0, 0))) (h2 : w0.heap.size ≤ g) (hgn : some g ≠ vl.ownBlock)
    (ho : Kd.S k39 39 w3 w0.heap.size (fun k => k ≠ g) v3 (L ++ [⟨del, lits⟩])) (hb : Below w0.heap.size w0 w3) (hg : W.grownBy w3 vl.ownBlock) :
    w3.heap[g]? = some (.cells #[vl, .bool del, vs, .bool inn] 58 (0, 0)) ∧ RD w0 ((((w3.setCell ⟨g, 0, none⟩ v3).setCell ⟨g, 1, none⟩ (.bool false)).setCell ⟨g, 2, none⟩ (.slice none 0 0)).setCell ⟨g, 3, none⟩ (.bool false)) g (L ++ [⟨del, lits⟩]) false [] false := by
  have hk := blk_grown h1 hg hgn
  refine ⟨hk, v3, .slice none 0 0, ?_, h2, ?_, ?_, (((hb.setCell h2 _).setCell h2 _).setCell h2 _).setCell h2 _⟩
  · have := blk_set (blk_set (blk_set (blk_set hk 0 v3) 1 (.bool false)) 2 (.slice none 0 0)) 3 (.bool false)
    simpa using this
  · refine Kd.S_mono (ok := fun k => k ≠ g) ?_ (fun k hk => ⟨hk, by simp [Value.ownBlock]⟩)
    exact Kd.S_far (Kd.S_far (Kd.S_far (Kd.S_far ho (fun k hk => hk) _) (fun k hk => hk) _) (fun k hk => hk) _) (fun k hk => hk) _
  · exact Kd.R_nil _ _ _ _ _

set_option maxHeartbeats 4000000 in
set_option maxRecDepth 100000 in
/-- The end of a step. -/
theorem word_end (w0 w : World) (g : Nat) (L : List S39) (del : Bool) (lits : List Int) (inn : Bool) (s : ByteArray) (k : Nat)
    (hN : dimacs_Number.f k s = some (0, true)) (hL : L.length ≤ 262144) (hD : inn = true ∨ ((s.toList == [100]) = false ∧ L.length ≠ 262144)) (h : RD w0 w g L del lits inn) :
    Calls Try.prog 37 #[.pointer (some ⟨g, 0, none⟩), .string s] w fun e w' => e = .returned (.int .i64 0) ∧ RD w0 w' g (L ++ [⟨del, lits⟩]) false [] false := by
  obtain ⟨Al, cl, As, cs, hk, hg, hl, hs, hb⟩ := h.open_
  have c0 : w.cell? ⟨g, 0, none⟩ = some (.slice Al L.length cl) := (blk_cell hk 0).trans rfl
  have c1 : w.cell? ⟨g, 1, none⟩ = some (.bool del) := (blk_cell hk 1).trans rfl
  have c2 : w.cell? ⟨g, 2, none⟩ = some (.slice As lits.length cs) := (blk_cell hk 2).trans rfl
  have c3 : w.cell? ⟨g, 3, none⟩ = some (.bool inn) := (blk_cell hk 3).trans rfl
  have hgl := blk_lt hk
  have ca0 : ∀ m o, ((w.drewN m).alloc o).cell? ⟨g, 0, none⟩ = some (.slice Al L.length cl) := fun m o => (blk_cell (blk_alloc (blk_drewN hk m) o) 0).trans rfl
  have HN := Aside0.mk hN
  have HK := Aside0.mk hk
  have HG := Aside0.mk hg
  have HLM := Aside0.mk hl
  have HSM := Aside0.mk hs
  have HBM := Aside0.mk hb
  have HM1 := Aside0.mk (fun m => Kd.R_drewN (Kd.R_tight rfl hs) m)
  have HOK := Aside0.mk (fun k (e : some k = (Value.slice As lits.length cs).ownBlock) => (hs.1 k e.symm : k ≠ g ∧ some k ≠ (Value.slice Al L.length cl).ownBlock))
  have HF := Aside0.mk (fun k (e : w.heap.size ≤ k) => (fun e2 => by omega : k ≠ g))
  have HLM2 := Aside0.mk (fun m => Kd.S_drewN (Kd.S_mono (ok' := fun k => k ≠ g ∧ ¬ (some k = (Value.slice As lits.length cs).ownBlock)) hl (fun k hk => hk)) m)
  have HBM2 := Aside0.mk (fun m => pw_below_drewN hb m)
  have HLL := Aside0.mk (by omega : (L.length + 1) * 32 ≤ 140737488355328)
  have HGN := Aside0.mk ((fun e => (hl.elim (fun _ h2 => h2.1 g e.symm)).1 rfl) : some g ≠ (Value.slice Al L.length cl).ownBlock)
  clear hN hk hg hl hs hb h
  cases inn with
  | true =>
    clear hD
    go_enter Try.func37, Try.ntmps37
    go_wp2_with (go_at_call 41; refine (dimacs_Number.calls k s 0 true _ HN.out).mono ?_; rintro e w' ⟨rfl, ⟨nd, rfl⟩⟩)
    go_region_law (refine Kd.S_append_step k39 (w0 := w0) w0.heap.size rfl (.tmp 71) (.tmp 76) 27 39 (.agg #[(.bool false), (.slice none 0 0)]) 32 rfl Try.underlying27 info39 rfl (by decide) (by omega) (.slice Al L.length cl) L (⟨del, lits⟩ : S39) [.bool del, .slice As lits.length cs] (fun k => k ≠ g) (fun k => some k = (.slice As lits.length cs : Value).ownBlock) rfl rfl (k39_mkM _ _ _ (⟨del, lits⟩ : S39) (HM1.out _)) HOK.out HF.out (HLM2.out _) (HBM2.out _) (HBM2.out 0).size HLL.out ?_; intro v3 w3 ho hb hg hat; have HM := Aside0.mk (RD.step (W := w.drewN (nd + 1)) (vs := .slice As lits.length cs) (inn := true) HK.out HG.out HGN.out ho hb hg); clear hb hg hat; obtain ⟨A3, c3', rfl⟩ := Kd.S_slice ho; clear ho; have q0 := (blk_cell HM.out.1 0).trans rfl; have q1 := (blk_cell HM.out.1 1).trans rfl; have q2 := (blk_cell HM.out.1 2).trans rfl; have q3 := (blk_cell HM.out.1 3).trans rfl; have f0 := blk_frozen HM.out.1 0; have f1 := blk_frozen HM.out.1 1; have f2 := blk_frozen HM.out.1 2; have f3 := blk_frozen HM.out.1 3)
    all_goals
      go_wp2
      go_ret
      exact ⟨rfl, by rw [show L.length + 1 = (L ++ [(⟨del, lits⟩ : S39)]).length from by simp]; exact HM.out.2⟩
  | false =>
    obtain ⟨hD', hL'⟩ := hD.resolve_left (by simp)
    have hL1 : ((L.length : Int) == 262144) = false := beq_eq_false_iff_ne.mpr (by omega)
    clear hD hL'
    go_enter Try.func37, Try.ntmps37
    go_wp2_with (go_at_call 41; refine (dimacs_Number.calls k s 0 true _ HN.out).mono ?_; rintro e w' ⟨rfl, ⟨nd, rfl⟩⟩)
    go_region_law (refine Kd.S_append_step k39 (w0 := w0) w0.heap.size rfl (.tmp 71) (.tmp 76) 27 39 (.agg #[(.bool false), (.slice none 0 0)]) 32 rfl Try.underlying27 info39 rfl (by decide) (by omega) (.slice Al L.length cl) L (⟨del, lits⟩ : S39) [.bool del, .slice As lits.length cs] (fun k => k ≠ g) (fun k => some k = (.slice As lits.length cs : Value).ownBlock) rfl rfl (k39_mkM _ _ _ (⟨del, lits⟩ : S39) (HM1.out _)) HOK.out HF.out (HLM2.out _) (HBM2.out _) (HBM2.out 0).size HLL.out ?_; intro v3 w3 ho hb hg hat; have HM := Aside0.mk (RD.step (W := w.drewN (nd + 1)) (vs := .slice As lits.length cs) (inn := false) HK.out HG.out HGN.out ho hb hg); clear hb hg hat; obtain ⟨A3, c3', rfl⟩ := Kd.S_slice ho; clear ho; have q0 := (blk_cell HM.out.1 0).trans rfl; have q1 := (blk_cell HM.out.1 1).trans rfl; have q2 := (blk_cell HM.out.1 2).trans rfl; have q3 := (blk_cell HM.out.1 3).trans rfl; have f0 := blk_frozen HM.out.1 0; have f1 := blk_frozen HM.out.1 1; have f2 := blk_frozen HM.out.1 2; have f3 := blk_frozen HM.out.1 3)
    all_goals
      go_wp2
      go_ret
      exact ⟨rfl, by rw [show L.length + 1 = (L ++ [(⟨del, lits⟩ : S39)]).length from by simp]; exact HM.out.2⟩

end Go.Proofs.Yteciockojllonaa.G

/-
The reader of proofs as texts: '(*reader).word' by one contract, and 'Read'.
-/
namespace Go.Proofs.Yteciockojllonaa.G
open Go.RowKit Go.Proofs.YteciockojllonaaW.PrintWords Go.Proofs.YteciockojllonaaW.PrintLast Go.Proofs.YteciockojllonaaW.PrintMore
attribute [local go_sem] max2_int min2_int max_two min_two max_three min_three max_four min_four
set_option linter.unusedVariables false
set_option linter.unusedSimpArgs false

/-- What a word does: an error's number, and the reader behind it. -/
def wordSpec (L : List S39) (del : Bool) (lits : List Int) (inn : Bool) (s : List Int) : Int × List S39 × Bool × List Int × Bool :=
  if inn = false ∧ s = [100] then
    (if L.length = 262144 then (3, L, del, lits, inn) else (0, L, true, lits, true))
  else if (Num.numSpec s).2 = false ∨ ((Num.numSpec s).1 ≠ 0 ∧ Lit.isLit (Num.numSpec s).1 = false) then (2, L, del, lits, inn)
  else if inn = false ∧ L.length = 262144 then (3, L, del, lits, inn)
  else if (Num.numSpec s).1 = 0 then (0, L ++ [⟨del, lits⟩], false, [], false)
  else if lits.length = 4096 then (3, L, del, lits, inn)
  else (0, L, del, lits ++ [(Num.numSpec s).1], true)

theorem word_calls (w0 w : World) (g : Nat) (L : List S39) (del : Bool) (lits : List Int) (inn : Bool) (s : ByteArray) (hL : L.length ≤ 262144) (hW : lits.length ≤ 4096) (h : RD w0 w g L del lits inn) :
    Calls Try.prog 37 #[.pointer (some ⟨g, 0, none⟩), .string s] w fun e w' => e = .returned (.int .i64 (wordSpec L del lits inn (bytesOf s)).1) ∧
      RD w0 w' g (wordSpec L del lits inn (bytesOf s)).2.1 (wordSpec L del lits inn (bytesOf s)).2.2.1 (wordSpec L del lits inn (bytesOf s)).2.2.2.1 (wordSpec L del lits inn (bytesOf s)).2.2.2.2 := by
  have hN := Num.Number_spec s 20 (by omega)
  have hd : (s.toList == [100]) = decide (bytesOf s = [100]) := Str.beq_toList s [100]
  unfold wordSpec
  by_cases c1 : inn = false ∧ bytesOf s = [100]
  · obtain ⟨rfl, e⟩ := c1
    have hd' : (s.toList == [100]) = true := by rw [hd, e]; rfl
    rw [if_pos ⟨rfl, e⟩]
    by_cases c2 : L.length = 262144
    · rw [if_pos c2]; exact word_fulld w0 w g L del lits s 20 _ _ hN hd' c2 h
    · rw [if_neg c2]; exact word_d w0 w g L del lits s 20 _ _ hN hd' c2 h
  rw [if_neg c1]
  have hD : inn = true ∨ (s.toList == [100]) = false := by
    cases inn with
    | true => exact .inl rfl
    | false => exact .inr (by rw [hd]; exact decide_eq_false (fun e => c1 ⟨rfl, e⟩))
  generalize hns : Num.numSpec (bytesOf s) = ns at hN ⊢
  obtain ⟨n, ok⟩ := ns
  simp only
  cases ok with
  | false => rw [if_pos (.inl rfl)]; exact word_text w0 w g L del lits inn s 20 n hN hD h
  | true =>
    have hC := Lit.Check_one n 20 (by omega)
    by_cases c3 : n ≠ 0 ∧ Lit.isLit n = false
    · rw [if_pos (.inr c3)]
      rw [c3.2] at hC
      exact word_wild w0 w g L del lits inn s 20 n hN c3.1 hC hD h
    have c4 : ¬ (true = false ∨ (n ≠ 0 ∧ Lit.isLit n = false)) := by
      rintro (h | h)
      · cases h
      · exact c3 h
    rw [if_neg c4]
    by_cases c5 : inn = false ∧ L.length = 262144
    · obtain ⟨rfl, e⟩ := c5
      rw [if_pos ⟨rfl, e⟩]
      refine word_full w0 w g L del lits s 20 n hN ?_ (hD.resolve_left (by simp)) e h
      by_cases hn : n = 0
      · exact .inr hn
      · have : Lit.isLit n = true := by
          cases hb : Lit.isLit n with
          | true => rfl
          | false => exact absurd ⟨hn, hb⟩ c3
        rw [this] at hC; exact .inl hC
    rw [if_neg c5]
    have hD2 : inn = true ∨ ((s.toList == [100]) = false ∧ L.length ≠ 262144) := by
      rcases hD with h1 | h1
      · exact .inl h1
      · cases inn with
        | true => exact .inl rfl
        | false => exact .inr ⟨h1, fun e => c5 ⟨rfl, e⟩⟩
    by_cases hn : n = 0
    · subst hn
      rw [if_pos rfl]
      exact word_end w0 w g L del lits inn s 20 hN hL hD2 h
    rw [if_neg hn]
    have : Lit.isLit n = true := by
      cases hb : Lit.isLit n with
      | true => rfl
      | false => exact absurd ⟨hn, hb⟩ c3
    rw [this] at hC
    by_cases c6 : lits.length = 4096
    · rw [if_pos c6]; exact word_wide w0 w g L del lits inn s 20 n hN hn hC hD2 c6 h
    · rw [if_neg c6]; exact word_more w0 w g L del lits inn s 20 n hN hn hC hD2 (by omega) h

end Go.Proofs.Yteciockojllonaa.G

/-
'trace.Read' by hand: its plain function 'readGo', and the walk.
-/
namespace Go.Proofs.Yteciockojllonaa.G
open Go.RowKit Go.Proofs.YteciockojllonaaW.PrintWords Go.Proofs.YteciockojllonaaW.PrintLast Go.Proofs.YteciockojllonaaW.PrintMore
attribute [local go_sem] max2_int min2_int max_two min_two max_three min_three max_four min_four
set_option linter.unusedVariables false
set_option linter.unusedSimpArgs false

def blankI (a : Int) : Bool := decide (a = 32 ∨ a = 9 ∨ a = 10 ∨ a = 13)
theorem blank_spec (a : Int) : trace_blank.f a = some (blankI a) := by
  unfold trace_blank.f blankI
  by_cases h1 : a = 32
  · rw [if_pos h1]; simp [h1]
  rw [if_neg h1]
  by_cases h2 : a = 9
  · rw [if_pos h2]; simp [h2]
  rw [if_neg h2]
  by_cases h3 : a = 10
  · rw [if_pos h3]; simp [h3]
  rw [if_neg h3]
  by_cases h4 : a = 13 <;> simp [h1, h2, h3, h4]

/-- The reading of a text from place i on; the word at hand begins at b. -/
def readGo (l : List Int) : Nat → Nat → Nat → List S39 → Bool → List Int → Bool → List S39 × Int × Int
  | 0, _, _, L, _, _, inn => if inn = true then ([], (l.length : Int), 2) else (L, 0, 0)
  | n + 1, i, b, L, del, lits, inn =>
    if i < l.length ∧ blankI (rd l (i : Int)) = false then readGo l n (i + 1) b L del lits inn
    else if b < i then
      (if (wordSpec L del lits inn (bytesOf (strOfNums ((l.take i).drop b)))).1 ≠ 0 then ([], (b : Int), (wordSpec L del lits inn (bytesOf (strOfNums ((l.take i).drop b)))).1)
       else readGo l n (i + 1) (i + 1) (wordSpec L del lits inn (bytesOf (strOfNums ((l.take i).drop b)))).2.1 (wordSpec L del lits inn (bytesOf (strOfNums ((l.take i).drop b)))).2.2.1 (wordSpec L del lits inn (bytesOf (strOfNums ((l.take i).drop b)))).2.2.2.1 (wordSpec L del lits inn (bytesOf (strOfNums ((l.take i).drop b)))).2.2.2.2)
    else readGo l n (i + 1) (i + 1) L del lits inn
def trace_Read.f (l : List Int) : Option (List S39 × Int × Int) := some (if l.length > 4194304 then ([], 0, 3) else readGo l (l.length + 1) 0 0 [] false [] false)

theorem wordSpec_bd (L : List S39) (del : Bool) (lits : List Int) (inn : Bool) (s : List Int) (hL : L.length ≤ 262144) (hW : lits.length ≤ 4096) (hE : inn = true → L.length < 262144) :
    (wordSpec L del lits inn s).2.1.length ≤ 262144 ∧ (wordSpec L del lits inn s).2.2.2.1.length ≤ 4096 ∧ ((wordSpec L del lits inn s).2.2.2.2 = true → (wordSpec L del lits inn s).2.1.length < 262144) := by
  unfold wordSpec
  by_cases c1 : inn = false ∧ s = [100]
  · rw [if_pos c1]
    by_cases c2 : L.length = 262144
    · rw [if_pos c2]; exact ⟨hL, hW, hE⟩
    · rw [if_neg c2]; exact ⟨hL, hW, fun _ => by simp only; omega⟩
  rw [if_neg c1]
  split
  · exact ⟨hL, hW, hE⟩
  split
  · exact ⟨hL, hW, hE⟩
  rename_i c3
  have hl : L.length < 262144 := by
    cases inn with
    | true => exact hE rfl
    | false => have : L.length ≠ 262144 := fun e => c3 ⟨rfl, e⟩; omega
  split
  · exact ⟨by simp; omega, by simp, by simp⟩
  split
  · exact ⟨hL, hW, hE⟩
  · exact ⟨hL, by simp; omega, fun _ => hl⟩

end Go.Proofs.Yteciockojllonaa.G
