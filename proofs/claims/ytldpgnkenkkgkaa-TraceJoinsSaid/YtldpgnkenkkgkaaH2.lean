/-
The reader of proofs as texts: '(*reader).word' and 'Read' by hand.
-/
import Derived.Test.Ytldpgnkenkkgkaaf14
import Derived.Test.Ytldpgnkenkkgkaaf23
import Derived.Test.Ytldpgnkenkkgkaaf24
namespace Go.Proofs.Ytldpgnkenkkgkaa.G
open Go.RowKit Go.Proofs.YtldpgnkenkkgkaaW.PrintWords Go.Proofs.YtldpgnkenkkgkaaW.PrintLast Go.Proofs.YtldpgnkenkkgkaaW.PrintMore
attribute [local go_sem] max2_int min2_int max_two min_two max_three min_three max_four min_four
set_option linter.unusedVariables false
set_option linter.unusedSimpArgs false

/-- What the reader at block g holds. -/
def RD (w0 W : World) (g : Nat) (L : List S35) (del : Bool) (lits : List Int) (inn : Bool) : Prop :=
  ∃ vl vs, W.heap[g]? = some (.cells #[vl, .bool del, vs, .bool inn] 40 (0, 0)) ∧ w0.heap.size ≤ g ∧
    Kd.S k35 35 W w0.heap.size (fun k => k ≠ g ∧ some k ≠ vs.ownBlock) vl L ∧
    Kd.R (Kd.int .i64) 3 W w0.heap.size (fun k => k ≠ g ∧ some k ≠ vl.ownBlock) vs lits ∧ Below w0.heap.size w0 W

theorem RD.below {w0 W W1 : World} {g : Nat} {L : List S35} {del : Bool} {lits : List Int} {inn : Bool} (h : RD w0 W g L del lits inn) (hb : Below W.heap.size W W1) : RD w0 W1 g L del lits inn := by
  obtain ⟨vl, vs, h1, h2, h3, h4, h5⟩ := h
  exact ⟨vl, vs, blk_below h1 hb, h2, Kd.S_below h3 hb, Kd.R_below h4 hb, below_then h5 h5.size hb⟩
theorem RD.del {w0 W : World} {g : Nat} {L : List S35} {del : Bool} {lits : List Int} {inn : Bool} (h : RD w0 W g L del lits inn) (b : Bool) : RD w0 (W.setCell ⟨g, 1, none⟩ (.bool b)) g L b lits inn := by
  obtain ⟨vl, vs, h1, h2, h3, h4, h5⟩ := h
  exact ⟨vl, vs, by simpa using blk_set h1 1 (.bool b), h2, Kd.S_far h3 (fun k hk => hk.1) _, Kd.R_far h4 (fun k hk => hk.1) _, h5.setCell h2 _⟩
theorem RD.inn {w0 W : World} {g : Nat} {L : List S35} {del : Bool} {lits : List Int} {inn : Bool} (h : RD w0 W g L del lits inn) (b : Bool) : RD w0 (W.setCell ⟨g, 3, none⟩ (.bool b)) g L del lits b := by
  obtain ⟨vl, vs, h1, h2, h3, h4, h5⟩ := h
  exact ⟨vl, vs, by simpa using blk_set h1 3 (.bool b), h2, Kd.S_far h3 (fun k hk => hk.1) _, Kd.R_far h4 (fun k hk => hk.1) _, h5.setCell h2 _⟩
theorem RD.cells {w0 W : World} {g : Nat} {L : List S35} {del : Bool} {lits : List Int} {inn : Bool} (h : RD w0 W g L del lits inn) :
    ∃ Al cl As cs, W.cell? ⟨g, 0, none⟩ = some (.slice Al L.length cl) ∧ W.cell? ⟨g, 1, none⟩ = some (.bool del) ∧ W.cell? ⟨g, 2, none⟩ = some (.slice As lits.length cs) ∧ W.cell? ⟨g, 3, none⟩ = some (.bool inn) ∧
      (∀ j, W.frozen? ⟨g, j, none⟩ = false) ∧ L.length ≤ 9223372036854775807 ∧ lits.length ≤ 9223372036854775807 ∧ g < W.heap.size := by
  obtain ⟨vl, vs, h1, h2, h3, h4, h5⟩ := h
  obtain ⟨Al, cl, rfl, hcl, hl⟩ := Kd.S_reads h3
  obtain ⟨As, cs, rfl, hcs, hs⟩ := Kd.R_reads h4
  exact ⟨Al, cl, As, cs, (blk_cell h1 0).trans rfl, (blk_cell h1 1).trans rfl, (blk_cell h1 2).trans rfl, (blk_cell h1 3).trans rfl, fun j => blk_frozen h1 j, Kd.C_max hl, Kd.C_max hs, blk_lt h1⟩
theorem RD.open_ {w0 W : World} {g : Nat} {L : List S35} {del : Bool} {lits : List Int} {inn : Bool} (h : RD w0 W g L del lits inn) :
    ∃ Al cl As cs, W.heap[g]? = some (.cells #[.slice Al L.length cl, .bool del, .slice As lits.length cs, .bool inn] 40 (0, 0)) ∧ w0.heap.size ≤ g ∧
    Kd.S k35 35 W w0.heap.size (fun k => k ≠ g ∧ some k ≠ (.slice As lits.length cs : Value).ownBlock) (.slice Al L.length cl) L ∧
    Kd.R (Kd.int .i64) 3 W w0.heap.size (fun k => k ≠ g ∧ some k ≠ (.slice Al L.length cl : Value).ownBlock) (.slice As lits.length cs) lits ∧ Below w0.heap.size w0 W := by
  obtain ⟨vl, vs, h1, h2, h3, h4, h5⟩ := h
  obtain ⟨Al, cl, rfl, hcl, hl⟩ := Kd.S_reads h3
  obtain ⟨As, cs, rfl, hcs, hs⟩ := Kd.R_reads h4
  exact ⟨Al, cl, As, cs, h1, h2, h3, h4, h5⟩
/-- A literal more: behind the append and the two stores. -/
theorem RD.more {w0 W w3 : World} {g : Nat} {L : List S35} {del : Bool} {lits : List Int} {inn : Bool} {n : Int} {vl vs v3 : Value}
    (h1 : W.heap[g]? = some (.cells #[vl, .bool del, vs, .bool inn] 40 (0, 0))) (h2 : w0.heap.size ≤ g)
    (h3 : Kd.S k35 35 W w0.heap.size (fun k => k ≠ g ∧ some k ≠ vs.ownBlock) vl L) (h4 : Kd.R (Kd.int .i64) 3 W w0.heap.size (fun k => k ≠ g ∧ some k ≠ vl.ownBlock) vs lits)
    (ho : Kd.R (Kd.int .i64) 3 w3 w0.heap.size (fun k => k ≠ g ∧ some k ≠ vl.ownBlock) v3 (lits ++ [n])) (hb : Below w0.heap.size w0 w3) (hg : W.grownBy w3 vs.ownBlock) (hat : v3.ownBlock = vs.ownBlock ∨ ∃ b, v3.ownBlock = some b ∧ W.heap.size ≤ b) :
    w3.heap[g]? = some (.cells #[vl, .bool del, vs, .bool inn] 40 (0, 0)) ∧ RD w0 ((w3.setCell ⟨g, 2, none⟩ v3).setCell ⟨g, 3, none⟩ (.bool true)) g L del (lits ++ [n]) true := by
  have hgn : some g ≠ vs.ownBlock := fun e => (h4.1 g e.symm).1 rfl
  have hk := blk_grown h1 hg hgn
  refine ⟨hk, vl, v3, ?_, h2, ?_, ?_, (hb.setCell h2 _).setCell h2 _⟩
  · have := blk_set (blk_set hk 2 v3) 3 (.bool true)
    simpa using this
  · exact Kd.S_far (Kd.S_far (Kd.S_after h3 hg hat) (fun k hk => hk.1) _) (fun k hk => hk.1) _
  · exact Kd.R_far (Kd.R_far ho (fun k hk => hk.1) _) (fun k hk => hk.1) _
theorem C_lit1 (W : World) (k : IntKind) (n : Int) (e : Nat) : (Kd.int k).C (W.alloc (.cells #[.int k n] e)) (some ⟨W.heap.size, 0, none⟩) [n].length [n] := by
  refine Kd.C_of_reads (d := 0) (h1 := fun _ => rfl) ⟨rfl, by simp, fun _ => ⟨_, rfl, fun j hj => ?_⟩⟩
  have : j = 0 := by simp at hj; omega
  subst this
  rw [add_plain]
  exact (blk_cell (g := W.heap.size) (by simpa using heap_alloc_new W (.cells #[.int k n] e)) 0).trans rfl

set_option maxHeartbeats 4000000 in
set_option maxRecDepth 100000 in
/-- What is no number, and no 'd' at the begin. -/
theorem word_text (w0 w : World) (g : Nat) (L : List S35) (del : Bool) (lits : List Int) (inn : Bool) (s : ByteArray) (k : Nat) (n : Int)
    (hN : dimacs_Number.f k s = some (n, false)) (hD : inn = true ∨ (s.toList == [100]) = false) (h : RD w0 w g L del lits inn) :
    Calls Try.prog 15 #[.pointer (some ⟨g, 0, none⟩), .string s] w fun e w' => e = .returned (.int .i64 2) ∧ RD w0 w' g L del lits inn := by
  obtain ⟨Al, cl, As, cs, c0, c1, c2, c3, hf, hmL, hmS, hgl⟩ := h.cells
  have HN := Aside0.mk hN
  have HR := Aside0.mk h
  clear hN h
  cases inn with
  | true =>
    clear hD
    go_enter Try.func15, Try.ntmps15
    go_wp2_with (go_at_call 23; refine (dimacs_Number.calls k s n false _ HN.out).mono ?_; rintro e w' ⟨rfl, ⟨nd, rfl⟩⟩)
    go_ret
    exact ⟨rfl, HR.out.below (pw_below_drewN (Below.refl _ _) _)⟩
  | false =>
    have hD' : (s.toList == [100]) = false := hD.resolve_left (by simp)
    clear hD
    go_enter Try.func15, Try.ntmps15
    go_wp2_with (go_at_call 23; refine (dimacs_Number.calls k s n false _ HN.out).mono ?_; rintro e w' ⟨rfl, ⟨nd, rfl⟩⟩)
    go_ret
    exact ⟨rfl, HR.out.below (pw_below_drewN (Below.refl _ _) _)⟩

set_option maxHeartbeats 4000000 in
set_option maxRecDepth 100000 in
/-- A number that is no literal. -/
theorem word_wild (w0 w : World) (g : Nat) (L : List S35) (del : Bool) (lits : List Int) (inn : Bool) (s : ByteArray) (k : Nat) (n : Int)
    (hN : dimacs_Number.f k s = some (n, true)) (hn : n ≠ 0) (hC : lit_Check.f k [n] = some 1) (hD : inn = true ∨ (s.toList == [100]) = false) (h : RD w0 w g L del lits inn) :
    Calls Try.prog 15 #[.pointer (some ⟨g, 0, none⟩), .string s] w fun e w' => e = .returned (.int .i64 2) ∧ RD w0 w' g L del lits inn := by
  obtain ⟨Al, cl, As, cs, c0, c1, c2, c3, hf, hmL, hmS, hgl⟩ := h.cells
  have HN := Aside0.mk hN
  have HC := Aside0.mk hC
  have HR := Aside0.mk h
  have hn1 : (n == 0) = false := beq_eq_false_iff_ne.mpr hn
  have hn2 : (n != 0) = true := bne_iff_ne.mpr hn
  clear hN h hC
  cases inn with
  | true =>
    clear hD
    go_enter Try.func15, Try.ntmps15
    go_wp2_with (first | (go_at_call 23; refine (dimacs_Number.calls k s n true _ HN.out).mono ?_; rintro e w' ⟨rfl, ⟨nd, rfl⟩⟩) | (go_at_call 24; refine (lit_Check.calls k _ 1 [n] 1 _ (C_lit1 _ _ _ _) (by simp) HC.out).mono ?_; rintro e w2 ⟨rfl, hd⟩; have HR2 := Aside0.mk (HR.out.below (below_step (by repeat (first | exact Below.refl _ _ | apply below_alloc | apply pw_below_drewN)) hd.below)); obtain ⟨Al2, cl2, As2, cs2, d0, d1, d2, d3, df, _, _, hgl2⟩ := HR2.out.cells; clear hd))
    go_ret
    exact ⟨rfl, HR2.out⟩
  | false =>
    have hD' : (s.toList == [100]) = false := hD.resolve_left (by simp)
    clear hD
    go_enter Try.func15, Try.ntmps15
    go_wp2_with (first | (go_at_call 23; refine (dimacs_Number.calls k s n true _ HN.out).mono ?_; rintro e w' ⟨rfl, ⟨nd, rfl⟩⟩) | (go_at_call 24; refine (lit_Check.calls k _ 1 [n] 1 _ (C_lit1 _ _ _ _) (by simp) HC.out).mono ?_; rintro e w2 ⟨rfl, hd⟩; have HR2 := Aside0.mk (HR.out.below (below_step (by repeat (first | exact Below.refl _ _ | apply below_alloc | apply pw_below_drewN)) hd.below)); obtain ⟨Al2, cl2, As2, cs2, d0, d1, d2, d3, df, _, _, hgl2⟩ := HR2.out.cells; clear hd))
    go_ret
    exact ⟨rfl, HR2.out⟩

set_option maxHeartbeats 4000000 in
set_option maxRecDepth 100000 in
/-- There is no room for another step: a number. -/
theorem word_full (w0 w : World) (g : Nat) (L : List S35) (del : Bool) (lits : List Int) (s : ByteArray) (k : Nat) (n : Int)
    (hN : dimacs_Number.f k s = some (n, true)) (hC : lit_Check.f k [n] = some 0 ∨ n = 0) (hD : (s.toList == [100]) = false) (hL : L.length = 262144) (h : RD w0 w g L del lits false) :
    Calls Try.prog 15 #[.pointer (some ⟨g, 0, none⟩), .string s] w fun e w' => e = .returned (.int .i64 3) ∧ RD w0 w' g L del lits false := by
  obtain ⟨Al, cl, As, cs, c0, c1, c2, c3, hf, hmL, hmS, hgl⟩ := h.cells
  have HN := Aside0.mk hN
  have HR := Aside0.mk h
  have hL1 : ((L.length : Int) == 262144) = true := by rw [hL]; rfl
  clear hN h
  by_cases hn : n = 0
  · subst hn
    clear hC hL
    go_enter Try.func15, Try.ntmps15
    go_wp2_with (go_at_call 23; refine (dimacs_Number.calls k s 0 true _ HN.out).mono ?_; rintro e w' ⟨rfl, ⟨nd, rfl⟩⟩)
    go_ret
    exact ⟨rfl, HR.out.below (by repeat (first | exact Below.refl _ _ | apply below_alloc | apply pw_below_drewN))⟩
  · have HC := Aside0.mk (hC.resolve_right hn)
    have hn1 : (n == 0) = false := beq_eq_false_iff_ne.mpr hn
    have hn2 : (n != 0) = true := bne_iff_ne.mpr hn
    clear hC hL
    go_enter Try.func15, Try.ntmps15
    go_wp2_with (first | (go_at_call 23; refine (dimacs_Number.calls k s n true _ HN.out).mono ?_; rintro e w' ⟨rfl, ⟨nd, rfl⟩⟩) | (go_at_call 24; refine (lit_Check.calls k _ 1 [n] 0 _ (C_lit1 _ _ _ _) (by simp) HC.out).mono ?_; rintro e w2 ⟨rfl, hd⟩; have HR2 := Aside0.mk (HR.out.below (below_step (by repeat (first | exact Below.refl _ _ | apply below_alloc | apply pw_below_drewN)) hd.below)); obtain ⟨Al2, cl2, As2, cs2, d0, d1, d2, d3, df, _, _, hgl2⟩ := HR2.out.cells; clear hd))
    go_ret
    exact ⟨rfl, HR2.out⟩

set_option maxHeartbeats 4000000 in
set_option maxRecDepth 100000 in
/-- There is no room for another step: 'd'. -/
theorem word_fulld (w0 w : World) (g : Nat) (L : List S35) (del : Bool) (lits : List Int) (s : ByteArray) (k : Nat) (n : Int) (ok : Bool)
    (hN : dimacs_Number.f k s = some (n, ok)) (hD : (s.toList == [100]) = true) (hL : L.length = 262144) (h : RD w0 w g L del lits false) :
    Calls Try.prog 15 #[.pointer (some ⟨g, 0, none⟩), .string s] w fun e w' => e = .returned (.int .i64 3) ∧ RD w0 w' g L del lits false := by
  obtain ⟨Al, cl, As, cs, c0, c1, c2, c3, hf, hmL, hmS, hgl⟩ := h.cells
  have HN := Aside0.mk hN
  have HR := Aside0.mk h
  have hL1 : ((L.length : Int) == 262144) = true := by rw [hL]; rfl
  clear hN h hL
  have hD1 : s.toList == [100] := hD
  go_enter Try.func15, Try.ntmps15
  go_wp2_with (go_at_call 23; refine (dimacs_Number.calls k s n ok _ HN.out).mono ?_; rintro e w' ⟨rfl, ⟨nd, rfl⟩⟩)
  go_ret
  exact ⟨rfl, HR.out.below (by repeat (first | exact Below.refl _ _ | apply below_alloc | apply pw_below_drewN))⟩

set_option maxHeartbeats 4000000 in
set_option maxRecDepth 100000 in
/-- 'd'. -/
theorem word_d (w0 w : World) (g : Nat) (L : List S35) (del : Bool) (lits : List Int) (s : ByteArray) (k : Nat) (n : Int) (ok : Bool)
    (hN : dimacs_Number.f k s = some (n, ok)) (hD : (s.toList == [100]) = true) (hL : L.length ≠ 262144) (h : RD w0 w g L del lits false) :
    Calls Try.prog 15 #[.pointer (some ⟨g, 0, none⟩), .string s] w fun e w' => e = .returned (.int .i64 0) ∧ RD w0 w' g L true lits true := by
  obtain ⟨Al, cl, As, cs, c0, c1, c2, c3, hf, hmL, hmS, hgl⟩ := h.cells
  have hf1 := hf 1
  have hf3 := hf 3
  have HN := Aside0.mk hN
  have HR := Aside0.mk h
  have hL1 : ((L.length : Int) == 262144) = false := beq_eq_false_iff_ne.mpr (by omega)
  clear hN h hL hf
  go_enter Try.func15, Try.ntmps15
  go_wp2_with (go_at_call 23; refine (dimacs_Number.calls k s n ok _ HN.out).mono ?_; rintro e w' ⟨rfl, ⟨nd, rfl⟩⟩)
  go_ret
  exact ⟨rfl, ((HR.out.below (pw_below_drewN (Below.refl _ _) nd)).del true).inn true⟩

set_option maxHeartbeats 4000000 in
set_option maxRecDepth 100000 in
/-- A literal too many. -/
theorem word_wide (w0 w : World) (g : Nat) (L : List S35) (del : Bool) (lits : List Int) (inn : Bool) (s : ByteArray) (k : Nat) (n : Int)
    (hN : dimacs_Number.f k s = some (n, true)) (hn : n ≠ 0) (hC : lit_Check.f k [n] = some 0) (hD : inn = true ∨ ((s.toList == [100]) = false ∧ L.length ≠ 262144)) (hW : lits.length = 4096) (h : RD w0 w g L del lits inn) :
    Calls Try.prog 15 #[.pointer (some ⟨g, 0, none⟩), .string s] w fun e w' => e = .returned (.int .i64 3) ∧ RD w0 w' g L del lits inn := by
  obtain ⟨Al, cl, As, cs, c0, c1, c2, c3, hf, hmL, hmS, hgl⟩ := h.cells
  have HN := Aside0.mk hN
  have HC := Aside0.mk hC
  have HR := Aside0.mk h
  have hn1 : (n == 0) = false := beq_eq_false_iff_ne.mpr hn
  have hn2 : (n != 0) = true := bne_iff_ne.mpr hn
  have hW1 : ((lits.length : Int) == 4096) = true := by rw [hW]; rfl
  clear hN h hC hW
  cases inn with
  | true =>
    clear hD
    go_enter Try.func15, Try.ntmps15
    go_wp2_with (first | (go_at_call 23; refine (dimacs_Number.calls k s n true _ HN.out).mono ?_; rintro e w' ⟨rfl, ⟨nd, rfl⟩⟩) | (go_at_call 24; refine (lit_Check.calls k _ 1 [n] 0 _ (C_lit1 _ _ _ _) (by simp) HC.out).mono ?_; rintro e w2 ⟨rfl, hd⟩; have HR2 := Aside0.mk (HR.out.below (below_step (by repeat (first | exact Below.refl _ _ | apply below_alloc | apply pw_below_drewN)) hd.below)); obtain ⟨Al2, cl2, As2, cs2, d0, d1, d2, d3, df, _, _, hgl2⟩ := HR2.out.cells; clear hd))
    go_ret
    exact ⟨rfl, HR2.out⟩
  | false =>
    obtain ⟨hD', hL'⟩ := hD.resolve_left (by simp)
    have hL1 : ((L.length : Int) == 262144) = false := beq_eq_false_iff_ne.mpr (by omega)
    clear hD hL'
    go_enter Try.func15, Try.ntmps15
    go_wp2_with (first | (go_at_call 23; refine (dimacs_Number.calls k s n true _ HN.out).mono ?_; rintro e w' ⟨rfl, ⟨nd, rfl⟩⟩) | (go_at_call 24; refine (lit_Check.calls k _ 1 [n] 0 _ (C_lit1 _ _ _ _) (by simp) HC.out).mono ?_; rintro e w2 ⟨rfl, hd⟩; have HR2 := Aside0.mk (HR.out.below (below_step (by repeat (first | exact Below.refl _ _ | apply below_alloc | apply pw_below_drewN)) hd.below)); obtain ⟨Al2, cl2, As2, cs2, d0, d1, d2, d3, df, _, _, hgl2⟩ := HR2.out.cells; clear hd))
    go_ret
    exact ⟨rfl, HR2.out⟩


set_option maxHeartbeats 4000000 in
set_option maxRecDepth 100000 in
/-- A literal more. -/
theorem word_more (w0 w : World) (g : Nat) (L : List S35) (del : Bool) (lits : List Int) (inn : Bool) (s : ByteArray) (k : Nat) (n : Int)
    (hN : dimacs_Number.f k s = some (n, true)) (hn : n ≠ 0) (hC : lit_Check.f k [n] = some 0) (hD : inn = true ∨ ((s.toList == [100]) = false ∧ L.length ≠ 262144)) (hW : lits.length < 4096) (h : RD w0 w g L del lits inn) :
    Calls Try.prog 15 #[.pointer (some ⟨g, 0, none⟩), .string s] w fun e w' => e = .returned (.int .i64 0) ∧ RD w0 w' g L del (lits ++ [n]) true := by
  obtain ⟨Al, cl, As, cs, c0, c1, c2, c3, hf, hmL, hmS, hgl⟩ := h.cells
  have HN := Aside0.mk hN
  have HC := Aside0.mk hC
  have HR := Aside0.mk h
  have hn1 : (n == 0) = false := beq_eq_false_iff_ne.mpr hn
  have hn2 : (n != 0) = true := bne_iff_ne.mpr hn
  have hW1 : ((lits.length : Int) == 4096) = false := beq_eq_false_iff_ne.mpr (by omega)
  clear hN h hC
  cases inn with
  | true =>
    clear hD
    go_enter Try.func15, Try.ntmps15
    go_wp2_with (first | (go_at_call 23; refine (dimacs_Number.calls k s n true _ HN.out).mono ?_; rintro e w' ⟨rfl, ⟨nd, rfl⟩⟩) | (go_at_call 24; refine (lit_Check.calls k _ 1 [n] 0 _ (C_lit1 _ _ _ _) (by simp) HC.out).mono ?_; rintro e w2 ⟨rfl, hd⟩; have HR2 := Aside0.mk (HR.out.below (below_step (by repeat (first | exact Below.refl _ _ | apply below_alloc | apply pw_below_drewN)) hd.below)); obtain ⟨Al2, cl2, As2, cs2, hk2, hg2, hl2, hs2, hb2⟩ := HR2.out.open_; have d0 := (blk_cell hk2 0).trans rfl; have d2 := (blk_cell hk2 2).trans rfl; have d3 := (blk_cell hk2 3).trans rfl; have HF := Aside0.mk (fun (k : Nat) (hk : w2.heap.size ≤ k) => (⟨fun e => by have := blk_lt hk2; omega, fun e => by have := Kd.S_lt hl2 k e.symm; omega⟩ : k ≠ g ∧ some k ≠ (.slice Al2 L.length cl2 : Value).ownBlock)); have HK2 := Aside0.mk hk2; have HG2 := Aside0.mk hg2; have HL2 := Aside0.mk hl2; have HS2 := Aside0.mk hs2; have HB2 := Aside0.mk hb2; clear hd hk2 hg2 hl2 hs2 hb2) | (at_builtin; refine Kd.R_append (Kd.int .i64) (w0 := w0) w0.heap.size rfl (.tmp 99) (.tmp 101) 33 3 (.int .i64 0) 8 rfl Try.underlying33 info3 rfl (by decide) (by omega) (.slice As2 lits.length cs2) lits n [.int .i64 n] (fun k => k ≠ g ∧ some k ≠ (.slice Al2 L.length cl2 : Value).ownBlock) (fun _ => False) rfl rfl rfl (fun _ hk => hk.elim) HF.out HS2.out HB2.out HB2.out.size ?aL ?_; (case aL => omega); intro v3 w3 ho hb hg hat; have HM := Aside0.mk (RD.more HK2.out HG2.out HL2.out HS2.out ho hb hg hat); clear hb hg hat; obtain ⟨A3, c3', rfl⟩ := Kd.R_slice ho; clear ho; have q2 := (blk_cell HM.out.1 2).trans rfl; have q3 := (blk_cell HM.out.1 3).trans rfl; have f2 := blk_frozen HM.out.1 2; have f3 := blk_frozen HM.out.1 3))
    go_ret
    exact ⟨rfl, by rw [show lits.length + 1 = (lits ++ [n]).length from by simp]; exact HM.out.2⟩
  | false =>
    obtain ⟨hD', hL'⟩ := hD.resolve_left (by simp)
    have hL1 : ((L.length : Int) == 262144) = false := beq_eq_false_iff_ne.mpr (by omega)
    clear hD hL'
    go_enter Try.func15, Try.ntmps15
    go_wp2_with (first | (go_at_call 23; refine (dimacs_Number.calls k s n true _ HN.out).mono ?_; rintro e w' ⟨rfl, ⟨nd, rfl⟩⟩) | (go_at_call 24; refine (lit_Check.calls k _ 1 [n] 0 _ (C_lit1 _ _ _ _) (by simp) HC.out).mono ?_; rintro e w2 ⟨rfl, hd⟩; have HR2 := Aside0.mk (HR.out.below (below_step (by repeat (first | exact Below.refl _ _ | apply below_alloc | apply pw_below_drewN)) hd.below)); obtain ⟨Al2, cl2, As2, cs2, hk2, hg2, hl2, hs2, hb2⟩ := HR2.out.open_; have d0 := (blk_cell hk2 0).trans rfl; have d2 := (blk_cell hk2 2).trans rfl; have d3 := (blk_cell hk2 3).trans rfl; have HF := Aside0.mk (fun (k : Nat) (hk : w2.heap.size ≤ k) => (⟨fun e => by have := blk_lt hk2; omega, fun e => by have := Kd.S_lt hl2 k e.symm; omega⟩ : k ≠ g ∧ some k ≠ (.slice Al2 L.length cl2 : Value).ownBlock)); have HK2 := Aside0.mk hk2; have HG2 := Aside0.mk hg2; have HL2 := Aside0.mk hl2; have HS2 := Aside0.mk hs2; have HB2 := Aside0.mk hb2; clear hd hk2 hg2 hl2 hs2 hb2) | (at_builtin; refine Kd.R_append (Kd.int .i64) (w0 := w0) w0.heap.size rfl (.tmp 99) (.tmp 101) 33 3 (.int .i64 0) 8 rfl Try.underlying33 info3 rfl (by decide) (by omega) (.slice As2 lits.length cs2) lits n [.int .i64 n] (fun k => k ≠ g ∧ some k ≠ (.slice Al2 L.length cl2 : Value).ownBlock) (fun _ => False) rfl rfl rfl (fun _ hk => hk.elim) HF.out HS2.out HB2.out HB2.out.size ?aL ?_; (case aL => omega); intro v3 w3 ho hb hg hat; have HM := Aside0.mk (RD.more HK2.out HG2.out HL2.out HS2.out ho hb hg hat); clear hb hg hat; obtain ⟨A3, c3', rfl⟩ := Kd.R_slice ho; clear ho; have q2 := (blk_cell HM.out.1 2).trans rfl; have q3 := (blk_cell HM.out.1 3).trans rfl; have f2 := blk_frozen HM.out.1 2; have f3 := blk_frozen HM.out.1 3))
    go_ret
    exact ⟨rfl, by rw [show lits.length + 1 = (lits ++ [n]).length from by simp]; exact HM.out.2⟩


end Go.Proofs.Ytldpgnkenkkgkaa.G
