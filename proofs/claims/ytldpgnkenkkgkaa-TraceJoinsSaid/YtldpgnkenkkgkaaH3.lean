/-
The reader of proofs as texts: '(*reader).word', the end of a step.
-/
import Derived.Test.YtldpgnkenkkgkaaH2
import Derived.Deep.RegionLaw
namespace Go.Proofs.Ytldpgnkenkkgkaa.G
open Go.RowKit Go.Proofs.YtldpgnkenkkgkaaW.PrintWords Go.Proofs.YtldpgnkenkkgkaaW.PrintLast Go.Proofs.YtldpgnkenkkgkaaW.PrintMore
attribute [local go_sem] max2_int min2_int max_two min_two max_three min_three max_four min_four
set_option linter.unusedVariables false
set_option linter.unusedSimpArgs false


/-- A step more. -/
theorem RD.step {w0 W w3 : World} {g : Nat} {L : List S35} {del : Bool} {lits : List Int} {inn : Bool} {vl vs v3 : Value}
    (h1 : W.heap[g]? = some (.cells #[vl, .bool del, vs, .bool inn] 40 (0, 0))) (h2 : w0.heap.size ≤ g) (hgn : some g ≠ vl.ownBlock)
    (ho : Kd.S k35 35 w3 w0.heap.size (fun k => k ≠ g) v3 (L ++ [⟨del, lits⟩])) (hb : Below w0.heap.size w0 w3) (hg : W.grownBy w3 vl.ownBlock) :
    w3.heap[g]? = some (.cells #[vl, .bool del, vs, .bool inn] 40 (0, 0)) ∧ RD w0 ((((w3.setCell ⟨g, 0, none⟩ v3).setCell ⟨g, 1, none⟩ (.bool false)).setCell ⟨g, 2, none⟩ (.slice none 0 0)).setCell ⟨g, 3, none⟩ (.bool false)) g (L ++ [⟨del, lits⟩]) false [] false := by
  have hk := blk_grown h1 hg hgn
  refine ⟨hk, v3, .slice none 0 0, ?_, h2, ?_, ?_, (((hb.setCell h2 _).setCell h2 _).setCell h2 _).setCell h2 _⟩
  · have := blk_set (blk_set (blk_set (blk_set hk 0 v3) 1 (.bool false)) 2 (.slice none 0 0)) 3 (.bool false)
    simpa using this
  · refine Kd.S_mono (ok := fun k => k ≠ g) ?_ (fun k hk => ⟨hk, by simp [Value.ownBlock]⟩)
    exact Kd.S_far (Kd.S_far (Kd.S_far (Kd.S_far ho (fun k hk => hk) _) (fun k hk => hk) _) (fun k hk => hk) _) (fun k hk => hk) _
  · exact Kd.R_nil _ _ _ _ _

set_option maxHeartbeats 4000000 in
set_option maxRecDepth 100000 in
/-- The end of a step. -/
theorem word_end (w0 w : World) (g : Nat) (L : List S35) (del : Bool) (lits : List Int) (inn : Bool) (s : ByteArray) (k : Nat)
    (hN : dimacs_Number.f k s = some (0, true)) (hL : L.length ≤ 262144) (hD : inn = true ∨ ((s.toList == [100]) = false ∧ L.length ≠ 262144)) (h : RD w0 w g L del lits inn) :
    Calls Try.prog 15 #[.pointer (some ⟨g, 0, none⟩), .string s] w fun e w' => e = .returned (.int .i64 0) ∧ RD w0 w' g (L ++ [⟨del, lits⟩]) false [] false := by
  obtain ⟨Al, cl, As, cs, hk, hg, hl, hs, hb⟩ := h.open_
  have c0 : w.cell? ⟨g, 0, none⟩ = some (.slice Al L.length cl) := (blk_cell hk 0).trans rfl
  have c1 : w.cell? ⟨g, 1, none⟩ = some (.bool del) := (blk_cell hk 1).trans rfl
  have c2 : w.cell? ⟨g, 2, none⟩ = some (.slice As lits.length cs) := (blk_cell hk 2).trans rfl
  have c3 : w.cell? ⟨g, 3, none⟩ = some (.bool inn) := (blk_cell hk 3).trans rfl
  have hgl := blk_lt hk
  have ca0 : ∀ m o, ((w.drewN m).alloc o).cell? ⟨g, 0, none⟩ = some (.slice Al L.length cl) := fun m o => (blk_cell (blk_alloc (blk_drewN hk m) o) 0).trans rfl
  have HN := Aside0.mk hN
  have HK := Aside0.mk hk
  have HG := Aside0.mk hg
  have HLM := Aside0.mk hl
  have HSM := Aside0.mk hs
  have HBM := Aside0.mk hb
  have HM1 := Aside0.mk (fun m => Kd.R_drewN (Kd.R_tight rfl hs) m)
  have HOK := Aside0.mk (fun k (e : some k = (Value.slice As lits.length cs).ownBlock) => (hs.1 k e.symm : k ≠ g ∧ some k ≠ (Value.slice Al L.length cl).ownBlock))
  have HF := Aside0.mk (fun k (e : w.heap.size ≤ k) => (fun e2 => by omega : k ≠ g))
  have HLM2 := Aside0.mk (fun m => Kd.S_drewN (Kd.S_mono (ok' := fun k => k ≠ g ∧ ¬ (some k = (Value.slice As lits.length cs).ownBlock)) hl (fun k hk => hk)) m)
  have HBM2 := Aside0.mk (fun m => pw_below_drewN hb m)
  have HLL := Aside0.mk (by omega : (L.length + 1) * 32 ≤ 140737488355328)
  have HGN := Aside0.mk ((fun e => (hl.elim (fun _ h2 => h2.1 g e.symm)).1 rfl) : some g ≠ (Value.slice Al L.length cl).ownBlock)
  clear hN hk hg hl hs hb h
  cases inn with
  | true =>
    clear hD
    go_enter Try.func15, Try.ntmps15
    go_wp2_with (go_at_call 23; refine (dimacs_Number.calls k s 0 true _ HN.out).mono ?_; rintro e w' ⟨rfl, ⟨nd, rfl⟩⟩)
    go_region_law (refine Kd.S_append_step k35 (w0 := w0) w0.heap.size rfl (.tmp 71) (.tmp 76) 24 35 (.agg #[(.bool false), (.slice none 0 0)]) 32 rfl Try.underlying24 info35 rfl (by decide) (by omega) (.slice Al L.length cl) L (⟨del, lits⟩ : S35) [.bool del, .slice As lits.length cs] (fun k => k ≠ g) (fun k => some k = (.slice As lits.length cs : Value).ownBlock) rfl rfl (k35_mkM _ _ _ (⟨del, lits⟩ : S35) (HM1.out _)) HOK.out HF.out (HLM2.out _) (HBM2.out _) (HBM2.out 0).size HLL.out ?_; intro v3 w3 ho hb hg hat; have HM := Aside0.mk (RD.step (W := w.drewN (nd + 1)) (vs := .slice As lits.length cs) (inn := true) HK.out HG.out HGN.out ho hb hg); clear hb hg hat; obtain ⟨A3, c3', rfl⟩ := Kd.S_slice ho; clear ho; have q0 := (blk_cell HM.out.1 0).trans rfl; have q1 := (blk_cell HM.out.1 1).trans rfl; have q2 := (blk_cell HM.out.1 2).trans rfl; have q3 := (blk_cell HM.out.1 3).trans rfl; have f0 := blk_frozen HM.out.1 0; have f1 := blk_frozen HM.out.1 1; have f2 := blk_frozen HM.out.1 2; have f3 := blk_frozen HM.out.1 3)
    all_goals
      go_wp2
      go_ret
      exact ⟨rfl, by rw [show L.length + 1 = (L ++ [(⟨del, lits⟩ : S35)]).length from by simp]; exact HM.out.2⟩
  | false =>
    obtain ⟨hD', hL'⟩ := hD.resolve_left (by simp)
    have hL1 : ((L.length : Int) == 262144) = false := beq_eq_false_iff_ne.mpr (by omega)
    clear hD hL'
    go_enter Try.func15, Try.ntmps15
    go_wp2_with (go_at_call 23; refine (dimacs_Number.calls k s 0 true _ HN.out).mono ?_; rintro e w' ⟨rfl, ⟨nd, rfl⟩⟩)
    go_region_law (refine Kd.S_append_step k35 (w0 := w0) w0.heap.size rfl (.tmp 71) (.tmp 76) 24 35 (.agg #[(.bool false), (.slice none 0 0)]) 32 rfl Try.underlying24 info35 rfl (by decide) (by omega) (.slice Al L.length cl) L (⟨del, lits⟩ : S35) [.bool del, .slice As lits.length cs] (fun k => k ≠ g) (fun k => some k = (.slice As lits.length cs : Value).ownBlock) rfl rfl (k35_mkM _ _ _ (⟨del, lits⟩ : S35) (HM1.out _)) HOK.out HF.out (HLM2.out _) (HBM2.out _) (HBM2.out 0).size HLL.out ?_; intro v3 w3 ho hb hg hat; have HM := Aside0.mk (RD.step (W := w.drewN (nd + 1)) (vs := .slice As lits.length cs) (inn := false) HK.out HG.out HGN.out ho hb hg); clear hb hg hat; obtain ⟨A3, c3', rfl⟩ := Kd.S_slice ho; clear ho; have q0 := (blk_cell HM.out.1 0).trans rfl; have q1 := (blk_cell HM.out.1 1).trans rfl; have q2 := (blk_cell HM.out.1 2).trans rfl; have q3 := (blk_cell HM.out.1 3).trans rfl; have f0 := blk_frozen HM.out.1 0; have f1 := blk_frozen HM.out.1 1; have f2 := blk_frozen HM.out.1 2; have f3 := blk_frozen HM.out.1 3)
    all_goals
      go_wp2
      go_ret
      exact ⟨rfl, by rw [show L.length + 1 = (L ++ [(⟨del, lits⟩ : S35)]).length from by simp]; exact HM.out.2⟩

end Go.Proofs.Ytldpgnkenkkgkaa.G
