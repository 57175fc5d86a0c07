/-
A machine of values, part twenty-three: calls of functions that turn what they are handed; sound.
-/
import Derived.Test.YticelgnmcjkknaaVm22
set_option linter.unusedVariables false
set_option linter.unusedSimpArgs false
namespace Go.Proofs.Yticelgnmcjkknaa.Vm
section
variable {P : Program} {tt : Nat → TI} {R : Type}

section
variable {g g' : Gh} {σ s : St} {w w' : World} {ids ts : List Nat}
theorem idx_none {l : List Nat} {i : Nat} (hn : l.Nodup) (h : idx l i = none) {j : Nat} : l[j]? ≠ some i := by
  intro e; rw [idx_of_get hn e] at h; cases h
theorem all_get {l : List Nat} {p : Nat → Bool} (h : l.all p = true) {j i : Nat} (hj : l[j]? = some i) : p i = true := List.all_eq_true.1 h i (List.mem_of_getElem? hj)
theorem Up.blk_lt (h : Up (ghC g ids ts) w g' w') (hst : RelSt g σ w) (hl : ids.all (live σ.objs) = true) {j i : Nat} (hj : ids[j]? = some i) : ∃ b f, g.blk[i]? = some (some (b, f)) ∧ g'.blk[j]? = some (some (b, f)) ∧ i < g.blk.length := by
  obtain ⟨b, f, hb⟩ := live_blk hst (all_get hl hj)
  exact ⟨b, f, hb, h.blk _ _ _ (ghC_of hj hb), getElem?_lt hb⟩
theorem Up.blk_len (h : Up (ghC g ids ts) w g' w') (hst : RelSt g σ w) (hl : ids.all (live σ.objs) = true) : ids.length ≤ g'.blk.length := by
  rcases Nat.eq_zero_or_pos ids.length with h0 | h0
  · omega
  · have hj : ids[ids.length - 1]? = some (ids[ids.length - 1]'(by omega)) := List.getElem?_eq_getElem _
    obtain ⟨b, f, _, h2, _⟩ := h.blk_lt hst hl hj
    have := getElem?_lt h2; omega
theorem Up.tk_lt (h : Up (ghC g ids ts) w g' w') (hst : RelSt g σ w) (hl : ts.all (fun i => decide (i < σ.toks.length)) = true) {j i : Nat} (hj : ts[j]? = some i) : ∃ ver x v' x', g.tk[i]? = some (ver, x) ∧ g'.tk[j]? = some (v', x') := by
  have h1 : i < σ.toks.length := of_decide_eq_true (all_get hl hj)
  obtain ⟨x, hx⟩ := tk_get hst (List.getElem?_eq_getElem h1)
  obtain ⟨v', x', h2, _⟩ := h.tk _ _ _ (ghC_tof hj hx)
  exact ⟨_, x, v', x', hx, h2⟩
theorem Up.tk_len (h : Up (ghC g ids ts) w g' w') (hst : RelSt g σ w) (hl : ts.all (fun i => decide (i < σ.toks.length)) = true) : ts.length ≤ g'.tk.length := by
  rcases Nat.eq_zero_or_pos ts.length with h0 | h0
  · omega
  · have hj : ts[ts.length - 1]? = some (ts[ts.length - 1]'(by omega)) := List.getElem?_eq_getElem _
    obtain ⟨_, _, v', x', _, h2⟩ := h.tk_lt hst hl hj
    have := getElem?_lt h2; omega
/-- A block that the callee may turn is none of the caller's other ones. -/
theorem other_blk (hst : RelSt g σ w) (hn : ids.Nodup) {i b : Nat} {f : Bool} (hi : idx ids i = none) (hb : g.blk[i]? = some (some (b, f))) : ¬ WB (ghC g ids ts) b := by
  rintro (⟨k, hk⟩ | ⟨k, ver, lo, hi', hk⟩)
  · obtain ⟨i', h1, h2⟩ := ghC_blk hk
    have := hst.inj _ _ _ _ _ hb h2
    subst this; exact idx_none hn hi h1
  · obtain ⟨i', v', h1, h2⟩ := ghC_tk hk
    exact (hst.tok _ _ _ _ _ h2).2.1 i f hb
theorem other_tk (hst : RelSt g σ w) (hm : ts.Nodup) {i ver b lo hi : Nat} (hi' : idx ts i = none) (hb : g.tk[i]? = some (ver, some (b, lo, hi))) : ¬ WB (ghC g ids ts) b := by
  rintro (⟨k, hk⟩ | ⟨k, ver', lo', hi'', hk⟩)
  · obtain ⟨i', h1, h2⟩ := ghC_blk hk
    exact (hst.tok _ _ _ _ _ hb).2.1 i' _ h2
  · obtain ⟨i', v', h1, h2⟩ := ghC_tk hk
    have := hst.tinj _ _ _ _ _ _ _ _ _ hb h2
    subst this; exact idx_none hm hi' h1
theorem wr_wb {a : Addr} (h : Wr g a) : WB g a.block := by
  rcases h with ⟨i, hi⟩ | ⟨i, ver, lo, hi, ht, _⟩
  · exact .inl ⟨i, hi⟩
  · exact .inr ⟨i, ver, lo, hi, ht⟩

theorem ghB_up (hst : RelSt g σ w) (h : Up (ghC g ids ts) w g' w') (hn : ids.Nodup) (hm : ts.Nodup) (hl : ids.all (live σ.objs) = true) (hl' : ts.all (fun i => decide (i < σ.toks.length)) = true) : Up g w (ghB g g' ids ts) w' where
  os := h.os
  tape := h.tape
  output := h.output
  size := h.size
  keep := fun b hb hw => h.keep b hb fun hc => hw (ghC_wb hc)
  wb := fun b hb hw => by
    rcases ghB_wb hw with h1 | ⟨i, _, h1⟩ | ⟨i, ver, lo, hi, _, h1⟩
    · exact ghC_wb (h.wb b hb h1)
    · exact .inl ⟨i, h1⟩
    · exact .inr ⟨i, ver, lo, hi, h1⟩
  cells := fun a v hv => by
    have h1 := h.cells a v (ghC_imm a v hv)
    refine ⟨h1.1, fun hb => ?_⟩
    rcases hb with hb | hb
    · rcases ghB_wr hb with h2 | ⟨i, _, h2⟩ | ⟨i, ver, lo, hi, _, h2⟩
      · exact h1.2 (.inl h2)
      · exact hv.2 (.inl (.inl ⟨i, h2⟩))
      · exact hv.2 (.inl (.inr ⟨i, ver, lo, hi, h2⟩))
    · exact hv.2 (.inr hb)
  wr := fun a ha hb => by
    rcases ghB_wr hb with h2 | ⟨i, _, h2⟩ | ⟨i, ver, lo, hi, _, h2⟩
    · exact ghC_wr (h.wr a ha h2)
    · exact .inl ⟨i, h2⟩
    · exact .inr ⟨i, ver, lo, hi, h2⟩
  fr := rfl
  blk := fun i b f hb => by
    cases hi : idx ids i with
    | none => rw [ghB_blk_out hi (getElem?_lt hb)]; exact hb
    | some j => exact ghB_blk_in hi (getElem?_lt hb) (h.blk _ _ _ (ghC_of (idx_some hi) hb))
  nb := fun i b f hb hlt => by
    rcases ghB_blk hb with ⟨_, _, h3⟩ | ⟨_, j, hj, h3⟩ | ⟨k, _, h3⟩
    · exact h3
    · obtain ⟨i', h4, h5⟩ := ghC_blk (h.nb _ _ _ h3 hlt)
      rw [idx_some hj] at h4; simp only [Option.some.injEq] at h4; rw [h4]; exact h5
    · obtain ⟨i', h4, h5⟩ := ghC_blk (h.nb _ _ _ h3 hlt)
      have := getElem?_lt h4; omega
  tk := fun i ver x hx => by
    cases hi : idx ts i with
    | none => exact ⟨ver, x, by rw [ghB_tk_out hi (getElem?_lt hx)]; exact hx, Nat.le_refl _, fun _ => rfl⟩
    | some j =>
      obtain ⟨_, _, v', x', _, h2⟩ := h.tk_lt hst hl' (idx_some hi)
      exact ⟨ver + 1, x', ghB_tk_in hi hx h2, by omega, fun e => by omega⟩

theorem blkOut_some {base i j : Nat} (h : blkOut base ids i = some j) : ids[i]? = some j ∨ (ids.length ≤ i ∧ j = base + (i - ids.length)) := by
  unfold blkOut at h
  split at h
  · rename_i k hk
    simp only [Option.some.injEq] at h; subst h; exact .inl hk
  · rename_i hk
    simp only [Option.some.injEq] at h
    exact .inr ⟨by simpa using hk, h.symm⟩
theorem ghB_ren (hst : RelSt g σ w) (h : Up (ghC g ids ts) w g' w') (hst' : RelSt g' s w') (hn : ids.Nodup) (hm : ts.Nodup) (hl : ids.all (live σ.objs) = true) (hl' : ts.all (fun i => decide (i < σ.toks.length)) = true) :
    RenOk g' (ghB g g' ids ts) (Imm g' w') (Imm (ghB g g' ids ts) w') (blkOut σ.objs.length ids) (tokOut σ.toks ts s.toks) where
  imm := fun a u hu => by
    refine ⟨hu.1, fun hb => ?_⟩
    -- what the caller's other holders may turn, the callee was told of
    have key : Bad g a → ¬ WB (ghC g ids ts) a.block → False := fun h1 h2 => hu.2 (.inr (by rw [h.fr]; exact ⟨h1, fun h3 => h2 (wr_wb h3)⟩))
    rcases hb with hb | hb
    · rcases ghB_wr hb with h2 | ⟨i, h1, h2⟩ | ⟨i, ver, lo, hi, h1, h2⟩
      · exact hu.2 (.inl h2)
      · exact key (.inl (.inl ⟨i, h2⟩)) (other_blk hst hn h1 h2)
      · exact key (.inl (.inr ⟨i, ver, lo, hi, h2⟩)) (other_tk hst hm h1 h2.1)
    · have hf : g.fr a := hb
      by_cases hw : Wr (ghC g ids ts) a
      · rcases hw with ⟨i, hi⟩ | ⟨i, ver, lo, hi, ht, h1, h2⟩
        · exact hu.2 (.inl (.inl ⟨i, h.blk _ _ _ hi⟩))
        · obtain ⟨i', v', h3, h4⟩ := ghC_tk ht
          exact (hst.tok _ _ _ _ _ h4).2.2 a rfl h1 h2 hf
      · exact hu.2 (.inr (by rw [h.fr]; exact ⟨.inr hf, hw⟩))
  blk := fun i j hj b f hb => by
    rcases blkOut_some hj with h1 | ⟨h1, rfl⟩
    · obtain ⟨_, _, _, _, h2⟩ := h.blk_lt hst hl h1
      exact ⟨f, ghB_blk_in (idx_of_get hn h1) h2 hb⟩
    · refine ⟨f, ?_⟩
      rw [← hst.lb, ghB_blk_new, show ids.length + (i - ids.length) = i by omega]; exact hb
  tag := fun i ver A n c sz ht => by
    obtain ⟨ver0, x, h1, h2, h3⟩ := ht
    unfold tokOut
    split
    · rename_i hv
      have := tk_ver hst' h1
      rw [hv] at this; simp only [Option.some.injEq] at this
      split
      · rename_i k hk
        obtain ⟨v0, y, v', x', h4, h5⟩ := h.tk_lt hst hl' hk
        have h6 := tk_ver hst h4
        refine ⟨v0 + 1, x, ghB_tk_in (idx_of_get hm hk) h4 h1, by simp [h6], fun _ => h3 this⟩
      · rename_i hk
        have hk : ts.length ≤ i := by simpa using hk
        refine ⟨0, x, ?_, Nat.le_refl _, fun _ => h3 this⟩
        have hlen : σ.toks.length = g.tk.length := by rw [← hst.lt, List.length_map]
        rw [hlen, ghB_tk_new, show ts.length + (i - ts.length) = i by omega, h1]; rfl
    · trivial

theorem ghB_st (hst : RelSt g σ w) (h : Up (ghC g ids ts) w g' w') (hst' : RelSt g' s w') (hn : ids.Nodup) (hm : ts.Nodup) (hl : ids.all (live σ.objs) = true) (hl' : ts.all (fun i => decide (i < σ.toks.length)) = true) :
    RelSt (ghB g g' ids ts) ⟨(σ.objs.mapIdx fun i o => match idx ids i with | some j => ((s.objs[j]?).map (Ob.ren (blkOut σ.objs.length ids) (tokOut σ.toks ts s.toks))).getD .dead | none => o) ++ (s.objs.drop ids.length).map (Ob.ren (blkOut σ.objs.length ids) (tokOut σ.toks ts s.toks)),
        (σ.toks.mapIdx fun i ver => match idx ts i with | some _ => ver + 1 | none => ver) ++ (s.toks.drop ts.length).map fun _ => 0⟩ w' where
  lb := by
    show ((g.blk.mapIdx _) ++ _).length = (List.mapIdx _ _ ++ _).length
    simp only [List.length_append, List.length_mapIdx, List.length_drop, List.length_map]
    rw [hst.lb, hst'.lb]
  lt := by
    show List.map _ (List.mapIdx _ _ ++ List.map _ _) = _
    rw [List.map_append]
    congr 1
    · apply List.ext_getElem?
      intro i
      rw [List.getElem?_map, List.getElem?_mapIdx, List.getElem?_mapIdx, ← hst.lt, List.getElem?_map]
      cases g.tk[i]? with
      | none => rfl
      | some x => simp only [Option.map_some]; cases idx ts i <;> rfl
    · rw [← hst'.lt]
      simp only [← List.map_drop, List.map_map]
      rfl
  obj := fun i o ho => by
    have hren := ghB_ren hst h hst' hn hm hl hl'
    have hup := ghB_up hst h hn hm hl hl'
    have ho : ((σ.objs.mapIdx fun i o => match idx ids i with | some j => ((s.objs[j]?).map (Ob.ren (blkOut σ.objs.length ids) (tokOut σ.toks ts s.toks))).getD .dead | none => o) ++ (s.objs.drop ids.length).map (Ob.ren (blkOut σ.objs.length ids) (tokOut σ.toks ts s.toks)))[i]? = some o := ho
    rcases Nat.lt_or_ge i σ.objs.length with hlt | hge
    · rw [List.getElem?_append_left (by simpa using hlt), List.getElem?_mapIdx, List.getElem?_eq_getElem hlt] at ho
      simp only [Option.map_some, Option.some.injEq] at ho
      cases hi : idx ids i with
      | none =>
        rw [hi] at ho; dsimp only at ho; subst ho
        refine (hst.obj i _ (List.getElem?_eq_getElem hlt)).keep hup fun b f hb => h.keep b (hst.bsz _ _ _ hb) (other_blk hst hn hi hb)
      | some j =>
        rw [hi] at ho; dsimp only at ho; subst ho
        cases hs : s.objs[j]? with
        | none => trivial
        | some u => exact (hst'.obj j u hs).ren hren fun b f hb => ghB_blk_in hi (by rw [hst.lb]; exact hlt) hb
    · rw [List.getElem?_append_right (by simpa using hge), List.getElem?_map, List.getElem?_drop] at ho
      simp only [List.length_mapIdx] at ho
      cases hs : s.objs[ids.length + (i - σ.objs.length)]? with
      | none => rw [hs] at ho; cases ho
      | some u =>
        rw [hs] at ho; simp only [Option.map_some, Option.some.injEq] at ho; subst ho
        refine (hst'.obj _ u hs).ren hren fun b f hb => ?_
        have := ghB_blk_new (g := g) (g' := g') (ids := ids) (ts := ts) (i - σ.objs.length)
        rw [hst.lb, show σ.objs.length + (i - σ.objs.length) = i by omega] at this
        rw [this]; exact hb
  inj := fun i j b f f' hi hj => by
    -- one of the caller's other blocks against one that the callee knows
    have key : ∀ {i k : Nat} {f f' : Bool}, idx ids i = none → g.blk[i]? = some (some (b, f)) → g'.blk[k]? = some (some (b, f')) → False := by
      intro i k f f' h1 h2 h3
      obtain ⟨i', h4, h5⟩ := ghC_blk (h.nb _ _ _ h3 (hst.bsz _ _ _ h2))
      have := hst.inj _ _ _ _ _ h2 h5
      subst this; exact idx_none hn h1 h4
    rcases ghB_blk hi with ⟨_, h1, h2⟩ | ⟨_, k, h1, h2⟩ | ⟨k, rfl, h2⟩ <;> rcases ghB_blk hj with ⟨_, h3, h4⟩ | ⟨_, l, h3, h4⟩ | ⟨l, rfl, h4⟩
    · exact hst.inj _ _ _ _ _ h2 h4
    · exact (key h1 h2 h4).elim
    · exact (key h1 h2 h4).elim
    · exact (key h3 h4 h2).elim
    · have := hst'.inj _ _ _ _ _ h2 h4
      subst this
      have e1 := idx_some h1; have e2 := idx_some h3; rw [e1] at e2; simpa using e2
    · have := hst'.inj _ _ _ _ _ h2 h4
      have := getElem?_lt (idx_some h1); omega
    · exact (key h3 h4 h2).elim
    · have := hst'.inj _ _ _ _ _ h2 h4
      have := getElem?_lt (idx_some h3); omega
    · have := hst'.inj _ _ _ _ _ h2 h4; omega
  bsz := fun i b f hi => by
    rcases ghB_blk hi with ⟨_, h1, h2⟩ | ⟨_, k, h1, h2⟩ | ⟨k, rfl, h2⟩
    · exact Nat.lt_of_lt_of_le (hst.bsz _ _ _ h2) h.size
    · exact hst'.bsz _ _ _ h2
    · exact hst'.bsz _ _ _ h2
  tok := fun i ver b lo hi ht => by
    have mine : ∀ {k v : Nat}, g'.tk[k]? = some (v, some (b, lo, hi)) → (∃ c e, w'.heap[b]? = some (.cells c e (0, 0)) ∧ hi ≤ c.size) ∧ (∀ (k : Nat) (f : Bool), (ghB g g' ids ts).blk[k]? ≠ some (some (b, f))) ∧ ∀ a : Addr, a.block = b → lo ≤ a.off → a.off < hi → ¬ (ghB g g' ids ts).fr a := by
      intro k v hk
      obtain ⟨h1, h2, h3⟩ := hst'.tok _ _ _ _ _ hk
      refine ⟨h1, fun q f hq => ?_, fun a ha h4 h5 hf => ?_⟩
      · rcases ghB_blk hq with ⟨_, h6, h7⟩ | ⟨_, l, h6, h7⟩ | ⟨l, _, h7⟩
        · exact other_blk hst hn h6 h7 (h.wb b (hst.bsz _ _ _ h7) (.inr ⟨k, v, lo, hi, hk⟩))
        · exact h2 _ _ h7
        · exact h2 _ _ h7
      · have hf : g.fr a := hf
        have hlt := hst.fresh a hf
        have hw := h.wr a hlt (.inr ⟨k, v, lo, hi, by rw [ha]; exact hk, h4, h5⟩)
        rcases hw with ⟨q, hq⟩ | ⟨q, ver', lo', hi', hq, h6, h7⟩
        · exact h2 q true (by rw [← ha]; exact h.blk _ _ _ hq)
        · obtain ⟨q', v', _, h8⟩ := ghC_tk hq
          exact (hst.tok _ _ _ _ _ h8).2.2 a rfl h6 h7 hf
    rcases ghB_tk ht with ⟨_, h1, h2⟩ | ⟨_, k, v, h1, h2⟩ | ⟨k, v, _, h2⟩
    · obtain ⟨⟨c, e, h3, h4⟩, h5, h6⟩ := hst.tok _ _ _ _ _ h2
      have hlt := hst.bad_lt_tok h2
      refine ⟨⟨c, e, by rw [h.keep b hlt (other_tk hst hm h1 h2)]; exact h3, h4⟩, fun q f hq => ?_, h6⟩
      rcases ghB_blk hq with ⟨_, h7, h8⟩ | ⟨_, l, h7, h8⟩ | ⟨l, _, h8⟩
      · exact h5 _ _ h8
      · obtain ⟨i', _, h9⟩ := ghC_blk (h.nb _ _ _ h8 hlt); exact h5 _ _ h9
      · obtain ⟨i', _, h9⟩ := ghC_blk (h.nb _ _ _ h8 hlt); exact h5 _ _ h9
    · exact mine h2
    · exact mine h2
  gl := gl_up hst (ghB_up hst h hn hm hl hl')
  fresh := fun a ha => Nat.lt_of_lt_of_le (hst.fresh a ha) h.size
  tinj := fun i j ver ver' b lo hi lo' hi' hi1 hj1 => by
    have key : ∀ {i k v v' : Nat} {lo hi lo' hi' : Nat}, idx ts i = none → g.tk[i]? = some (v, some (b, lo, hi)) → g'.tk[k]? = some (v', some (b, lo', hi')) → False := by
      intro i k v v' lo hi lo' hi' h1 h2 h3
      exact other_tk hst hm h1 h2 (h.wb b (hst.bad_lt_tok h2) (.inr ⟨k, v', lo', hi', h3⟩))
    rcases ghB_tk hi1 with ⟨_, h1, h2⟩ | ⟨_, k, v, h1, h2⟩ | ⟨k, v, rfl, h2⟩ <;> rcases ghB_tk hj1 with ⟨_, h3, h4⟩ | ⟨_, l, v', h3, h4⟩ | ⟨l, v', rfl, h4⟩
    · exact hst.tinj _ _ _ _ _ _ _ _ _ h2 h4
    · exact (key h1 h2 h4).elim
    · exact (key h1 h2 h4).elim
    · exact (key h3 h4 h2).elim
    · have := hst'.tinj _ _ _ _ _ _ _ _ _ h2 h4
      subst this
      have e1 := idx_some h1; have e2 := idx_some h3; rw [e1] at e2; simpa using e2
    · have := hst'.tinj _ _ _ _ _ _ _ _ _ h2 h4
      have := getElem?_lt (idx_some h1); omega
    · exact (key h3 h4 h2).elim
    · have := hst'.tinj _ _ _ _ _ _ _ _ _ h2 h4
      have := getElem?_lt (idx_some h3); omega
    · have := hst'.tinj _ _ _ _ _ _ _ _ _ h2 h4; omega
end

theorem relock_st {g g' : Gh} {σ σ' : St} {w w' : World} (hst : RelSt g σ w) (hup : Up g w g' w') (h : RelSt g' σ' w') : RelSt g' ⟨relockL σ.objs σ'.objs, σ'.toks⟩ w' where
  lb := by show _ = (List.mapIdx _ _).length; rw [List.length_mapIdx]; exact h.lb
  lt := h.lt
  obj := fun i o ho => by
    have ho : (σ'.objs.mapIdx fun i o => match σ.objs[i]? with | some o' => cond (isLk o') o' o | none => o)[i]? = some o := ho
    rw [List.getElem?_mapIdx] at ho
    cases hn : σ'.objs[i]? with
    | none => rw [hn] at ho; cases ho
    | some o1 =>
      rw [hn] at ho
      simp only [Option.map_some, Option.some.injEq] at ho
      cases hs : σ.objs[i]? with
      | none => rw [hs] at ho; dsimp only at ho; subst ho; exact h.obj i _ hn
      | some o' =>
        rw [hs] at ho; dsimp only at ho
        cases hl : isLk o' with
        | false => rw [hl] at ho; simp only [cond_false] at ho; subst ho; exact h.obj i _ hn
        | true =>
          rw [hl] at ho; simp only [cond_true] at ho; subst ho
          have hob := hst.obj i o' hs
          have hlk : ∃ b, g.blk[i]? = some (some (b, false)) := by
            cases o' with
            | box f cs => cases f with
              | true => cases hl
              | false => obtain ⟨b, _, _, h1, _⟩ := hob; exact ⟨b, h1⟩
            | arr f fx t xs => cases f with
              | true => cases hl
              | false => obtain ⟨b, _, _, h1, _⟩ := hob; exact ⟨b, h1⟩
            | map f kt vt es => cases f with
              | true => cases hl
              | false => obtain ⟨b, _, _, h1, _⟩ := hob; exact ⟨b, h1⟩
            | dead => cases hl
          obtain ⟨b0, hb0⟩ := hlk
          refine hob.keep hup fun b f hb => hup.keep b (hst.bsz _ _ _ hb) ?_
          rw [hb0] at hb
          simp only [Option.some.injEq, Prod.mk.injEq] at hb
          obtain ⟨rfl, rfl⟩ := hb
          rintro (⟨k, hk⟩ | ⟨k, ver, lo, hi, hk⟩)
          · have := hst.inj _ _ _ _ _ hb0 hk
            subst this
            rw [hb0] at hk; simp at hk
          · exact (hst.tok _ _ _ _ _ hk).2.1 i false hb0
  inj := h.inj
  bsz := h.bsz
  tok := h.tok
  fresh := h.fresh
  tinj := h.tinj
  gl := h.gl
theorem vcallW_sound {ow : Bool} {F : Fun} {f : Nat} (hF : SoundFn P f F) (hro : F.ro = false) {σ : St} {args : List V} {K : V → St → Option R} {r : R} (hk : vcallW ow F args σ K = some r) : ∃ v σ', K v σ' = some r ∧ Entry P f ∧
    ∀ (g : Gh) (w : World) (rargs : Array Value), RelSt g σ w → RelL g (Imm g w) args rargs.toList →
      Calls P f rargs w fun e w' => ∃ rv g', e = .returned rv ∧ Up g w g' w' ∧ RelV g' (Imm g' w') v rv ∧ RelSt g' σ' w' := by
  unfold vcallW at hk
  generalize hids : reach σ.objs (σ.objs.length + 1000) (V.idsL args) [] = ids at hk
  dsimp only at hk
  generalize ht0 : (cond ow (args.flatMap (tokV σ.toks)) [] ++ ids.flatMap fun i => ((σ.objs[i]?).map (tokO σ.toks)).getD []) = t0 at hk
  generalize hts : reach [] (t0.length + 1) t0 [] = ts at hk
  have hn : ids.Nodup := by rw [← hids]; exact reach_nodup _ _ _ _ List.nodup_nil
  have hm : ts.Nodup := by rw [← hts]; exact reach_nodup _ _ _ _ List.nodup_nil
  split at hk
  · rename_i hlive
    obtain ⟨hl, hl'⟩ : ids.all (live σ.objs) = true ∧ ts.all (fun i => decide (i < σ.toks.length)) = true := by simpa using hlive
    obtain ⟨v, s, hk, hent, hrun⟩ := hF _ _ _ _ _ hk
    refine ⟨_, _, hk, hent, fun g w rargs hst hargs => ?_⟩
    refine (hrun (ghC g ids ts) w rargs (fun hr => by rw [hro] at hr; cases hr) (ghC_st hst hn hm) (renL_rel (by cases ow; exact ghC_ren0; exact ghC_ren hst) hargs)).mono fun e w' he => ?_
    obtain ⟨rv, g', h1, h2, h3, h4⟩ := he
    exact ⟨rv, ghB g g' ids ts, h1, ghB_up hst h2 hn hm hl hl', ren_rel (ghB_ren hst h2 h4 hn hm hl hl') h3, relock_st hst (ghB_up hst h2 hn hm hl hl') (ghB_st hst h2 h4 hn hm hl hl')⟩
  · cases hk
end
end Go.Proofs.Yticelgnmcjkknaa.Vm
