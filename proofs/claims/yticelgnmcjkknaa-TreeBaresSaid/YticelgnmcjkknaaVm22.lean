/-
A machine of values, part twenty-two: calls of functions that turn what they are handed; sound.
-/
import Derived.Test.YticelgnmcjkknaaVm21
set_option linter.unusedVariables false
set_option linter.unusedSimpArgs false
namespace Go.Proofs.Yticelgnmcjkknaa.Vm
section
variable {P : Program} {tt : Nat → TI} {R : Type}

/-- What is known of the places that a callee is handed. -/
def ghC (g : Gh) (ids ts : List Nat) : Gh :=
  let blk := ids.map fun i => (g.blk[i]?).join
  let tk := ts.map fun i => (0, ((g.tk[i]?).map (·.2)).join)
  ⟨blk, tk, fun a => Bad g a ∧ ¬ Wr ⟨blk, tk, fun _ => False⟩ a⟩
theorem ghC_blk {g : Gh} {ids ts : List Nat} {j b : Nat} {f : Bool} (h : (ghC g ids ts).blk[j]? = some (some (b, f))) : ∃ i, ids[j]? = some i ∧ g.blk[i]? = some (some (b, f)) := by
  have h : (ids.map fun i => (g.blk[i]?).join)[j]? = some (some (b, f)) := h
  rw [List.getElem?_map] at h
  cases hi : ids[j]? with
  | none => rw [hi] at h; cases h
  | some i =>
    rw [hi] at h
    simp only [Option.map_some, Option.some.injEq] at h
    cases hb : g.blk[i]? with
    | none => rw [hb] at h; cases h
    | some x => rw [hb] at h; simp only [Option.join_some] at h; subst h; exact ⟨i, rfl, hb⟩
theorem ghC_of {g : Gh} {ids ts : List Nat} {i j b : Nat} {f : Bool} (hj : ids[j]? = some i) (h : g.blk[i]? = some (some (b, f))) : (ghC g ids ts).blk[j]? = some (some (b, f)) := by
  show (ids.map fun i => (g.blk[i]?).join)[j]? = _
  rw [List.getElem?_map, hj]; simp [h]
theorem ghC_tk {g : Gh} {ids ts : List Nat} {j ver : Nat} {x : Nat × Nat × Nat} (h : (ghC g ids ts).tk[j]? = some (ver, some x)) : ∃ i ver', ts[j]? = some i ∧ g.tk[i]? = some (ver', some x) := by
  have h : (ts.map fun i => (0, ((g.tk[i]?).map (·.2)).join))[j]? = some (ver, some x) := h
  rw [List.getElem?_map] at h
  cases hi : ts[j]? with
  | none => rw [hi] at h; cases h
  | some i =>
    rw [hi] at h
    simp only [Option.map_some, Option.some.injEq, Prod.mk.injEq] at h
    cases hb : g.tk[i]? with
    | none => rw [hb] at h; cases h.2
    | some y => rw [hb] at h; obtain ⟨y1, y2⟩ := y; simp only [Option.map_some, Option.join_some] at h; obtain ⟨_, rfl⟩ := h; exact ⟨i, y1, rfl, hb⟩
theorem ghC_tof {g : Gh} {ids ts : List Nat} {i j ver : Nat} {x : Option (Nat × Nat × Nat)} (hj : ts[j]? = some i) (h : g.tk[i]? = some (ver, x)) : (ghC g ids ts).tk[j]? = some (0, x) := by
  show (ts.map fun i => (0, ((g.tk[i]?).map (·.2)).join))[j]? = _
  rw [List.getElem?_map, hj]; simp [h]
theorem ghC_wr {g : Gh} {ids ts : List Nat} {a : Addr} (h : Wr (ghC g ids ts) a) : Wr g a := by
  rcases h with ⟨i, hi⟩ | ⟨i, ver, lo, hi, ht, h1⟩
  · obtain ⟨i', _, h2⟩ := ghC_blk hi; exact .inl ⟨i', h2⟩
  · obtain ⟨i', ver', _, h2⟩ := ghC_tk ht; exact .inr ⟨i', ver', lo, hi, h2, h1⟩
theorem ghC_wb {g : Gh} {ids ts : List Nat} {b : Nat} (h : WB (ghC g ids ts) b) : WB g b := by
  rcases h with ⟨i, hi⟩ | ⟨i, ver, lo, hi, ht⟩
  · obtain ⟨i', _, h2⟩ := ghC_blk hi; exact .inl ⟨i', h2⟩
  · obtain ⟨i', ver', _, h2⟩ := ghC_tk ht; exact .inr ⟨i', ver', lo, hi, h2⟩
theorem ghC_fr {g : Gh} {ids ts : List Nat} {a : Addr} : (ghC g ids ts).fr a ↔ Bad g a ∧ ¬ Wr (ghC g ids ts) a := Iff.rfl
theorem ghC_bad {g : Gh} {ids ts : List Nat} {a : Addr} : Bad (ghC g ids ts) a ↔ Bad g a := by
  constructor
  · rintro (h | h)
    · exact .inl (ghC_wr h)
    · exact h.1
  · intro h
    by_cases hw : Wr (ghC g ids ts) a
    · exact .inl hw
    · exact .inr ⟨h, hw⟩
theorem ghC_imm {g : Gh} {ids ts : List Nat} {w : World} (a : Addr) (u : Value) (h : Imm g w a u) : Imm (ghC g ids ts) w a u := ⟨h.1, fun hb => h.2 (ghC_bad.1 hb)⟩
theorem tk_ver {g : Gh} {σ : St} {w : World} (h : RelSt g σ w) {i ver : Nat} {x : Option (Nat × Nat × Nat)} (ht : g.tk[i]? = some (ver, x)) : σ.toks[i]? = some ver := by
  rw [← h.lt, List.getElem?_map, ht]; rfl
theorem tk_get {g : Gh} {σ : St} {w : World} (h : RelSt g σ w) {i ver : Nat} (ht : σ.toks[i]? = some ver) : ∃ x, g.tk[i]? = some (ver, x) := by
  rw [← h.lt, List.getElem?_map] at ht
  cases hg : g.tk[i]? with
  | none => rw [hg] at ht; cases ht
  | some y => rw [hg] at ht; simp only [Option.map_some, Option.some.injEq] at ht; subst ht; exact ⟨y.2, rfl⟩
theorem ghC_ren {g : Gh} {ids ts : List Nat} {σ : St} {w : World} (h : RelSt g σ w) : RenOk g (ghC g ids ts) (Imm g w) (Imm (ghC g ids ts) w) (idx ids) (tokIn σ.toks ts) where
  imm := ghC_imm
  blk := fun i j hj b f hb => ⟨f, ghC_of (idx_some hj) hb⟩
  tag := fun i ver A n c sz ht => by
    unfold tokIn
    split
    · rename_i hv
      split
      · rename_i j hj
        obtain ⟨ver0, x, h1, h2, h3⟩ := ht
        have := tk_ver h h1
        rw [hv] at this; simp only [Option.some.injEq] at this
        exact ⟨0, x, ghC_tof (idx_some hj) h1, Nat.le_refl _, fun _ => h3 this⟩
      · trivial
    · trivial
theorem ghC_ren0 {g : Gh} {ids ts : List Nat} {w : World} : RenOk g (ghC g ids ts) (Imm g w) (Imm (ghC g ids ts) w) (idx ids) noTag where
  imm := ghC_imm
  blk := fun i j hj b f hb => ⟨f, ghC_of (idx_some hj) hb⟩
  tag := fun _ _ _ _ _ _ _ => trivial
theorem ghC_st {g : Gh} {ids ts : List Nat} {σ : St} {w : World} (h : RelSt g σ w) (hn : ids.Nodup) (hm : ts.Nodup) :
    RelSt (ghC g ids ts) ⟨ids.map fun i => ((σ.objs[i]?).map (Ob.ren (idx ids) (tokIn σ.toks ts))).getD .dead, ts.map fun _ => 0⟩ w where
  lb := by show (List.map _ _).length = (List.map _ _).length; rw [List.length_map, List.length_map]
  lt := by show List.map _ (List.map _ _) = List.map _ _; rw [List.map_map]; rfl
  obj := fun j o ho => by
    have ho : (ids.map fun i => ((σ.objs[i]?).map (Ob.ren (idx ids) (tokIn σ.toks ts))).getD .dead)[j]? = some o := ho
    rw [List.getElem?_map] at ho
    cases hi : ids[j]? with
    | none => rw [hi] at ho; cases ho
    | some i =>
      rw [hi] at ho
      simp only [Option.map_some, Option.some.injEq] at ho
      subst ho
      cases hs : σ.objs[i]? with
      | none => trivial
      | some u => exact (h.obj i u hs).ren (ghC_ren h) fun b f hb => ghC_of hi hb
  inj := fun i j b f f' hi hj => by
    obtain ⟨i', h1, h2⟩ := ghC_blk hi
    obtain ⟨j', h3, h4⟩ := ghC_blk hj
    have := h.inj i' j' b _ _ h2 h4
    subst this
    have e1 := idx_of_get hn h1
    have e2 := idx_of_get hn h3
    rw [e1] at e2; simpa using e2
  bsz := fun i b f hi => by obtain ⟨i', h1, h2⟩ := ghC_blk hi; exact h.bsz i' b _ h2
  tok := fun i ver b lo hi ht => by
    obtain ⟨i', ver', h1, h2⟩ := ghC_tk ht
    obtain ⟨h3, h4, h5⟩ := h.tok i' ver' b lo hi h2
    refine ⟨h3, fun k f hk => ?_, fun a ha h6 h7 hf => ?_⟩
    · obtain ⟨k', _, h8⟩ := ghC_blk hk; exact h4 k' f h8
    · exact hf.2 (.inr ⟨i, ver, lo, hi, by rw [ha]; exact ht, h6, h7⟩)
  gl := fun hn => (h.gl hn).imp fun m hm => ghC_imm _ _ hm
  fresh := fun a ha => h.bad_lt a ha.1
  tinj := fun i j ver ver' b lo hi lo' hi' ht ht' => by
    obtain ⟨i', v1, h1, h2⟩ := ghC_tk ht
    obtain ⟨j', v2, h3, h4⟩ := ghC_tk ht'
    have := h.tinj i' j' _ _ _ _ _ _ _ h2 h4
    subst this
    have e1 := idx_of_get hm h1
    have e2 := idx_of_get hm h3
    rw [e1] at e2; simpa using e2

/-! ### back from the callee -/
def ghB (g g' : Gh) (ids ts : List Nat) : Gh :=
  ⟨(g.blk.mapIdx fun i x => match idx ids i with | some j => (g'.blk[j]?).join | none => x) ++ g'.blk.drop ids.length,
   (g.tk.mapIdx fun i x => match idx ts i with | some j => (x.1 + 1, ((g'.tk[j]?).map (·.2)).join) | none => x) ++ (g'.tk.drop ts.length).map (fun x => (0, x.2)), g.fr⟩
section
variable {g g' : Gh} {ids ts : List Nat}
/-- Whence a place comes. -/
theorem ghB_blk {i b : Nat} {f : Bool} (h : (ghB g g' ids ts).blk[i]? = some (some (b, f))) :
    (i < g.blk.length ∧ idx ids i = none ∧ g.blk[i]? = some (some (b, f))) ∨ (i < g.blk.length ∧ ∃ j, idx ids i = some j ∧ g'.blk[j]? = some (some (b, f))) ∨ (∃ k, i = g.blk.length + k ∧ g'.blk[ids.length + k]? = some (some (b, f))) := by
  have h : ((g.blk.mapIdx fun i x => match idx ids i with | some j => (g'.blk[j]?).join | none => x) ++ g'.blk.drop ids.length)[i]? = some (some (b, f)) := h
  rcases Nat.lt_or_ge i g.blk.length with hlt | hge
  · rw [List.getElem?_append_left (by simpa using hlt), List.getElem?_mapIdx] at h
    rw [List.getElem?_eq_getElem hlt] at h
    simp only [Option.map_some, Option.some.injEq] at h
    cases hi : idx ids i with
    | none => rw [hi] at h; dsimp only at h; exact .inl ⟨hlt, rfl, by rw [List.getElem?_eq_getElem hlt, h]⟩
    | some j =>
      rw [hi] at h
      refine .inr (.inl ⟨hlt, j, rfl, ?_⟩)
      cases hg : g'.blk[j]? with
      | none => simp [hg] at h
      | some x => simp only [hg, Option.join_some] at h; rw [h]
  · rw [List.getElem?_append_right (by simpa using hge), List.getElem?_drop] at h
    simp only [List.length_mapIdx] at h
    exact .inr (.inr ⟨i - g.blk.length, by omega, h⟩)
theorem ghB_blk_in {i j b : Nat} {f : Bool} (hi : idx ids i = some j) (hlt : i < g.blk.length) (h : g'.blk[j]? = some (some (b, f))) : (ghB g g' ids ts).blk[i]? = some (some (b, f)) := by
  show ((g.blk.mapIdx fun i x => match idx ids i with | some j => (g'.blk[j]?).join | none => x) ++ g'.blk.drop ids.length)[i]? = _
  rw [List.getElem?_append_left (by simpa using hlt), List.getElem?_mapIdx, List.getElem?_eq_getElem hlt]
  simp [hi, h]
theorem ghB_blk_out {i : Nat} (hi : idx ids i = none) (hlt : i < g.blk.length) : (ghB g g' ids ts).blk[i]? = g.blk[i]? := by
  show ((g.blk.mapIdx fun i x => match idx ids i with | some j => (g'.blk[j]?).join | none => x) ++ g'.blk.drop ids.length)[i]? = _
  rw [List.getElem?_append_left (by simpa using hlt), List.getElem?_mapIdx, List.getElem?_eq_getElem hlt]
  simp [hi]
theorem ghB_blk_new (k : Nat) : (ghB g g' ids ts).blk[g.blk.length + k]? = g'.blk[ids.length + k]? := by
  show ((g.blk.mapIdx fun i x => match idx ids i with | some j => (g'.blk[j]?).join | none => x) ++ g'.blk.drop ids.length)[g.blk.length + k]? = _
  rw [List.getElem?_append_right (by simp), List.getElem?_drop]
  simp
theorem ghB_tk {i ver : Nat} {x : Nat × Nat × Nat} (h : (ghB g g' ids ts).tk[i]? = some (ver, some x)) :
    (i < g.tk.length ∧ idx ts i = none ∧ g.tk[i]? = some (ver, some x)) ∨ (i < g.tk.length ∧ ∃ j ver', idx ts i = some j ∧ g'.tk[j]? = some (ver', some x)) ∨ (∃ k ver', i = g.tk.length + k ∧ g'.tk[ts.length + k]? = some (ver', some x)) := by
  have h : ((g.tk.mapIdx fun i x => match idx ts i with | some j => (x.1 + 1, ((g'.tk[j]?).map (·.2)).join) | none => x) ++ (g'.tk.drop ts.length).map (fun x => (0, x.2)))[i]? = some (ver, some x) := h
  rcases Nat.lt_or_ge i g.tk.length with hlt | hge
  · rw [List.getElem?_append_left (by simpa using hlt), List.getElem?_mapIdx] at h
    rw [List.getElem?_eq_getElem hlt] at h
    simp only [Option.map_some, Option.some.injEq] at h
    cases hi : idx ts i with
    | none => rw [hi] at h; dsimp only at h; exact .inl ⟨hlt, rfl, by rw [List.getElem?_eq_getElem hlt, h]⟩
    | some j =>
      rw [hi] at h
      simp only [Prod.mk.injEq] at h
      cases hg : g'.tk[j]? with
      | none => simp [hg] at h
      | some y => obtain ⟨y1, y2⟩ := y; simp only [hg, Option.map_some, Option.join_some] at h; exact .inr (.inl ⟨hlt, j, y1, rfl, by rw [hg, h.2]⟩)
  · rw [List.getElem?_append_right (by simpa using hge), List.getElem?_map, List.getElem?_drop] at h
    simp only [List.length_mapIdx] at h
    cases hg : g'.tk[ts.length + (i - g.tk.length)]? with
    | none => rw [hg] at h; cases h
    | some y =>
      obtain ⟨y1, y2⟩ := y
      rw [hg] at h
      simp only [Option.map_some, Option.some.injEq, Prod.mk.injEq] at h
      exact .inr (.inr ⟨i - g.tk.length, y1, by omega, by rw [hg, h.2]⟩)
theorem ghB_tk_in {i j ver ver' : Nat} {x y : Option (Nat × Nat × Nat)} (hi : idx ts i = some j) (hg : g.tk[i]? = some (ver, y)) (h : g'.tk[j]? = some (ver', x)) : (ghB g g' ids ts).tk[i]? = some (ver + 1, x) := by
  show ((g.tk.mapIdx fun i x => match idx ts i with | some j => (x.1 + 1, ((g'.tk[j]?).map (·.2)).join) | none => x) ++ (g'.tk.drop ts.length).map (fun x => (0, x.2)))[i]? = _
  rw [List.getElem?_append_left (by simpa using getElem?_lt hg), List.getElem?_mapIdx, hg]
  simp [hi, h]
theorem ghB_tk_out {i : Nat} (hi : idx ts i = none) (hlt : i < g.tk.length) : (ghB g g' ids ts).tk[i]? = g.tk[i]? := by
  show ((g.tk.mapIdx fun i x => match idx ts i with | some j => (x.1 + 1, ((g'.tk[j]?).map (·.2)).join) | none => x) ++ (g'.tk.drop ts.length).map (fun x => (0, x.2)))[i]? = _
  rw [List.getElem?_append_left (by simpa using hlt), List.getElem?_mapIdx, List.getElem?_eq_getElem hlt]
  simp [hi]
theorem ghB_tk_new (k : Nat) : (ghB g g' ids ts).tk[g.tk.length + k]? = (g'.tk[ts.length + k]?).map fun x => (0, x.2) := by
  show ((g.tk.mapIdx fun i x => match idx ts i with | some j => (x.1 + 1, ((g'.tk[j]?).map (·.2)).join) | none => x) ++ (g'.tk.drop ts.length).map (fun x => (0, x.2)))[g.tk.length + k]? = _
  rw [List.getElem?_append_right (by simp), List.getElem?_map, List.getElem?_drop]
  simp
/-- What may be turned afterwards: by the callee's holders, or by the caller's other ones. -/
theorem ghB_wr {a : Addr} (h : Wr (ghB g g' ids ts) a) : Wr g' a ∨ (∃ i, idx ids i = none ∧ g.blk[i]? = some (some (a.block, true))) ∨ (∃ i ver lo hi, idx ts i = none ∧ g.tk[i]? = some (ver, some (a.block, lo, hi)) ∧ lo ≤ a.off ∧ a.off < hi) := by
  rcases h with ⟨i, hi⟩ | ⟨i, ver, lo, hi, ht, h1⟩
  · rcases ghB_blk hi with ⟨_, h2, h3⟩ | ⟨_, j, _, h3⟩ | ⟨k, _, h3⟩
    · exact .inr (.inl ⟨i, h2, h3⟩)
    · exact .inl (.inl ⟨j, h3⟩)
    · exact .inl (.inl ⟨_, h3⟩)
  · rcases ghB_tk ht with ⟨_, h2, h3⟩ | ⟨_, j, v, _, h3⟩ | ⟨k, v, _, h3⟩
    · exact .inr (.inr ⟨i, ver, lo, hi, h2, h3, h1⟩)
    · exact .inl (.inr ⟨j, v, lo, hi, h3, h1⟩)
    · exact .inl (.inr ⟨_, v, lo, hi, h3, h1⟩)
theorem ghB_wb {b : Nat} (h : WB (ghB g g' ids ts) b) : WB g' b ∨ (∃ i, idx ids i = none ∧ g.blk[i]? = some (some (b, true))) ∨ (∃ i ver lo hi, idx ts i = none ∧ g.tk[i]? = some (ver, some (b, lo, hi))) := by
  rcases h with ⟨i, hi⟩ | ⟨i, ver, lo, hi, ht⟩
  · rcases ghB_blk hi with ⟨_, h2, h3⟩ | ⟨_, j, _, h3⟩ | ⟨k, _, h3⟩
    · exact .inr (.inl ⟨i, h2, h3⟩)
    · exact .inl (.inl ⟨j, h3⟩)
    · exact .inl (.inl ⟨_, h3⟩)
  · rcases ghB_tk ht with ⟨_, h2, h3⟩ | ⟨_, j, v, _, h3⟩ | ⟨k, v, _, h3⟩
    · exact .inr (.inr ⟨i, ver, lo, hi, h2, h3⟩)
    · exact .inl (.inr ⟨j, v, lo, hi, h3⟩)
    · exact .inl (.inr ⟨_, v, lo, hi, h3⟩)
end
end
end Go.Proofs.Yticelgnmcjkknaa.Vm
