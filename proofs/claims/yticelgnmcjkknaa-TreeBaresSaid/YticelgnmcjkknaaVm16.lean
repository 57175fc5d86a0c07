/-
A machine of values, sixteenth part: objects that are made, and turned.
-/
import Derived.Test.YticelgnmcjkknaaVm15
import Derived.Laws.CopyRow
set_option linter.unusedVariables false
set_option linter.unusedSimpArgs false
namespace Go.Proofs.Yticelgnmcjkknaa.Vm
open Go.RowKit (Below)
section
variable {P : Program} {tt : Nat → TI} {R : Type}

theorem RelSt.bad_lt {g : Gh} {σ : St} {w : World} (h : RelSt g σ w) : ∀ a, Bad g a → a.block < w.heap.size := by
  intro a ha
  rcases ha with (⟨i, hi⟩ | ⟨i, ver, lo, hi, ht, _⟩) | hf
  · exact h.bsz i _ _ hi
  · obtain ⟨⟨c, e, hc, _⟩, _⟩ := h.tok i ver a.block lo hi ht
    rcases Nat.lt_or_ge a.block w.heap.size with h' | h'
    · exact h'
    · rw [Array.getElem?_eq_none h'] at hc; cases hc
  · exact h.fresh a hf
theorem RelSt.bad_lt_tok {g : Gh} {σ : St} {w : World} (h : RelSt g σ w) {i ver b lo hi : Nat} (ht : g.tk[i]? = some (ver, some (b, lo, hi))) : b < w.heap.size := by
  obtain ⟨⟨c, e, hc, _⟩, _⟩ := h.tok i ver b lo hi ht
  rcases Nat.lt_or_ge b w.heap.size with h' | h'
  · exact h'
  · rw [Array.getElem?_eq_none h'] at hc; cases hc
theorem RelOb.keep {g g' : Gh} {w w' : World} {i : Nat} {o : Ob} (h : RelOb g w i o) (hu : Up g w g' w') (hb : ∀ (b : Nat) (f : Bool), g.blk[i]? = some (some (b, f)) → w'.heap[b]? = w.heap[b]?) : RelOb g' w' i o := by
  cases o with
  | dead => trivial
  | box f cs =>
    obtain ⟨b, c, e, h1, h2, h3, h4⟩ := h
    exact ⟨b, c, e, hu.blk _ _ _ h1, by rw [hb b f h1]; exact h2, h3, fun j v hj => by obtain ⟨rv, h5, h6, h7⟩ := h4 j v hj; exact ⟨rv, h5, h6.up hu, h7⟩⟩
  | arr f fx t xs =>
    obtain ⟨b, c, e, h1, h2, h3, hfx, h4⟩ := h
    exact ⟨b, c, e, hu.blk _ _ _ h1, by rw [hb b f h1]; exact h2, h3, hfx, fun j x hj => by obtain ⟨cs, h5, h6⟩ := h4 j x hj; exact ⟨cs, h5.mono hu.cells, h6⟩⟩
  | map f kt vt es =>
    obtain ⟨b, ents, clock, h1, h2, h3, h4⟩ := h
    exact ⟨b, ents, clock, hu.blk _ _ _ h1, by rw [hb b f h1]; exact h2, h3, fun j e m hj hm => by obtain ⟨h5, h6⟩ := h4 j e m hj hm; exact ⟨h5.up hu, h6.up hu⟩⟩
theorem RelObs.below {g : Gh} {w w' : World} {objs : List Ob} (h : RelObs g w objs) (hb : Below w.heap.size w w') (hs : ∀ (i b : Nat) (f : Bool), g.blk[i]? = some (some (b, f)) → b < w.heap.size) : RelObs g w' objs :=
  fun i o ho => (h i o ho).keep (.of_below hb) fun b f hbf => hb.block b (hs i b f hbf)
theorem RelSt.below {g : Gh} {σ : St} {w w' : World} (h : RelSt g σ w) (hb : Below w.heap.size w w') : RelSt g σ w' where
  lb := h.lb
  lt := h.lt
  obj := RelObs.below h.obj hb h.bsz
  inj := h.inj
  bsz := fun i b f hi => Nat.lt_of_lt_of_le (h.bsz i b f hi) hb.size
  tok := fun i ver b lo hi ht => by
    obtain ⟨⟨c, e, h1, h2⟩, h3, h4⟩ := h.tok i ver b lo hi ht
    refine ⟨⟨c, e, ?_, h2⟩, h3, h4⟩
    rw [hb.block b (h.bad_lt_tok ht)]; exact h1
  fresh := fun a ha => Nat.lt_of_lt_of_le (h.fresh a ha) hb.size
  tinj := h.tinj
  gl := gl_up h (.of_below hb)

/-! ### a new object -/
def Gh.new (g : Gh) (b : Nat) : Gh := { g with blk := g.blk ++ [some (b, true)] }
theorem new_blk_old {g : Gh} {b i : Nat} {x : Option (Nat × Bool)} (h : g.blk[i]? = some x) : (g.new b).blk[i]? = some x := by
  show (g.blk ++ [some (b, true)])[i]? = some x
  rw [List.getElem?_append_left (getElem?_lt h)]; exact h
theorem new_blk_inv {g : Gh} {b i : Nat} {x : Option (Nat × Bool)} (h : (g.new b).blk[i]? = some x) : g.blk[i]? = some x ∨ (i = g.blk.length ∧ x = some (b, true)) := by
  have h : (g.blk ++ [some (b, true)])[i]? = some x := h
  rcases Nat.lt_or_ge i g.blk.length with h' | h'
  · rw [List.getElem?_append_left h'] at h; exact .inl h
  · rw [List.getElem?_append_right h'] at h
    have : i - g.blk.length = 0 := by have := getElem?_lt h; simp at this; omega
    rw [this] at h
    simp only [List.getElem?_cons_zero, Option.some.injEq] at h
    exact .inr ⟨by omega, h.symm⟩
theorem up_new {g : Gh} {σ : St} {w w' : World} (h : RelSt g σ w) (hb : Below w.heap.size w w') : Up g w (g.new w.heap.size) w' where
  os := hb.os
  tape := hb.tape
  output := hb.output
  size := hb.size
  keep := fun b hlt _ => hb.block b hlt
  wb := fun b hlt hw => by
    rcases hw with ⟨i, hi⟩ | ht
    · rcases new_blk_inv hi with hi | ⟨_, e⟩
      · exact .inl ⟨i, hi⟩
      · simp only [Option.some.injEq, Prod.mk.injEq] at e; omega
    · exact .inr ht
  cells := fun a v ⟨h1, h2⟩ => by
    have hlt := cell_block h1
    refine ⟨(cell_of_block (hb.block _ hlt)).trans h1, fun hbad => h2 ?_⟩
    rcases hbad with (⟨i, hi⟩ | ht) | hf
    · rcases new_blk_inv hi with hi | ⟨_, e⟩
      · exact .inl (.inl ⟨i, hi⟩)
      · simp only [Option.some.injEq, Prod.mk.injEq] at e; omega
    · exact .inl (.inr ht)
    · exact .inr hf
  wr := fun a hlt hw => by
    rcases hw with ⟨i, hi⟩ | ht
    · rcases new_blk_inv hi with hi | ⟨_, e⟩
      · exact .inl ⟨i, hi⟩
      · simp only [Option.some.injEq, Prod.mk.injEq] at e; omega
    · exact .inr ht
  fr := rfl
  blk := fun i b f hi => new_blk_old hi
  nb := fun i b f hi hlt => by
    rcases new_blk_inv hi with hi | ⟨_, e⟩
    · exact hi
    · simp only [Option.some.injEq, Prod.mk.injEq] at e; omega
  tk := fun i ver R h => ⟨ver, R, h, Nat.le_refl _, fun _ => rfl⟩
/-- A new block for a new object. -/
theorem st_new {g : Gh} {σ : St} {w w' : World} {o : Ob} (h : RelSt g σ w) (hb : Below w.heap.size w w') (hlt : w.heap.size < w'.heap.size) (ho : RelOb (g.new w.heap.size) w' σ.objs.length o) : RelSt (g.new w.heap.size) ⟨σ.objs ++ [o], σ.toks⟩ w' where
  lb := by show (g.blk ++ _).length = (σ.objs ++ [o]).length; rw [List.length_append, List.length_append, h.lb]; rfl
  lt := h.lt
  obj := fun i o' hi => by
    have hi : (σ.objs ++ [o])[i]? = some o' := hi
    rcases Nat.lt_or_ge i σ.objs.length with h' | h'
    · rw [List.getElem?_append_left h'] at hi
      refine (h.obj i o' hi).keep (up_new h hb) fun b f hbf => hb.block b (h.bsz i b f hbf)
    · rw [List.getElem?_append_right h'] at hi
      have h0 : i - σ.objs.length = 0 := by have := getElem?_lt hi; simp at this; omega
      rw [h0] at hi
      simp only [List.getElem?_cons_zero, Option.some.injEq] at hi
      have h1 : i = σ.objs.length := by omega
      subst hi; subst h1; exact ho
  inj := fun i j b f f' hi hj => by
    rcases new_blk_inv hi with hi | ⟨ei, e⟩ <;> rcases new_blk_inv hj with hj | ⟨ej, e'⟩
    · exact h.inj i j b f f' hi hj
    · simp only [Option.some.injEq, Prod.mk.injEq] at e'; have := h.bsz i b f hi; omega
    · simp only [Option.some.injEq, Prod.mk.injEq] at e; have := h.bsz j b f' hj; omega
    · omega
  bsz := fun i b f hi => by
    rcases new_blk_inv hi with hi | ⟨ei, e⟩
    · exact Nat.lt_of_lt_of_le (h.bsz i b f hi) hb.size
    · simp only [Option.some.injEq, Prod.mk.injEq] at e; omega
  tok := fun i ver b lo hi ht => by
    have hb' := h.bad_lt_tok ht
    obtain ⟨⟨c, e, h1, h2⟩, h3, h4⟩ := h.tok i ver b lo hi ht
    refine ⟨⟨c, e, by rw [hb.block b hb']; exact h1, h2⟩, fun k f hk => ?_, h4⟩
    rcases new_blk_inv hk with hk | ⟨_, e⟩
    · exact h3 k f hk
    · simp only [Option.some.injEq, Prod.mk.injEq] at e; omega
  fresh := fun a ha => Nat.lt_of_lt_of_le (h.fresh a ha) hb.size
  tinj := h.tinj
  gl := gl_up h (up_new h hb)
theorem blk_last {g : Gh} {σ : St} {w : World} (h : RelSt g σ w) (b : Nat) : (g.new b).blk[σ.objs.length]? = some (some (b, true)) := by
  show (g.blk ++ [some (b, true)])[σ.objs.length]? = _
  rw [← h.lb, List.getElem?_append_right (Nat.le_refl _)]; simp

/-! ### an object is turned -/
theorem up_turn {g : Gh} {σ : St} {w w' : World} (h : RelSt g σ w) {i b : Nat} (hb : g.blk[i]? = some (some (b, true))) (hos : w'.os = w.os) (ht : w'.tape = w.tape) (hout : w'.output = w.output) (hsz : w'.heap.size = w.heap.size)
    (hk : ∀ k, k ≠ b → w'.heap[k]? = w.heap[k]?) : Up g w g w' where
  os := hos
  tape := ht
  output := hout
  size := by omega
  keep := fun k hlt hw => hk k fun e => hw (.inl ⟨i, by rw [e]; exact hb⟩)
  wb := fun _ _ h => h
  cells := fun a v ⟨h1, h2⟩ => ⟨(cell_of_block (hk _ fun e => h2 (.inl (.inl ⟨i, by rw [e]; exact hb⟩)))).trans h1, h2⟩
  wr := fun _ _ h => h
  fr := rfl
  blk := fun _ _ _ h => h
  nb := fun _ _ _ h _ => h
  tk := fun i ver R h => ⟨ver, R, h, Nat.le_refl _, fun _ => rfl⟩
theorem st_turn {g : Gh} {σ : St} {w w' : World} (h : RelSt g σ w) {i b : Nat} (hb : g.blk[i]? = some (some (b, true))) (hos : w'.os = w.os) (ht : w'.tape = w.tape) (hout : w'.output = w.output) (hsz : w'.heap.size = w.heap.size)
    (hk : ∀ k, k ≠ b → w'.heap[k]? = w.heap[k]?) {o : Ob} (ho : RelOb g w' i o) : RelSt g ⟨σ.objs.set i o, σ.toks⟩ w' where
  lb := by show _ = (σ.objs.set i o).length; rw [List.length_set]; exact h.lb
  lt := h.lt
  obj := fun j o' hj => by
    have hj : (σ.objs.set i o)[j]? = some o' := hj
    by_cases hij : i = j
    · subst hij
      rw [List.getElem?_set_self (by have := getElem?_lt hj; simpa using this)] at hj
      simp only [Option.some.injEq] at hj; subst hj; exact ho
    · rw [List.getElem?_set_ne hij] at hj
      exact (h.obj j o' hj).keep (up_turn h hb hos ht hout hsz hk) fun b' f hb' => hk b' fun e => hij (h.inj i j b true f hb (by rw [← e]; exact hb'))
  inj := h.inj
  bsz := fun j b' f hj => by rw [hsz]; exact h.bsz j b' f hj
  tok := fun j ver b' lo hi hj => by
    obtain ⟨⟨c, e, h1, h2⟩, h3, h4⟩ := h.tok j ver b' lo hi hj
    exact ⟨⟨c, e, by rw [hk b' fun e => h3 i true (by rw [e]; exact hb)]; exact h1, h2⟩, h3, h4⟩
  fresh := fun a ha => by rw [hsz]; exact h.fresh a ha
  tinj := h.tinj
  gl := gl_up h (up_turn h hb hos ht hout hsz hk)
end
end Go.Proofs.Yticelgnmcjkknaa.Vm
