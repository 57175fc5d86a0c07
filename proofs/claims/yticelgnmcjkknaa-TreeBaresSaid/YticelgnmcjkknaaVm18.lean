/-
A machine of values, eighteenth part: append.
-/
import Derived.Test.YticelgnmcjkknaaVm17
import Derived.Deep.Upon
set_option linter.unusedVariables false
set_option linter.unusedSimpArgs false
namespace Go.Proofs.Yticelgnmcjkknaa.Vm
open Go.RowKit (Below)
section
variable {P : Program} {tt : Nat → TI} {R : Type}

/-- Elements are what an append may take. -/
theorem src_of (hT : TtOk P tt) {tx : Nat} (hs : seqTI (tt tx) = true) {g : Gh} {w : World} {t : Ty} {ys : List t.D} {rx : Value} (h : Elems g w t ys rx) :
    ∃ css : List (List Value), css.length = ys.length ∧ (∀ (i : Nat) (x : t.D) (cs : List Value), ys[i]? = some x → css[i]? = some cs → Rd (Imm g w) t x cs) ∧ Src P (wd t) tx rx ys.length css.flatten w := by
  obtain ⟨css, h1, h2, h3⟩ := h
  refine ⟨css, h1, h2, ?_⟩
  have hl : ∀ cs ∈ css, cs.length = wd t := by
    intro cs hcs
    obtain ⟨k, hk, rfl⟩ := List.getElem_of_mem hcs
    have hx : k < ys.length := by omega
    exact (h2 k _ _ (List.getElem?_eq_getElem hx) (List.getElem?_eq_getElem hk)).len
  have hone : ∀ u ∈ css.flatten, u.oneCell' = true := by
    intro u hu
    obtain ⟨cs, hcs, hu⟩ := List.mem_flatten.1 hu
    obtain ⟨k, hk, rfl⟩ := List.getElem_of_mem hcs
    have hx : k < ys.length := by omega
    exact (h2 k _ _ (List.getElem?_eq_getElem hx) (List.getElem?_eq_getElem hk)).one u hu
  have hfl : css.flatten.length = ys.length * wd t := by rw [flatten_len css (wd t) hl, h1]
  have hk : (∃ e', P.underlying tx = some (.slice e')) ∨ P.underlying tx = some .string := by
    have h4 := hT tx
    cases htt : tt tx with
    | dat T b =>
      rw [htt] at hs h4
      cases T with
      | slice T => obtain ⟨e, b', i, h5, _⟩ := h4.2.1; exact .inl ⟨e, h5⟩
      | str => exact .inr h4.2.1
      | _ => simp [seqTI] at hs
    | _ => rw [htt] at hs; simp [seqTI] at hs
  rcases h3 with ⟨A, c, rfl, h5, h6⟩ | ⟨s, rfl, h5, h6, h7⟩
  · cases A with
    | none =>
      have hy : ys = [] := by
        apply Classical.byContradiction
        intro hne
        have := h6 hne
        cases this
      subst hy
      have hc : css = [] := List.eq_nil_of_length_eq_zero h1
      subst hc
      exact ⟨hk, fun _ => rfl, run_firstCells_none w _ _ _ _, run_firstCells_none w.drew _ _ _ _, by simp, fun u hu => by simp at hu⟩
    | some ad =>
      exact ⟨hk, fun _ => rfl, run_firstCells_some w _ _ ad _ c css.flatten hfl (fun j v hj => h5 ad j v rfl hj), run_firstCells_some w.drew _ _ ad _ c css.flatten hfl (fun j v hj => by simpa using h5 ad j v rfl hj), hfl, hone⟩
  · refine ⟨hk, fun _ => by rw [← h7]; rfl, ?_, ?_, hfl, hone⟩
    · rw [h5, ← h7, h6]; exact firstCells_string s w
    · rw [h5, ← h7, h6]; exact firstCells_string s w.drew
theorem setCells_row {w : World} {b o : Nat} {c : Array Value} {e : TypeId} (hb : w.heap[b]? = some (.cells c e (0, 0))) {vs : List Value} (ho : o + vs.length ≤ c.size) (h1 : ∀ v ∈ vs, v.oneCell' = true) (P : Program) :
    w.setCells b o vs = w.setRow b (lay c.toList o vs).toArray := by
  have k1 := run_storeCells_at P b o e vs 0 c w hb (by simpa using ho) h1
  have k2 := run_storeCells_cells (P := P) b o vs 0 w (fun j hj => by simp only [Nat.add_zero]; rw [cell_mk hb (v := c[o + j]'(by omega)) (Array.getElem?_eq_getElem _)]; rfl) (fun j hj => by simp [World.frozen?, hb]) h1
  rw [k1] at k2
  simp only [Result.ok.injEq, Nat.add_zero, true_and] at k2
  rw [← k2]; rfl

/-! ### ghosts of tokens -/
def Gh.tkNew (g : Gh) (R : Option (Nat × Nat × Nat)) : Gh := { g with tk := g.tk ++ [(0, R)] }
def Gh.tkSet (g : Gh) (i ver : Nat) (R : Option (Nat × Nat × Nat)) : Gh := { g with tk := g.tk.set i (ver, R) }
/-- Regions that are new, or parts of such as were. -/
def SubTk (g g' : Gh) (n : Nat) : Prop := ∀ (i ver b lo hi : Nat), g'.tk[i]? = some (ver, some (b, lo, hi)) → n ≤ b ∨ ∃ ver' lo' hi', g.tk[i]? = some (ver', some (b, lo', hi')) ∧ lo' ≤ lo ∧ hi ≤ hi'
theorem up_tk {g g' : Gh} {σ : St} {w w' : World} (h : RelSt g σ w) (hbk : g'.blk = g.blk) (hfr : g'.fr = g.fr) (hsub : SubTk g g' w.heap.size) (hos : w'.os = w.os) (ht : w'.tape = w.tape) (hout : w'.output = w.output) (hsz : w.heap.size ≤ w'.heap.size)
    (hkeep : ∀ b, b < w.heap.size → (∀ (i ver lo hi : Nat), g.tk[i]? ≠ some (ver, some (b, lo, hi))) → w'.heap[b]? = w.heap[b]?) (hcell : ∀ a v, Imm g w a v → w'.cell? a = some v)
    (htk : ∀ (i ver : Nat) (R : Option (Nat × Nat × Nat)), g.tk[i]? = some (ver, R) → ∃ ver' R', g'.tk[i]? = some (ver', R') ∧ ver ≤ ver' ∧ (ver' = ver → R' = R)) : Up g w g' w' where
  os := hos
  tape := ht
  output := hout
  size := hsz
  keep := fun b hlt hw => hkeep b hlt fun i ver lo hi hi' => hw (.inr ⟨i, ver, lo, hi, hi'⟩)
  wb := fun b hlt hw => by
    rcases hw with ⟨i, hi⟩ | ⟨i, ver, lo, hi, ht⟩
    · exact .inl ⟨i, by rw [← hbk]; exact hi⟩
    · rcases hsub i ver b lo hi ht with h1 | ⟨v', l', h', h1, _⟩
      · omega
      · exact .inr ⟨i, v', l', h', h1⟩
  cells := fun a v himm => by
    have h1 := hcell a v himm
    refine ⟨h1, fun hbad => himm.2 ?_⟩
    have hlt := cell_block himm.1
    rcases hbad with (⟨i, hi⟩ | ⟨i, ver, lo, hi, ht, h2, h3⟩) | hf
    · exact .inl (.inl ⟨i, by rw [← hbk]; exact hi⟩)
    · rcases hsub i ver _ lo hi ht with h4 | ⟨v', l', h', h4, h5, h6⟩
      · omega
      · exact .inl (.inr ⟨i, v', l', h', h4, by omega, by omega⟩)
    · exact .inr (by rw [← hfr]; exact hf)
  wr := fun a hlt hw => by
    rcases hw with ⟨i, hi⟩ | ⟨i, ver, lo, hi, ht, h2, h3⟩
    · exact .inl ⟨i, by rw [← hbk]; exact hi⟩
    · rcases hsub i ver _ lo hi ht with h4 | ⟨v', l', h', h4, h5, h6⟩
      · omega
      · exact .inr ⟨i, v', l', h', h4, by omega, by omega⟩
  fr := hfr
  blk := fun i b f hi => by rw [hbk]; exact hi
  nb := fun i b f hi _ => by rw [hbk] at hi; exact hi
  tk := htk
theorem st_tk {g g' : Gh} {σ : St} {w w' : World} {toks : List Nat} (h : RelSt g σ w) (hu : Up g w g' w') (hbk : g'.blk = g.blk) (hlt : g'.tk.map (·.1) = toks)
    (hkeep : ∀ b, b < w.heap.size → (∀ (i ver lo hi : Nat), g.tk[i]? ≠ some (ver, some (b, lo, hi))) → w'.heap[b]? = w.heap[b]?)
    (htok : ∀ (i ver b lo hi : Nat), g'.tk[i]? = some (ver, some (b, lo, hi)) → (∃ c e, w'.heap[b]? = some (.cells c e (0, 0)) ∧ hi ≤ c.size) ∧ (∀ (k : Nat) (f : Bool), g.blk[k]? ≠ some (some (b, f))) ∧ ∀ a : Addr, a.block = b → lo ≤ a.off → a.off < hi → ¬ g.fr a)
    (htinj : ∀ (i j ver ver' b lo hi lo' hi' : Nat), g'.tk[i]? = some (ver, some (b, lo, hi)) → g'.tk[j]? = some (ver', some (b, lo', hi')) → i = j) : RelSt g' ⟨σ.objs, toks⟩ w' where
  lb := by rw [hbk]; exact h.lb
  lt := hlt
  obj := fun i o ho => (h.obj i o ho).keep hu fun b f hb => hkeep b (h.bsz i b f hb) fun j ver lo hi hj => (h.tok j ver b lo hi hj).2.1 i f hb
  inj := by rw [hbk]; exact h.inj
  bsz := fun i b f hi => by rw [hbk] at hi; exact Nat.lt_of_lt_of_le (h.bsz i b f hi) hu.size
  tok := fun i ver b lo hi hi' => by rw [hbk, hu.fr]; exact htok i ver b lo hi hi'
  fresh := fun a ha => by rw [hu.fr] at ha; exact Nat.lt_of_lt_of_le (h.fresh a ha) hu.size
  tinj := htinj
  gl := gl_up h hu
theorem rd_append {I : Addr → Value → Prop} {t : Ty} {xs ys : List t.D} {ad : Addr} {c : Nat} {csx csy : List (List Value)} (hlx : csx.length = xs.length) (hly : csy.length = ys.length)
    (hx : ∀ (i : Nat) (x : t.D) (cs : List Value), xs[i]? = some x → csx[i]? = some cs → Rd I t x cs) (hy : ∀ (i : Nat) (x : t.D) (cs : List Value), ys[i]? = some x → csy[i]? = some cs → Rd I t x cs)
    (hcx : ∀ (j : Nat) (v : Value), csx.flatten[j]? = some v → I (ad.add j) v) (hcy : ∀ (j : Nat) (v : Value), csy.flatten[j]? = some v → I (ad.add (xs.length * wd t + j)) v) (hc : xs.length + ys.length ≤ c) :
    Rd I (.slice t) (xs ++ ys) [.slice (some ad) (xs.length + ys.length) c] := by
  have hl : ∀ cs ∈ csx ++ csy, cs.length = wd t := by
    intro cs hcs
    rcases List.mem_append.1 hcs with hcs | hcs
    · obtain ⟨k, hk, rfl⟩ := List.getElem_of_mem hcs
      have hx' : k < xs.length := by omega
      exact (hx k _ _ (List.getElem?_eq_getElem hx') (List.getElem?_eq_getElem hk)).len
    · obtain ⟨k, hk, rfl⟩ := List.getElem_of_mem hcs
      have hx' : k < ys.length := by omega
      exact (hy k _ _ (List.getElem?_eq_getElem hx') (List.getElem?_eq_getElem hk)).len
  have hget : ∀ (i : Nat) (x : t.D) (cs : List Value), (xs ++ ys)[i]? = some x → (csx ++ csy)[i]? = some cs → Rd I t x cs := by
    intro i x cs hi hcs
    rcases Nat.lt_or_ge i xs.length with hlt | hge
    · rw [List.getElem?_append_left hlt] at hi
      rw [List.getElem?_append_left (by omega)] at hcs
      exact hx i x cs hi hcs
    · rw [List.getElem?_append_right hge] at hi
      rw [List.getElem?_append_right (by omega), hlx] at hcs
      exact hy _ x cs hi hcs
  have key := Rd.slice (I := I) t (xs ++ ys) (some ad) c (fun i => (csx ++ csy).getD i []) (by rw [List.length_append]; exact hc) (fun _ => rfl)
    (fun i x hi => by
      have hlt := getElem?_lt hi
      have hlt' : i < (csx ++ csy).length := by rw [List.length_append]; rw [List.length_append] at hlt; omega
      refine hget i x _ hi ?_
      show (csx ++ csy)[i]? = some ((csx ++ csy).getD i [])
      rw [List.getD_eq_getElem?_getD, List.getElem?_eq_getElem hlt']; rfl)
    (fun ad' i j v hA hi hj => by
      simp only [Option.some.injEq] at hA
      subst hA
      have hlt' : i < (csx ++ csy).length := by rw [List.length_append]; rw [List.length_append] at hi; omega
      have hj' : (csx ++ csy)[i][j]? = some v := by
        have : (csx ++ csy).getD i [] = (csx ++ csy)[i] := by rw [List.getD_eq_getElem?_getD, List.getElem?_eq_getElem hlt']; rfl
        rw [← this]; exact hj
      have h1 := flatten_at (csx ++ csy) (wd t) hl i j _ v (List.getElem?_eq_getElem hlt') hj'
      rw [List.flatten_append] at h1
      have hfx : csx.flatten.length = xs.length * wd t := by rw [flatten_len csx (wd t) (fun cs h => hl cs (List.mem_append_left _ h)), hlx]
      rcases Nat.lt_or_ge (i * wd t + j) csx.flatten.length with hlt | hge
      · rw [List.getElem?_append_left hlt] at h1
        exact hcx _ v h1
      · rw [List.getElem?_append_right hge, hfx] at h1
        have := hcy _ v h1
        rwa [show xs.length * wd t + (i * wd t + j - xs.length * wd t) = i * wd t + j by omega] at this)
    (fun h => by cases h)
  rw [List.length_append] at key
  exact key
theorem rd_css {I : Addr → Value → Prop} {t : Ty} {xs : List t.D} {A : Option Addr} {n c : Nat} (h : Rd I (.slice t) xs [.slice A n c]) : n = xs.length ∧ xs.length ≤ c ∧ (xs ≠ [] → A.isSome) ∧
    ∃ css : List (List Value), css.length = xs.length ∧ (∀ (i : Nat) (x : t.D) (cs : List Value), xs[i]? = some x → css[i]? = some cs → Rd I t x cs) ∧ ∀ (ad : Addr) (j : Nat) (v : Value), A = some ad → css.flatten[j]? = some v → I (ad.add j) v := by
  obtain ⟨A', c', f, h1, h2, h3, h4, h5⟩ := h.inv
  simp only [List.cons.injEq, Value.slice.injEq, and_true] at h1
  obtain ⟨rfl, rfl, rfl⟩ := h1
  refine ⟨rfl, h2, h3, (List.range xs.length).map f, by simp, ?_, ?_⟩
  · intro i x cs hx hcs
    have hlt := getElem?_lt hx
    rw [List.getElem?_map, List.getElem?_range hlt] at hcs
    simp only [Option.map_some, Option.some.injEq] at hcs
    subst hcs; exact h4 i x hx
  · intro ad j v hA hj
    have hl : ∀ cs ∈ (List.range xs.length).map f, cs.length = wd t := by
      intro cs hcs
      obtain ⟨i, hi, rfl⟩ := List.mem_map.1 hcs
      exact (h4 i _ (List.getElem?_eq_getElem (List.mem_range.1 hi))).len
    obtain ⟨i, k, cs, rfl, h6, h7⟩ := flatten_get _ (wd t) hl j v hj
    have hlt : i < xs.length := by have := getElem?_lt h6; simpa using this
    rw [List.getElem?_map, List.getElem?_range hlt] at h6
    simp only [Option.map_some, Option.some.injEq] at h6
    subst h6
    exact h5 ad i k v hA hlt h7
theorem append_core {t tx : TypeId} {e : TypeId} {i : TypeInfo} {z : Value} {T : Ty} (ht : P.underlying t = some (.slice e)) (hi : P.info? e = some i) (hz : i.zero = some z) (hsz : i.size = wd T) (hzs : z.cells.size = wd T) (heb : 0 < i.bytes)
    {g : Gh} {σ : St} {w : World} (hst : RelSt g σ w) {xs ys : List T.D} {A : Option Addr} {n0 c0 : Nat} (hx : Rd (Imm g w) (.slice T) xs [.slice A n0 c0]) {rx : Value} {csy : List (List Value)} (hly : csy.length = ys.length)
    (hy : ∀ (i : Nat) (x : T.D) (cs : List Value), ys[i]? = some x → csy[i]? = some cs → Rd (Imm g w) T x cs) (hsrc : Src P (wd T) tx rx ys.length csy.flatten w) (hroom : (xs.length + ys.length) * i.bytes ≤ 140737488355328)
    (G : Option (Nat × Nat × Nat) → Gh) (j v' : Nat) (toks' : List Nat) (hblk : ∀ R, (G R).blk = g.blk) (hfr : ∀ R, (G R).fr = g.fr) (hself : ∀ R, (G R).tk[j]? = some (v', R)) (hoth : ∀ R k, k ≠ j → (G R).tk[k]? = g.tk[k]?) (hlt : ∀ R, (G R).tk.map (·.1) = toks')
    (hmono : ∀ ver R0, g.tk[j]? = some (ver, R0) → ver < v') (hreg : n0 < c0 → ∃ ver R0, g.tk[j]? = some (ver, R0) ∧ RegOk A n0 c0 (wd T) R0) (ty : TypeId) :
    ∃ rv w' R, (Builtin.append_ #[t, tx] ty #[.slice A n0 c0, rx]).run P w = .ok rv w' ∧ Up g w (G R) w' ∧ RelV (G R) (Imm (G R) w') (.row T (xs ++ ys) (.tok j v')) rv ∧ RelSt (G R) ⟨σ.objs, toks'⟩ w' := by
  obtain ⟨rfl, hxc, hxA, csx, hlx, hx1, hx2⟩ := rd_css hx
  have htk : ∀ R (k ver : Nat) (R0 : Option (Nat × Nat × Nat)), g.tk[k]? = some (ver, R0) → ∃ ver' R', (G R).tk[k]? = some (ver', R') ∧ ver ≤ ver' ∧ (ver' = ver → R' = R0) := by
    intro R k ver R0 hk
    by_cases hkj : k = j
    · subst hkj
      have := hmono ver R0 hk
      exact ⟨v', R, hself R, by omega, fun e => by omega⟩
    · exact ⟨ver, R0, by rw [hoth R k hkj]; exact hk, Nat.le_refl _, fun _ => rfl⟩
  have htag : ∀ R A' n' c', RegOk A' n' c' (wd T) R → TagOk (G R) A' n' c' (wd T) (.tok j v') := fun R A' n' c' h => ⟨v', R, hself R, Nat.le_refl _, fun _ => h⟩
  have hxl : csx.flatten.length = xs.length * wd T := by
    rw [flatten_len csx (wd T) (fun cs hcs => by
      obtain ⟨k, hk, rfl⟩ := List.getElem_of_mem hcs
      have hx' : k < xs.length := by omega
      exact (hx1 k _ _ (List.getElem?_eq_getElem hx') (List.getElem?_eq_getElem hk)).len), hlx]
  by_cases hc : xs.length + ys.length ≤ c0
  · by_cases hy0 : ys.length = 0
    · -- nothing
      have hys : ys = [] := List.eq_nil_of_length_eq_zero hy0
      subst hys
      have hcy : csy = [] := List.eq_nil_of_length_eq_zero hly
      subst hcy
      have hrun := run_append_nothing (P := P) w t tx ty e i ht hi A xs.length c0 hxc rx (by rw [hsz]; exact hsrc)
      have hR : ∃ R, RegOk A xs.length c0 (wd T) R ∧ (R = none ∨ ∃ ver, g.tk[j]? = some (ver, R)) := by
        by_cases hn : xs.length = c0
        · exact ⟨none, by unfold RegOk; rw [if_pos hn], .inl rfl⟩
        · obtain ⟨ver, R0, h1, h2⟩ := hreg (by omega)
          exact ⟨R0, h2, .inr ⟨ver, h1⟩⟩
      obtain ⟨R, hR1, hR2⟩ := hR
      have hsub : SubTk g (G R) w.heap.size := by
        intro k ver b lo hi hk
        by_cases hkj : k = j
        · subst hkj
          rw [hself R] at hk
          simp only [Option.some.injEq, Prod.mk.injEq] at hk
          rcases hR2 with rfl | ⟨ver0, h1⟩
          · simp at hk
          · rw [hk.2] at h1; exact .inr ⟨ver0, lo, hi, h1, Nat.le_refl _, Nat.le_refl _⟩
        · rw [hoth R k hkj] at hk
          exact .inr ⟨ver, lo, hi, hk, Nat.le_refl _, Nat.le_refl _⟩
      have hu : Up g w (G R) w := up_tk hst (hblk R) (hfr R) hsub rfl rfl rfl (Nat.le_refl _) (fun _ _ _ => rfl) (fun a v h => h.1) (htk R)
      refine ⟨_, w, R, hrun, hu, ?_, ?_⟩
      · rw [List.append_nil]
        exact .row _ _ _ _ _ _ (hx.mono hu.cells) (htag R _ _ _ hR1)
      · have hback : ∀ (k ver b lo hi : Nat), (G R).tk[k]? = some (ver, some (b, lo, hi)) → ∃ ver0, g.tk[k]? = some (ver0, some (b, lo, hi)) := by
          intro k ver b lo hi hk
          by_cases hkj : k = j
          · subst hkj
            rw [hself R] at hk
            simp only [Option.some.injEq, Prod.mk.injEq] at hk
            rcases hR2 with rfl | ⟨ver0, h1⟩
            · simp at hk
            · rw [hk.2] at h1; exact ⟨ver0, h1⟩
          · rw [hoth R k hkj] at hk; exact ⟨ver, hk⟩
        refine st_tk hst hu (hblk R) (hlt R) (fun _ _ _ => rfl) (fun k ver b lo hi hk => ?_) fun k l ver ver' b lo hi lo' hi' hk hl => ?_
        · obtain ⟨ver0, h1⟩ := hback k ver b lo hi hk
          exact hst.tok k ver0 b lo hi h1
        · obtain ⟨v1, h1⟩ := hback k ver b lo hi hk
          obtain ⟨v2, h2⟩ := hback l ver' b lo' hi' hl
          exact hst.tinj k l v1 v2 b lo hi lo' hi' h1 h2
    · -- there is room
      have hn : xs.length ≠ c0 := by omega
      obtain ⟨ver, R0, hr1, hr2⟩ := hreg (by omega)
      unfold RegOk at hr2
      rw [if_neg hn] at hr2
      obtain ⟨ad, rfl, hspot, rfl⟩ := hr2
      obtain ⟨b, off, sp⟩ := ad
      simp only at hspot; subst hspot
      simp only at hr1
      obtain ⟨⟨c, e', hb, hbs⟩, hnb, hnf⟩ := hst.tok j ver b _ _ hr1
      have hfl := hsrc.newsLen
      have hmul : (xs.length + ys.length) * wd T ≤ c0 * wd T := Nat.mul_le_mul_right _ hc
      rw [Nat.add_mul] at hmul
      have hfit : off + xs.length * wd T + csy.flatten.length ≤ c.size := by omega
      have hrun := run_append_room_src (P := P) w t tx ty e i ht hi b off xs.length c0 rx ys.length csy.flatten (by rw [hsz]; exact hsrc) hc
        (fun k hk => by rw [hsz, cell_mk hb (v := c[off + xs.length * wd T + k]'(by omega)) (Array.getElem?_eq_getElem _)]; rfl) (fun k hk => by simp [World.frozen?, hb])
      rw [hsz, setCells_row hb hfit hsrc.one P] at hrun
      have hlen : off + xs.length * wd T + csy.flatten.length ≤ c.toList.length := by simpa using hfit
      have hcell : ∀ a v, Imm g w a v → (w.setRow b (lay c.toList (off + xs.length * wd T) csy.flatten).toArray).cell? a = some v := by
        intro a v hv
        by_cases hab : a.block = b
        · have h1 := hv.1
          unfold World.cell? at h1 ⊢
          rw [hab] at h1 ⊢
          rw [hb] at h1
          rw [setRow_heap w b c _ e' (0, 0) hb]
          simp only at h1 ⊢
          by_cases hsp : a.spot.isSome
          · rw [if_pos hsp] at h1; cases h1
          · rw [if_neg hsp] at h1 ⊢
            simp only [List.getElem?_toArray]
            rw [lay_get hlen]
            by_cases h2 : a.off < off + xs.length * wd T
            · rw [if_pos h2]; simpa using h1
            · rw [if_neg h2]
              by_cases h3 : a.off < off + xs.length * wd T + csy.flatten.length
              · exfalso
                exact hv.2 (.inl (.inr ⟨j, ver, _, _, by rw [hab]; exact hr1, by omega, by omega⟩))
              · rw [if_neg h3]; simpa using h1
        · rw [cell_of_block (setRow_other w b a.block _ hab)]; exact hv.1
      let R : Option (Nat × Nat × Nat) := if xs.length + ys.length = c0 then none else some (b, off + (xs.length + ys.length) * wd T, off + c0 * wd T)
      have hRd : R = none ∨ R = some (b, off + (xs.length + ys.length) * wd T, off + c0 * wd T) := by
        show (if xs.length + ys.length = c0 then none else some (b, off + (xs.length + ys.length) * wd T, off + c0 * wd T)) = none ∨ (if xs.length + ys.length = c0 then none else some (b, off + (xs.length + ys.length) * wd T, off + c0 * wd T)) = _
        by_cases h : xs.length + ys.length = c0
        · rw [if_pos h]; exact .inl rfl
        · rw [if_neg h]; exact .inr rfl
      have hRok : RegOk (some ⟨b, off, none⟩) (xs.length + ys.length) c0 (wd T) R := by
        unfold RegOk
        show (if xs.length + ys.length = c0 then (if xs.length + ys.length = c0 then none else some (b, off + (xs.length + ys.length) * wd T, off + c0 * wd T)) = none else _)
        by_cases h : xs.length + ys.length = c0
        · rw [if_pos h, if_pos h]
        · rw [if_neg h]; exact ⟨_, rfl, rfl, by show (if xs.length + ys.length = c0 then none else _) = _; rw [if_neg h]⟩
      have hback : ∀ (k ver1 b1 lo hi : Nat), (G R).tk[k]? = some (ver1, some (b1, lo, hi)) → (k ≠ j ∧ g.tk[k]? = some (ver1, some (b1, lo, hi))) ∨ (k = j ∧ b1 = b ∧ lo = off + (xs.length + ys.length) * wd T ∧ hi = off + c0 * wd T) := by
        intro k ver1 b1 lo hi hk
        by_cases hkj : k = j
        · subst hkj
          rw [hself R] at hk
          simp only [Option.some.injEq, Prod.mk.injEq] at hk
          rcases hRd with h | h
          · rw [h] at hk; simp at hk
          · rw [h] at hk
            simp only [Option.some.injEq, Prod.mk.injEq] at hk
            exact .inr ⟨rfl, hk.2.1.symm, hk.2.2.1.symm, hk.2.2.2.symm⟩
        · rw [hoth R k hkj] at hk; exact .inl ⟨hkj, hk⟩
      have hsub : SubTk g (G R) w.heap.size := by
        intro k ver1 b1 lo hi hk
        rcases hback k ver1 b1 lo hi hk with ⟨_, h⟩ | ⟨rfl, rfl, rfl, rfl⟩
        · exact .inr ⟨ver1, lo, hi, h, Nat.le_refl _, Nat.le_refl _⟩
        · exact .inr ⟨ver, _, _, hr1, by rw [Nat.add_mul]; omega, Nat.le_refl _⟩
      have hkeep : ∀ b1, b1 < w.heap.size → (∀ (k ver1 lo hi : Nat), g.tk[k]? ≠ some (ver1, some (b1, lo, hi))) → (w.setRow b (lay c.toList (off + xs.length * wd T) csy.flatten).toArray).heap[b1]? = w.heap[b1]? := by
        intro b1 _ hno
        exact setRow_other w b b1 _ fun e1 => hno j ver _ _ (by rw [e1]; exact hr1)
      have hu : Up g w (G R) (w.setRow b (lay c.toList (off + xs.length * wd T) csy.flatten).toArray) := up_tk hst (hblk R) (hfr R) hsub rfl rfl rfl (by simp) hkeep hcell (htk R)
      refine ⟨_, _, R, hrun, hu, ?_, ?_⟩
      · refine .row _ _ _ _ _ _ (rd_append hlx hly (fun k x cs h1 h2 => (hx1 k x cs h1 h2).mono hu.cells) (fun k x cs h1 h2 => (hy k x cs h1 h2).mono hu.cells) (fun k v hk => hu.cells _ _ (hx2 _ k v rfl hk)) (fun k v hk => ?_) hc) (htag R _ _ _ hRok)
        have hk' := getElem?_lt hk
        rw [addr_ext]
        refine ⟨cell_mk (setRow_heap w b c _ e' (0, 0) hb) ?_, fun hbad => ?_⟩
        · simp only [List.getElem?_toArray]
          rw [lay_get hlen, if_neg (by omega), if_pos (by omega), show off + (xs.length * wd T + k) - (off + xs.length * wd T) = k by omega]; exact hk
        · rcases hbad with (⟨q, hq⟩ | ⟨q, ver1, lo, hi, hq, h1, h2⟩) | hf
          · rw [hblk R] at hq; exact hnb q true hq
          · rcases hback q ver1 b lo hi hq with ⟨hqj, h3⟩ | ⟨rfl, _, rfl, rfl⟩
            · exact hqj (hst.tinj q j ver1 ver b lo hi _ _ h3 hr1)
            · simp only at h1; rw [Nat.add_mul] at h1; omega
          · rw [hfr R] at hf
            exact hnf _ rfl (by simp only; omega) (by simp only; omega) hf
      · refine st_tk hst hu (hblk R) (hlt R) hkeep (fun k ver1 b1 lo hi hk => ?_) fun k l ver1 ver2 b1 lo hi lo' hi' hk hl => ?_
        · rcases hback k ver1 b1 lo hi hk with ⟨hkj, h⟩ | ⟨rfl, rfl, rfl, rfl⟩
          · obtain ⟨⟨c1, e1, h1, h2⟩, h3, h4⟩ := hst.tok k ver1 b1 lo hi h
            refine ⟨⟨c1, e1, ?_, h2⟩, h3, h4⟩
            rw [setRow_other w b b1 _ fun e2 => hkj (hst.tinj k j ver1 ver b1 lo hi _ _ h (by rw [e2]; exact hr1))]; exact h1
          · refine ⟨⟨_, e', setRow_heap w b1 c _ e' (0, 0) hb, by simp only [List.size_toArray, lay_len hlen]; simpa using hbs⟩, hnb, fun a h1 h2 h3 => hnf a h1 (by rw [Nat.add_mul] at h2; omega) h3⟩
        · rcases hback k ver1 b1 lo hi hk with ⟨hkj, h⟩ | ⟨rfl, rfl, rfl, rfl⟩ <;> rcases hback l ver2 _ lo' hi' hl with ⟨hlj, h'⟩ | ⟨h5, h6, h7, h8⟩
          · exact hst.tinj k l ver1 ver2 b1 lo hi lo' hi' h h'
          · subst h5; subst h6; exact absurd (hst.tinj k l ver1 ver b1 lo hi _ _ h hr1) hkj
          · exact absurd (hst.tinj l k ver2 ver b1 lo' hi' _ _ h' hr1) hlj
          · exact h5.symm
  · -- a new row
    have hg : c0 < xs.length + ys.length := by omega
    have h63 : ((xs.length + ys.length : Nat) : Int) ≤ 9223372036854775807 := by
      have : (xs.length + ys.length) * 1 ≤ (xs.length + ys.length) * i.bytes := Nat.mul_le_mul_left _ heb
      omega
    have hold : (Builtin.firstCells i.size xs.length (.slice A xs.length c0)).run P w.drew = .ok csx.flatten.toArray w.drew := by
      cases hA : A with
      | none =>
        have hxs : xs = [] := by
          apply Classical.byContradiction
          intro hne
          have := hxA hne
          rw [hA] at this; cases this
        subst hxs
        have : csx = [] := List.eq_nil_of_length_eq_zero hlx
        subst this
        exact run_firstCells_none w.drew _ _ _ _
      | some ad => exact run_firstCells_some w.drew _ _ ad _ c0 csx.flatten (by rw [hsz]; exact hxl) fun k v hk => by simpa using (hx2 ad k v hA hk).1
    have hrun := run_append_grow_src (P := P) w t tx ty e i z ht hi hz A xs.length c0 csx.flatten hold rx ys.length csy.flatten (by rw [hsz]; exact hsrc) hg h63 (growslice_fits hg hroom)
    have hcap : xs.length + ys.length ≤ grownCap w (xs.length + ys.length) c0 e := grownCap_ge ..
    generalize hcapd : grownCap w (xs.length + ys.length) c0 e = cap at hrun hcap
    have hfl := hsrc.newsLen
    have hCsz : ((csx.flatten ++ csy.flatten).toArray ++ Builtin.zeroCells z.cells (cap - (xs.length + ys.length))).size = cap * wd T := by
      rw [Array.size_append, size_zeroCells, hzs]
      simp only [List.size_toArray, List.length_append, hxl, hfl]
      rw [← Nat.add_mul, ← Nat.add_mul]; congr 1; omega
    generalize hCd : (csx.flatten ++ csy.flatten).toArray ++ Builtin.zeroCells z.cells (cap - (xs.length + ys.length)) = C at hrun hCsz
    have hCget : ∀ (k : Nat) (v : Value), (csx.flatten ++ csy.flatten)[k]? = some v → C[k]? = some v := by
      intro k v hk
      have := getElem?_lt hk
      rw [← hCd, Array.getElem?_append_left (by simpa using this)]
      simpa using hk
    have hb : Below w.heap.size w (w.drew.alloc (.cells C e)) := ((Below.refl _ w).drew).alloc (Nat.le_refl _) _
    let R : Option (Nat × Nat × Nat) := if xs.length + ys.length = cap then none else some (w.heap.size, 0 + (xs.length + ys.length) * wd T, 0 + cap * wd T)
    have hRd : R = none ∨ R = some (w.heap.size, 0 + (xs.length + ys.length) * wd T, 0 + cap * wd T) := by
      show (if xs.length + ys.length = cap then none else _) = none ∨ (if xs.length + ys.length = cap then none else some (w.heap.size, 0 + (xs.length + ys.length) * wd T, 0 + cap * wd T)) = _
      by_cases h : xs.length + ys.length = cap
      · rw [if_pos h]; exact .inl rfl
      · rw [if_neg h]; exact .inr rfl
    have hRok : RegOk (some ⟨w.heap.size, 0, none⟩) (xs.length + ys.length) cap (wd T) R := by
      unfold RegOk
      show (if xs.length + ys.length = cap then (if xs.length + ys.length = cap then none else some (w.heap.size, 0 + (xs.length + ys.length) * wd T, 0 + cap * wd T)) = none else _)
      by_cases h : xs.length + ys.length = cap
      · rw [if_pos h, if_pos h]
      · rw [if_neg h]; exact ⟨_, rfl, rfl, by show (if xs.length + ys.length = cap then none else _) = _; rw [if_neg h]⟩
    have hback : ∀ (k ver1 b1 lo hi : Nat), (G R).tk[k]? = some (ver1, some (b1, lo, hi)) → (k ≠ j ∧ g.tk[k]? = some (ver1, some (b1, lo, hi))) ∨ (k = j ∧ b1 = w.heap.size ∧ lo = 0 + (xs.length + ys.length) * wd T ∧ hi = 0 + cap * wd T) := by
      intro k ver1 b1 lo hi hk
      by_cases hkj : k = j
      · subst hkj
        rw [hself R] at hk
        simp only [Option.some.injEq, Prod.mk.injEq] at hk
        rcases hRd with h | h
        · rw [h] at hk; simp at hk
        · rw [h] at hk
          simp only [Option.some.injEq, Prod.mk.injEq] at hk
          exact .inr ⟨rfl, hk.2.1.symm, hk.2.2.1.symm, hk.2.2.2.symm⟩
      · rw [hoth R k hkj] at hk; exact .inl ⟨hkj, hk⟩
    have hsub : SubTk g (G R) w.heap.size := by
      intro k ver1 b1 lo hi hk
      rcases hback k ver1 b1 lo hi hk with ⟨_, h⟩ | ⟨_, rfl, _⟩
      · exact .inr ⟨ver1, lo, hi, h, Nat.le_refl _, Nat.le_refl _⟩
      · exact .inl (Nat.le_refl _)
    have hkeep : ∀ b1, b1 < w.heap.size → (∀ (k ver1 lo hi : Nat), g.tk[k]? ≠ some (ver1, some (b1, lo, hi))) → (w.drew.alloc (.cells C e)).heap[b1]? = w.heap[b1]? := fun b1 hlt1 _ => hb.block b1 hlt1
    have hu : Up g w (G R) (w.drew.alloc (.cells C e)) := up_tk hst (hblk R) (hfr R) hsub hb.os hb.tape hb.output hb.size hkeep (fun a v hv => (cell_of_block (hb.block _ (cell_block hv.1))).trans hv.1) (htk R)
    have hheap : (w.drew.alloc (.cells C e)).heap[w.heap.size]? = some (.cells C e (0, 0)) := heap_alloc_new _ _
    have hnew : ∀ k, k < (xs.length + ys.length) * wd T → ∀ v, C[k]? = some v → Imm (G R) (w.drew.alloc (.cells C e)) ⟨w.heap.size, k, none⟩ v := by
      intro k hk v hv
      refine ⟨cell_mk hheap hv, fun hbad => ?_⟩
      rcases hbad with (⟨q, hq⟩ | ⟨q, ver1, lo, hi, hq, h1, h2⟩) | hf
      · rw [hblk R] at hq; have := hst.bsz q _ _ hq; simp only at this; omega
      · rcases hback q ver1 _ lo hi hq with ⟨hqj, h3⟩ | ⟨rfl, _, rfl, rfl⟩
        · have := hst.bad_lt_tok h3; simp only at this; omega
        · simp only at h1; omega
      · rw [hfr R] at hf; have := hst.fresh _ hf; simp only at this; omega
    have hmul : (xs.length + ys.length) * wd T = xs.length * wd T + ys.length * wd T := Nat.add_mul ..
    refine ⟨_, _, R, hrun, hu, ?_, ?_⟩
    · refine .row _ _ _ _ _ _ (rd_append hlx hly (fun k x cs h1 h2 => (hx1 k x cs h1 h2).mono hu.cells) (fun k x cs h1 h2 => (hy k x cs h1 h2).mono hu.cells) (fun k v hk => ?_) (fun k v hk => ?_) hcap) (htag R _ _ _ hRok)
      · have := getElem?_lt hk
        rw [addr_ext, Nat.zero_add]
        exact hnew k (by omega) v (hCget k v (by rw [List.getElem?_append_left this]; exact hk))
      · have := getElem?_lt hk
        rw [addr_ext, Nat.zero_add]
        exact hnew _ (by omega) v (hCget _ v (by rw [List.getElem?_append_right (by omega), hxl, Nat.add_sub_cancel_left]; exact hk))
    · refine st_tk hst hu (hblk R) (hlt R) hkeep (fun k ver1 b1 lo hi hk => ?_) fun k l ver1 ver2 b1 lo hi lo' hi' hk hl => ?_
      · rcases hback k ver1 b1 lo hi hk with ⟨hkj, h⟩ | ⟨rfl, rfl, rfl, rfl⟩
        · obtain ⟨⟨c1, e1, h1, h2⟩, h3, h4⟩ := hst.tok k ver1 b1 lo hi h
          exact ⟨⟨c1, e1, by rw [hb.block b1 (hst.bad_lt_tok h)]; exact h1, h2⟩, h3, h4⟩
        · refine ⟨⟨C, e, hheap, by omega⟩, fun q f hq => ?_, fun a h1 h2 h3 hf => ?_⟩
          · have := hst.bsz q _ _ hq; omega
          · have := hst.fresh _ hf; omega
      · rcases hback k ver1 b1 lo hi hk with ⟨hkj, h⟩ | ⟨rfl, rfl, rfl, rfl⟩ <;> rcases hback l ver2 _ lo' hi' hl with ⟨hlj, h'⟩ | ⟨h5, h6, h7, h8⟩
        · exact hst.tinj k l ver1 ver2 b1 lo hi lo' hi' h h'
        · have := hst.bad_lt_tok h; omega
        · have := hst.bad_lt_tok h'; omega
        · exact h5.symm
end
end Go.Proofs.Yticelgnmcjkknaa.Vm
