/-
A machine of values, part forty-three: a function shown by hand; a row of its own that it hands back, as an object.
-/
import Derived.Test.YtnkjnbfaechiaaaVm42
import Derived.Laws.AppendOwn
set_option linter.unusedVariables false
set_option linter.unusedSimpArgs false
namespace Go.Proofs.Ytnkjnbfaechiaaa.Vm
open Go.RowKit (Below)
section
variable {P : Program} {R : Type}
theorem up_at {g : Gh} {σ : St} {w w' : World} {n : Nat} (h : RelSt g σ w) (hb : Below w.heap.size w w') (hn : w.heap.size ≤ n) : Up g w (g.new n) w' where
  os := hb.os
  tape := hb.tape
  output := hb.output
  size := hb.size
  keep := fun b hlt _ => hb.block b hlt
  wb := fun b hlt hw => by
    rcases hw with ⟨i, hi⟩ | ht
    · rcases new_blk_inv hi with hi | ⟨_, e⟩
      · exact .inl ⟨i, hi⟩
      · simp only [Option.some.injEq, Prod.mk.injEq] at e; omega
    · exact .inr ht
  cells := fun a v ⟨h1, h2⟩ => by
    have hlt := cell_block h1
    refine ⟨(cell_of_block (hb.block _ hlt)).trans h1, fun hbad => h2 ?_⟩
    rcases hbad with (⟨i, hi⟩ | ht) | hf
    · rcases new_blk_inv hi with hi | ⟨_, e⟩
      · exact .inl (.inl ⟨i, hi⟩)
      · simp only [Option.some.injEq, Prod.mk.injEq] at e; omega
    · exact .inl (.inr ht)
    · exact .inr hf
  wr := fun a hlt hw => by
    rcases hw with ⟨i, hi⟩ | ht
    · rcases new_blk_inv hi with hi | ⟨_, e⟩
      · exact .inl ⟨i, hi⟩
      · simp only [Option.some.injEq, Prod.mk.injEq] at e; omega
    · exact .inr ht
  fr := rfl
  blk := fun i b f hi => new_blk_old hi
  nb := fun i b f hi hlt => by
    rcases new_blk_inv hi with hi | ⟨_, e⟩
    · exact hi
    · simp only [Option.some.injEq, Prod.mk.injEq] at e; omega
  tk := fun i ver R h => ⟨ver, R, h, Nat.le_refl _, fun _ => rfl⟩
theorem st_at {g : Gh} {σ : St} {w w' : World} {o : Ob} {n : Nat} (h : RelSt g σ w) (hb : Below w.heap.size w w') (hn : w.heap.size ≤ n) (hlt : n < w'.heap.size) (ho : RelOb (g.new n) w' σ.objs.length o) : RelSt (g.new n) ⟨σ.objs ++ [o], σ.toks⟩ w' where
  lb := by show (g.blk ++ _).length = (σ.objs ++ [o]).length; rw [List.length_append, List.length_append, h.lb]; rfl
  lt := h.lt
  obj := fun i o' hi => by
    have hi : (σ.objs ++ [o])[i]? = some o' := hi
    rcases Nat.lt_or_ge i σ.objs.length with h' | h'
    · rw [List.getElem?_append_left h'] at hi
      refine (h.obj i o' hi).keep (up_at h hb hn) fun b f hbf => hb.block b (h.bsz i b f hbf)
    · rw [List.getElem?_append_right h'] at hi
      have h0 : i - σ.objs.length = 0 := by have := getElem?_lt hi; simp at this; omega
      rw [h0] at hi
      simp only [List.getElem?_cons_zero, Option.some.injEq] at hi
      have h1 : i = σ.objs.length := by omega
      subst hi; subst h1; exact ho
  inj := fun i j b f f' hi hj => by
    rcases new_blk_inv hi with hi | ⟨ei, e⟩ <;> rcases new_blk_inv hj with hj | ⟨ej, e'⟩
    · exact h.inj i j b f f' hi hj
    · simp only [Option.some.injEq, Prod.mk.injEq] at e'; have := h.bsz i b f hi; omega
    · simp only [Option.some.injEq, Prod.mk.injEq] at e; have := h.bsz j b f' hj; omega
    · omega
  bsz := fun i b f hi => by
    rcases new_blk_inv hi with hi | ⟨ei, e⟩
    · exact Nat.lt_of_lt_of_le (h.bsz i b f hi) hb.size
    · simp only [Option.some.injEq, Prod.mk.injEq] at e; omega
  tok := fun i ver b lo hi ht => by
    have hb' := h.bad_lt_tok ht
    obtain ⟨⟨c, e, h1, h2⟩, h3, h4⟩ := h.tok i ver b lo hi ht
    refine ⟨⟨c, e, by rw [hb.block b hb']; exact h1, h2⟩, fun k f hk => ?_, h4⟩
    rcases new_blk_inv hk with hk | ⟨_, e⟩
    · exact h3 k f hk
    · simp only [Option.some.injEq, Prod.mk.injEq] at e; omega
  fresh := fun a ha => Nat.lt_of_lt_of_le (h.fresh a ha) hb.size
  tinj := h.tinj
  gl := gl_up h (up_at h hb hn)
/-- A function that is told by contents, shown without the evaluator. -/
theorem fnW_raw {f : Nat} (hent : Entry P f) {arg : Shape} {outs : List Shape} {F : arg.C → Option (OutC outs)} (hF : ∀ x y, F x = some y → ∃ v0 σ0, ((splitV (arity outs) v0).bind fun vs => packOut true arg.ob.length outs vs σ0) = some y ∧
    ∀ (g : Gh) (w : World) (rargs : Array Value), RelSt g (encSt true [] arg x) w → RelL g (Imm g w) (encSls 0 arg.sl x.1) rargs.toList → Calls P f rargs w fun e w' => ∃ rv g', e = .returned rv ∧ Up g w g' w' ∧ RelV g' (Imm g' w') v0 rv ∧ RelSt g' σ0 w') : SoundFn P f ⟨false, runW arg outs F⟩ := by
  intro R args σ K r h
  have h : (decSh true arg σ (List.range σ.objs.length) args).bind (fun x => (F x).bind fun y => unpack (σ.toks.map (· + 1)) outs y K) = some r := h
  obtain ⟨x, hx, h⟩ := bind_some h
  obtain ⟨y, hy, h⟩ := bind_some h
  obtain ⟨v, σ', hk, huniq⟩ := unpack_some outs y h
  refine ⟨v, σ', hk, hent, fun g w rargs _ hst hargs => ?_⟩
  obtain ⟨v0, σ0, h1, h2⟩ := hF x y hy
  obtain ⟨vs, h3, h4⟩ := bind_some h1
  -- the callee's own view
  generalize hTT : toksOf arg (V.renL (idx (List.range σ.objs.length)) tid args) (pickObs σ (List.range σ.objs.length)) = T
  obtain ⟨fr1, hfr⟩ : ∃ fr1 : Addr → Prop, ∀ a, fr1 a ↔ Bad g a ∧ ¬ Wr (ghK g (List.range σ.objs.length) T [] fr1) a := ⟨fun a => Bad g a ∧ ¬ Wr (ghK g (List.range σ.objs.length) T [] fun _ => False) a, fun a => Iff.rfl⟩
  obtain ⟨k1, k2⟩ := pick (T := T) (pre := []) (fr := fr1) hst List.nodup_range hargs hx (fun a ha => ((hfr a).1 ha).1) hTT.symm fun k i ver b lo hi hTk ht a ha h5 h6 hfa => by
    refine ((hfr a).1 hfa).2 (.inr ⟨k, 0, lo, hi, ?_, h5, h6⟩)
    have := ghK_tok (g := g) (ids := List.range σ.objs.length) (pre := []) (fr := fr1) hTk
    rw [List.length_nil, Nat.zero_add] at this
    rw [this, ha]; simp [regOf, ht]
  refine (h2 _ w rargs k1 k2).mono fun e w' he => ?_
  obtain ⟨rv, g3, h5, hu, h6, h7⟩ := he
  obtain ⟨hvl, rvs, hrl, hrv⟩ := splitV_rel h3 h6
  unfold packOut at h4
  split at h4
  · rename_i hlive
    obtain ⟨s, z, h8, h9⟩ := decOuts_some (K := fun a b => some (a, b)) (toks := σ.toks.map (· + 1)) outs y h4 (huniq _ _)
    simp only [Option.some.injEq, Prod.mk.injEq] at h9
    obtain ⟨rfl, rfl⟩ := h9
    have hal : arg.ob.length = σ.objs.length := by
      have := k1.lb
      have h10 : (ghK g (List.range σ.objs.length) T [] fr1).blk.length = σ.objs.length := by show (List.map _ _).length = _; simp
      rw [h10] at this
      rw [this]; exact (encObs_len _ _ _).symm
    have hn' := outIds_nodup arg.ob.length σ0 vs
    have hid : ∀ i, i < σ.objs.length → (outIds arg.ob.length σ0 vs)[i]? = some i := fun i hi => outIds_get (by omega)
    obtain ⟨k3, k4⟩ := pick (pre := σ.toks.map (· + 1)) (fr := g.fr) h7 hn' hrl h8 (fr_bad hst hfr hu) rfl fun k i ver b lo hi _ ht a ha h10 h11 => fr_tok hst hu h7 ht ha h10 h11
    refine ⟨rv, _, h5, up_sub hst hfr hu h7 hn' hid, joinV_rel (n := arity outs) ?_ k4 hrv, k3⟩
    rw [encSls_len]
    have := k4.1
    rw [encSls_len] at this
    rw [← this, hrl.1, hvl]
  · cases h4
/-- Numbers in a row of the call's own, as an object. -/
theorem own_arr {g : Gh} {w w' : World} {e : TypeId} {v : Value} {m : Nat} {xs : List Int} (hst : RelSt g ⟨[], []⟩ w) (hown : w'.ownsRow w.heap.size e 1 v m (xs.map (Value.int .i64))) (hm : 0 < m) (hb : Below w.heap.size w w') :
    ∃ g', Up g w g' w' ∧ RelV g' (Imm g' w') (.msl 0 i64 0 m) v ∧ RelSt g' ⟨[.arr true none i64 xs], []⟩ w' := by
  obtain ⟨hl, ⟨_, h0⟩ | ⟨n, cap, cur, rfl, hn, hh, hc, _, hs, ht⟩⟩ := hown
  · omega
  rw [List.length_map, Nat.mul_one] at hl
  have hlt : n < w'.heap.size := by
    rcases Nat.lt_or_ge n w'.heap.size with h | h
    · exact h
    · rw [Array.getElem?_eq_none h] at hh; cases hh
  have hbl : (g.new n).blk[0]? = some (some (n, true)) := blk_last hst n
  refine ⟨g.new n, up_at hst hb hn, .msl 0 i64 0 m n true _ cap hbl hc (fun _ => by rw [Nat.zero_mul]) (fun h => by cases h), ?_⟩
  refine st_at (o := .arr true none i64 xs) hst hb hn hlt ⟨n, cur, e, hbl, hh, ?_, fun k h => (by cases h), fun j x hx => ⟨[.int .i64 x], .int _ _, fun k u hu => ?_⟩⟩
  · show xs.length * 1 ≤ _
    rw [hs, hl]; omega
  · cases k with
    | succ k => simp at hu
    | zero =>
      simp only [List.getElem?_cons_zero, Option.some.injEq] at hu
      subst hu
      have hj := getElem?_lt (show (xs : List Int)[j]? = some x from hx)
      have h1 : (cur.toList.take (m * 1))[j]? = some (Value.int .i64 x) := by rw [ht, List.getElem?_map]; show Option.map _ ((xs : List Int)[j]?) = _; rw [show (xs : List Int)[j]? = some x from hx]; rfl
      rw [List.getElem?_take, if_pos (by omega)] at h1
      show cur[j * 1 + 0]? = _
      rw [Nat.mul_one, Nat.add_zero]
      simpa using h1
end
end Go.Proofs.Ytnkjnbfaechiaaa.Vm
