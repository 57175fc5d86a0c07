/-
A machine of values, part thirty-two: some slots and objects taken out of a state.
-/
import Derived.Test.YticelgnmcjkknaaVm31
set_option linter.unusedVariables false
set_option linter.unusedSimpArgs false
namespace Go.Proofs.Yticelgnmcjkknaa.Vm
section
variable {P : Program} {R : Type}

def ghP (g : Gh) (ids : List Nat) : Gh := ⟨ids.map fun i => (g.blk[i]?).join, g.tk, Bad g⟩
def ghK (g : Gh) (ids : List Nat) (T : List (Option Nat)) (pre : List Nat) (fr : Addr → Prop) : Gh :=
  ⟨ids.map fun i => (g.blk[i]?).join, pre.map (fun v => (v, none)) ++ T.map (fun o => (0, regOf g o)), fr⟩
section
variable {g : Gh} {σ : St} {w : World} {ids : List Nat} {T : List (Option Nat)} {pre : List Nat} {fr : Addr → Prop}
theorem ghP_blk {j b : Nat} {f : Bool} (h : (ghP g ids).blk[j]? = some (some (b, f))) : ∃ i, ids[j]? = some i ∧ g.blk[i]? = some (some (b, f)) := ghC_blk (ts := []) h
theorem ghP_of {i j b : Nat} {f : Bool} (hj : ids[j]? = some i) (h : g.blk[i]? = some (some (b, f))) : (ghP g ids).blk[j]? = some (some (b, f)) := ghC_of (ts := []) hj h
theorem ghK_blk {j b : Nat} {f : Bool} (h : (ghK g ids T pre fr).blk[j]? = some (some (b, f))) : ∃ i, ids[j]? = some i ∧ g.blk[i]? = some (some (b, f)) := ghC_blk (ts := []) h
theorem ghK_of {i j b : Nat} {f : Bool} (hj : ids[j]? = some i) (h : g.blk[i]? = some (some (b, f))) : (ghK g ids T pre fr).blk[j]? = some (some (b, f)) := ghC_of (ts := []) hj h
theorem ghK_tk {j ver : Nat} {x : Nat × Nat × Nat} (h : (ghK g ids T pre fr).tk[j]? = some (ver, some x)) : ∃ i k ver', j = pre.length + k ∧ T[k]? = some (some i) ∧ g.tk[i]? = some (ver', some x) := by
  have h : (pre.map (fun v => (v, none)) ++ T.map (fun o => (0, regOf g o)))[j]? = some (ver, some x) := h
  rcases Nat.lt_or_ge j pre.length with hlt | hge
  · rw [List.getElem?_append_left (by simpa using hlt), List.getElem?_map] at h
    cases hp : pre[j]? with
    | none => rw [hp] at h; cases h
    | some v => rw [hp] at h; simp at h
  · rw [List.getElem?_append_right (by simpa using hge), List.getElem?_map] at h
    simp only [List.length_map] at h
    cases hp : T[j - pre.length]? with
    | none => rw [hp] at h; cases h
    | some o =>
      rw [hp] at h
      simp only [Option.map_some, Option.some.injEq, Prod.mk.injEq] at h
      cases o with
      | none => cases h.2
      | some i =>
        cases hg : g.tk[i]? with
        | none => simp [regOf, hg] at h
        | some y => obtain ⟨y1, y2⟩ := y; simp only [regOf, hg, Option.map_some, Option.join_some] at h; exact ⟨i, _, y1, by omega, hp, by rw [hg, h.2]⟩
theorem ghK_tok {k : Nat} {o : Option Nat} (h : T[k]? = some o) : (ghK g ids T pre fr).tk[pre.length + k]? = some (0, regOf g o) := by
  show (pre.map (fun v => (v, none)) ++ T.map (fun o => (0, regOf g o)))[pre.length + k]? = _
  rw [List.getElem?_append_right (by simp), List.getElem?_map]
  simp [h]
theorem ghK_wr {a : Addr} (h : Wr (ghK g ids T pre fr) a) : Wr g a := by
  rcases h with ⟨i, hi⟩ | ⟨i, ver, lo, hi, ht, h1⟩
  · obtain ⟨i', _, h2⟩ := ghK_blk hi; exact .inl ⟨i', h2⟩
  · obtain ⟨i', k, ver', _, _, h2⟩ := ghK_tk ht; exact .inr ⟨i', ver', lo, hi, h2, h1⟩
theorem ghK_wb {b : Nat} (h : WB (ghK g ids T pre fr) b) : WB g b := by
  rcases h with ⟨i, hi⟩ | ⟨i, ver, lo, hi, ht⟩
  · obtain ⟨i', _, h2⟩ := ghK_blk hi; exact .inl ⟨i', h2⟩
  · obtain ⟨i', k, ver', _, _, h2⟩ := ghK_tk ht; exact .inr ⟨i', ver', lo, hi, h2⟩
theorem ghP_wr {a : Addr} (h : Wr (ghP g ids) a) : Wr g a := by
  rcases h with ⟨i, hi⟩ | h
  · obtain ⟨i', _, h2⟩ := ghP_blk hi; exact .inl ⟨i', h2⟩
  · exact .inr h
theorem ghP_bad {a : Addr} : Bad (ghP g ids) a ↔ Bad g a := ⟨fun h => by rcases h with h | h; exact .inl (ghP_wr h); exact h, fun h => .inr h⟩
theorem ghP_ren : RenOk g (ghP g ids) (Imm g w) (Imm (ghP g ids) w) (idx ids) tid where
  imm := fun a u h => ⟨h.1, fun hb => h.2 (ghP_bad.1 hb)⟩
  blk := fun i j hj b f hb => ⟨f, ghP_of (idx_some hj) hb⟩
  tag := fun i ver A n c sz h => h
theorem nodupB_get : ∀ {T : List (Option Nat)}, nodupB T = true → ∀ {j k i : Nat}, T[j]? = some (some i) → T[k]? = some (some i) → j = k
  | [], _, j, k, i, h, _ => by simp at h
  | none :: T, hn, j, k, i, h1, h2 => by
    cases j with
    | zero => simp at h1
    | succ j =>
      cases k with
      | zero => simp at h2
      | succ k => have := nodupB_get (T := T) hn (by simpa using h1) (by simpa using h2); omega
  | some m :: T, hn, j, k, i, h1, h2 => by
    simp only [nodupB, Bool.and_eq_true, Bool.not_eq_true', List.contains_eq_mem, decide_eq_false_iff_not] at hn
    cases j with
    | zero =>
      cases k with
      | zero => rfl
      | succ k => simp at h1; subst h1; exact absurd (List.mem_of_getElem? (by simpa using h2)) hn.1
    | succ j =>
      cases k with
      | zero => simp at h2; subst h2; exact absurd (List.mem_of_getElem? (by simpa using h1)) hn.1
      | succ k => have := nodupB_get (T := T) hn.2 (by simpa using h1) (by simpa using h2); omega
theorem RelL.imm {g : Gh} {I J : Addr → Value → Prop} (h : ∀ a v, I a v → J a v) {vs : List V} {rvs : List Value} (hv : RelL g I vs rvs) : RelL g J vs rvs :=
  ⟨hv.1, fun i v rv h1 h2 => (hv.2 i v rv h1 h2).imm h⟩
/-- Some slots and objects, as a state of their own. -/
theorem pick (hst : RelSt g σ w) (hn : ids.Nodup) {sh : Shape} {wf : Bool} {vs : List V} {rvs : List Value} (hvs : RelL g (Imm g w) vs rvs) {x : sh.C} (hd : decSh wf sh σ ids vs = some x) (hf : ∀ a, fr a → Bad g a)
    (hT : T = toksOf sh (V.renL (idx ids) tid vs) (pickObs σ ids))
    (hfr : ∀ (k i ver b lo hi : Nat), T[k]? = some (some i) → g.tk[i]? = some (ver, some (b, lo, hi)) → ∀ a : Addr, a.block = b → lo ≤ a.off → a.off < hi → ¬ fr a) :
    RelSt (ghK g ids T pre fr) ⟨encObs wf (pre.length + ownN sh.sl) sh.ob x.2, pre ++ List.replicate (ownN sh.sl + ownO sh.ob) 0⟩ w ∧ RelL (ghK g ids T pre fr) (Imm (ghK g ids T pre fr) w) (encSls pre.length sh.sl x.1) rvs := by
  unfold decSh at hd
  split at hd
  · rename_i hnod
    rw [← hT] at hnod
    obtain ⟨x1, h1, hd⟩ := bind_some hd
    obtain ⟨x2, h2, hd⟩ := bind_some hd
    obtain rfl := Option.some.inj hd
    have hI : ∀ a u, Imm (ghP g ids) w a u → Imm (ghK g ids T pre fr) w a u := fun a u h => ⟨h.1, fun hb => h.2 (ghP_bad.2 (by rcases hb with hb | hb; exact .inl (ghK_wr hb); exact hf a hb))⟩
    have hren := ghP_ren (g := g) (w := w) (ids := ids)
    have hl := renL_rel hren hvs
    have hreg : ∀ o, regOf (ghP g ids) o = regOf g o := fun o => by cases o <;> rfl
    obtain ⟨k1, k2⟩ := decSls_rel (g1 := ghP g ids) (g2 := ghK g ids T pre fr) rfl hst.lt sh.sl _ x1 rvs pre.length h1 hl fun j o hj => by
      rw [hreg]; exact ghK_tok (by rw [hT]; unfold toksOf; rw [List.getElem?_append_left (getElem?_lt hj)]; exact hj)
    obtain ⟨k3, k4, k5⟩ := decObs_rel (g1 := ghP g ids) (g2 := ghK g ids T pre fr) (w := w) (wf := wf) rfl hst.lt hI sh.ob _ 0 x2 (pre.length + ownN sh.sl) h2 (fun j o ho => by
        unfold pickObs at ho
        rw [List.getElem?_map] at ho
        cases hi : ids[j]? with
        | none => rw [hi] at ho; cases ho
        | some i =>
          rw [hi] at ho
          simp only [Option.map_some, Option.some.injEq] at ho
          subst ho
          rw [Nat.zero_add]
          cases hs : σ.objs[i]? with
          | none => trivial
          | some u => exact (hst.obj i u hs).ren hren fun b f hb => ghP_of hi hb) fun j o hj => by
      rw [hreg, Nat.add_assoc]; exact ghK_tok (by rw [hT]; unfold toksOf; rw [List.getElem?_append_right (by omega), k2, show ownN sh.sl + j - ownN sh.sl = j by omega]; exact hj)
    refine ⟨⟨?_, ?_, fun j o hj => ?_, fun i j b f f' hi hj => ?_, fun i b f hi => ?_, fun j ver b lo hi ht => ?_, fun a ha => hst.bad_lt a (hf a ha), fun i j ver ver' b lo hi lo' hi' ht ht' => ?_, fun hn => (hst.gl hn).imp fun m hm => ⟨hm.1, fun hb => hm.2 (by rcases hb with hb | hb; exact .inl (ghK_wr hb); exact hf _ hb)⟩⟩, k1.imm hI⟩
    · show (List.map _ _).length = (encObs _ _ _ _).length
      rw [k3, List.length_map]; simp [pickObs]
    · show List.map _ (List.map _ _ ++ List.map _ _) = _
      rw [List.map_append, List.map_map, List.map_map]
      congr 1
      · rw [show ((fun x : Nat × Option (Nat × Nat × Nat) => x.fst) ∘ fun v => (v, none)) = id from rfl, List.map_id]
      · rw [show ((fun x : Nat × Option (Nat × Nat × Nat) => x.fst) ∘ fun o => (0, regOf g o)) = fun _ => 0 from rfl, List.map_const', hT]
        unfold toksOf
        rw [List.length_append, k2, k5]
    · have := k4 j o hj
      rw [Nat.zero_add] at this; exact this
    · obtain ⟨i', h3, h4⟩ := ghK_blk hi
      obtain ⟨j', h5, h6⟩ := ghK_blk hj
      have := hst.inj i' j' b _ _ h4 h6
      subst this
      have e1 := idx_of_get hn h3
      have e2 := idx_of_get hn h5
      rw [e1] at e2; simpa using e2
    · obtain ⟨i', h3, h4⟩ := ghK_blk hi; exact hst.bsz i' b _ h4
    · obtain ⟨i, k, ver', h3, h4, h5⟩ := ghK_tk ht
      obtain ⟨h6, h7, h8⟩ := hst.tok _ _ _ _ _ h5
      exact ⟨h6, fun q f hq => by obtain ⟨q', _, h9⟩ := ghK_blk hq; exact h7 q' f h9, fun a ha h9 h10 => hfr k i ver' b lo hi h4 h5 a ha h9 h10⟩
    · obtain ⟨i1, k1, v1, h3, h4, h5⟩ := ghK_tk ht
      obtain ⟨i2, k2, v2, h6, h7, h8⟩ := ghK_tk ht'
      have := hst.tinj _ _ _ _ _ _ _ _ _ h5 h8
      subst this
      have := nodupB_get hnod h4 h7
      omega
  · cases hd
end
end
end Go.Proofs.Yticelgnmcjkknaa.Vm
