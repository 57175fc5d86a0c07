/-
A machine of values, part thirty-three: functions told by contents: those that turn what they are handed.
-/
import Derived.Test.YticelgnmcjkknaaVm32
set_option linter.unusedVariables false
set_option linter.unusedSimpArgs false
namespace Go.Proofs.Yticelgnmcjkknaa.Vm
section
variable {P : Program} {R : Type}

/-- What may come out: one of some shapes. -/
def OutC : List Shape → Type
  | [] => Empty
  | [s] => s.C
  | s :: t :: r => s.C ⊕ OutC (t :: r)
def decOuts (wf : Bool) (σ : St) (ids : List Nat) (vs : List V) : (l : List Shape) → Option (OutC l)
  | [] => none
  | [s] => decSh wf s σ ids vs
  | s :: t :: r => (match decSh wf s σ ids vs with
    | some x => some (.inl x)
    | none => (decOuts wf σ ids vs (t :: r)).map .inr)
/-- The objects that are told afterwards: the n first ones, and what the results lead to. -/
def outIds (n : Nat) (σ : St) (vs : List V) : List Nat := List.range n ++ (reach σ.objs (σ.objs.length + 1000) (List.range n ++ V.idsL vs) []).filter fun i => decide (n ≤ i)
def packOut (wf : Bool) (n : Nat) (l : List Shape) (vs : List V) (σ : St) : Option (OutC l) :=
  if (outIds n σ vs).all (live σ.objs) then decOuts wf σ (outIds n σ vs) vs l else none
def joinV : List V → V
  | [v] => v
  | vs => .tup vs
def splitV (n : Nat) (v : V) : Option (List V) := if n = 1 then some [v] else (match v with | .tup vs => if vs.length = n then some vs else none | _ => none)
def arity : List Shape → Nat
  | [] => 0
  | s :: _ => s.sl.length
def encSt (w : Bool) (toks : List Nat) (s : Shape) (y : s.C) : St := ⟨encObs w (toks.length + ownN s.sl) s.ob y.2, toks ++ List.replicate (ownN s.sl + ownO s.ob) 0⟩
def unpack (toks : List Nat) : (l : List Shape) → OutC l → (V → St → Option R) → Option R
  | [s], y, K => K (joinV (encSls toks.length s.sl y.1)) (encSt true toks s y)
  | s :: t :: r, y, K => Sum.elim (fun y => K (joinV (encSls toks.length s.sl y.1)) (encSt true toks s y)) (fun y => unpack toks (t :: r) y K) (show s.C ⊕ OutC (t :: r) from y)
/-- A function that is told by contents. -/
def runW (arg : Shape) (outs : List Shape) (F : arg.C → Option (OutC outs)) : Fs := fun args σ K =>
  (decSh true arg σ (List.range σ.objs.length) args).bind fun x => (F x).bind fun y => unpack (σ.toks.map (· + 1)) outs y K
/-- Its body, by the evaluator. -/
def bodyW (C : Nat → Fun) (tt : Nat → TI) (H : Nat → Option Cut) (fn : Func) (arg : Shape) (outs : List Shape) (x : arg.C) : Option (OutC outs) :=
  vbody C tt H fn (encSls 0 arg.sl x.1) (encSt true [] arg x) fun v σ => (splitV (arity outs) v).bind fun vs => packOut true arg.ob.length outs vs σ

theorem outIds_nodup (n : Nat) (σ : St) (vs : List V) : (outIds n σ vs).Nodup := by
  unfold outIds
  rw [List.nodup_append]
  refine ⟨List.nodup_range, (reach_nodup _ _ _ _ List.nodup_nil).filter _, fun a ha b hb e => ?_⟩
  subst e
  have h1 := List.mem_range.1 ha
  have h2 := (List.mem_filter.1 hb).2
  have := of_decide_eq_true h2
  omega
theorem outIds_get {n : Nat} {σ : St} {vs : List V} {i : Nat} (h : i < n) : (outIds n σ vs)[i]? = some i := by
  unfold outIds
  rw [List.getElem?_append_left (by simpa using h)]
  simp [h]
section
variable {g g3 : Gh} {σ σ0 : St} {w w' : World} {T T' : List (Option Nat)} {fr1 : Addr → Prop} {ids' : List Nat}
theorem range_get {n j i : Nat} (h : (List.range n)[j]? = some i) : i = j ∧ j < n := by
  have hlt := getElem?_lt h
  simp only [List.length_range] at hlt
  rw [List.getElem?_range hlt] at h
  simp only [Option.some.injEq] at h
  exact ⟨h.symm, hlt⟩
/-- The whole step, as the caller sees it. -/
theorem up_sub (hst : RelSt g σ w) (hfr : ∀ a, fr1 a ↔ Bad g a ∧ ¬ Wr (ghK g (List.range σ.objs.length) T [] fr1) a) (hu : Up (ghK g (List.range σ.objs.length) T [] fr1) w g3 w') (hst3 : RelSt g3 σ0 w') (hn : ids'.Nodup) (hid : ∀ i, i < σ.objs.length → ids'[i]? = some i) :
    Up g w (ghK g3 ids' T' (σ.toks.map (· + 1)) g.fr) w' where
  os := hu.os
  tape := hu.tape
  output := hu.output
  size := hu.size
  keep := fun b hb hw => hu.keep b hb fun hc => hw (ghK_wb hc)
  wb := fun b hb hw => ghK_wb (hu.wb b hb (ghK_wb hw))
  cells := fun a v hv => by
    have h1 : Imm (ghK g (List.range σ.objs.length) T [] fr1) w a v := ⟨hv.1, fun hb => hv.2 (by rcases hb with hb | hb; exact .inl (ghK_wr hb); exact ((hfr a).1 hb).1)⟩
    have h2 := hu.cells a v h1
    refine ⟨h2.1, fun hb => ?_⟩
    rcases hb with hb | hb
    · exact h2.2 (.inl (ghK_wr hb))
    · exact hv.2 (.inr hb)
  wr := fun a ha hb => ghK_wr (hu.wr a ha (ghK_wr hb))
  fr := rfl
  blk := fun i b f hb => by
    have hlt : i < σ.objs.length := by rw [← hst.lb]; exact getElem?_lt hb
    exact ghK_of (hid i hlt) (hu.blk i b f (ghK_of (by rw [List.getElem?_range hlt]) hb))
  nb := fun i b f hb hlt => by
    obtain ⟨j, h1, h2⟩ := ghK_blk hb
    obtain ⟨k, h3, h4⟩ := ghK_blk (hu.nb j b f h2 hlt)
    obtain ⟨rfl, h5⟩ := range_get h3
    have e1 := idx_of_get hn h1
    have e2 := idx_of_get hn (hid k h5)
    rw [e1] at e2
    simp only [Option.some.injEq] at e2
    rw [e2]; exact h4
  tk := fun i ver x hx => by
    refine ⟨ver + 1, none, ?_, by omega, fun e => by omega⟩
    show ((σ.toks.map (· + 1)).map (fun v => (v, none)) ++ T'.map (fun o => (0, regOf g3 o)))[i]? = _
    have h1 := tk_ver hst hx
    rw [List.getElem?_append_left (by simpa using getElem?_lt h1)]
    simp [h1]
theorem fr_bad (hst : RelSt g σ w) (hfr : ∀ a, fr1 a ↔ Bad g a ∧ ¬ Wr (ghK g (List.range σ.objs.length) T [] fr1) a) (hu : Up (ghK g (List.range σ.objs.length) T [] fr1) w g3 w') : ∀ a, g.fr a → Bad g3 a := by
  intro a ha
  by_cases hw : Wr (ghK g (List.range σ.objs.length) T [] fr1) a
  · rcases hw with ⟨i, hi⟩ | ⟨i, ver, lo, hi, ht, h1, h2⟩
    · exact .inl (.inl ⟨i, hu.blk _ _ _ hi⟩)
    · obtain ⟨i', k, v', _, _, h4⟩ := ghK_tk ht
      exact absurd ha ((hst.tok _ _ _ _ _ h4).2.2 a rfl h1 h2)
  · exact .inr (by rw [hu.fr]; exact (hfr a).2 ⟨.inr ha, hw⟩)
theorem fr_tok (hst : RelSt g σ w) (hu : Up (ghK g (List.range σ.objs.length) T [] fr1) w g3 w') (hst3 : RelSt g3 σ0 w') {i ver b lo hi : Nat} (ht : g3.tk[i]? = some (ver, some (b, lo, hi))) {a : Addr} (ha : a.block = b) (h1 : lo ≤ a.off) (h2 : a.off < hi) : ¬ g.fr a := by
  intro hf
  have hlt := hst.fresh a hf
  have hw := hu.wr a hlt (.inr ⟨i, ver, lo, hi, by rw [ha]; exact ht, h1, h2⟩)
  rcases hw with ⟨q, hq⟩ | ⟨q, ver', lo', hi', hq, h6, h7⟩
  · exact (hst3.tok _ _ _ _ _ ht).2.1 q true (by rw [← ha]; exact hu.blk _ _ _ hq)
  · obtain ⟨q', k, v', _, _, h8⟩ := ghK_tk hq
    exact (hst.tok _ _ _ _ _ h8).2.2 a rfl h6 h7 hf
end
theorem splitV_rel {g : Gh} {I : Addr → Value → Prop} {n : Nat} {v : V} {vs : List V} (h : splitV n v = some vs) {rv : Value} (hv : RelV g I v rv) : vs.length = n ∧ ∃ rvs, RelL g I vs rvs ∧ ((n = 1 ∧ rvs = [rv]) ∨ (n ≠ 1 ∧ rv = .tuple rvs.toArray)) := by
  unfold splitV at h
  split at h
  · rename_i e
    obtain rfl := Option.some.inj h
    exact ⟨e.symm, [rv], ⟨rfl, fun i u ru h1 h2 => by
      cases i with
      | zero => simp at h1 h2; subst h1; subst h2; exact hv
      | succ i => simp at h1⟩, .inl ⟨e, rfl⟩⟩
  · rename_i hn
    split at h
    · rename_i us
      split at h
      · rename_i hl
        obtain rfl := Option.some.inj h
        cases hv with
        | tup _ rs h1 h2 => exact ⟨hl, rs, ⟨h1, h2⟩, .inr ⟨hn, rfl⟩⟩
      · cases h
    · cases h
theorem joinV_rel {g : Gh} {I : Addr → Value → Prop} {n : Nat} {vs : List V} {rvs : List Value} {rv : Value} (hl : vs.length = n) (h : RelL g I vs rvs) (hr : (n = 1 ∧ rvs = [rv]) ∨ (n ≠ 1 ∧ rv = .tuple rvs.toArray)) : RelV g I (joinV vs) rv := by
  rcases hr with ⟨rfl, rfl⟩ | ⟨hn, rfl⟩
  · obtain ⟨v, rfl⟩ := List.length_eq_one_iff.1 hl
    exact h.2 0 v rv rfl rfl
  · have : joinV vs = .tup vs := by
      cases vs with
      | nil => rfl
      | cons v vs =>
        cases vs with
        | nil => exact absurd hl.symm hn
        | cons => rfl
    rw [this]
    exact .tup _ _ h.1 h.2
theorem encSls_len : ∀ (l : List Sl) (q : Nat) (x : SlsC l), (encSls q l x).length = l.length
  | [], q, x => rfl
  | s :: r, q, (x, y) => by simp [encSls, encSls_len r]
theorem encObs_len {wf : Bool} : ∀ (l : List ObS) (q : Nat) (x : ObsC l), (encObs wf q l x).length = l.length
  | [], q, x => rfl
  | s :: r, q, (x, y) => by simp [encObs, encObs_len r]
/-- Which shape it is that comes out. -/
theorem decOuts_some {wf : Bool} {σ : St} {ids : List Nat} {vs : List V} {toks : List Nat} {K : V → St → Option R} {r : R} : ∀ (l : List Shape) (y : OutC l), decOuts wf σ ids vs l = some y → unpack toks l y K = some r → ∃ (s : Shape) (z : s.C), decSh wf s σ ids vs = some z ∧ K (joinV (encSls toks.length s.sl z.1)) (encSt true toks s z) = some r
  | [], y, h, _ => by cases y
  | [s], y, h, hk => ⟨s, y, h, hk⟩
  | s :: t :: l, y, h, hk => by
    simp only [decOuts] at h
    split at h
    · rename_i x hx
      obtain rfl := Option.some.inj h
      exact ⟨s, x, hx, hk⟩
    · cases hd : decOuts wf σ ids vs (t :: l) with
      | none => rw [hd] at h; cases h
      | some z =>
        rw [hd] at h
        obtain rfl := Option.some.inj h
        exact decOuts_some (t :: l) z hd hk
theorem unpack_some {toks : List Nat} {K : V → St → Option R} {r : R} : ∀ (l : List Shape) (y : OutC l), unpack toks l y K = some r → ∃ v σ', K v σ' = some r ∧ ∀ (R' : Type) (K' : V → St → Option R'), unpack toks l y K' = K' v σ'
  | [], y, _ => by cases y
  | [s], y, hk => ⟨_, _, hk, fun _ _ => rfl⟩
  | s :: t :: l, .inl y, hk => ⟨_, _, hk, fun _ _ => rfl⟩
  | s :: t :: l, .inr y, hk => unpack_some (t :: l) y hk
theorem fnW_sound {C : Nat → Fun} {tt : Nat → TI} (hC : ∀ f, SoundFn P f (C f)) (hT : TtOk P tt) (hD : DrawOk P C tt) {f : Nat} {fn : Func} {c0 : Code} (hf : P.funcs[f]? = some fn) (hb : fn.body = some c0) (hent : Entry P f) {H : Nat → Option Cut} (hH : ∀ p S, H p = some S → ∀ c, At c0 p c → CutOk P c S)
    {arg : Shape} {outs : List Shape} {F : arg.C → Option (OutC outs)} (hF : ∀ x y, F x = some y → bodyW C tt H fn arg outs x = some y) : SoundFn P f ⟨false, runW arg outs F⟩ := by
  intro R args σ K r h
  have h : (decSh true arg σ (List.range σ.objs.length) args).bind (fun x => (F x).bind fun y => unpack (σ.toks.map (· + 1)) outs y K) = some r := h
  obtain ⟨x, hx, h⟩ := bind_some h
  obtain ⟨y, hy, h⟩ := bind_some h
  obtain ⟨v, σ', hk, huniq⟩ := unpack_some outs y h
  refine ⟨v, σ', hk, hent, fun g w rargs _ hst hargs => ?_⟩
  have hbody := hF x y hy
  unfold bodyW at hbody
  obtain ⟨v0, σ0, h1, h2⟩ := vbody_sound hC hT hD hf hb hH hbody
  obtain ⟨vs, h3, h4⟩ := bind_some h1
  -- the callee's own view
  generalize hTT : toksOf arg (V.renL (idx (List.range σ.objs.length)) tid args) (pickObs σ (List.range σ.objs.length)) = T
  obtain ⟨fr1, hfr⟩ : ∃ fr1 : Addr → Prop, ∀ a, fr1 a ↔ Bad g a ∧ ¬ Wr (ghK g (List.range σ.objs.length) T [] fr1) a := ⟨fun a => Bad g a ∧ ¬ Wr (ghK g (List.range σ.objs.length) T [] fun _ => False) a, fun a => Iff.rfl⟩
  obtain ⟨k1, k2⟩ := pick (T := T) (pre := []) (fr := fr1) hst List.nodup_range hargs hx (fun a ha => ((hfr a).1 ha).1) hTT.symm fun k i ver b lo hi hTk ht a ha h5 h6 hfa => by
    refine ((hfr a).1 hfa).2 (.inr ⟨k, 0, lo, hi, ?_, h5, h6⟩)
    have := ghK_tok (g := g) (ids := List.range σ.objs.length) (pre := []) (fr := fr1) hTk
    rw [List.length_nil, Nat.zero_add] at this
    rw [this, ha]; simp [regOf, ht]
  refine (h2 _ w rargs k1 k2).mono fun e w' he => ?_
  obtain ⟨rv, g3, h5, hu, h6, h7⟩ := he
  obtain ⟨hvl, rvs, hrl, hrv⟩ := splitV_rel h3 h6
  unfold packOut at h4
  split at h4
  · rename_i hlive
    obtain ⟨s, z, h8, h9⟩ := decOuts_some (K := fun a b => some (a, b)) (toks := σ.toks.map (· + 1)) outs y h4 (huniq _ _)
    simp only [Option.some.injEq, Prod.mk.injEq] at h9
    obtain ⟨rfl, rfl⟩ := h9
    have hal : arg.ob.length = σ.objs.length := by
      have := k1.lb
      have h10 : (ghK g (List.range σ.objs.length) T [] fr1).blk.length = σ.objs.length := by show (List.map _ _).length = _; simp
      rw [h10] at this
      rw [this]; exact (encObs_len _ _ _).symm
    have hn' := outIds_nodup arg.ob.length σ0 vs
    have hid : ∀ i, i < σ.objs.length → (outIds arg.ob.length σ0 vs)[i]? = some i := fun i hi => outIds_get (by omega)
    obtain ⟨k3, k4⟩ := pick (pre := σ.toks.map (· + 1)) (fr := g.fr) h7 hn' hrl h8 (fr_bad hst hfr hu) rfl fun k i ver b lo hi _ ht a ha h10 h11 => fr_tok hst hu h7 ht ha h10 h11
    refine ⟨rv, _, h5, up_sub hst hfr hu h7 hn' hid, joinV_rel (n := arity outs) ?_ k4 hrv, k3⟩
    rw [encSls_len]
    have := k4.1
    rw [encSls_len] at this
    rw [← this, hrl.1, hvl]
  · cases h4
end
end Go.Proofs.Yticelgnmcjkknaa.Vm
