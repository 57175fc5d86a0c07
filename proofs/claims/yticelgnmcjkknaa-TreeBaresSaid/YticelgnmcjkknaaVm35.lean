/-
A machine of values, part thirty-five: pieces of code (and loops) told by contents.
-/
import Derived.Test.YticelgnmcjkknaaVm34
set_option linter.unusedVariables false
set_option linter.unusedSimpArgs false
namespace Go.Proofs.Yticelgnmcjkknaa.Vm
section
variable {P : Program} {R : Type}

/-- A way out of a piece of code: by what exit; which slots are told then, and how. -/
structure Way where
  ex : Ex
  slots : List Nat
  sh : Shape
def exEq : Ex → Ex → Bool
  | .normal, .normal => true
  | .exit i, .exit j => i == j
  | .ret, .ret => true
  | _, _ => false
theorem exEq_eq {a b : Ex} (h : exEq a b = true) : a = b := by
  cases a <;> cases b <;> simp [exEq] at h <;> first | rfl | rw [h]
def WayC (ws : List Way) : Type := OutC (ws.map (·.sh))
def slotsOf (env : List V) (is : List Nat) : List V := is.map fun i => env.getD i .undef
def decWay (n N : Nat) (ex : Ex) (env : List V) (σ : St) (w : Way) : Option w.sh.C :=
  if exEq w.ex ex = true ∧ env.length = N then (if (outIds n σ (slotsOf env w.slots)).all (live σ.objs) then decSh true w.sh σ (outIds n σ (slotsOf env w.slots)) (slotsOf env w.slots) else none) else none
def decWays (n N : Nat) (ex : Ex) (env : List V) (σ : St) : (ws : List Way) → Option (WayC ws)
  | [] => none
  | [w] => decWay n N ex env σ w
  | w :: u :: r => (match decWay n N ex env σ w with
    | some x => some (.inl x)
    | none => (decWays n N ex env σ (u :: r)).map .inr)
def unpackX (toks : List Nat) : (ws : List Way) → WayC ws → (Ex → List Nat → List V → St → Option R) → Option R
  | [w], y, K => K w.ex w.slots (encSls toks.length w.sh.sl y.1) (encSt true toks w.sh y)
  | w :: u :: r, y, K => Sum.elim (fun y => K w.ex w.slots (encSls toks.length w.sh.sl y.1) (encSt true toks w.sh y)) (fun y => unpackX toks (u :: r) y K) (show w.sh.C ⊕ WayC (u :: r) from y)
/-- An environment in which only these slots are known. -/
def envC (N : Nat) (is : List Nat) (vs : List V) : List V := (List.range N).map fun i => match idx is i with | some j => vs.getD j .undef | none => .undef
/-- The environment behind a piece of code. -/
def envB (wr : Nat → Bool) (env : List V) (is : List Nat) (vs : List V) : List V := env.mapIdx fun i v => match idx is i with | some j => vs.getD j .undef | none => cond (wr i) .undef v
def cutToks (σ : St) (ids : List Nat) (args : List V) : List Nat :=
  let t0 := args.flatMap (tokV σ.toks) ++ ids.flatMap fun i => ((σ.objs[i]?).map (tokO σ.toks)).getD []
  reach [] (t0.length + 1) t0 []
def stIn (σ : St) (ids ts : List Nat) : St := ⟨ids.map fun i => ((σ.objs[i]?).map (Ob.ren (idx ids) (tokIn σ.toks ts))).getD .dead, ts.map fun _ => 0⟩
def stOut (σ s : St) (ids ts : List Nat) : St :=
  ⟨(σ.objs.mapIdx fun i o => match idx ids i with | some j => ((s.objs[j]?).map (Ob.ren (blkOut σ.objs.length ids) (tokOut σ.toks ts s.toks))).getD .dead | none => o) ++ (s.objs.drop ids.length).map (Ob.ren (blkOut σ.objs.length ids) (tokOut σ.toks ts s.toks)),
        (σ.toks.mapIdx fun i ver => match idx ts i with | some _ => ver + 1 | none => ver) ++ (s.toks.drop ts.length).map fun _ => 0⟩
/-- A piece of code that is told by contents. -/
def runCut (wr : Nat → Bool) (N : Nat) (ins : List Nat) (arg : Shape) (ws : List Way) (F : arg.C → Option (WayC ws)) : Cs := fun env σ K =>
  let args := slotsOf env ins
  let ids := reach σ.objs (σ.objs.length + 1000) (V.idsL args) []
  let ts := cutToks σ ids args
  if env.length = N ∧ (ids.all (live σ.objs) && ts.all (fun i => decide (i < σ.toks.length))) = true then
    (decSh true arg (stIn σ ids ts) (List.range ids.length) (V.renL (idx ids) (tokIn σ.toks ts) args)).bind fun x => (F x).bind fun y =>
      unpackX ((ts.map fun _ => 0).map (· + 1)) ws y fun ex slots vals s => K ex (envB wr env slots (V.renL (blkOut σ.objs.length ids) (tokOut σ.toks ts s.toks) vals)) ⟨relockL σ.objs (stOut σ s ids ts).objs, (stOut σ s ids ts).toks⟩
  else none

theorem slotsOf_rel {g : Gh} {w : World} {env : List V} {a : Act} (he : RelE g w env a) (is : List Nat) : RelL g (Imm g w) (slotsOf env is) (is.map fun i => a.tmps.getD i undef) := by
  refine ⟨by simp [slotsOf], fun i v rv hv hr => ?_⟩
  unfold slotsOf at hv
  rw [List.getElem?_map] at hv hr
  cases hi : is[i]? with
  | none => rw [hi] at hv; cases hv
  | some s =>
    rw [hi] at hv hr
    simp only [Option.map_some, Option.some.injEq] at hv hr
    subst hv; subst hr
    exact ev_rel he (.tmp s)
theorem envC_rel {g : Gh} {w : World} {N : Nat} {a : Act} (hN : a.tmps.size = N) {is : List Nat} {vs : List V} (h : RelL g (Imm g w) vs (is.map fun i => a.tmps.getD i undef)) : RelE g w (envC N is vs) a := by
  refine ⟨by simp [envC, hN], fun i v hv => ?_⟩
  unfold envC at hv
  rw [List.getElem?_map] at hv
  cases hi : (List.range N)[i]? with
  | none => rw [hi] at hv; cases hv
  | some i' =>
    obtain ⟨rfl, hlt⟩ := range_get hi
    rw [hi] at hv
    simp only [Option.map_some, Option.some.injEq] at hv
    have hta : a.tmps[i']? = some (a.tmps[i']'(by omega)) := Array.getElem?_eq_getElem _
    refine ⟨_, hta, ?_⟩
    cases hx : idx is i' with
    | none => rw [hx] at hv; dsimp only at hv; subst hv; exact .undef _
    | some j =>
      rw [hx] at hv; dsimp only at hv; subst hv
      have hj := idx_some hx
      rw [List.getD_eq_getElem?_getD]
      cases hvj : vs[j]? with
      | none => exact .undef _
      | some u =>
        refine h.2 j u _ hvj ?_
        rw [List.getElem?_map, hj]; simp [Array.getD_eq_getD_getElem?, hta]
theorem decWays_some {n N : Nat} {ex : Ex} {env : List V} {σ : St} {toks : List Nat} {K : Ex → List Nat → List V → St → Option R} {r : R} : ∀ (ws : List Way) (y : WayC ws), decWays n N ex env σ ws = some y → unpackX toks ws y K = some r →
    ∃ (w : Way) (z : w.sh.C), decWay n N ex env σ w = some z ∧ K w.ex w.slots (encSls toks.length w.sh.sl z.1) (encSt true toks w.sh z) = some r
  | [], y, h, _ => by cases y
  | [w], y, h, hk => ⟨w, y, h, hk⟩
  | w :: u :: ws, y, h, hk => by
    simp only [decWays] at h
    split at h
    · rename_i x hx
      obtain rfl := Option.some.inj h
      exact ⟨w, x, hx, hk⟩
    · cases hd : decWays n N ex env σ (u :: ws) with
      | none => rw [hd] at h; cases h
      | some z =>
        rw [hd] at h
        obtain rfl := Option.some.inj h
        exact decWays_some (u :: ws) z hd hk
theorem unpackX_some {toks : List Nat} {K : Ex → List Nat → List V → St → Option R} {r : R} : ∀ (ws : List Way) (y : WayC ws), unpackX toks ws y K = some r → ∃ e sl vs σ', K e sl vs σ' = some r ∧ ∀ (R' : Type) (K' : Ex → List Nat → List V → St → Option R'), unpackX toks ws y K' = K' e sl vs σ'
  | [], y, _ => by cases y
  | [w], y, hk => ⟨_, _, _, _, hk, fun _ _ => rfl⟩
  | w :: u :: ws, .inl y, hk => ⟨_, _, _, _, hk, fun _ _ => rfl⟩
  | w :: u :: ws, .inr y, hk => unpackX_some (u :: ws) y hk

theorem cut_sound {W : (Exit → Act → World → Prop) → Act → World → Prop} {wr : Nat → Bool} {N : Nat} {ins : List Nat} {arg : Shape} {ws : List Way} {F : arg.C → Option (WayC ws)}
    (hF : ∀ x y, F x = some y → ∃ ex env0 σ0, decWays arg.ob.length N ex env0 σ0 ws = some y ∧ Goes wr W (exOf ex) (envC N ins (encSls 0 arg.sl x.1)) (encSt true [] arg x) env0 σ0)
    {env : List V} {σ : St} {K : Ex → List V → St → Option R} {r : R} (h : runCut wr N ins arg ws F env σ K = some r) : ∃ ex env' σ', K ex env' σ' = some r ∧ Goes wr W (exOf ex) env σ env' σ' := by
  unfold runCut at h
  dsimp only at h
  generalize hargs : slotsOf env ins = args at h
  generalize hids : reach σ.objs (σ.objs.length + 1000) (V.idsL args) [] = ids at h
  generalize hts : cutToks σ ids args = ts at h
  have hn : ids.Nodup := by rw [← hids]; exact reach_nodup _ _ _ _ List.nodup_nil
  have hm : ts.Nodup := by rw [← hts]; exact reach_nodup _ _ _ _ List.nodup_nil
  split at h
  · rename_i hc
    obtain ⟨hN, hc⟩ := hc
    obtain ⟨hl, hl'⟩ : ids.all (live σ.objs) = true ∧ ts.all (fun i => decide (i < σ.toks.length)) = true := by simpa using hc
    obtain ⟨x, hx, h⟩ := bind_some h
    obtain ⟨y, hy, h⟩ := bind_some h
    obtain ⟨ex, slots, vals, s, hk, huniq⟩ := unpackX_some ws y h
    refine ⟨ex, _, _, hk, fun g w a Q hst he hd hq => ?_⟩
    obtain ⟨ex0, env0, σ0, h1, h2⟩ := hF x y hy
    have hlen : (stIn σ ids ts).objs.length = ids.length := by simp [stIn]
    -- the piece's own view
    have hstc : RelSt (ghC g ids ts) (stIn σ ids ts) w := ghC_st hst hn hm
    have hargs' : RelL (ghC g ids ts) (Imm (ghC g ids ts) w) (V.renL (idx ids) (tokIn σ.toks ts) args) (ins.map fun i => a.tmps.getD i undef) := renL_rel (ghC_ren hst) (by rw [← hargs]; exact slotsOf_rel he ins)
    generalize hgc : ghC g ids ts = gc at hstc hargs'
    rw [← hlen] at hx
    generalize hTT : toksOf arg (V.renL (idx (List.range (stIn σ ids ts).objs.length)) tid (V.renL (idx ids) (tokIn σ.toks ts) args)) (pickObs (stIn σ ids ts) (List.range (stIn σ ids ts).objs.length)) = T
    obtain ⟨fr1, hfr⟩ : ∃ fr1 : Addr → Prop, ∀ a, fr1 a ↔ Bad gc a ∧ ¬ Wr (ghK gc (List.range (stIn σ ids ts).objs.length) T [] fr1) a := ⟨fun a => Bad gc a ∧ ¬ Wr (ghK gc (List.range (stIn σ ids ts).objs.length) T [] fun _ => False) a, fun a => Iff.rfl⟩
    obtain ⟨k1, k2⟩ := pick (T := T) (pre := []) (fr := fr1) hstc List.nodup_range hargs' hx (fun a ha => ((hfr a).1 ha).1) hTT.symm fun k i ver b lo hi hTk ht a ha h5 h6 hfa => by
      refine ((hfr a).1 hfa).2 (.inr ⟨k, 0, lo, hi, ?_, h5, h6⟩)
      have := ghK_tok (g := gc) (ids := List.range (stIn σ ids ts).objs.length) (pre := []) (fr := fr1) hTk
      rw [List.length_nil, Nat.zero_add] at this
      rw [this, ha]; simp [regOf, ht]
    have hsz : a.tmps.size = N := by rw [← hN]; exact he.1
    refine h2 _ w a Q k1 (envC_rel hsz k2) hd fun g3 w' a' hu h7 he3 hd3 hkeep => ?_
    obtain ⟨wy, z, h8, h9⟩ := decWays_some (K := fun e sl vs s => some (e, sl, vs, s)) (toks := (ts.map fun _ => 0).map (· + 1)) ws y h1 (huniq _ _)
    simp only [Option.some.injEq, Prod.mk.injEq] at h9
    obtain ⟨rfl, rfl, rfl, rfl⟩ := h9
    unfold decWay at h8
    split at h8
    · rename_i hex
      obtain ⟨hex, hN0⟩ := hex
      have hex := exEq_eq hex
      split at h8
      · have hal : arg.ob.length = (stIn σ ids ts).objs.length := by
          have := k1.lb
          have h10 : (ghK gc (List.range (stIn σ ids ts).objs.length) T [] fr1).blk.length = (stIn σ ids ts).objs.length := by show (List.map _ _).length = _; simp
          rw [h10] at this
          rw [this]; exact (encObs_len _ _ _).symm
        have hn' := outIds_nodup arg.ob.length σ0 (slotsOf env0 wy.slots)
        have hid : ∀ i, i < (stIn σ ids ts).objs.length → (outIds arg.ob.length σ0 (slotsOf env0 wy.slots))[i]? = some i := fun i hi => outIds_get (by omega)
        have hrl := slotsOf_rel he3 wy.slots
        obtain ⟨k3, k4⟩ := pick (pre := (stIn σ ids ts).toks.map (· + 1)) (fr := gc.fr) h7 hn' hrl h8 (fr_bad hstc hfr hu) rfl fun k i ver b lo hi _ ht a ha h10 h11 => fr_tok hstc hu h7 ht ha h10 h11
        have hup := up_sub (T' := toksOf wy.sh (V.renL (idx (outIds arg.ob.length σ0 (slotsOf env0 wy.slots))) tid (slotsOf env0 wy.slots)) (pickObs σ0 (outIds arg.ob.length σ0 (slotsOf env0 wy.slots)))) hstc hfr hu h7 hn' hid
        generalize ghK g3 (outIds arg.ob.length σ0 (slotsOf env0 wy.slots)) _ _ _ = gO at k3 k4 hup
        subst hgc
        have hren := ghB_ren hst hup k3 hn hm hl hl'
        have hfin := ghB_st hst hup k3 hn hm hl hl'
        have hupf := ghB_up hst hup hn hm hl hl'
        have hvals := renL_rel hren k4
        rw [hex] at hq
        refine hq _ w' a' hupf (relock_st hst hupf hfin) ⟨?_, fun i v hv => ?_⟩ hd3 hkeep
        · rw [he3.1, hN0, ← hN]; simp [envB]
        · unfold envB at hv
          rw [List.getElem?_mapIdx] at hv
          cases hu0 : env[i]? with
          | none => rw [hu0] at hv; cases hv
          | some u =>
            rw [hu0] at hv
            simp only [Option.map_some, Option.some.injEq] at hv
            have hlt : i < a'.tmps.size := by rw [he3.1, hN0, ← hN]; exact getElem?_lt hu0
            have hta : a'.tmps[i]? = some (a'.tmps[i]'hlt) := Array.getElem?_eq_getElem _
            refine ⟨_, hta, ?_⟩
            cases hx : idx wy.slots i with
            | some j =>
              rw [hx] at hv; dsimp only at hv; subst hv
              have hj := idx_some hx
              rw [List.getD_eq_getElem?_getD]
              cases hvj : (V.renL (blkOut σ.objs.length ids) (tokOut σ.toks ts (encSt true (List.map (fun x => x + 1) (List.map (fun x => 0) ts)) wy.sh z).toks) (encSls (List.map (fun x => x + 1) (List.map (fun x => 0) ts)).length wy.sh.sl z.fst))[j]? with
              | none => exact .undef _
              | some u' =>
                refine hvals.2 j u' _ hvj ?_
                rw [List.getElem?_map, hj]; simp [Array.getD_eq_getD_getElem?, hta]
            | none =>
              rw [hx] at hv; dsimp only at hv
              cases hw : wr i with
              | true => rw [hw] at hv; simp only [cond_true] at hv; subst hv; exact .undef _
              | false =>
                rw [hw] at hv; simp only [cond_false] at hv; subst hv
                obtain ⟨ru, h10, h11⟩ := (he.up hupf).2 i u hu0
                rw [hkeep i hw, h10] at hta
                simp only [Option.some.injEq] at hta
                rw [← hta]; exact h11
      · cases h8
    · cases h8
  · cases h
end
end Go.Proofs.Yticelgnmcjkknaa.Vm
