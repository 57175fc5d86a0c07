/-
A machine of values, part twenty-one: calls of functions that turn nothing; sound.
-/
import Derived.Test.YticelgnmcjkknaaVm20
set_option linter.unusedVariables false
set_option linter.unusedSimpArgs false
namespace Go.Proofs.Yticelgnmcjkknaa.Vm
open Go.RowKit (Below)
section
variable {P : Program} {tt : Nat → TI} {R : Type}

theorem live_some {objs : List Ob} {i : Nat} (h : live objs i = true) : ∃ o, objs[i]? = some o ∧ o ≠ .dead := by
  unfold live at h
  split at h <;> first | exact ⟨_, by assumption, by simp⟩ | cases h
theorem live_blk {g : Gh} {σ : St} {w : World} (h : RelSt g σ w) {i : Nat} (hl : live σ.objs i = true) : ∃ b f, g.blk[i]? = some (some (b, f)) := by
  obtain ⟨o, h1, h2⟩ := live_some hl
  have h3 := h.obj i o h1
  cases o with
  | dead => exact absurd rfl h2
  | box f cs => obtain ⟨b, _, _, h4, _⟩ := h3; exact ⟨b, f, h4⟩
  | arr f fx t xs => obtain ⟨b, _, _, h4, _⟩ := h3; exact ⟨b, f, h4⟩
  | map f kt vt es => obtain ⟨b, _, _, h4, _⟩ := h3; exact ⟨b, f, h4⟩

/-- What a callee is told of the world that turns nothing; of some blocks' cells it may know that they stay. -/
def ghR (g : Gh) (ids : List Nat) (S : Nat → Prop) : Gh :=
  ⟨ids.map fun i => ((g.blk[i]?).join).map fun x => (x.1, false), [], fun a => Bad g a ∧ ¬ S a.block⟩
theorem ghR_blk {g : Gh} {ids : List Nat} {S : Nat → Prop} {j b : Nat} {f : Bool} (h : (ghR g ids S).blk[j]? = some (some (b, f))) : f = false ∧ ∃ i f', ids[j]? = some i ∧ g.blk[i]? = some (some (b, f')) := by
  have h : (ids.map fun i => ((g.blk[i]?).join).map fun x => (x.1, false))[j]? = some (some (b, f)) := h
  rw [List.getElem?_map] at h
  cases hi : ids[j]? with
  | none => rw [hi] at h; cases h
  | some i =>
    rw [hi] at h
    simp only [Option.map_some, Option.some.injEq] at h
    cases hb : g.blk[i]? with
    | none => rw [hb] at h; cases h
    | some x =>
      rw [hb] at h
      cases x with
      | none => cases h
      | some x =>
        simp only [Option.join_some, Option.map_some, Option.some.injEq, Prod.mk.injEq] at h
        obtain ⟨x1, x2⟩ := x
        obtain ⟨rfl, rfl⟩ := h
        exact ⟨rfl, i, x2, rfl, by first | exact hb | rw [hb]⟩
theorem ghR_of {g : Gh} {ids : List Nat} {S : Nat → Prop} {i j b : Nat} {f : Bool} (hj : ids[j]? = some i) (h : g.blk[i]? = some (some (b, f))) : (ghR g ids S).blk[j]? = some (some (b, false)) := by
  show (ids.map fun i => ((g.blk[i]?).join).map fun x => (x.1, false))[j]? = _
  rw [List.getElem?_map, hj]; simp [h]
theorem ghR_wr {g : Gh} {ids : List Nat} {S : Nat → Prop} (a : Addr) : ¬ Wr (ghR g ids S) a := by
  rintro (⟨i, hi⟩ | ⟨i, ver, lo, hi, ht, _⟩)
  · have := (ghR_blk hi).1; cases this
  · have ht : ([] : List (Nat × Option (Nat × Nat × Nat)))[i]? = _ := ht; simp at ht
theorem ghR_wb {g : Gh} {ids : List Nat} {S : Nat → Prop} (b : Nat) : ¬ WB (ghR g ids S) b := by
  rintro (⟨i, hi⟩ | ⟨i, ver, lo, hi, ht⟩)
  · have := (ghR_blk hi).1; cases this
  · have ht : ([] : List (Nat × Option (Nat × Nat × Nat)))[i]? = _ := ht; simp at ht
theorem ghR_imm {g : Gh} {ids : List Nat} {S : Nat → Prop} {w : World} (a : Addr) (u : Value) (h : Imm g w a u) : Imm (ghR g ids S) w a u :=
  ⟨h.1, fun hb => by rcases hb with hb | hb; exact ghR_wr a hb; exact h.2 hb.1⟩
theorem ghR_ren {g : Gh} {ids : List Nat} {S : Nat → Prop} {w : World} : RenOk g (ghR g ids S) (Imm g w) (Imm (ghR g ids S) w) (idx ids) noTag where
  imm := ghR_imm
  blk := fun i j hj b f hb => ⟨false, ghR_of (idx_some hj) hb⟩
  tag := fun _ _ _ _ _ _ _ => trivial
theorem ghR_st {g : Gh} {ids : List Nat} {S : Nat → Prop} {σ : St} {w : World} (h : RelSt g σ w) (hn : ids.Nodup) :
    RelSt (ghR g ids S) ⟨ids.map fun i => (((σ.objs[i]?).map (Ob.ren (idx ids) noTag)).map Ob.lock).getD .dead, []⟩ w where
  lb := by show (List.map _ _).length = (List.map _ _).length; rw [List.length_map, List.length_map]
  lt := rfl
  obj := fun j o ho => by
    have ho : (ids.map fun i => (((σ.objs[i]?).map (Ob.ren (idx ids) noTag)).map Ob.lock).getD .dead)[j]? = some o := ho
    rw [List.getElem?_map] at ho
    cases hi : ids[j]? with
    | none => rw [hi] at ho; cases ho
    | some i =>
      rw [hi] at ho
      simp only [Option.map_some, Option.some.injEq] at ho
      subst ho
      cases hs : σ.objs[i]? with
      | none => trivial
      | some u =>
        have h1 := h.obj i u hs
        show RelOb _ _ _ (((some u).map (Ob.ren (idx ids) noTag)).map Ob.lock |>.getD .dead)
        simp only [Option.map_some, Option.getD_some]
        cases u with
        | dead => trivial
        | box f cs =>
          obtain ⟨b, c, e, h2, h3, h4, h5⟩ := h1
          refine ⟨b, c, e, ghR_of hi h2, h3, by rw [renL_len]; exact h4, fun k v hk => ?_⟩
          rw [renL_get] at hk
          cases hc : cs[k]? with
          | none => rw [hc] at hk; cases hk
          | some x =>
            rw [hc] at hk; simp only [Option.map_some, Option.some.injEq] at hk; subst hk
            obtain ⟨rv, h6, h7, h8⟩ := h5 k x hc
            exact ⟨rv, h6, ren_rel ghR_ren h7, h8⟩
        | arr f fx t xs =>
          obtain ⟨b, c, e, h2, h3, h4, h5, h6⟩ := h1
          refine ⟨b, c, e, ghR_of hi h2, h3, h4, h5, fun k x hk => ?_⟩
          obtain ⟨cs, h7, h8⟩ := h6 k x hk
          exact ⟨cs, h7.mono ghR_imm, h8⟩
        | map f kt vt es =>
          obtain ⟨b, ents, clock, h2, h3, h4, h5⟩ := h1
          refine ⟨b, ents, clock, ghR_of hi h2, h3, h4, fun k e m hk hm => ?_⟩
          obtain ⟨h6, h7⟩ := h5 k e m hk hm
          exact ⟨relV_mkDat ((relVal_dat h6).mono ghR_imm), relV_dv ((relVal_of_dv h7).mono ghR_imm)⟩
  inj := fun i j b f f' hi hj => by
    obtain ⟨_, i', f1, h1, h2⟩ := ghR_blk hi
    obtain ⟨_, j', f2, h3, h4⟩ := ghR_blk hj
    have := h.inj i' j' b f1 f2 h2 h4
    subst this
    have e1 := idx_of_get hn h1
    have e2 := idx_of_get hn h3
    rw [e1] at e2; simpa using e2
  bsz := fun i b f hi => by obtain ⟨_, i', f1, h1, h2⟩ := ghR_blk hi; exact h.bsz i' b f1 h2
  tok := fun i ver b lo hi ht => by
    have ht : ([] : List (Nat × Option (Nat × Nat × Nat)))[i]? = _ := ht; simp at ht
  gl := fun hn => (h.gl hn).imp fun m hm => ghR_imm _ _ hm
  fresh := fun a ha => h.bad_lt a ha.1
  tinj := fun i j ver ver' b lo hi lo' hi' ht => by
    have ht : ([] : List (Nat × Option (Nat × Nat × Nat)))[i]? = _ := ht; simp at ht

/-- Is that slice handed over, by itself or in a struct? -/
def MslIn (v : V) (i : Nat) (T : Ty) (lo n : Nat) : Prop := v = .msl i T lo n ∨ ∃ (cs : List V) (j : Nat), v = .mix cs ∧ cs[j]? = some (.msl i T lo n)
/-- The blocks of which a callee is handed a slice over an array that may be turned. -/
def SnapQ (Q : V → Nat → Ty → Nat → Nat → Prop) (g : Gh) (args : List V) (b : Nat) : Prop := ∃ (k i : Nat) (T : Ty) (lo n : Nat) (f : Bool) (v : V), args[k]? = some v ∧ Q v i T lo n ∧ g.blk[i]? = some (some (b, f))
abbrev Snap (g : Gh) (args : List V) (b : Nat) : Prop := SnapQ MslIn g args b
def Msl0 (v : V) (i : Nat) (T : Ty) (lo n : Nat) : Prop := v = .msl i T lo n
theorem snap_tail {Q : V → Nat → Ty → Nat → Nat → Prop} {g : Gh} {v : V} {vs : List V} {b : Nat} (h : SnapQ Q g vs b) : SnapQ Q g (v :: vs) b := by
  obtain ⟨k, i, T, lo, n, f, u, h1, h2⟩ := h
  exact ⟨k + 1, i, T, lo, n, f, u, by simpa using h1, h2⟩
theorem snap_none {g : Gh} {args : List V} (h : args.any isMsl = false) {b : Nat} : ¬ Snap g args b := by
  rintro ⟨k, i, T, lo, n, f, u, h1, h2, h3⟩
  have := List.any_eq_false.1 h _ (List.mem_of_getElem? h1)
  rcases h2 with rfl | ⟨cs, j, rfl, hj⟩
  · exact this rfl
  · apply this
    show cs.any isM1 = true
    exact List.any_eq_true.2 ⟨_, List.mem_of_getElem? hj, rfl⟩
/-- What a snapshot is: the slice as it reads, for one that knows those cells stay. -/
def SnapOkQ (Q : V → Nat → Ty → Nat → Nat → Prop) (objs : List Ob) (args args' : List V) : Prop :=
  ∀ (toks : List Nat) (g : Gh) (w : World) (ids : List Nat) (S : Nat → Prop) (rargs : List Value), RelSt g ⟨objs, toks⟩ w → (∀ b, SnapQ Q g args b → S b) → RelL g (Imm g w) args rargs →
    RelL (ghR g ids S) (Imm (ghR g ids S) w) (V.renL (idx ids) noTag args') rargs
abbrev SnapOk (objs : List Ob) (args args' : List V) : Prop := SnapOkQ MslIn objs args args'
def SnapOk1 (Q : V → Nat → Ty → Nat → Nat → Prop) (objs : List Ob) (v u : V) : Prop := ∀ (toks : List Nat) (g : Gh) (w : World) (ids : List Nat) (S : Nat → Prop) (rv : Value), RelSt g ⟨objs, toks⟩ w → (∀ b, SnapQ Q g [v] b → S b) → RelV g (Imm g w) v rv → RelV (ghR g ids S) (Imm (ghR g ids S) w) (u.ren (idx ids) noTag) rv
theorem snapOk_cons {Q : V → Nat → Ty → Nat → Nat → Prop} {objs : List Ob} {v u : V} {vs us : List V} (h1 : SnapOk1 Q objs v u)
    (h2 : SnapOkQ Q objs vs us) : SnapOkQ Q objs (v :: vs) (u :: us) := by
  intro toks g w ids S rargs hst hS hr
  cases rargs with
  | nil => have := hr.1; cases this
  | cons rv rvs =>
    have hr' : RelL g (Imm g w) vs rvs := ⟨by have := hr.1; simpa using this, fun i v rv h1 h2 => hr.2 (i + 1) v rv (by simpa using h1) (by simpa using h2)⟩
    have hus := h2 toks g w ids S rvs hst (fun b hb => hS b (snap_tail hb)) hr'
    refine ⟨by have := hus.1; simp [V.renL, this], fun i x rx h3 h4 => ?_⟩
    cases i with
    | zero =>
      simp only [V.renL, List.getElem?_cons_zero, Option.some.injEq] at h3 h4
      subst h3; subst h4
      refine h1 toks g w ids S rv hst (fun b hb => hS b ?_) (hr.2 0 v rv rfl rfl)
      obtain ⟨k, i, T, lo, n, f, u, h5, h6⟩ := hb
      cases k with
      | zero => exact ⟨0, i, T, lo, n, f, u, by simpa using h5, h6⟩
      | succ k => simp at h5
    | succ i =>
      simp only [V.renL, List.getElem?_cons_succ] at h3 h4
      exact hus.2 i x rx h3 h4
theorem snapOk_nil {Q : V → Nat → Ty → Nat → Nat → Prop} {objs : List Ob} : SnapOkQ Q objs [] [] := by
  intro toks g w ids S rargs _ _ hr
  cases rargs with
  | nil => exact ⟨rfl, fun i v rv hv => by simp [V.renL] at hv⟩
  | cons => have := hr.1; cases this
theorem snap1_sound {objs : List Ob} {v : V} {K : V → Option R} {r : R} (hk : snap1 objs v K = some r) : ∃ u, K u = some r ∧ SnapOk1 Msl0 objs v u := by
    have other : ∀ (hk : K v = some r), ∃ u, K u = some r ∧ SnapOk1 Msl0 objs v u := fun hk => ⟨v, hk, fun toks g w ids S rv _ _ hv => ren_rel ghR_ren hv⟩
    cases v with
    | msl i T lo n =>
      simp only [snap1] at hk
      split at hk
      · rename_i f fx T' xs hobj
        split at hk
        · rename_i hT; subst hT
          cases hd : decide (lo + n ≤ xs.length) with
          | false => rw [hd] at hk; cases hk
          | true =>
            rw [hd] at hk
            simp only [cond_true] at hk
            have hle : lo + n ≤ xs.length := of_decide_eq_true hd
            refine ⟨_, hk, fun toks g w ids S rv h hS hv => ?_⟩
            cases hv with
            | msl _ _ _ _ b w0 A c h3 h4 h5 hnc =>
              show RelV _ _ (.row T' ((xs.drop lo).take n) .none) _
              have h6 := h.obj i _ hobj
              obtain ⟨b', cc, e, h7, h8, h9, h10, h11⟩ := h6
              have hbb : b = b' ∧ w0 = f := by rw [h7] at h3; simp only [Option.some.injEq, Prod.mk.injEq] at h3; exact ⟨h3.1.symm, h3.2.symm⟩
              obtain ⟨rfl, rfl⟩ := hbb
              have hlen : ((xs.drop lo).take n).length = n := by rw [List.length_take, List.length_drop]; omega
              have hSb : S b := hS b ⟨0, i, T', lo, n, w0, _, rfl, rfl, h7⟩
              have el : ∀ k : Nat, ∃ cs : List Value, ∀ x, ((xs.drop lo).take n)[k]? = some x → Rd (Imm g w) T' x cs ∧ ∀ (q : Nat) (v : Value), cs[q]? = some v → cc[(lo + k) * wd T' + q]? = some v := by
                intro k
                cases hx : ((xs.drop lo).take n)[k]? with
                | none => exact ⟨[], fun x hx => by cases hx⟩
                | some x =>
                  have hx' := (take_get hx).1
                  rw [List.getElem?_drop] at hx'
                  obtain ⟨cs, h12, h13⟩ := h11 _ _ hx'
                  exact ⟨cs, fun x' e => by simp only [Option.some.injEq] at e; subst e; exact ⟨h12, h13⟩⟩
              obtain ⟨f, hf⟩ := Classical.axiomOfChoice el
              have hrd : Rd (Imm (ghR g ids S) w) (.slice T') ((xs.drop lo).take n) [.slice A ((xs.drop lo).take n).length c] := by
                refine Rd.slice T' _ A c f (by rw [hlen]; exact h4) (fun hne => ?_) (fun i x hx => (hf i x hx).1.mono ghR_imm) (fun ad i j v hA hi hj => ?_) hnc
                · rw [h5 (by intro e; apply hne; rw [← List.length_eq_zero_iff, hlen, e])]; rfl
                · rw [hlen] at hi
                  rw [h5 (by omega)] at hA
                  simp only [Option.some.injEq] at hA
                  subst hA
                  have hx : ((xs.drop lo).take n)[i]? = some (((xs.drop lo).take n)[i]'(by omega)) := List.getElem?_eq_getElem _
                  have h14 := (hf i _ hx).2 j v hj
                  have e2 : (lo + i) * wd T' + j = lo * wd T' + (i * wd T' + j) := by rw [Nat.add_mul]; omega
                  rw [e2] at h14
                  rw [addr_ext]
                  refine ⟨cell_mk h8 h14, fun hb => ?_⟩
                  rcases hb with hb | hb
                  · exact ghR_wr _ hb
                  · exact hb.2 hSb
              rw [hlen] at hrd
              exact .row _ _ _ _ _ _ hrd trivial
        · cases hk
      · cases hk
    | _ => exact other hk
theorem snapL_sound {objs : List Ob} : ∀ (args : List V) (K : List V → Option R) (r : R), snapL objs args K = some r → ∃ args', K args' = some r ∧ SnapOkQ Msl0 objs args args'
  | [], K, r, hk => ⟨[], hk, snapOk_nil⟩
  | v :: vs, K, r, hk => by
    obtain ⟨u, hk, h1⟩ := snap1_sound hk
    obtain ⟨us, hk, h2⟩ := snapL_sound vs _ r hk
    exact ⟨_, hk, snapOk_cons h1 h2⟩
theorem snap2_sound {objs : List Ob} {v : V} {K : V → Option R} {r : R} (hk : snap2 objs v K = some r) : ∃ u, K u = some r ∧ SnapOk1 MslIn objs v u := by
  have other : ∀ (hk : snap1 objs v K = some r), ∃ u, K u = some r ∧ SnapOk1 MslIn objs v u := fun hk => by
    obtain ⟨u, h1, h2⟩ := snap1_sound hk
    refine ⟨u, h1, fun toks g w ids S rv hst hS hv => h2 toks g w ids S rv hst (fun b hb => hS b ?_) hv⟩
    obtain ⟨k, i, T, lo, n, f, u, e1, e2, e3⟩ := hb
    exact ⟨k, i, T, lo, n, f, u, e1, .inl e2, e3⟩
  cases v with
  | mix cs =>
    obtain ⟨us, hk, h1⟩ := snapL_sound cs _ r hk
    refine ⟨_, hk, fun toks g w ids S rv hst hS hv => ?_⟩
    cases hv with
    | mix _ rs h2 h3 h4 =>
      have h5 := h1 toks g w ids S rs hst (fun b hb => hS b ?_) ⟨h2, h3⟩
      · exact .mix _ _ h5.1 h5.2 h4
      · obtain ⟨k, i, T, lo, n, f, u, e1, e2, e3⟩ := hb
        exact ⟨0, i, T, lo, n, f, _, rfl, .inr ⟨cs, k, rfl, by rw [e1, e2]⟩, e3⟩
  | _ => exact other hk
theorem snaps_sound {objs : List Ob} : ∀ (args : List V) (K : List V → Option R) (r : R), snaps objs args K = some r → ∃ args', K args' = some r ∧ SnapOk objs args args'
  | [], K, r, hk => ⟨[], hk, snapOk_nil⟩
  | v :: vs, K, r, hk => by
    obtain ⟨u, hk, h1⟩ := snap2_sound hk
    obtain ⟨us, hk, h2⟩ := snaps_sound vs _ r hk
    exact ⟨_, hk, snapOk_cons h1 h2⟩

theorem vcallR_sound {F : Fun} {f : Nat} (hF : SoundFn P f F) {σ : St} {args : List V} {K : V → St → Option R} {r : R} (hk : vcallR F args σ K = some r) : ∃ v, K v σ = some r ∧ Entry P f ∧
    ∀ (τ : St) (g : Gh) (w : World) (rargs : Array Value), τ.objs = σ.objs → RelSt g τ w → RelL g (Imm g w) args rargs.toList →
      Calls P f rargs w fun e w' => ∃ rv, e = .returned rv ∧ Up g w g w' ∧ RelV g (Imm g w') v rv ∧ RelSt g τ w' := by
  obtain ⟨objs, toks⟩ := σ
  unfold vcallR at hk
  obtain ⟨args', hk, hsn⟩ := snaps_sound _ _ _ hk
  generalize hids : reach _ _ (V.idsL args') [] = ids at hk
  dsimp only at hk
  have hn : ids.Nodup := by rw [← hids]; exact reach_nodup _ _ _ _ List.nodup_nil
  split at hk
  · rename_i hlive
    obtain ⟨v, s, hk, hent, hrun⟩ := hF _ _ _ _ _ hk
    split at hk
    · cases hk
    · rename_i hsc
      refine ⟨_, hk, hent, fun τ g w rargs hτ hst hargs => ?_⟩
      obtain ⟨objs', toks'⟩ := τ
      have hτ : objs' = objs := hτ
      subst hτ
      have hst' := ghR_st (ids := ids) (S := Snap g args) hst hn
      refine (hrun _ w rargs (fun _ => ⟨rfl, fun i b hb => by have := (ghR_blk hb).1; cases this⟩) hst' (hsn toks' g w ids (Snap g args) _ hst (fun b hb => hb) hargs)).mono fun e w' he => ?_
      obtain ⟨rv, g', h1, h2, h3, h4⟩ := he
      have hb : Below w.heap.size w w' := ⟨h2.os, h2.tape, h2.output, h2.size, fun b hb => h2.keep b hb (ghR_wb b)⟩
      refine ⟨rv, h1, .of_below hb, ?_, hst.below hb⟩
      cases hm : args.any isMsl with
      | true =>
        have hs : v.scal = true := by
          rw [hm] at hsc
          cases hv : v.scal with
          | true => rfl
          | false => rw [hv] at hsc; simp at hsc
        rw [scal_ren v hs]
        exact scal_rel v hs rv h3
      | false =>
        have hren : RenOk g' g (Imm g' w') (Imm g w') (fun j => ids[j]?) noTag := {
          imm := fun a u hu => ⟨hu.1, fun hbad => hu.2 (.inr (by rw [h2.fr]; exact ⟨hbad, snap_none hm⟩))⟩
          blk := fun i j hj b f hbf => by
            have hl := List.all_eq_true.1 hlive j (List.mem_of_getElem? hj)
            obtain ⟨b', f', hb'⟩ := live_blk hst hl
            have h5 := h2.blk _ _ _ (ghR_of (S := Snap g args) hj hb')
            rw [hbf] at h5
            simp only [Option.some.injEq, Prod.mk.injEq] at h5
            exact ⟨f', by rw [h5.1]; exact hb'⟩
          tag := fun _ _ _ _ _ _ _ => trivial }
        exact ren_rel hren h3
  · cases hk
theorem snapL_id {objs : List Ob} {R : Type} : ∀ (cs : List V) (K : List V → Option R), cs.any isM1 = false → snapL objs cs K = K cs
  | [], K, _ => rfl
  | v :: vs, K, h => by
    rw [List.any_cons] at h
    obtain ⟨h1, h2⟩ := Bool.or_eq_false_iff.1 h
    have ih := snapL_id (objs := objs) vs (fun vs => K (v :: vs)) h2
    cases v <;> first | exact ih | cases h1
theorem snaps_id {objs : List Ob} {R : Type} : ∀ (args : List V) (K : List V → Option R), args.any isMsl = false → snaps objs args K = K args
  | [], K, _ => rfl
  | v :: vs, K, h => by
    rw [List.any_cons] at h
    obtain ⟨h1, h2⟩ := Bool.or_eq_false_iff.1 h
    have ih := snaps_id (objs := objs) vs (fun vs => K (v :: vs)) h2
    cases v with
    | mix cs =>
      show (snapL objs cs fun cs => snaps objs vs fun vs => K (.mix cs :: vs)) = _
      rw [snapL_id cs _ h1]; exact ih
    | msl => cases h1
    | _ => exact ih
theorem reach_nil {objs : List Ob} {n : Nat} {seen : List Nat} : reach objs n [] seen = seen := by cases n <;> rfl
/-- A call that is handed no object: it comes to the same in any state. -/
theorem vcallR_free {F : Fun} {f : Nat} (hF : SoundFn P f F) {σ : St} {args : List V} {K : V → St → Option R} {r : R} (hk : vcallR F args σ K = some r) (hm : args.any isMsl = false) (hi : V.idsL args = []) : ∃ v, K v σ = some r ∧ Entry P f ∧
    ∀ (τ : St) (g : Gh) (w : World) (rargs : Array Value), RelSt g τ w → RelL g (Imm g w) args rargs.toList →
      Calls P f rargs w fun e w' => ∃ rv, e = .returned rv ∧ Up g w g w' ∧ RelV g (Imm g w') v rv ∧ RelSt g τ w' := by
  obtain ⟨objs, toks⟩ := σ
  unfold vcallR at hk
  rw [snaps_id _ _ hm] at hk
  dsimp only at hk
  rw [hi, reach_nil, if_pos (show ([] : List Nat).all (live objs) = true from rfl)] at hk
  obtain ⟨v, s, hk, hent, hrun⟩ := hF _ _ _ _ _ hk
  rw [hm] at hk
  simp only [Bool.false_and, Bool.false_eq_true, if_false] at hk
  refine ⟨_, hk, hent, fun τ g w rargs hst hargs => ?_⟩
  obtain ⟨objs', toks'⟩ := τ
  obtain ⟨args', e, hsn⟩ := snaps_sound (objs := objs') args (fun a => some a) args (snaps_id _ _ hm)
  obtain rfl : args' = args := Option.some.inj e
  have hst' := ghR_st (ids := []) (S := Snap g args') hst List.nodup_nil
  refine (hrun _ w rargs (fun _ => ⟨rfl, fun i b hb => by have := (ghR_blk hb).1; cases this⟩) hst' (hsn toks' g w [] (Snap g args') _ hst (fun b hb => hb) hargs)).mono fun e w' he => ?_
  obtain ⟨rv, g', h1, h2, h3, h4⟩ := he
  have hb : Below w.heap.size w w' := ⟨h2.os, h2.tape, h2.output, h2.size, fun b hb => h2.keep b hb (ghR_wb b)⟩
  refine ⟨rv, h1, .of_below hb, ?_, hst.below hb⟩
  have hren : RenOk g' g (Imm g' w') (Imm g w') (fun j => ([] : List Nat)[j]?) noTag := {
    imm := fun a u hu => ⟨hu.1, fun hbad => hu.2 (.inr (by rw [h2.fr]; exact ⟨hbad, snap_none hm⟩))⟩
    blk := fun i j hj b f hbf => by simp at hj
    tag := fun _ _ _ _ _ _ _ => trivial }
  exact ren_rel hren h3
end
end Go.Proofs.Yticelgnmcjkknaa.Vm
