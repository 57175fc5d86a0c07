/-
A machine of values, twentieth part: calls of functions that turn nothing.
-/
import Derived.Test.YticelgnmcjkknaaVm19
set_option linter.unusedVariables false
set_option linter.unusedSimpArgs false
namespace Go.Proofs.Yticelgnmcjkknaa.Vm
open Go.RowKit (Below)

def RelL (g : Gh) (I : Addr → Value → Prop) (vs : List V) (rs : List Value) : Prop := rs.length = vs.length ∧ ∀ (i : Nat) (v : V) (rv : Value), vs[i]? = some v → rs[i]? = some rv → RelV g I v rv
/-- What is known of a function: if its evaluation ends, so does the call, and as it says. -/
def Entry (P : Program) (f : Nat) : Prop := ∀ (args : Array Value) (w : World), (callFunc f args).run P w = .ok (.enter f args) w
def SoundFn (P : Program) (f : Nat) (F : Fun) : Prop := ∀ (R : Type) (args : List V) (σ : St) (K : V → St → Option R) (r : R), F.run args σ K = some r → ∃ v σ', K v σ' = some r ∧ Entry P f ∧
  ∀ (g : Gh) (w : World) (rargs : Array Value), (F.ro = true → g.tk = [] ∧ ∀ (i b : Nat), g.blk[i]? ≠ some (some (b, true))) → RelSt g σ w → RelL g (Imm g w) args rargs.toList →
    Calls P f rargs w fun e w' => ∃ rv g', e = .returned rv ∧ Up g w g' w' ∧ RelV g' (Imm g' w') v rv ∧ RelSt g' σ' w'
section
variable {P : Program} {tt : Nat → TI} {R : Type}

/-! ### other names -/
theorem renL_get {ρ : Nat → Option Nat} {τ : Nat → Nat → Tag} : ∀ (vs : List V) (i : Nat), (V.renL ρ τ vs)[i]? = (vs[i]?).map (V.ren ρ τ)
  | [], i => by simp [V.renL]
  | v :: vs, 0 => by simp [V.renL]
  | v :: vs, i + 1 => by simpa [V.renL] using renL_get vs i
theorem renL_len {ρ : Nat → Option Nat} {τ : Nat → Nat → Tag} : ∀ (vs : List V), (V.renL ρ τ vs).length = vs.length
  | [] => rfl
  | v :: vs => by simp [V.renL, renL_len vs]
structure RenOk (g1 g2 : Gh) (I1 I2 : Addr → Value → Prop) (ρ : Nat → Option Nat) (τ : Nat → Nat → Tag) : Prop where
  imm : ∀ a u, I1 a u → I2 a u
  blk : ∀ (i j : Nat), ρ i = some j → ∀ (b : Nat) (f : Bool), g1.blk[i]? = some (some (b, f)) → ∃ f', g2.blk[j]? = some (some (b, f'))
  tag : ∀ (i ver : Nat) (A : Option Addr) (n c sz : Nat), TagOk g1 A n c sz (.tok i ver) → TagOk g2 A n c sz (τ i ver)
theorem ren_rel {g1 g2 : Gh} {I1 I2 : Addr → Value → Prop} {ρ : Nat → Option Nat} {τ : Nat → Nat → Tag} (h : RenOk g1 g2 I1 I2 ρ τ) {v : V} {rv : Value} (hv : RelV g1 I1 v rv) : RelV g2 I2 (v.ren ρ τ) rv := by
  induction hv with
  | agg t x cs h1 h2 => exact .agg _ _ _ h1 (h2.mono h.imm)
  | leaf t x v h1 h2 => exact .leaf _ _ _ h1 (h2.mono h.imm)
  | row t xs tag A n c h1 h2 =>
    cases tag with
    | none => exact .row _ _ _ _ _ _ (h1.mono h.imm) trivial
    | full => exact .row _ _ _ _ _ _ (h1.mono h.imm) h2
    | nn => exact .row _ _ _ _ _ _ (h1.mono h.imm) h2
    | tok i ver => exact .row _ _ _ _ _ _ (h1.mono h.imm) (h.tag i ver _ _ _ _ h2)
  | nils => exact .nils
  | ptr i off b w h1 =>
    simp only [V.ren]
    cases hρ : ρ i with
    | none => exact .undef _
    | some j => obtain ⟨f', h2⟩ := h.blk i j hρ b w h1; exact .ptr _ _ _ f' h2
  | pel i t j b w h1 =>
    simp only [V.ren]
    cases hρ : ρ i with
    | none => exact .undef _
    | some j => obtain ⟨f', h2⟩ := h.blk i j hρ b w h1; exact .pel _ _ _ _ f' h2
  | pin i t m j k b w h1 =>
    simp only [V.ren]
    cases hρ : ρ i with
    | none => exact .undef _
    | some j => obtain ⟨f', h2⟩ := h.blk i j hρ b w h1; exact .pin _ _ _ _ _ _ f' h2
  | prd t x ad cs h1 h2 => exact .prd _ _ _ cs (h1.mono h.imm) fun j v hj => h.imm _ _ (h2 j v hj)
  | nilp => exact .nilp
  | msl i t lo n b w A c h1 h2 h3 h5 =>
    simp only [V.ren]
    cases hρ : ρ i with
    | none => exact .undef _
    | some j => obtain ⟨f', h4⟩ := h.blk i j hρ b w h1; exact .msl _ _ _ _ _ f' _ _ h4 h2 h3 h5
  | mp i b w h1 =>
    simp only [V.ren]
    cases hρ : ρ i with
    | none => exact .undef _
    | some j => obtain ⟨f', h2⟩ := h.blk i j hρ b w h1; exact .mp _ _ f' h2
  | nilm => exact .nilm
  | fn f cap caps h1 _ ih =>
    simp only [V.ren]
    refine .fn _ _ _ (by rw [renL_len]; exact h1) fun i v rv hv hr => ?_
    rw [renL_get] at hv
    cases hc : cap[i]? with
    | none => rw [hc] at hv; cases hv
    | some u => rw [hc] at hv; simp only [Option.map_some, Option.some.injEq] at hv; subst hv; exact ih i u rv hc hr
  | bfn f bnd bnds h1 _ ih =>
    simp only [V.ren]
    refine .bfn _ _ _ (by rw [renL_len]; exact h1) fun i v rv hv hr => ?_
    rw [renL_get] at hv
    cases hc : bnd[i]? with
    | none => rw [hc] at hv; cases hv
    | some u => rw [hc] at hv; simp only [Option.map_some, Option.some.injEq] at hv; subst hv; exact ih i u rv hc hr
  | nilf => exact .nilf
  | tup vs rs h1 _ ih =>
    simp only [V.ren]
    refine .tup _ _ (by rw [renL_len]; exact h1) fun i v rv hv hr => ?_
    rw [renL_get] at hv
    cases hc : vs[i]? with
    | none => rw [hc] at hv; cases hv
    | some u => rw [hc] at hv; simp only [Option.map_some, Option.some.injEq] at hv; subst hv; exact ih i u rv hc hr
  | mix vs rs h1 _ h3 ih =>
    simp only [V.ren]
    refine .mix _ _ (by rw [renL_len]; exact h1) (fun i v rv hv hr => ?_) h3
    rw [renL_get] at hv
    cases hc : vs[i]? with
    | none => rw [hc] at hv; cases hv
    | some u => rw [hc] at hv; simp only [Option.map_some, Option.some.injEq] at hv; subst hv; exact ih i u rv hc hr
  | undef v => exact .undef _
theorem renL_rel {g1 g2 : Gh} {I1 I2 : Addr → Value → Prop} {ρ : Nat → Option Nat} {τ : Nat → Nat → Tag} (h : RenOk g1 g2 I1 I2 ρ τ) {vs : List V} {rs : List Value} (hv : RelL g1 I1 vs rs) : RelL g2 I2 (V.renL ρ τ vs) rs := by
  refine ⟨by rw [renL_len]; exact hv.1, fun i v rv h1 h2 => ?_⟩
  rw [renL_get] at h1
  cases hc : vs[i]? with
  | none => rw [hc] at h1; cases h1
  | some u => rw [hc] at h1; simp only [Option.map_some, Option.some.injEq] at h1; subst h1; exact ren_rel h (hv.2 i u rv hc h2)
theorem reach_nodup (objs : List Ob) : ∀ (f : Nat) (todo seen : List Nat), seen.Nodup → (reach objs f todo seen).Nodup
  | 0, todo, seen, h => by cases todo <;> exact h
  | f + 1, [], seen, h => h
  | f + 1, i :: todo, seen, h => by
    simp only [reach]
    split
    · exact reach_nodup objs f todo seen h
    · rename_i hc
      refine reach_nodup objs f _ _ ?_
      rw [List.nodup_append]
      refine ⟨h, by simp, fun a ha b hb => ?_⟩
      simp only [List.mem_singleton] at hb
      subst hb
      intro e; subst e
      exact hc (by simpa using ha)
theorem idx_some {l : List Nat} {i j : Nat} (h : idx l i = some j) : l[j]? = some i := by
  unfold idx at h
  obtain ⟨h1, h2, _⟩ := List.findIdx?_eq_some_iff_getElem.1 h
  rw [List.getElem?_eq_getElem h1]
  simp only [beq_iff_eq] at h2
  rw [h2]
theorem idx_of_get {l : List Nat} (hn : l.Nodup) {i j : Nat} (h : l[j]? = some i) : idx l i = some j := by
  unfold idx
  have hlt := getElem?_lt h
  rw [List.getElem?_eq_getElem hlt] at h
  simp only [Option.some.injEq] at h
  rw [List.findIdx?_eq_some_iff_getElem]
  refine ⟨hlt, by simp [h], fun k hk => ?_⟩
  have hkl : k < l.length := by omega
  simp only [beq_iff_eq]
  intro e
  have h2 := List.pairwise_iff_getElem.1 (List.nodup_iff_pairwise_ne.1 hn) k j hkl hlt hk
  exact h2 (by rw [e, h])

/-! ### a locked state -/
theorem RelOb.ren {g1 g2 : Gh} {w : World} {ρ : Nat → Option Nat} {τ : Nat → Nat → Tag} (h : RenOk g1 g2 (Imm g1 w) (Imm g2 w) ρ τ) {i j : Nat} (hj : ∀ (b : Nat) (f : Bool), g1.blk[i]? = some (some (b, f)) → g2.blk[j]? = some (some (b, f))) {o : Ob} (ho : RelOb g1 w i o) : RelOb g2 w j (o.ren ρ τ) := by
  cases o with
  | dead => trivial
  | box f cs =>
    obtain ⟨b, c, e, h1, h2, h3, h4⟩ := ho
    refine ⟨b, c, e, hj b f h1, h2, by rw [renL_len]; exact h3, fun k v hk => ?_⟩
    rw [renL_get] at hk
    cases hc : cs[k]? with
    | none => rw [hc] at hk; cases hk
    | some u =>
      rw [hc] at hk; simp only [Option.map_some, Option.some.injEq] at hk; subst hk
      obtain ⟨rv, h5, h6, h7⟩ := h4 k u hc
      exact ⟨rv, h5, ren_rel h h6, h7⟩
  | arr f fx t xs =>
    obtain ⟨b, c, e, h1, h2, h3, h4, h5⟩ := ho
    refine ⟨b, c, e, hj b f h1, h2, h3, h4, fun k x hk => ?_⟩
    obtain ⟨cs, h6, h7⟩ := h5 k x hk
    exact ⟨cs, h6.mono h.imm, h7⟩
  | map f kt vt es =>
    obtain ⟨b, ents, clock, h1, h2, h3, h4⟩ := ho
    refine ⟨b, ents, clock, hj b f h1, h2, h3, fun k e m hk hm => ?_⟩
    obtain ⟨h5, h6⟩ := h4 k e m hk hm
    exact ⟨relV_mkDat ((relVal_dat h5).mono h.imm), relV_dv ((relVal_of_dv h6).mono h.imm)⟩
theorem RelOb.lock {g : Gh} {w : World} {i : Nat} {o : Ob} {g' : Gh} (hg : ∀ v rv, RelV g (Imm g w) v rv → RelV g' (Imm g' w) v rv) (hI : ∀ a u, Imm g w a u → Imm g' w a u) (hj : ∀ (b : Nat) (f : Bool), g.blk[i]? = some (some (b, f)) → g'.blk[i]? = some (some (b, false))) (ho : RelOb g w i o) : RelOb g' w i o.lock := by
  cases o with
  | dead => trivial
  | box f cs =>
    obtain ⟨b, c, e, h1, h2, h3, h4⟩ := ho
    exact ⟨b, c, e, hj b f h1, h2, h3, fun k v hk => by obtain ⟨rv, h5, h6, h7⟩ := h4 k v hk; exact ⟨rv, h5, hg _ _ h6, h7⟩⟩
  | arr f fx t xs =>
    obtain ⟨b, c, e, h1, h2, h3, h4, h5⟩ := ho
    exact ⟨b, c, e, hj b f h1, h2, h3, h4, fun k x hk => by obtain ⟨cs, h6, h7⟩ := h5 k x hk; exact ⟨cs, h6.mono hI, h7⟩⟩
  | map f kt vt es =>
    obtain ⟨b, ents, clock, h1, h2, h3, h4⟩ := ho
    exact ⟨b, ents, clock, hj b f h1, h2, h3, fun k e m hk hm => by obtain ⟨h5, h6⟩ := h4 k e m hk hm; exact ⟨hg _ _ h5, hg _ _ h6⟩⟩
theorem scal_data : ∀ (t : Ty), scalT t = true → ∀ {I J : Addr → Value → Prop} {x : t.D} {cs : List Value}, Rd I t x cs → Rd J t x cs := by
  intro t
  induction t with
  | int k => intro _ I J x cs h; have h1 : cs = [.int k x] := h.inv; subst h1; exact .int _ _
  | bool => intro _ I J x cs h; have h1 : cs = [.bool x] := h.inv; subst h1; exact .bool _
  | str => intro _ I J x cs h; have h1 : cs = [.string x] := h.inv; subst h1; exact .str _
  | unit => intro _ I J x cs h; have h1 : cs = [] := h.inv; subst h1; exact .unit _
  | slice t _ => intro h; simp [scalT] at h
  | arr n t _ => intro h; simp [scalT] at h
  | rc i => intro h; simp [scalT] at h
  | pair a b iha ihb =>
    intro hs I J x cs h
    have hs' : scalT a = true ∧ scalT b = true := by simpa [scalT] using hs
    obtain ⟨x, y⟩ := x
    obtain ⟨ca, cb, rfl, h1, h2⟩ := h.inv
    exact .pair _ _ _ _ _ _ (iha hs'.1 h1) (ihb hs'.2 h2)
mutual
theorem scal_rel {g1 g2 : Gh} {I1 I2 : Addr → Value → Prop} : (v : V) → v.scal = true → (rv : Value) → RelV g1 I1 v rv → RelV g2 I2 v rv
  | .dat t x, hs, rv, h => by
    have hs' : scalT t = true := hs
    rcases relVal_dat h with ⟨h1, cs, rfl, h2⟩ | ⟨h1, h2⟩
    · exact .agg _ _ _ h1 (scal_data t hs' h2)
    · exact .leaf _ _ _ h1 (scal_data t hs' h2)
  | .tup vs, hs, rv, h => by
    cases h with
    | tup _ rs h1 h2 => exact .tup _ _ h1 (scal_relL vs hs rs h2)
  | .row .., hs, rv, h => by simp [V.scal] at hs
  | .nils, hs, rv, h => by simp [V.scal] at hs
  | .ptr .., hs, rv, h => by simp [V.scal] at hs
  | .pel .., hs, rv, h => by simp [V.scal] at hs
  | .pin .., hs, rv, h => by simp [V.scal] at hs
  | .prd .., hs, rv, h => by simp [V.scal] at hs
  | .nilp, hs, rv, h => by simp [V.scal] at hs
  | .msl .., hs, rv, h => by simp [V.scal] at hs
  | .mp .., hs, rv, h => by simp [V.scal] at hs
  | .nilm, hs, rv, h => by simp [V.scal] at hs
  | .fn .., hs, rv, h => by simp [V.scal] at hs
  | .bfn .., hs, rv, h => by simp [V.scal] at hs
  | .nilf, hs, rv, h => by simp [V.scal] at hs
  | .mix .., hs, rv, h => by simp [V.scal] at hs
  | .undef, hs, rv, h => by simp [V.scal] at hs
theorem scal_relL {g1 g2 : Gh} {I1 I2 : Addr → Value → Prop} : (vs : List V) → V.scalL vs = true → (rs : List Value) → (∀ (i : Nat) (v : V) (rv : Value), vs[i]? = some v → rs[i]? = some rv → RelV g1 I1 v rv) → ∀ (i : Nat) (v : V) (rv : Value), vs[i]? = some v → rs[i]? = some rv → RelV g2 I2 v rv
  | [], _, rs, _, i, v, rv, h1, _ => by simp at h1
  | u :: us, hs, rs, h, 0, v, rv, h1, h2 => by
    have hs' : u.scal = true ∧ V.scalL us = true := by simpa [V.scalL] using hs
    simp only [List.getElem?_cons_zero, Option.some.injEq] at h1
    subst h1
    exact scal_rel u hs'.1 rv (h 0 u rv rfl h2)
  | u :: us, hs, rs, h, i + 1, v, rv, h1, h2 => by
    have hs' : u.scal = true ∧ V.scalL us = true := by simpa [V.scalL] using hs
    exact scal_relL us hs'.2 rs.tail (fun k v rv h3 h4 => h (k + 1) v rv (by simpa using h3) (by simpa using h4)) i v rv (by simpa using h1) (by simpa using h2)
end
mutual
theorem scal_ren {ρ : Nat → Option Nat} {τ : Nat → Nat → Tag} : (v : V) → v.scal = true → v.ren ρ τ = v
  | .dat t x, _ => rfl
  | .tup vs, hs => by simp only [V.ren]; rw [scal_renL vs hs]
  | .row .., hs => by simp [V.scal] at hs
  | .nils, hs => by simp [V.scal] at hs
  | .ptr .., hs => by simp [V.scal] at hs
  | .pel .., hs => by simp [V.scal] at hs
  | .pin .., hs => by simp [V.scal] at hs
  | .prd .., hs => by simp [V.scal] at hs
  | .nilp, hs => by simp [V.scal] at hs
  | .msl .., hs => by simp [V.scal] at hs
  | .mp .., hs => by simp [V.scal] at hs
  | .nilm, hs => by simp [V.scal] at hs
  | .fn .., hs => by simp [V.scal] at hs
  | .bfn .., hs => by simp [V.scal] at hs
  | .nilf, hs => by simp [V.scal] at hs
  | .mix .., hs => by simp [V.scal] at hs
  | .undef, hs => by simp [V.scal] at hs
theorem scal_renL {ρ : Nat → Option Nat} {τ : Nat → Nat → Tag} : (vs : List V) → V.scalL vs = true → V.renL ρ τ vs = vs
  | [], _ => rfl
  | u :: us, hs => by
    have hs' : u.scal = true ∧ V.scalL us = true := by simpa [V.scalL] using hs
    simp only [V.renL]; rw [scal_ren u hs'.1, scal_renL us hs'.2]
end
end
end Go.Proofs.Yticelgnmcjkknaa.Vm
