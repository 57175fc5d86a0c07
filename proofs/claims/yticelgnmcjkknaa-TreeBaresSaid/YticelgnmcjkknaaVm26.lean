/-
A machine of values, part twenty-six: code, and functions.
-/
import Derived.Test.YticelgnmcjkknaaVm25
import Derived.LoopN
set_option linter.unusedVariables false
set_option linter.unusedSimpArgs false
namespace Go.Proofs.Yticelgnmcjkknaa.Vm
open Go.RowKit (Below)
section
variable {P : Program} {C : Nat → Fun} {tt : Nat → TI} {R : Type}

def exOf : Ex → Exit
  | .normal => .normal
  | .exit i => .exit i
  | .ret => .ret
/-- What is asked of a region that draws its order. -/
def DrawOk (P : Program) (C : Nat → Fun) (tt : Nat → TI) : Prop := ∀ (R : Type) (id : Nat) (ops : Array Oper) (env : List V) (σ : St) (K : List V → St → Option R) (r : R), vdraw C tt ops.toList env σ K = some r →
  ∃ env' σ', K env' σ' = some r ∧ Goes (wrOps ops.toList) (fun Q a w => (Code.region id ops true).wp P Q a w) .normal env σ env' σ'
/-- A piece of code's place in a body: the body is 1, the parts of p are 2p and 2p+1. -/
inductive At (c0 : Code) : Nat → Code → Prop
  | root : At c0 1 c0
  | seqL (p : Nat) (a b : Code) : At c0 p (.seq a b) → At c0 (2 * p) a
  | seqR (p : Nat) (a b : Code) : At c0 p (.seq a b) → At c0 (2 * p + 1) b
  | condL (p : Nat) (x : Operand) (a b : Code) : At c0 p (.cond x a b) → At c0 (2 * p) a
  | condR (p : Nat) (x : Operand) (a b : Code) : At c0 p (.cond x a b) → At c0 (2 * p + 1) b
  | block (p id : Nat) (a : Code) : At c0 p (.block id a) → At c0 (2 * p) a
  | loop (p : Nat) (a : Code) : At c0 p (.loop a) → At c0 (2 * p) a
def part (c : Code) (right : Bool) : Code := match c with
  | .seq a b => cond right b a
  | .cond _ a b => cond right b a
  | .block _ a => a
  | .loop a => a
  | c => c
def codeAt : Nat → Code → Nat → Code
  | f + 1, c0, p => if p ≤ 1 then c0 else part (codeAt f c0 (p / 2)) (p % 2 == 1)
  | 0, c0, _ => c0
theorem codeAt_eq {c0 : Code} {p : Nat} {c : Code} (h : At c0 p c) : 1 ≤ p ∧ ∀ f, p ≤ f → codeAt f c0 p = c := by
  have key : ∀ {q : Nat} {b : Bool} {d e : Code}, (1 ≤ q ∧ ∀ f, q ≤ f → codeAt f c0 q = d) → part d b = e → 1 ≤ 2 * q + b.toNat ∧ ∀ f, 2 * q + b.toNat ≤ f → codeAt f c0 (2 * q + b.toNat) = e := by
    intro q b d e h hp
    refine ⟨by have := h.1; omega, fun f hf => ?_⟩
    cases f with
    | zero => have := h.1; omega
    | succ f =>
      have hb : b.toNat ≤ 1 := by cases b <;> decide
      rw [codeAt, if_neg (by have := h.1; omega), show (2 * q + b.toNat) / 2 = q by omega, h.2 f (by have := h.1; omega)]
      have : ((2 * q + b.toNat) % 2 == 1) = b := by cases b <;> simp <;> omega
      rw [this]; exact hp
  induction h with
  | root => exact ⟨Nat.le_refl _, fun f hf => by cases f with | zero => omega | succ f => rw [codeAt, if_pos (Nat.le_refl _)]⟩
  | seqL p a b _ ih => exact key (b := false) ih rfl
  | seqR p a b _ ih => exact key (b := true) ih rfl
  | condL p x a b _ ih => exact key (b := false) ih rfl
  | condR p x a b _ ih => exact key (b := true) ih rfl
  | block p id a _ ih => exact key (b := false) ih rfl
  | loop p a _ ih => exact key (b := false) ih rfl
theorem wr_or {a b : Bool} (h : (a || b) = false) : a = false ∧ b = false := by simpa using h
/-- A piece of code does as a cut says. -/
def CutOk (P : Program) (c : Code) (S : Cut) : Prop := ∀ (R : Type) (env : List V) (σ : St) (K : Ex → List V → St → Option R) (r : R), S.run env σ K = some r →
  ∃ ex env' σ', K ex env' σ' = some r ∧ Goes (wrC c) (fun Q a w => c.wp P Q a w) (exOf ex) env σ env' σ'
theorem vcode_sound (hC : ∀ f, SoundFn P f (C f)) (hT : TtOk P tt) (hD : DrawOk P C tt) {c0 : Code} {H : Nat → Option Cut} (hH : ∀ p S, H p = some S → ∀ c, At c0 p c → CutOk P c S) : ∀ (c : Code) (p : Nat), At c0 p c →
    ∀ (env : List V) (σ : St) (K : Ex → List V → St → Option R) (r : R), vcode C tt H c p env σ K = some r → ∃ ex env' σ', K ex env' σ' = some r ∧ Goes (wrC c) (fun Q a w => c.wp P Q a w) (exOf ex) env σ env' σ' := by
  intro c
  induction c with
  | skip =>
    intro p hp env σ K r h
    cases hh : H p with
    | some S => simp only [vcode, hh] at h; exact hH p S hh _ hp R env σ K r h
    | none =>
      simp only [vcode, hh] at h
      exact ⟨.normal, env, σ, h, fun g w a Q hst he hd hq => wp_skip (hq g w a (.refl g w) hst he hd fun _ _ => rfl)⟩
  | region id ops draw =>
    intro p hp env σ K r h
    cases hh : H p with
    | some S => simp only [vcode, hh] at h; exact hH p S hh _ hp R env σ K r h
    | none =>
      simp only [vcode, hh] at h
      cases draw with
      | true =>
        simp only [if_true] at h
        obtain ⟨env', σ', h1, h2⟩ := hD R id ops env σ _ r h
        exact ⟨.normal, env', σ', h1, h2⟩
      | false =>
        simp only [Bool.false_eq_true, if_false] at h
        obtain ⟨env', σ', h1, h2⟩ := vregion_sound (id := id) hC hT h
        exact ⟨.normal, env', σ', h1, h2⟩
  | seq x y ihx ihy =>
    intro p hp env σ K r h
    cases hh : H p with
    | some S => simp only [vcode, hh] at h; exact hH p S hh _ hp R env σ K r h
    | none =>
      simp only [vcode, hh] at h
      obtain ⟨ex, env1, σ1, h1, h2⟩ := ihx _ (.seqL p x y hp) env σ _ r h
      cases ex with
      | normal =>
        obtain ⟨ex, env2, σ2, h3, h4⟩ := ihy _ (.seqR p x y hp) env1 σ1 K r h1
        exact ⟨ex, env2, σ2, h3, fun g w a Q hst he hd hq => wp_seq (h2 g w a _ hst he hd fun g1 w1 a1 hu1 hst1 he1 hd1 hk1 => h4 g1 w1 a1 Q hst1 he1 hd1 fun g2 w2 a2 hu2 hst2 he2 hd2 hk2 => hq g2 w2 a2 (hu1.trans hu2) hst2 he2 hd2 fun i hi => (hk2 i (wr_or hi).2).trans (hk1 i (wr_or hi).1))⟩
      | exit i => exact ⟨_, env1, σ1, h1, fun g w a Q hst he hd hq => wp_seq (h2 g w a _ hst he hd fun g2 w2 a2 hu2 hst2 he2 hd2 hk2 => hq g2 w2 a2 hu2 hst2 he2 hd2 fun i hi => hk2 i (wr_or hi).1)⟩
      | ret => exact ⟨_, env1, σ1, h1, fun g w a Q hst he hd hq => wp_seq (h2 g w a _ hst he hd fun g2 w2 a2 hu2 hst2 he2 hd2 hk2 => hq g2 w2 a2 hu2 hst2 he2 hd2 fun i hi => hk2 i (wr_or hi).1)⟩
  | cond x a b iha ihb =>
    intro p hp env σ K r h
    cases hh : H p with
    | some S => simp only [vcode, hh] at h; exact hH p S hh _ hp R env σ K r h
    | none =>
      simp only [vcode, hh] at h
      obtain ⟨t, hx, h⟩ := asBool_some h
      have ht : ∀ (g : Gh) (w : World) (act : Act), RelE g w env act → act.eval x = .bool t := fun g w act he => by
        have := ev_rel he x; rw [hx] at this; exact relV_bool this
      cases t with
      | true =>
        simp only [cond_true] at h
        obtain ⟨ex, env1, σ1, h1, h2⟩ := iha _ (.condL p x a b hp) env σ K r h
        exact ⟨ex, env1, σ1, h1, fun g w act Q hst he hd hq => wp_cond_true (ht g w act he) (h2 g w act Q hst he hd fun g2 w2 a2 hu2 hst2 he2 hd2 hk2 => hq g2 w2 a2 hu2 hst2 he2 hd2 fun i hi => hk2 i (wr_or hi).1)⟩
      | false =>
        simp only [cond_false] at h
        obtain ⟨ex, env1, σ1, h1, h2⟩ := ihb _ (.condR p x a b hp) env σ K r h
        exact ⟨ex, env1, σ1, h1, fun g w act Q hst he hd hq => wp_cond_false (ht g w act he) (h2 g w act Q hst he hd fun g2 w2 a2 hu2 hst2 he2 hd2 hk2 => hq g2 w2 a2 hu2 hst2 he2 hd2 fun i hi => hk2 i (wr_or hi).2)⟩
  | block id x ih =>
    intro p hp env σ K r h
    cases hh : H p with
    | some S => simp only [vcode, hh] at h; exact hH p S hh _ hp R env σ K r h
    | none =>
      simp only [vcode, hh] at h
      obtain ⟨ex, env1, σ1, h1, h2⟩ := ih _ (.block p id x hp) env σ _ r h
      cases ex with
      | normal => exact ⟨_, env1, σ1, h1, fun g w a Q hst he hd hq => wp_block (h2 g w a _ hst he hd hq)⟩
      | ret => exact ⟨_, env1, σ1, h1, fun g w a Q hst he hd hq => wp_block (h2 g w a _ hst he hd hq)⟩
      | exit i =>
        dsimp only at h1
        split at h1
        · rename_i e
          refine ⟨.normal, env1, σ1, h1, fun g w a Q hst he hd hq => wp_block (h2 g w a _ hst he hd fun g1 w1 a1 hu1 hst1 he1 hd1 hk1 => ?_)⟩
          simp only [exOf, Exit.inBlock, e, if_true]
          exact hq g1 w1 a1 hu1 hst1 he1 hd1 hk1
        · rename_i e
          refine ⟨.exit i, env1, σ1, h1, fun g w a Q hst he hd hq => wp_block (h2 g w a _ hst he hd fun g1 w1 a1 hu1 hst1 he1 hd1 hk1 => ?_)⟩
          simp only [exOf, Exit.inBlock, e, if_false]
          exact hq g1 w1 a1 hu1 hst1 he1 hd1 hk1
  | exit id =>
    intro p hp env σ K r h
    cases hh : H p with
    | some S => simp only [vcode, hh] at h; exact hH p S hh _ hp R env σ K r h
    | none =>
      simp only [vcode, hh] at h
      exact ⟨.exit id, env, σ, h, fun g w a Q hst he hd hq => wp_exit (hq g w a (.refl g w) hst he hd fun _ _ => rfl)⟩
  | ret =>
    intro p hp env σ K r h
    cases hh : H p with
    | some S => simp only [vcode, hh] at h; exact hH p S hh _ hp R env σ K r h
    | none =>
      simp only [vcode, hh] at h
      exact ⟨.ret, env, σ, h, fun g w a Q hst he hd hq => wp_ret (hq g w a (.refl g w) hst he hd fun _ _ => rfl)⟩
  | loop x _ =>
    intro p hp env σ K r h
    cases hh : H p with
    | some S => simp only [vcode, hh] at h; exact hH p S hh _ hp R env σ K r h
    | none => simp only [vcode, hh] at h; cases h
  | rangeFunc f ps x y _ _ =>
    intro p hp env σ K r h
    cases hh : H p with
    | some S => simp only [vcode, hh] at h; exact hH p S hh _ hp R env σ K r h
    | none => simp only [vcode, hh] at h; cases h
  | scope x _ =>
    intro p hp env σ K r h
    cases hh : H p with
    | some S => simp only [vcode, hh] at h; exact hH p S hh _ hp R env σ K r h
    | none => simp only [vcode, hh] at h; cases h
  | label l =>
    intro p hp env σ K r h
    cases hh : H p with
    | some S => simp only [vcode, hh] at h; exact hH p S hh _ hp R env σ K r h
    | none => simp only [vcode, hh] at h; cases h
  | goto l =>
    intro p hp env σ K r h
    cases hh : H p with
    | some S => simp only [vcode, hh] at h; exact hH p S hh _ hp R env σ K r h
    | none => simp only [vcode, hh] at h; cases h
  | refuse s =>
    intro p hp env σ K r h
    cases hh : H p with
    | some S => simp only [vcode, hh] at h; exact hH p S hh _ hp R env σ K r h
    | none => simp only [vcode, hh] at h; cases h

/-! ### results -/
def resF (tmps : Array Value) : ResultVar → Sem Value
  | .tmp t => pure (tmps.getD t undef)
  | .cell a t => do loadVar t (← asAddr (tmps.getD a undef))
def Res (P : Program) (g : Gh) (w : World) (tmps : Array Value) (r : ResultVar) (v : V) : Prop :=
  ∃ rv, (resF tmps r).run P w = .ok rv w ∧ RelV g (Imm g w) v rv
theorem vres1_sound (hT : TtOk P tt) {env : List V} {σ : St} {x : ResultVar} {K : V → Option R} {r : R} (h : vres1 tt env σ x K = some r) :
    ∃ v, K v = some r ∧ ∀ (g : Gh) (w : World) (a : Act), RelSt g σ w → RelE g w env a → Res P g w a.tmps x v := by
  cases x with
  | tmp t => exact ⟨_, h, fun g w a _ he => ⟨_, rfl, ev_rel he (.tmp t)⟩⟩
  | cell s t =>
    simp only [vres1] at h
    split at h
    · rename_i i o hv
      obtain ⟨v, h1, h2⟩ := loadV_sound (P := P) hT h
      refine ⟨v, h1, fun g w a hst he => ?_⟩
      have h3 : RelV g (Imm g w) (.ptr i o) (a.tmps.getD s undef) := by rw [← hv]; exact ev_rel he (.tmp s)
      obtain ⟨rv, h4, h5⟩ := h2 g w _ hst.obj h3
      refine ⟨rv, ?_, h5⟩
      generalize hr : a.tmps.getD s undef = rp at h3 h4
      obtain ⟨b, hb⟩ : ∃ b, rp = .pointer (some ⟨b, o, none⟩) := by cases h3; exact ⟨_, rfl⟩
      subst hb
      have hr2 : (asAddr (a.tmps.getD s undef)).run P w = .ok ⟨b, o, none⟩ w := by rw [hr]; rfl
      show (do loadVar t (← asAddr (a.tmps.getD s undef)) : Sem Value).run P w = _
      rw [Sem.run_bind, hr2]
      simpa [Instr.loadAt, Instr.sureAddr] using h4
    · cases h
theorem vresL_sound (hT : TtOk P tt) {env : List V} {σ : St} : ∀ (xs : List ResultVar) (K : List V → Option R) (r : R), vresL tt env σ xs K = some r →
    ∃ vs, K vs = some r ∧ ∀ (g : Gh) (w : World) (a : Act), RelSt g σ w → RelE g w env a → ∃ rvs : List Value, (xs.mapM (resF a.tmps)).run P w = .ok rvs w ∧ RelL g (Imm g w) vs rvs
  | [], K, r, h => ⟨[], h, fun g w a _ _ => ⟨[], rfl, rfl, fun i v rv hv => by simp at hv⟩⟩
  | x :: xs, K, r, h => by
    simp only [vresL] at h
    obtain ⟨v, h1, h2⟩ := vres1_sound (P := P) hT h
    obtain ⟨vs, h3, h4⟩ := vresL_sound hT xs _ r h1
    refine ⟨_, h3, fun g w a hst he => ?_⟩
    obtain ⟨rv, k1, k2⟩ := h2 g w a hst he
    obtain ⟨rvs, k3, k4⟩ := h4 g w a hst he
    refine ⟨rv :: rvs, ?_, by simp [k4.1], fun i u ru hu hr => ?_⟩
    · rw [List.mapM_cons, Sem.run_bind, k1]
      simp [Sem.run_bind, k3]
    · cases i with
      | zero => simp at hu hr; subst hu; subst hr; exact k2
      | succ i => exact k4.2 i u ru (by simpa using hu) (by simpa using hr)
theorem vres_sound (hT : TtOk P tt) {fn : Func} {env : List V} {σ : St} {K : V → Option R} {r : R} (h : vres tt fn env σ K = some r) :
    ∃ v, K v = some r ∧ ∀ (g : Gh) (w : World) (a : Act), RelSt g σ w → RelE g w env a → ∃ rv, (results fn a.tmps).run P w = .ok rv w ∧ RelV g (Imm g w) v rv := by
  obtain ⟨vs, h1, h2⟩ := vresL_sound (P := P) hT _ _ _ h
  refine ⟨_, h1, fun g w a hst he => ?_⟩
  obtain ⟨rvs, h3, h4⟩ := h2 g w a hst he
  have h5 : (results fn a.tmps).run P w = .ok (if h : rvs.toArray.size = 1 then rvs.toArray[0] else .tuple rvs.toArray) w := by
    have h6 : (fn.results.mapM (resF a.tmps)).run P w = .ok rvs.toArray w := by
      rw [Array.mapM_eq_mapM_toList]
      simp [h3]
    show (do let vs ← fn.results.mapM (resF a.tmps); pure (if h : vs.size = 1 then vs[0] else .tuple vs) : Sem Value).run P w = _
    rw [Sem.run_bind, h6]; rfl
  refine ⟨_, h5, ?_⟩
  obtain ⟨k1, k2⟩ := h4
  split
  · rename_i v
    obtain ⟨rv, rfl⟩ : ∃ rv, rvs = [rv] := by
      cases rvs with
      | nil => cases k1
      | cons x xs => cases xs with
        | nil => exact ⟨x, rfl⟩
        | cons y ys => cases k1
    simpa using k2 0 v rv rfl rfl
  · rename_i vs hne
    rw [dif_neg]
    · exact .tup _ _ k1 k2
    · intro e
      have hl := k1.symm.trans (by simpa using e)
      exact hne _ (List.length_eq_one_iff.1 hl).choose_spec

/-- A function's body. -/
theorem vbody_sound (hC : ∀ f, SoundFn P f (C f)) (hT : TtOk P tt) (hD : DrawOk P C tt) {f : Nat} {fn : Func} {c0 : Code} (hf : P.funcs[f]? = some fn) (hb : fn.body = some c0) {H : Nat → Option Cut} (hH : ∀ p S, H p = some S → ∀ c, At c0 p c → CutOk P c S)
    {args : List V} {σ : St} {K : V → St → Option R} {r : R} (h : vbody C tt H fn args σ K = some r) : ∃ v σ', K v σ' = some r ∧
    ∀ (g : Gh) (w : World) (rargs : Array Value), RelSt g σ w → RelL g (Imm g w) args rargs.toList → Calls P f rargs w fun e w' => ∃ rv g', e = .returned rv ∧ Up g w g' w' ∧ RelV g' (Imm g' w') v rv ∧ RelSt g' σ' w' := by
  unfold vbody at h
  rw [hb] at h
  dsimp only at h
  obtain ⟨ex, env', σ', h1, h2⟩ := vcode_sound hC hT hD hH c0 1 .root _ _ _ _ h
  have done : ∀ (hex : ex ≠ .normal → ex = .ret), (vres tt fn env' σ' fun v => K v σ') = some r → ∃ v σ', K v σ' = some r ∧
      ∀ (g : Gh) (w : World) (rargs : Array Value), RelSt g σ w → RelL g (Imm g w) args rargs.toList → Calls P f rargs w fun e w' => ∃ rv g', e = .returned rv ∧ Up g w g' w' ∧ RelV g' (Imm g' w') v rv ∧ RelSt g' σ' w' := by
    intro hex h1
    obtain ⟨v, h3, h4⟩ := vres_sound (P := P) hT h1
    refine ⟨v, σ', h3, fun g w rargs hst hargs => calls_of_wp hf hb ?_⟩
    have hlen : rargs.size = args.length := hargs.1
    refine h2 g w _ _ hst ⟨?_, fun i u hu => ?_⟩ rfl fun g' w' a' hu hst' he' hd' _ => ?_
    · simp [hlen]
    · rcases Nat.lt_or_ge i args.length with hlt | hge
      · rw [List.getElem?_append_left hlt] at hu
        have hlt' : i < rargs.toList.length := by simpa [hlen] using hlt
        refine ⟨rargs.toList[i], ?_, hargs.2 i u _ hu (List.getElem?_eq_getElem hlt')⟩
        rw [Array.getElem?_append_left (by rw [hlen]; exact hlt)]
        simp [hlen, hlt]
      · rw [List.getElem?_append_right hge, List.getElem?_replicate] at hu
        split at hu
        · rename_i hlt
          simp only [Option.some.injEq] at hu; subst hu
          refine ⟨undef, ?_, void_rel⟩
          rw [Array.getElem?_append_right (by rw [hlen]; exact hge), Array.getElem?_replicate, hlen, if_pos hlt]
        · cases hu
    · obtain ⟨rv, k1, k2⟩ := h4 g' w' a' hst' he'
      cases ex with
      | normal => exact ⟨hd', rv, k1, rv, g', rfl, hu, k2, hst'⟩
      | ret => exact ⟨hd', rv, k1, rv, g', rfl, hu, k2, hst'⟩
      | exit i => have := hex (by simp); cases this
  cases ex with
  | normal => exact done (fun h => absurd rfl h) h1
  | ret => exact done (fun _ => rfl) h1
  | exit i => cases h1
end
end Go.Proofs.Yticelgnmcjkknaa.Vm
