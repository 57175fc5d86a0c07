/-
A machine of values, part twenty-four: all operations.
-/
import Derived.Test.YticelgnmcjkknaaVm23
set_option linter.unusedVariables false
set_option linter.unusedSimpArgs false
namespace Go.Proofs.Yticelgnmcjkknaa.Vm
open Go.RowKit (Below)
section
variable {P : Program} {C : Nat → Fun} {tt : Nat → TI} {R : Type}

/-- What an operation comes to. -/
def After (g : Gh) (w : World) (v : V) (σ' : St) (rv : Value) (w' : World) : Prop := ∃ g', Up g w g' w' ∧ RelV g' (Imm g' w') v rv ∧ RelSt g' σ' w'
def OO (P : Program) (s : Sem Next) (g : Gh) (w : World) (v : V) (σ' : St) : Prop :=
  (∃ rv w', (s.run P w = .ok (.value rv) w' ∨ (s.run P w = .ok .skip w' ∧ rv = undef)) ∧ After g w v σ' rv w') ∨
  (∃ f args, s.run P w = .ok (.enter f args) w ∧ Calls P f args w fun e w' => ∃ rv, e = .returned rv ∧ After g w v σ' rv w')
theorem OO.of_so {s : Sem Next} {g : Gh} {w : World} {v : V} {σ' : St} (h : SO P s g w v σ') : OO P s g w v σ' := by
  obtain ⟨res, rv, w', g', h1, h2, h3, h4, h5⟩ := h
  rcases h2 with rfl | ⟨rfl, rfl⟩
  · exact .inl ⟨rv, w', .inl h1, g', h3, h4, h5⟩
  · exact .inl ⟨undef, w', .inr ⟨h1, rfl⟩, g', h3, h4, h5⟩
theorem OO.of_qo {s : Sem Next} {g : Gh} {w : World} {v : V} {σ : St} (h : QO P s g w v) (hst : RelSt g σ w) : OO P s g w v σ := by
  obtain ⟨rv, w', h1, h2, h3⟩ := h
  exact .inl ⟨rv, w', .inl h1, g, .of_below h2, h3, hst.below h2⟩
theorem call_run {P : Program} {ev : Operand → Value} {dst : Option Tmp} {f : Operand} {xs ats : Array _} {ty : TypeId} {pos : String} {after : Array Edge} {guard : Option (Nat × Bool)} {g : Nat} {bnds caps : List Value} (hf : ev f = .func (.func g) bnds.toArray caps.toArray) (he : Entry P g) (w : World) :
    (execOp ev { dst, op := .call { callee := .value f, args := xs, argTypes := ats }, type := ty, pos, after, guard }).run P w = .ok (.enter g (bnds.toArray ++ xs.map ev ++ caps.toArray)) w := by
  simp only [execOp, resolve, hf, Deferred.ofValue, invoke, Sem.run_bind]
  simpa using he (bnds.toArray ++ xs.map ev ++ caps.toArray) w
/-- What an operation of a class comes to, in states that look alike to it. -/
def Pkg (P : Program) (c : Nat) (o : Oper) (env : List V) (σ : St) (v : V) (σ' : St) : Prop :=
  (c ≤ 1 → σ' = σ) ∧ (c = 2 → σ'.objs = σ.objs) ∧
  ∀ g w (a : Act) τ, (c = 1 → τ.objs = σ.objs) → (1 < c → τ = σ) → RelSt g τ w → (∀ x, x ∈ o.op.operands → RelV g (Imm g w) (ev env x) (a.eval x)) → OO P (execOp a.eval o) g w v (if c ≤ 1 then τ else σ')
theorem Pkg.turns {c : Nat} (hc : 1 < c) {o : Oper} {env : List V} {σ σ' : St} {v : V} (hobj : c = 2 → σ'.objs = σ.objs)
    (h : ∀ g w (a : Act), RelSt g σ w → (∀ x, x ∈ o.op.operands → RelV g (Imm g w) (ev env x) (a.eval x)) → OO P (execOp a.eval o) g w v σ') : Pkg P c o env σ v σ' :=
  ⟨fun h => by omega, hobj, fun g w a τ _ h2 hst ho => by rw [if_neg (by omega)]; have := h2 hc; subst this; exact h g w a hst ho⟩
theorem Pkg.reads {c : Nat} (hc : c ≤ 1) {o : Oper} {env : List V} {σ : St} {v : V}
    (h : ∀ g w (a : Act) τ, (c = 1 → τ.objs = σ.objs) → RelSt g τ w → (∀ x, x ∈ o.op.operands → RelV g (Imm g w) (ev env x) (a.eval x)) → OO P (execOp a.eval o) g w v τ) : Pkg P c o env σ v σ :=
  ⟨fun _ => rfl, fun _ => rfl, fun g w a τ h1 _ hst ho => by rw [if_pos hc]; exact h g w a τ h1 hst ho⟩
theorem qop_class0 {objs : List Ob} {env : List V} {op : Op} {K : V → Option R} (hl : ∀ t a, op ≠ .load t a) (h : cls C op = 0) : qop tt objs env op K = qop tt [] env op K := by
  cases op with
  | call c =>
    obtain ⟨f, ⟨xs⟩, ⟨ts⟩⟩ := c
    cases f with
    | builtin b =>
      cases b <;> first | rfl | (exfalso; simp [cls] at h; done) | (match xs with
        | [] => rfl
        | [x] => rfl
        | [x, y] => rfl
        | x :: y :: z :: l => rfl)
    | invoke r m => rfl
    | value f => rfl
  | load t a => exact absurd rfl (hl t a)
  | lookup => simp [cls] at h
  | indexAddr => simp [cls] at h
  | makeFunc f xs ys =>
    obtain ⟨xs⟩ := xs
    obtain ⟨ys⟩ := ys
    cases f <;> cases xs <;> first | rfl | (cases ys <;> rfl)
  | _ => rfl
/-- A new block of data that nobody may turn. -/
theorem newD_sound {g : Gh} {σ : St} {w : World} (h : RelSt g σ w) {T : Ty} {x : T.D} {rv : Value} (hv : RelV g (Imm g w) (.dat T x) rv) (hT : aggT T = true) (e : TypeId) :
    RelSt g σ (w.alloc (.cells rv.cells e)) ∧ Up g w g (w.alloc (.cells rv.cells e)) ∧ RelV g (Imm g (w.alloc (.cells rv.cells e))) (.prd T x) (.pointer (some ⟨w.heap.size, 0, none⟩)) := by
  have hb : Below w.heap.size w (w.alloc (.cells rv.cells e)) := (Below.refl _ w).alloc (Nat.le_refl _) _
  have hu : Up g w g (w.alloc (.cells rv.cells e)) := .of_below hb
  refine ⟨h.below hb, hu, ?_⟩
  have hv' := hv.up hu
  rcases relVal_dat hv' with ⟨_, cs, rfl, h1⟩ | ⟨h1, _⟩
  · have ea : ∀ j : Nat, (⟨w.heap.size, 0, none⟩ : Addr).add j = ⟨w.heap.size, j, none⟩ := fun j => by
      unfold Addr.add
      split
      · rename_i h; subst h; rfl
      · simp
    refine .prd T x _ cs h1 fun j v hj => ?_
    rw [ea j]
    refine ⟨cell_mk (heap_alloc_new' _ _) (by show cs.toArray[j]? = some v; simpa using hj), ?_⟩
    rintro ((⟨i, hi⟩ | ⟨i, ver, lo, hi', ht, _⟩) | hf)
    · have := h.bsz _ _ _ hi; dsimp only at this; omega
    · obtain ⟨⟨c, e', h2, _⟩, _⟩ := h.tok _ _ _ _ _ ht
      simp at h2
    · have := h.fresh _ hf; dsimp only at this; omega
  · rw [hT] at h1; cases h1
theorem vop_pkg (hC : ∀ f, SoundFn P f (C f)) (hT : TtOk P tt) {env : List V} {σ : St} {o : Oper} {K : V → St → Option R} {r : R} (h : vop C tt env σ o.op K = some r) :
    ∃ v σ', K v σ' = some r ∧ Pkg P (cls C o.op) o env σ v σ' := by
  have quiet : (∀ t a, o.op ≠ .load t a) → (qop tt σ.objs env o.op fun v => K v σ) = some r → ∃ v σ', K v σ' = some r ∧ Pkg P (cls C o.op) o env σ v σ' := by
    intro hl h
    by_cases hc : cls C o.op = 0
    · rw [qop_class0 hl hc] at h
      obtain ⟨v, h1, h2⟩ := qop_sound (P := P) hT h
      refine ⟨v, σ, h1, .reads (by omega) fun g w a τ _ hst ho => .of_qo (h2 g w a (fun i o hi => by simp at hi) hst.bad_lt ho) hst⟩
    · obtain ⟨v, h1, h2⟩ := qop_sound (P := P) hT h
      by_cases h3 : cls C o.op ≤ 1
      · exact ⟨v, σ, h1, .reads h3 fun g w a τ hτ hst ho => .of_qo (h2 g w a (by rw [← hτ (by omega)]; exact hst.obj) hst.bad_lt ho) hst⟩
      · exact ⟨v, σ, h1, .turns (by omega) (fun _ => rfl) fun g w a hst ho => .of_qo (h2 g w a hst.obj hst.bad_lt ho) hst⟩
  obtain ⟨dst, op, type, pos, after, guard⟩ := o
  simp only at h quiet ⊢
  unfold vop at h
  split at h
  · rename_i t
    split at h
    · rename_i T b htt
      exact ⟨_, _, h, .turns (by simp [cls]) (fun h => by simp [cls] at h) fun g w a hst ho => .of_so (alloc_sound hT htt hst)⟩
    · cases h
    · rename_i hd hn
      exact ⟨_, _, h, .turns (by simp [cls]) (fun h => by simp [cls] at h) fun g w a hst ho => .of_so (allocRef_sound hT hd hn hst)⟩
  · rename_i t x
    cases hro : (C 2000001).ro with
    | true =>
      rw [hro, cond_true] at h
      split at h
      · rename_i hs
        refine ⟨_, _, h, .turns (by simp [cls]) (fun h => by simp [cls] at h) fun g w a hst ho => ?_⟩
        obtain ⟨k1, k2, k3⟩ := new_sound hst (ho x (by simp [Op.operands])) hs t
        exact .of_so ⟨_, _, _, _, by simp [execOp, Instr.box, newVar, newRow], .inl rfl, k2, k3, k1⟩
      · cases h
    | false =>
      rw [hro, cond_false] at h
      split at h
      · rename_i T y hx
        split at h
        · rename_i hT'
          refine ⟨_, _, h, .turns (by simp [cls]) (fun h => by simp [cls] at h) fun g w a hst ho => ?_⟩
          have hx' := ho x (by simp [Op.operands])
          rw [hx] at hx'
          obtain ⟨k1, k2, k3⟩ := newD_sound hst hx' hT' t
          exact .of_so ⟨_, _, _, _, by simp [execOp, Instr.box, newVar, newRow], .inl rfl, k2, k3, k1⟩
        · cases h
      · cases h
  · rename_i t x
    cases hro : (C 2000001).ro with
    | true =>
      rw [hro, cond_true] at h
      obtain ⟨v, h1, h2⟩ := qop_sound (P := P) hT (o := { dst, op := .load t x, type, pos, after, guard }) h
      exact ⟨v, σ, h1, .reads (by simp [cls, hro]) fun g w a τ hτ hst ho => .of_qo (h2 g w a (by rw [← hτ (by simp [cls, hro])]; exact hst.obj) hst.bad_lt ho) hst⟩
    | false =>
      rw [hro, cond_false] at h
      obtain ⟨v, h1, h2⟩ := qop_sound (P := P) hT (o := { dst, op := .load t x, type, pos, after, guard }) h
      exact ⟨v, σ, h1, .reads (by simp [cls, hro]) fun g w a τ _ hst ho => .of_qo (h2 g w a (fun i o hi => by simp at hi) hst.bad_lt ho) hst⟩
  · rename_i t x y
    obtain ⟨u, σ', h1, h2⟩ := storeV_sound (P := P) hT h
    exact ⟨u, σ', h1, .turns (by simp [cls]) (fun h => by simp [cls] at h) fun g w a hst ho => .of_so (h2 g w _ _ hst (ho x (by simp [Op.operands])) (ho y (by simp [Op.operands])))⟩
  · rename_i t l c
    split at h
    · rename_i T eb htt
      split at h
      · rename_i heb
        obtain ⟨kl, n, hl, h⟩ := asInt_some h
        obtain ⟨kc, m, hc, h⟩ := asInt_some h
        cases h0 : decide (0 ≤ n) with
        | false => rw [h0] at h; cases h
        | true =>
          rw [h0] at h
          cases h1 : decide (n ≤ m) with
          | false => rw [h1] at h; cases h
          | true =>
            rw [h1] at h
            cases h2 : decide (m.toNat * eb ≤ room) with
            | false => rw [h2] at h; cases h
            | true =>
              rw [h2] at h
              refine ⟨_, _, h, .turns (by simp [cls]) (fun h => by simp [cls] at h) fun g w a hst ho => ?_⟩
              have hl' := ho l (by simp [Op.operands]); rw [hl] at hl'
              have hc' := ho c (by simp [Op.operands]); rw [hc] at hc'
              have := makeSlice_sound (P := P) hT htt heb (kl := kl) (kc := kc) (of_decide_eq_true h0) (of_decide_eq_true h1) (of_decide_eq_true h2) hst
              simp only [execOp, relV_int hl', relV_int hc']
              exact .of_so this
      · cases h
    · cases h
  · rename_i t
    split at h
    · exact ⟨_, _, h, .turns (by simp [cls]) (fun h => by simp [cls] at h) fun g w a hst ho => .of_so (makeMap_sound hst)⟩
    · cases h
  · rename_i t m k x
    split at h
    · rename_i kt vt i htt hm
      split at h
      · rename_i kt' vt' es hobj
        split at h
        · rename_i hk
          split at h
          · rename_i e1; subst e1
            split at h
            · rename_i e2; subst e2
              obtain ⟨kk, h, h1⟩ := asD_sound h
              obtain ⟨xx, h, h2⟩ := asD_sound h
              refine ⟨_, _, h, .turns (by simp [cls]) (fun h => by simp [cls] at h) fun g w a hst ho => .of_so ?_⟩
              have hm' := ho m (by simp [Op.operands]); rw [hm] at hm'
              exact mapUpdate_sound hT htt hk hobj hst hm' (h1 _ _ _ (ho k (by simp [Op.operands]))) (h2 _ _ _ (ho x (by simp [Op.operands])))
            · cases h
          · cases h
        · cases h
      · cases h
    · cases h
  · rename_i s x t tx
    cases hro : (C 2000000).ro with
    | true =>
      rw [hro, cond_true] at h
      obtain ⟨u, σ', h1, hob, h2⟩ := appendV_sound (P := P) hT h
      refine ⟨u, σ', h1, .turns (by simp [cls, hro]) (fun _ => hob) fun g w a hst ho => .of_so ?_⟩
      have := h2 g w _ _ type hst (ho s (by simp [Op.operands, Call.operands])) (ho x (by simp [Op.operands, Call.operands]))
      simpa [execOp, resolve, invoke, builtin] using this
    | false =>
      rw [hro, cond_false] at h
      obtain ⟨u, σ', h1, h2⟩ := appendO_sound (P := P) hT h
      refine ⟨u, σ', h1, .turns (by simp [cls, hro]) (fun h => by simp [cls, hro] at h) fun g w a hst ho => .of_so ?_⟩
      have := h2 g w _ _ type hst (ho s (by simp [Op.operands, Call.operands])) (ho x (by simp [Op.operands, Call.operands]))
      simpa [execOp, resolve, invoke, builtin] using this
  · rename_i d s td ts
    obtain ⟨u, σ', h1, h2⟩ := copyV_sound (P := P) hT h
    refine ⟨u, σ', h1, .turns (by simp [cls]) (fun h => by simp [cls] at h) fun g w a hst ho => .of_so ?_⟩
    have := h2 g w _ _ type hst (ho d (by simp [Op.operands, Call.operands])) (ho s (by simp [Op.operands, Call.operands]))
    simpa [execOp, resolve, invoke, builtin] using this
  · rename_i f xs ats
    split at h
    · rename_i g0 vargs hf
      have args : ∀ (g : Gh) (w : World) (a : Act), (∀ x, x ∈ (Op.call ⟨.value f, ⟨xs⟩, ats⟩).operands → RelV g (Imm g w) (ev env x) (a.eval x)) →
          ∃ (bnds caps : List Value), a.eval f = .func (.func g0) bnds.toArray caps.toArray ∧ RelL g (Imm g w) vargs (bnds.toArray ++ (⟨xs⟩ : Array Operand).map a.eval ++ caps.toArray).toList := by
        intro g w a ho
        have h1 := ho f (by simp [Op.operands, Call.operands])
        have hxs : RelL g (Imm g w) (xs.map (ev env)) (xs.map a.eval) := ⟨by simp, fun i v rv hv hrv => by
          rw [List.getElem?_map] at hv hrv
          cases hx : xs[i]? with
          | none => rw [hx] at hv; cases hv
          | some x =>
            rw [hx] at hv hrv
            simp only [Option.map_some, Option.some.injEq] at hv hrv
            subst hv; subst hrv
            exact ho _ (by simp [Op.operands, Call.operands]; exact .inr (List.mem_of_getElem? hx))⟩
        generalize hev : ev env f = vf at h1 hf
        generalize hr : a.eval f = rv at h1
        have app : ∀ {vs us : List V} {rs ss : List Value}, RelL g (Imm g w) vs rs → RelL g (Imm g w) us ss → RelL g (Imm g w) (vs ++ us) (rs ++ ss) := by
          intro vs us rs ss h2 h3
          refine ⟨by rw [List.length_append, List.length_append, h2.1, h3.1], fun i v rv hv hrv => ?_⟩
          rcases Nat.lt_or_ge i vs.length with hlt | hge
          · rw [List.getElem?_append_left hlt] at hv
            rw [List.getElem?_append_left (by rw [h2.1]; exact hlt)] at hrv
            exact h2.2 i v rv hv hrv
          · rw [List.getElem?_append_right hge] at hv
            rw [List.getElem?_append_right (by rw [h2.1]; exact hge), h2.1] at hrv
            exact h3.2 _ v rv hv hrv
        cases h1 with
        | fn f' cap caps h2 h3 =>
          simp only [fnArgs, Option.some.injEq, Prod.mk.injEq] at hf
          obtain ⟨rfl, rfl⟩ := hf
          refine ⟨[], caps, rfl, ?_⟩
          simpa using app hxs ⟨h2, h3⟩
        | bfn f' bnd bnds h2 h3 =>
          simp only [fnArgs, Option.some.injEq, Prod.mk.injEq] at hf
          obtain ⟨rfl, rfl⟩ := hf
          refine ⟨bnds, [], rfl, ?_⟩
          simpa using app ⟨h2, h3⟩ hxs
        | _ => simp [fnArgs] at hf
      split at h
      · rename_i hro
        obtain ⟨v, h1, he, h2⟩ := vcallR_sound (hC g0) h
        have key : ∀ g w (a : Act) τ, τ.objs = σ.objs → RelSt g τ w → (∀ x, x ∈ (Op.call ⟨.value f, ⟨xs⟩, ats⟩).operands → RelV g (Imm g w) (ev env x) (a.eval x)) → OO P (execOp a.eval { dst, op := .call { callee := .value f, args := ⟨xs⟩, argTypes := ats }, type, pos, after, guard }) g w v τ := by
          intro g w a τ hτ hst ho
          obtain ⟨bnds, caps, h3, h4⟩ := args g w a ho
          exact .inr ⟨g0, _, call_run h3 he w, (h2 τ g w _ hτ hst h4).mono fun e w' ⟨rv, k1, k2, k3, k4⟩ => ⟨rv, k1, g, k2, k3, k4⟩⟩
        by_cases hcl : cls C (.call { callee := .value f, args := ⟨xs⟩, argTypes := ats }) = 1
        · exact ⟨v, σ, h1, by rw [hcl]; exact .reads (Nat.le_refl _) fun g w a τ hτ hst ho => key g w a τ (hτ rfl) hst ho⟩
        · have h3 : cls C (.call { callee := .value f, args := ⟨xs⟩, argTypes := ats }) = 3 := by
            cases f <;> simp only [cls] at hcl ⊢
            split at hcl
            · exact absurd rfl hcl
            · rename_i hn; simp [hn]
          exact ⟨v, σ, h1, by rw [h3]; exact .turns (by omega) (fun h => by omega) fun g w a hst ho => key g w a σ rfl hst ho⟩
      · rename_i hro
        obtain ⟨v, σ', h1, he, h2⟩ := vcallW_sound (hC g0) (by simpa using hro) h
        have h3 : cls C (.call { callee := .value f, args := ⟨xs⟩, argTypes := ats }) = 3 := by
          cases f <;> simp only [cls]
          rename_i g1
          have : g1 = g0 := by simp only [ev, fnArgs, Option.some.injEq, Prod.mk.injEq] at hf; exact hf.1
          subst this
          simp [hro]
        refine ⟨v, σ', h1, ?_⟩
        rw [h3]
        refine .turns (by omega) (fun h => by omega) fun g w a hst ho => ?_
        obtain ⟨bnds, caps, h4, h5⟩ := args g w a ho
        exact .inr ⟨g0, _, call_run h4 he w, (h2 g w _ hst h5).mono fun e w' ⟨rv, g', k1, k2, k3, k4⟩ => ⟨rv, k1, g', k2, k3, k4⟩⟩
    · cases h
  · exact quiet (by assumption) h
theorem vop_sound (hC : ∀ f, SoundFn P f (C f)) (hT : TtOk P tt) {env : List V} {σ : St} {o : Oper} {K : V → St → Option R} {r : R} (h : vop C tt env σ o.op K = some r) :
    ∃ v σ', K v σ' = some r ∧ ∀ g w (a : Act), RelSt g σ w → (∀ x, x ∈ o.op.operands → RelV g (Imm g w) (ev env x) (a.eval x)) → OO P (execOp a.eval o) g w v σ' := by
  obtain ⟨v, σ', h1, h2, _, h3⟩ := vop_pkg hC hT h
  refine ⟨v, σ', h1, fun g w a hst ho => ?_⟩
  have := h3 g w a σ (fun _ => rfl) (fun _ => rfl) hst ho
  split at this
  · rename_i hc; rw [h2 hc]; exact this
  · exact this
end
end Go.Proofs.Yticelgnmcjkknaa.Vm
