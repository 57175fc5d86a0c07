/-
A machine of values, fifteenth part: all operations that leave objects as they are.
-/
import Derived.Test.YticelgnmcjkknaaVm14
set_option linter.unusedVariables false
set_option linter.unusedSimpArgs false
namespace Go.Proofs.Yticelgnmcjkknaa.Vm
open Go.RowKit (Below)
section
variable {P : Program} {tt : Nat → TI} {R : Type}

mutual
theorem ofConst_rel {g : Gh} {I : Addr → Value → Prop} : (v : Value) → RelV g I (ofConst v) v
  | .int k n => relV_mkInt k n
  | .bool b => relV_mkBool b
  | .string s => relV_mkStr s
  | .slice none 0 0 => .nils
  | .slice none 0 (n + 1) => .undef _
  | .slice none (m + 1) n => .undef _
  | .slice (some a) m n => .undef _
  | .pointer none => .nilp
  | .pointer (some a) => .undef _
  | .map none => .nilm
  | .map (some r) => .undef _
  | .nilFunc => .nilf
  | .agg ⟨cs⟩ => by
    have h := ofConstL_rel (g := g) (I := I) cs
    simp only [ofConst]
    split
    · rename_i hall
      refine .mix (ofConstL cs) cs (ofConstL_len cs).symm h fun i rv hr => ?_
      exact List.all_eq_true.1 hall rv (List.mem_of_getElem? hr)
    · exact .undef _
  | .float k b => .undef _
  | .complex k a b => .undef _
  | .chan r => .undef _
  | .func f a b => .undef _
  | .iface t v => .undef _
  | .nilIface => .undef _
  | .tuple vs => .undef _
theorem ofConstL_len : (vs : List Value) → (ofConstL vs).length = vs.length
  | [] => rfl
  | v :: vs => by simp only [ofConstL, List.length_cons, ofConstL_len vs]
theorem ofConstL_rel {g : Gh} {I : Addr → Value → Prop} : (vs : List Value) → ∀ (i : Nat) (v : V) (rv : Value), (ofConstL vs)[i]? = some v → vs[i]? = some rv → RelV g I v rv
  | [], i, v, rv, h, _ => by simp [ofConstL] at h
  | c :: cs, 0, v, rv, h, hr => by
    simp [ofConstL] at h hr
    subst h; subst hr; exact ofConst_rel c
  | c :: cs, i + 1, v, rv, h, hr => ofConstL_rel cs i v rv (by simpa [ofConstL] using h) (by simpa using hr)
end
theorem ev_rel {g : Gh} {w : World} {env : List V} {a : Act} (h : RelE g w env a) (x : Operand) : RelV g (Imm g w) (ev env x) (a.eval x) := by
  cases x with
  | tmp t =>
    show RelV g (Imm g w) (env.getD t .undef) (a.tmps.getD t undef)
    cases ht : env[t]? with
    | none => rw [List.getD_eq_getElem?_getD, ht]; exact .undef _
    | some v =>
      obtain ⟨rv, h1, h2⟩ := h.2 t v ht
      rw [List.getD_eq_getElem?_getD, ht, Array.getD_eq_getD_getElem?, h1]; exact h2
  | const v => exact ofConst_rel v
  | func f => exact .fn f [] [] rfl fun i v rv hv => by simp at hv
  | global gl => exact .undef _
def QO (P : Program) (s : Sem Next) (g : Gh) (w : World) (v : V) : Prop := ∃ rv w', s.run P w = .ok (.value rv) w' ∧ Below w.heap.size w w' ∧ RelV g (Imm g w') v rv
theorem QO.of {s : Sem Value} {g : Gh} {w : World} {v : V} (h : QR P s g w v) : QO P (do pure (.value (← s))) g w v := by
  obtain ⟨rv, w', h1, h2, h3⟩ := h
  exact ⟨rv, w', by simp [h1], h2, h3⟩
theorem QO.pure {g : Gh} {w : World} {v : V} {rv : Value} (h : RelV g (Imm g w) v rv) : QO P (Pure.pure (.value rv)) g w v := ⟨rv, w, rfl, Below.refl _ _, h⟩
theorem OptRel.map {g : Gh} {w : World} {env : List V} {a : Act} {x : Option Operand} (h : ∀ y, x = some y → RelV g (Imm g w) (ev env y) (a.eval y)) : OptRel g (Imm g w) (x.map (ev env)) (x.map a.eval) := by
  cases x with
  | none => trivial
  | some y => exact h y rfl
theorem qop_sound (hT : TtOk P tt) {objs : List Ob} {env : List V} {o : Oper} {K : V → Option R} {r : R} (h : qop tt objs env o.op K = some r) :
    ∃ v, K v = some r ∧ ∀ g w (a : Act), RelObs g w objs → (∀ p, Bad g p → p.block < w.heap.size) → (∀ x, x ∈ o.op.operands → RelV g (Imm g w) (ev env x) (a.eval x)) → QO P (execOp a.eval o) g w v := by
  obtain ⟨dst, op, type, pos, after, guard⟩ := o
  simp only at h ⊢
  unfold qop at h
  split at h
  · exact ⟨_, h, fun g w a _ _ ho => .pure (ho _ (by simp [Op.operands]))⟩
  · exact ⟨_, h, fun g w a _ _ ho => .pure (ho _ (by simp [Op.operands]))⟩
  · rename_i c x y
    obtain ⟨b, h1, h2⟩ := asBool_some h
    cases b with
    | true =>
      refine ⟨_, h2, fun g w a _ _ ho => ?_⟩
      have hc := ho c (by simp [Op.operands])
      rw [h1] at hc
      have hc' := relV_bool hc
      exact ⟨a.eval x, w, by simp [execOp, Go.asBool, hc'], Below.refl _ _, ho x (by simp [Op.operands])⟩
    | false =>
      refine ⟨_, h2, fun g w a _ _ ho => ?_⟩
      have hc := ho c (by simp [Op.operands])
      rw [h1] at hc
      have hc' := relV_bool hc
      exact ⟨a.eval y, w, by simp [execOp, Go.asBool, hc'], Below.refl _ _, ho y (by simp [Op.operands])⟩
  · rename_i t ps
    split at h
    · rename_i T b htt
      split at h
      · rename_i ha
        obtain ⟨y, h1, h2⟩ := build_dat (P := P) hT htt h ha
        refine ⟨_, h1, fun g w a _ _ ho => ?_⟩
        obtain ⟨rv, h3, h4⟩ := h2 g w (ps.map fun (i, x) => (i, a.eval x)) (by
          rw [Array.toList_map]
          exact PartsRel.map fun p hp => ho p.2 (by simp [Op.operands]; exact ⟨p.1, by simpa using hp⟩))
        exact .of (.same h3 (relV_mkDat h4))
      · cases h
    · rename_i w0 fs htt
      split at h
      · rename_i cs hcs
        refine ⟨_, h, fun g w a _ _ ho => ?_⟩
        obtain ⟨rv, h3, h4⟩ := build_mix (P := P) hT htt hcs g w (ps.map fun (i, x) => (i, a.eval x)) (by
          rw [Array.toList_map]
          exact PartsRel.map fun p hp => ho p.2 (by simp [Op.operands]; exact ⟨p.1, by simpa using hp⟩))
        exact .of (.same h3 h4)
      · cases h
    · cases h
  · rename_i t n ps
    split at h
    · rename_i T b htt
      split at h
      · rename_i hn
        obtain ⟨y, h1, h2⟩ := buildSlice_sound (P := P) (T := T) (K := fun xs => K (.row T xs .full)) hT htt hn h
        clear hn
        refine ⟨_, h1, fun g w a _ hF ho => ?_⟩
        have hp : PartsRel g (Imm g w) (ps.toList.map fun p => (p.1, ev env p.2)) (ps.map fun (i, x) => (i, a.eval x)).toList := by
          rw [Array.toList_map]
          exact PartsRel.map fun p hp => ho p.2 (by simp [Op.operands]; exact ⟨p.1, by simpa using hp⟩)
        have h3 := h2 g w (ps.map fun (i, x) => (i, a.eval x)) hF hp
        obtain ⟨rv, w', k1, k2, k3⟩ := h3
        refine ⟨rv, w', ?_, k2, k3⟩
        simp only [execOp, Sem.run_bind]
        rw [k1]
        rfl
      · cases h
    · cases h
  · rename_i t x
    obtain ⟨v, h1, h2⟩ := loadV_sound (P := P) hT h
    exact ⟨v, h1, fun g w a hobs _ ho => .of (h2 g w _ hobs (ho x (by simp [Op.operands]))).qr⟩
  · rename_i x
    have hp : ∀ v, K v = some r → ev env x = v → (∀ g I rv, RelV g I v rv → (∃ ad, rv = .pointer (some ad)) ∨ ∃ f cs, rv = .func (.func f) #[] cs) →
        ∃ v, K v = some r ∧ ∀ g w (a : Act), RelObs g w objs → (∀ p, Bad g p → p.block < w.heap.size) → (∀ y, y ∈ (Op.nilCheck x).operands → RelV g (Imm g w) (ev env y) (a.eval y)) → QO P (execOp a.eval ⟨dst, .nilCheck x, type, pos, after, guard⟩) g w v := by
      intro v hK hv hf
      refine ⟨v, hK, fun g w a _ _ ho => ?_⟩
      have h1 := ho x (by simp [Op.operands])
      rw [hv] at h1
      rcases hf _ _ _ h1 with ⟨ad, h2⟩ | ⟨f, cs, h2⟩
      · rw [h2] at h1; exact ⟨_, w, by simp [execOp, h2], Below.refl _ _, h1⟩
      · rw [h2] at h1; exact ⟨_, w, by simp [execOp, h2], Below.refl _ _, h1⟩
    split at h
    · rename_i hx; exact hp _ h hx fun g I rv hr => by cases hr; exact .inl ⟨_, rfl⟩
    · rename_i hx; exact hp _ h hx fun g I rv hr => by cases hr; exact .inl ⟨_, rfl⟩
    · rename_i hx; exact hp _ h hx fun g I rv hr => by cases hr; exact .inl ⟨_, rfl⟩
    · rename_i hx; exact hp _ h hx fun g I rv hr => by cases hr; exact .inr ⟨_, _, rfl⟩
    · cases h
  · rename_i op' xt x y yt
    obtain ⟨v, h1, h2⟩ := binOpV_sound (P := P) hT h
    exact ⟨v, h1, fun g w a _ _ ho => .of (h2 g w _ _ x y (ho x (by simp [Op.operands])) (ho y (by simp [Op.operands])))⟩
  · rename_i op' xt x
    obtain ⟨v, h1, h2⟩ := unOpV_sound (P := P) h
    exact ⟨v, h1, fun g w a _ _ ho => .of (h2 g w _ (ho x (by simp [Op.operands])))⟩
  · rename_i s d x
    obtain ⟨v, h1, h2⟩ := convV_sound (P := P) hT h
    exact ⟨v, h1, fun g w a _ hF ho => .of (h2 g w _ hF (ho x (by simp [Op.operands])))⟩
  · rename_i f cs
    refine ⟨_, h, fun g w a _ _ ho => ?_⟩
    refine ⟨.func (.func f) #[] (cs.map a.eval).toArray, w, by simp [execOp, Instr.makeFunc], Below.refl _ _, .fn _ _ _ (by simp) fun i v rv hv hr => ?_⟩
    rw [List.getElem?_map] at hv hr
    cases hx : cs[i]? with
    | none => rw [hx] at hv; cases hv
    | some x =>
      rw [hx] at hv hr
      simp only [Option.map_some, Option.some.injEq] at hv hr
      subst hv; subst hr
      exact ho x (by simp [Op.operands]; exact List.mem_of_getElem? hx)
  · rename_i f bs _
    refine ⟨_, h, fun g w a _ _ ho => ?_⟩
    refine ⟨.func (.func f) (bs.map a.eval).toArray #[], w, by simp [execOp, Instr.makeFunc], Below.refl _ _, .bfn _ _ _ (by simp) fun i v rv hv hr => ?_⟩
    rw [List.getElem?_map] at hv hr
    cases hx : bs[i]? with
    | none => rw [hx] at hv; cases hv
    | some x =>
      rw [hx] at hv hr
      simp only [Option.map_some, Option.some.injEq] at hv hr
      subst hv; subst hr
      exact ho x (by simp [Op.operands]; exact List.mem_of_getElem? hx)
  · rename_i t x lo hi mx
    obtain ⟨v, h1, h2⟩ := sliceV_sound (P := P) hT h
    refine ⟨v, h1, fun g w a _ _ ho => .of (h2 g w _ _ _ _ (ho x (by simp [Op.operands])) (OptRel.map fun y hy => ho y ?_) (OptRel.map fun y hy => ho y ?_) (OptRel.map fun y hy => ho y ?_))⟩ <;> simp [Op.operands, hy]
  · rename_i s x j
    obtain ⟨v, h1, h2⟩ := fieldAddrV_sound (P := P) hT h
    exact ⟨v, h1, fun g w a _ _ ho => .of (h2 g w _ (ho x (by simp [Op.operands])))⟩
  · rename_i s x j
    obtain ⟨v, h1, h2⟩ := fieldV_sound (P := P) hT h
    exact ⟨v, h1, fun g w a _ _ ho => .of (h2 g w _ (ho x (by simp [Op.operands])))⟩
  · rename_i t x i
    obtain ⟨v, h1, h2⟩ := indexAddrV_sound (P := P) hT h
    exact ⟨v, h1, fun g w a hobs _ ho => .of (h2 g w _ _ hobs (ho x (by simp [Op.operands])) (ho i (by simp [Op.operands])))⟩
  · rename_i t x i
    obtain ⟨v, h1, h2⟩ := indexV_sound (P := P) hT h
    exact ⟨v, h1, fun g w a _ _ ho => .of (h2 g w _ _ (ho x (by simp [Op.operands])) (ho i (by simp [Op.operands])))⟩
  · rename_i t m k ok
    obtain ⟨v, h1, h2⟩ := lookupV_sound (P := P) hT h
    exact ⟨v, h1, fun g w a hobs _ ho => .of (h2 g w _ _ hobs (ho m (by simp [Op.operands])) (ho k (by simp [Op.operands])))⟩
  · rename_i t i
    split at h
    · rename_i vs hx
      split at h
      · rename_i v hv
        refine ⟨v, h, fun g w a _ _ ho => ?_⟩
        have h1 := ho t (by simp [Op.operands])
        rw [hx] at h1
        generalize hr : a.eval t = rv at h1
        cases h1
        rename_i rs h2 h3
        have hlt : i < rs.length := by have := getElem?_lt hv; omega
        exact ⟨rs[i], w, by simp [execOp, Instr.extract, hr, List.getElem?_eq_getElem hlt], Below.refl _ _, h3 i v _ hv (List.getElem?_eq_getElem hlt)⟩
      · cases h
    · cases h
  · rename_i x t
    split at h
    · rename_i hk
      obtain ⟨v, h1, h2⟩ := lenV_sound (P := P) hT (ty := type) hk h
      refine ⟨v, h1, fun g w a hobs _ ho => ?_⟩
      obtain ⟨rv, w', h3, h4, h5⟩ := h2 g w _ hobs (ho x (by simp [Op.operands, Call.operands]))
      exact ⟨rv, w', by simp [execOp, resolve, invoke, builtin, h3], h4, h5⟩
    · cases h
  · rename_i x y ts
    obtain ⟨v, h1, h2⟩ := min2V_sound (P := P) (mx := false) (ty := type) (ts := ts) h
    refine ⟨v, h1, fun g w a hobs _ ho => ?_⟩
    obtain ⟨rv, w', h3, h4, h5⟩ := h2 g w _ _ (ho x (by simp [Op.operands, Call.operands])) (ho y (by simp [Op.operands, Call.operands]))
    exact ⟨rv, w', by simp at h3; simp [execOp, resolve, invoke, builtin, h3], h4, h5⟩
  · rename_i x y ts
    obtain ⟨v, h1, h2⟩ := min2V_sound (P := P) (mx := true) (ty := type) (ts := ts) h
    refine ⟨v, h1, fun g w a hobs _ ho => ?_⟩
    obtain ⟨rv, w', h3, h4, h5⟩ := h2 g w _ _ (ho x (by simp [Op.operands, Call.operands])) (ho y (by simp [Op.operands, Call.operands]))
    exact ⟨rv, w', by simp at h3; simp [execOp, resolve, invoke, builtin, h3], h4, h5⟩
  · cases h
end
end Go.Proofs.Yticelgnmcjkknaa.Vm
