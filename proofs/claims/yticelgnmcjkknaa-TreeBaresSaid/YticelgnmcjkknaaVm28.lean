/-
A machine of values, part twenty-eight: what a region's text makes of the state, step for step.
-/
import Derived.Test.YticelgnmcjkknaaVm27
set_option linter.unusedVariables false
set_option linter.unusedSimpArgs false
namespace Go.Proofs.Yticelgnmcjkknaa.Vm
open Go.RowKit (Below)
section
variable {P : Program} {C : Nat → Fun} {tt : Nat → TI} {R : Type}

theorem cls_le (o : Op) : cls C o ≤ 3 := by
  unfold cls
  split <;> first | omega | (split <;> omega) | (cases (C 2000000).ro <;> simp) | (cases (C 2000001).ro <;> simp)
theorem set_same {env : List V} {d : Nat} {v : V} (h : env[d]? = some v) : env.set d v = env := by
  apply List.ext_getElem?
  intro i
  by_cases hid : d = i
  · subst hid; rw [List.getElem?_set_self (getElem?_lt h), h]
  · rw [List.getElem?_set_ne hid]
def wantsV (all : List Oper) (env : List V) (o : Oper) : Option Bool := match o.guard with
  | none => some true
  | some (j, want) => match (all[j]?).bind (·.dst) with
    | some d => (match env.getD d .undef with
      | .dat .bool b => some ((show Bool from b) == want)
      | .tup _ => some false
      | _ => none)
    | none => none
def StepOk (P : Program) (C : Nat → Fun) (all : List Oper) (E : Nat → List V) (S : Nat → St) (v : Nat → V) (j : Nat) (o : Oper) : Prop :=
  E (j + 1) = putV (E j) o.dst (v j) ∧
  ((wantsV all (E j) o = some true ∧ Pkg P C (cls C o.op) o (E j) (S j) (v j) (S (j + 1))) ∨ (wantsV all (E j) o = some false ∧ v j = void ∧ S (j + 1) = S j))
def AlFact (tt : Nat → TI) (o : Oper) (σ : St) (v0 : V) (σ1 : St) : Prop := ∀ (t : Nat) (T : Ty) (b : Nat), o.op = .alloc t → o.guard = none → tt t = .dat T b → v0 = .ptr σ.objs.length 0 ∧ σ1 = ⟨σ.objs ++ [zeroOb T], σ.toks⟩
theorem vop_pkg2 (hC : ∀ f, SoundFn P f (C f)) (hT : TtOk P tt) {o : Oper} {env : List V} {σ : St} {K : V → St → Option R} {r : R} (h : vop C tt env σ o.op K = some r) : ∃ v σ', K v σ' = some r ∧ Pkg P C (cls C o.op) o env σ v σ' ∧ AlFact tt o σ v σ' := by
  by_cases hal : ∃ t T b, o.op = .alloc t ∧ tt t = .dat T b
  · obtain ⟨t, T, b, he, htt⟩ := hal
    obtain ⟨dst, op, type, pos, after, guard⟩ := o
    simp only at he
    subst he
    have h : vop C tt env σ (.alloc t) K = some r := h
    unfold vop at h
    simp only [htt] at h
    refine ⟨_, _, h, .turns (by simp [cls]) (fun h => by simp [cls] at h) (fun g w a hst ho => .of_so (alloc_sound hT htt hst)) (fun m hm => app_other hm), fun t' T' b' e1 _ e2 => ?_⟩
    simp only [Op.alloc.injEq] at e1
    subst e1
    rw [htt] at e2
    simp only [TI.dat.injEq] at e2
    obtain ⟨e3, _⟩ := e2
    subst e3
    exact ⟨rfl, rfl⟩
  · obtain ⟨v, σ', h1, h2⟩ := vop_pkg hC hT h
    exact ⟨v, σ', h1, h2, fun t T b e1 _ e2 => absurd ⟨t, T, b, e1, e2⟩ hal⟩
theorem vops_trace (hC : ∀ f, SoundFn P f (C f)) (hT : TtOk P tt) (all : List Oper) : ∀ (l : List Oper) (k : Nat) (env : List V) (σ : St) (K : List V → St → Option R) (r : R), all.drop k = l → vops C tt all l env σ K = some r →
    ∃ (E : Nat → List V) (S : Nat → St) (v : Nat → V), E k = env ∧ S k = σ ∧ K (E (k + l.length)) (S (k + l.length)) = some r ∧ ∀ j o, k ≤ j → all[j]? = some o → StepOk P C all E S v j o ∧ AlFact tt o (S j) (v j) (S (j + 1))
  | [], k, env, σ, K, r, hl, h => ⟨fun _ => env, fun _ => σ, fun _ => .undef, rfl, rfl, h, fun j o hj ho => by
      have := getElem?_lt ho
      have h1 : all.length ≤ k := by simpa using hl
      omega⟩
  | o :: l, k, env, σ, K, r, hl, h => by
    have ho : all[k]? = some o := by
      have := congrArg (fun l => l[0]?) hl
      simpa [List.getElem?_drop] using this
    have hl' : all.drop (k + 1) = l := by rw [← List.drop_drop, hl]; rfl
    have glue : ∀ (v0 : V) (σ1 : St), ((wantsV all env o = some true ∧ Pkg P C (cls C o.op) o env σ v0 σ1) ∨ (wantsV all env o = some false ∧ v0 = void ∧ σ1 = σ)) → AlFact tt o σ v0 σ1 → vops C tt all l (putV env o.dst v0) σ1 K = some r →
        ∃ (E : Nat → List V) (S : Nat → St) (v : Nat → V), E k = env ∧ S k = σ ∧ K (E (k + (o :: l).length)) (S (k + (o :: l).length)) = some r ∧ ∀ j o, k ≤ j → all[j]? = some o → StepOk P C all E S v j o ∧ AlFact tt o (S j) (v j) (S (j + 1)) := by
      intro v0 σ1 hs hal h1
      obtain ⟨E, S, v, h2, h3, h4, h5⟩ := vops_trace hC hT all l (k + 1) _ σ1 K r hl' h1
      refine ⟨fun j => if j ≤ k then env else E j, fun j => if j ≤ k then σ else S j, fun j => if j ≤ k then v0 else v j, by simp, by simp, ?_, fun j o' hj ho' => ?_⟩
      · dsimp only
        rw [List.length_cons, if_neg (by omega), if_neg (by omega), show k + (l.length + 1) = k + 1 + l.length by omega]; exact h4
      · rcases Nat.eq_or_lt_of_le hj with e | hlt
        · subst e
          rw [ho] at ho'; simp only [Option.some.injEq] at ho'; subst ho'
          unfold StepOk
          dsimp only
          rw [if_pos (Nat.le_refl _), if_neg (by omega), if_pos (Nat.le_refl _), if_pos (Nat.le_refl _), if_neg (by omega), h2, h3]
          exact ⟨⟨rfl, hs⟩, hal⟩
        · have := h5 j o' hlt ho'
          unfold StepOk at this ⊢
          dsimp only
          rw [if_neg (by omega), if_neg (by omega), if_neg (by omega), if_neg (by omega), if_neg (by omega)]
          exact this
    have run : (vop C tt env σ o.op fun v σ => vops C tt all l (putV env o.dst v) σ K) = some r → wantsV all env o = some true → ∃ (E : Nat → List V) (S : Nat → St) (v : Nat → V), E k = env ∧ S k = σ ∧ K (E (k + (o :: l).length)) (S (k + (o :: l).length)) = some r ∧ ∀ j o, k ≤ j → all[j]? = some o → StepOk P C all E S v j o ∧ AlFact tt o (S j) (v j) (S (j + 1)) := fun h hw => by
      obtain ⟨v0, σ1, h1, h2, hal⟩ := vop_pkg2 hC hT h
      exact glue v0 σ1 (.inl ⟨hw, h2⟩) hal h1
    have skip : vops C tt all l (putV env o.dst void) σ K = some r → wantsV all env o = some false → ∃ (E : Nat → List V) (S : Nat → St) (v : Nat → V), E k = env ∧ S k = σ ∧ K (E (k + (o :: l).length)) (S (k + (o :: l).length)) = some r ∧ ∀ j o, k ≤ j → all[j]? = some o → StepOk P C all E S v j o ∧ AlFact tt o (S j) (v j) (S (j + 1)) := fun h hw => glue void σ (.inr ⟨hw, rfl, rfl⟩) (fun t T b _ hg _ => by simp [wantsV, hg] at hw) h
    simp only [vops] at h
    split at h
    · rename_i hg
      exact run h (by simp [wantsV, hg])
    · rename_i j want hg
      split at h
      · rename_i d hd
        split at h
        · rename_i b hb
          change Bool at b
          have hset : env.set d (.dat .bool b) = env := set_same (env_some hb (by simp))
          have hw : wantsV all env o = some (b == want) := by unfold wantsV; simp only [hg, hd, hb]
          cases b <;> cases want <;> simp only [cond_true, cond_false, Bool.false_eq_true, if_true, if_false, hset] at h
          · exact run h hw
          · exact skip h hw
          · exact skip h hw
          · exact run h hw
        · rename_i vs hb
          exact skip h (by unfold wantsV; simp only [hg, hd, hb])
        · cases h
      · cases h
/-- The slots after some steps of the text. -/
theorem env_at {all : List Oper} {E : Nat → List V} {S : Nat → St} {v : Nat → V} (h : ∀ j o, all[j]? = some o → StepOk P C all E S v j o) : ∀ j, j ≤ all.length → (E j).length = (E 0).length ∧ ∀ (d : Nat) (u : V), (E j)[d]? = some u →
    (∃ i o, i < j ∧ all[i]? = some o ∧ o.dst = some d ∧ u = v i) ∨ ((∀ i o, i < j → all[i]? = some o → o.dst ≠ some d) ∧ (E 0)[d]? = some u)
  | 0, _ => ⟨rfl, fun d u hu => .inr ⟨fun i o hi => absurd hi (Nat.not_lt_zero _), hu⟩⟩
  | j + 1, hj => by
    obtain ⟨h1, h2⟩ := env_at h j (by omega)
    have ho : all[j]? = some (all[j]'(by omega)) := List.getElem?_eq_getElem _
    have h3 := (h j _ ho).1
    rw [h3]
    refine ⟨by cases hd : (all[j]'(by omega)).dst <;> simp [putV, h1], fun d u hu => ?_⟩
    cases hd : (all[j]'(by omega)).dst with
    | none =>
      rw [hd] at hu
      rcases h2 d u hu with ⟨i, o, k1, k2⟩ | ⟨k1, k2⟩
      · exact .inl ⟨i, o, by omega, k2⟩
      · refine .inr ⟨fun i o hi hio => ?_, k2⟩
        rcases Nat.lt_or_ge i j with hlt | hge
        · exact k1 i o hlt hio
        · have : i = j := by omega
          subst this; rw [ho] at hio; simp only [Option.some.injEq] at hio; rw [← hio, hd]; simp
    | some e =>
      rw [hd] at hu
      have hu : ((E j).set e (v j))[d]? = some u := hu
      by_cases hed : e = d
      · subst hed
        rw [List.getElem?_set_self (by have := getElem?_lt hu; simpa using this)] at hu
        simp only [Option.some.injEq] at hu
        exact .inl ⟨j, _, by omega, ho, hd, hu.symm⟩
      · rw [List.getElem?_set_ne hed] at hu
        rcases h2 d u hu with ⟨i, o, k1, k2⟩ | ⟨k1, k2⟩
        · exact .inl ⟨i, o, by omega, k2⟩
        · refine .inr ⟨fun i o hi hio => ?_, k2⟩
          rcases Nat.lt_or_ge i j with hlt | hge
          · exact k1 i o hlt hio
          · have : i = j := by omega
            subst this; rw [ho] at hio; simp only [Option.some.injEq] at hio; rw [← hio, hd]; simpa using hed
theorem step_objs {all : List Oper} {E : Nat → List V} {S : Nat → St} {v : Nat → V} {j : Nat} {o : Oper} (h : StepOk P C all E S v j o) (hc : cls C o.op ≠ 3) : (S (j + 1)).objs = (S j).objs := by
  rcases h.2 with ⟨_, h1, h2, _⟩ | ⟨_, _, h1⟩
  · have := cls_le (C := C) o.op
    rcases Nat.lt_or_ge (cls C o.op) 2 with hlt | hge
    · rw [(h1 (by omega)).1]
    · exact h2 (by omega)
  · rw [h1]
theorem step_st {all : List Oper} {E : Nat → List V} {S : Nat → St} {v : Nat → V} {j : Nat} {o : Oper} (h : StepOk P C all E S v j o) (hc : cls C o.op ≤ 1) : S (j + 1) = S j := by
  rcases h.2 with ⟨_, h1, h2, _⟩ | ⟨_, _, h1⟩
  · exact (h1 hc).1
  · exact h1
theorem objs_const {all : List Oper} {E : Nat → List V} {S : Nat → St} {v : Nat → V} (h : ∀ j o, all[j]? = some o → StepOk P C all E S v j o) {p : Nat} : ∀ m, p + m ≤ all.length → (∀ i o, p ≤ i → i < p + m → all[i]? = some o → cls C o.op ≠ 3) → (S (p + m)).objs = (S p).objs
  | 0, _, _ => rfl
  | m + 1, hm, hc => by
    have ho : all[p + m]? = some (all[p + m]'(by omega)) := List.getElem?_eq_getElem _
    rw [show p + (m + 1) = p + m + 1 by omega, step_objs (h _ _ ho) (hc _ _ (by omega) (by omega) ho)]
    exact objs_const h m (by omega) fun i o h1 h2 => hc i o h1 (by omega)
theorem st_const {all : List Oper} {E : Nat → List V} {S : Nat → St} {v : Nat → V} (h : ∀ j o, all[j]? = some o → StepOk P C all E S v j o) {p : Nat} : ∀ m, p + m ≤ all.length → (∀ i o, p ≤ i → i < p + m → all[i]? = some o → cls C o.op ≤ 1) → S (p + m) = S p
  | 0, _, _ => rfl
  | m + 1, hm, hc => by
    have ho : all[p + m]? = some (all[p + m]'(by omega)) := List.getElem?_eq_getElem _
    rw [show p + (m + 1) = p + m + 1 by omega, step_st (h _ _ ho) (hc _ _ (by omega) (by omega) ho)]
    exact st_const h m (by omega) fun i o h1 h2 => hc i o h1 (by omega)
end
end Go.Proofs.Yticelgnmcjkknaa.Vm
