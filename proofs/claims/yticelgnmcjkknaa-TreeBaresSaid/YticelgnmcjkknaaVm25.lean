/-
A machine of values, part twenty-five: regions in the order of their text.
-/
import Derived.Test.YticelgnmcjkknaaVm24
set_option linter.unusedVariables false
set_option linter.unusedSimpArgs false
namespace Go.Proofs.Yticelgnmcjkknaa.Vm
open Go.RowKit (Below)
section
variable {P : Program} {C : Nat → Fun} {tt : Nat → TI} {R : Type}

/-- What a piece of code comes to: from such a state it leads to such another. -/
def Goes (wr : Nat → Bool) (W : (Exit → Act → World → Prop) → Act → World → Prop) (e : Exit) (env : List V) (σ : St) (env' : List V) (σ' : St) : Prop :=
  ∀ (g : Gh) (w : World) (a : Act) (Q : Exit → Act → World → Prop), RelSt g σ w → RelE g w env a → a.defers = [] →
    (∀ g' w' a', Up g w g' w' → RelSt g' σ' w' → RelE g' w' env' a' → a'.defers = [] → (∀ i, wr i = false → a'.tmps[i]? = a.tmps[i]?) → Q e a' w') → W Q a w

theorem RelE.put {g : Gh} {w : World} {env : List V} {a : Act} (h : RelE g w env a) {v : V} {rv : Value} (hv : RelV g (Imm g w) v rv) (d : Option Tmp) : RelE g w (putV env d v) (a.put d rv) := by
  cases d with
  | none => exact h
  | some d =>
    refine ⟨by show (a.tmps.setIfInBounds d rv).size = (env.set d v).length; simp [h.1], fun i u hu => ?_⟩
    have hu : (env.set d v)[i]? = some u := hu
    show ∃ rv', (a.tmps.setIfInBounds d rv)[i]? = some rv' ∧ _
    have hlt : i < env.length := by have := getElem?_lt hu; simpa using this
    by_cases hid : d = i
    · subst hid
      rw [List.getElem?_set_self hlt] at hu
      simp only [Option.some.injEq] at hu; subst hu
      exact ⟨rv, by rw [Array.getElem?_setIfInBounds_self_of_lt (by rw [h.1]; exact hlt)], hv⟩
    · rw [List.getElem?_set_ne hid] at hu
      obtain ⟨ru, h1, h2⟩ := h.2 i u hu
      exact ⟨ru, by rw [Array.getElem?_setIfInBounds_ne hid]; exact h1, h2⟩
theorem put_keep (a : Act) (d : Option Tmp) (v : Value) {i : Nat} (h : (d == some i) = false) : (a.put d v).tmps[i]? = a.tmps[i]? := by
  cases d with
  | none => rfl
  | some d => exact Array.getElem?_setIfInBounds_ne (by intro e; subst e; simp at h)
theorem wrOps_cons {o : Oper} {l : List Oper} {i : Nat} (h : wrOps (o :: l) i = false) : (o.dst == some i) = false ∧ wrOps l i = false := by
  simpa [wrOps] using h
theorem put_defers (a : Act) (d : Option Tmp) (v : Value) : (a.put d v).defers = a.defers := by cases d <;> rfl
theorem env_some {env : List V} {d : Nat} {v : V} (h : env.getD d .undef = v) (hv : v ≠ .undef) : env[d]? = some v := by
  rw [List.getD_eq_getElem?_getD] at h
  cases hd : env[d]? with
  | none => rw [hd] at h; exact absurd h.symm hv
  | some u => rw [hd] at h; rw [← h]; rfl
/-- A slot is given the name of what it holds. -/
theorem RelE.same {g : Gh} {w : World} {env : List V} {a : Act} (h : RelE g w env a) {d : Nat} {v : V} (hv : env[d]? = some v) : RelE g w (env.set d v) a := by
  refine ⟨by simp [h.1], fun i u hu => ?_⟩
  by_cases hid : d = i
  · subst hid
    rw [List.getElem?_set_self (getElem?_lt hv)] at hu
    simp only [Option.some.injEq] at hu; subst hu
    exact h.2 d v hv
  · rw [List.getElem?_set_ne hid] at hu; exact h.2 i u hu
theorem wp_of_oo {o : Oper} {g : Gh} {w : World} {a : Act} {v : V} {σ' : St} (h : OO P (execOp a.eval o) g w v σ') {next : Act → World → Prop} {Q : Exit → Act → World → Prop}
    (hn : ∀ rv g' w', Up g w g' w' → RelV g' (Imm g' w') v rv → RelSt g' σ' w' → next (a.put o.dst rv) w') : o.wp P a w next Q := by
  unfold Oper.wp
  rcases h with ⟨rv, w', h1, g', h2, h3, h4⟩ | ⟨f, args, h1, h2⟩
  · rcases h1 with h1 | ⟨h1, rfl⟩
    · rw [h1]; exact hn rv g' w' h2 h3 h4
    · rw [h1]; exact hn undef g' w' h2 h3 h4
  · rw [h1, Oper.upon_enter]
    refine h2.mono fun e w' ⟨rv, he, g', h3, h4, h5⟩ => ?_
    subst he
    exact hn rv g' w' h3 h4 h5
theorem range_suffix {α : Type} (l : List α) (k : Nat) : List.range' k (l.length + 1) = k :: List.range' (k + 1) l.length := by rw [List.range'_succ]
theorem yielded_bool {ops : List Oper} {j d : Nat} (hd : (ops[j]?).bind (·.dst) = some d) {g : Gh} {w : World} {env : List V} {a : Act} (h : RelE g w env a) {b : Bool} (hb : env.getD d .undef = .dat .bool b) : yielded ops.toArray a.tmps j = some b := by
  obtain ⟨rv, h1, h2⟩ := h.2 d _ (env_some hb (by simp))
  have h3 := relV_bool h2
  subst h3
  simp [yielded, hd, h1]
theorem yielded_void {ops : List Oper} {j d : Nat} (hd : (ops[j]?).bind (·.dst) = some d) {g : Gh} {w : World} {env : List V} {a : Act} (h : RelE g w env a) {vs : List V} (hb : env.getD d .undef = .tup vs) : yielded ops.toArray a.tmps j = none := by
  obtain ⟨rv, h1, h2⟩ := h.2 d _ (env_some hb (by simp))
  cases h2
  simp [yielded, hd, h1]

theorem vops_sound (hC : ∀ f, SoundFn P f (C f)) (hT : TtOk P tt) (all : List Oper) : ∀ (l : List Oper) (k : Nat) (env : List V) (σ : St) (K : List V → St → Option R) (r : R), all.drop k = l → vops C tt all l env σ K = some r →
    ∃ env' σ', K env' σ' = some r ∧ Goes (wrOps l) (fun Q a w => wpOps P all.toArray Q (List.range' k l.length) a w) .normal env σ env' σ'
  | [], k, env, σ, K, r, _, h => ⟨env, σ, h, fun g w a Q hst he hd hq => hq g w a (.refl g w) hst he hd fun _ _ => rfl⟩
  | o :: l, k, env, σ, K, r, hl, h => by
    have ho : all[k]? = some o := by
      have := congrArg (fun l => l[0]?) hl
      simpa [List.getElem?_drop] using this
    have hl' : all.drop (k + 1) = l := by rw [← List.drop_drop, hl]; rfl
    -- it runs
    have run : ∀ env : List V, vop C tt env σ o.op (fun v σ => vops C tt all l (putV env o.dst v) σ K) = some r →
        ∃ env' σ', K env' σ' = some r ∧ ∀ (g : Gh) (w : World) (a : Act) (Q : Exit → Act → World → Prop), RelSt g σ w → RelE g w env a → a.defers = [] → Region.wanted o (yielded all.toArray a.tmps) = true →
          (∀ g' w' a', Up g w g' w' → RelSt g' σ' w' → RelE g' w' env' a' → a'.defers = [] → (∀ i, wrOps (o :: l) i = false → a'.tmps[i]? = a.tmps[i]?) → Q .normal a' w') → wpOps P all.toArray Q (List.range' k (o :: l).length) a w := by
      intro env h
      obtain ⟨v, σ1, h1, h2⟩ := vop_sound hC hT h
      obtain ⟨env', σ', h3, h4⟩ := vops_sound hC hT all l (k + 1) _ _ K r hl' h1
      refine ⟨env', σ', h3, fun g w a Q hst he hd hw hq => ?_⟩
      rw [List.length_cons, range_suffix]
      simp only [wpOps, List.getElem?_toArray, ho, hw, if_true]
      refine .inl (wp_of_oo (h2 g w a hst fun x _ => ev_rel he x) fun rv g' w' hu hv hst' => ?_)
      exact h4 g' w' _ Q hst' ((he.up hu).put hv _) (by rw [put_defers]; exact hd) fun g2 w2 a2 hu2 hst2 he2 hd2 hk2 => hq g2 w2 a2 (hu.trans hu2) hst2 he2 hd2 fun i hi => (hk2 i (wrOps_cons hi).2).trans (put_keep a o.dst rv (wrOps_cons hi).1)
    have skip : ∀ env : List V, vops C tt all l (putV env o.dst void) σ K = some r →
        ∃ env' σ', K env' σ' = some r ∧ ∀ (g : Gh) (w : World) (a : Act) (Q : Exit → Act → World → Prop), RelSt g σ w → RelE g w env a → a.defers = [] → Region.wanted o (yielded all.toArray a.tmps) = false →
          (∀ g' w' a', Up g w g' w' → RelSt g' σ' w' → RelE g' w' env' a' → a'.defers = [] → (∀ i, wrOps (o :: l) i = false → a'.tmps[i]? = a.tmps[i]?) → Q .normal a' w') → wpOps P all.toArray Q (List.range' k (o :: l).length) a w := by
      intro env h
      obtain ⟨env', σ', h3, h4⟩ := vops_sound hC hT all l (k + 1) _ _ K r hl' h
      refine ⟨env', σ', h3, fun g w a Q hst he hd hw hq => ?_⟩
      rw [List.length_cons, range_suffix]
      simp only [wpOps, List.getElem?_toArray, ho, hw]
      exact h4 g w _ Q hst (he.put void_rel _) (by rw [put_defers]; exact hd) fun g2 w2 a2 hu2 hst2 he2 hd2 hk2 => hq g2 w2 a2 hu2 hst2 he2 hd2 fun i hi => (hk2 i (wrOps_cons hi).2).trans (put_keep a o.dst undef (wrOps_cons hi).1)
    simp only [vops] at h
    split at h
    · rename_i hg
      obtain ⟨env', σ', h3, h4⟩ := run env h
      exact ⟨env', σ', h3, fun g w a Q hst he hd hq => h4 g w a Q hst he hd (by simp [Region.wanted, hg]) hq⟩
    · rename_i j want hg
      split at h
      · rename_i d hd
        split at h
        · rename_i b hb
          change Bool at b
          have hwant : ∀ (g : Gh) (w : World) (a : Act), RelE g w env a → Region.wanted o (yielded all.toArray a.tmps) = (b == want) := by
            intro g w a he
            simp [Region.wanted, hg, yielded_bool hd he hb]
          have hsame : ∀ (g : Gh) (w : World) (a : Act), RelE g w env a → RelE g w (env.set d (.dat .bool b)) a := fun g w a he => he.same (env_some hb (by simp))
          cases b <;> cases want <;> simp only [cond_true, cond_false, Bool.false_eq_true, if_true, if_false] at h
          · obtain ⟨env', σ', h3, h4⟩ := run _ h
            exact ⟨env', σ', h3, fun g w a Q hst he hd hq => h4 g w a Q hst (hsame g w a he) hd (hwant g w a he) hq⟩
          · obtain ⟨env', σ', h3, h4⟩ := skip _ h
            exact ⟨env', σ', h3, fun g w a Q hst he hd hq => h4 g w a Q hst (hsame g w a he) hd (hwant g w a he) hq⟩
          · obtain ⟨env', σ', h3, h4⟩ := skip _ h
            exact ⟨env', σ', h3, fun g w a Q hst he hd hq => h4 g w a Q hst (hsame g w a he) hd (hwant g w a he) hq⟩
          · obtain ⟨env', σ', h3, h4⟩ := run _ h
            exact ⟨env', σ', h3, fun g w a Q hst he hd hq => h4 g w a Q hst (hsame g w a he) hd (hwant g w a he) hq⟩
        · rename_i vs hb
          obtain ⟨env', σ', h3, h4⟩ := skip env h
          refine ⟨env', σ', h3, fun g w a Q hst he hdf hq => h4 g w a Q hst he hdf ?_ hq⟩
          simp [Region.wanted, hg, yielded_void hd he hb]
        · cases h
      · cases h
theorem region_sound (hC : ∀ f, SoundFn P f (C f)) (hT : TtOk P tt) {id : Nat} {ops : Array Oper} {env : List V} {σ : St} {K : List V → St → Option R} {r : R} (h : vops C tt ops.toList ops.toList env σ K = some r) :
    ∃ env' σ', K env' σ' = some r ∧ Goes (wrOps ops.toList) (fun Q a w => (Code.region id ops false).wp P Q a w) .normal env σ env' σ' := by
  obtain ⟨env', σ', h1, h2⟩ := vops_sound hC hT ops.toList ops.toList 0 env σ K r rfl h
  refine ⟨env', σ', h1, fun g w a Q hst he hd hq => wp_region ?_⟩
  have := h2 g w a Q hst he hd hq
  rw [List.range_eq_range']
  simpa using this
theorem run_convert_lit {e : TypeId} (w : World) (t : TypeId) (C : Array Value) (n : Nat) (ht : P.underlying t = some (.slice e)) (he : P.underlying e = some (.int .u8)) :
    (convert t t (.slice (some ⟨w.heap.size, 0, none⟩) n n)).run P (w.alloc (.cells C e)) = .ok (.slice (some ⟨w.heap.size, 0, none⟩) n n) (w.alloc (.cells C e (C.size, C.size + 1))) := by
  have hsh : (w.alloc (.cells C e)).shape? w.heap.size = some (e, C.size) := by
    have : (w.alloc (.cells C e)).heap[w.heap.size]? = some (.cells C e) := by
      show (w.heap.push (.cells C e))[w.heap.size]? = _
      simp
    unfold World.shape?
    rw [this]
  have hfr : (w.alloc (.cells C e)).freeze ⟨w.heap.size, C.size, none⟩ 1 = w.alloc (.cells C e (C.size, C.size + 1)) := by
    have hm : ∀ (a : Array Obj) (x : Obj) (f : Obj → Obj), (a.push x).modify a.size f = a.push (f x) := by
      intro a x f
      apply Array.ext
      · simp
      · intro i h1 h2
        simp only [Array.getElem_modify, Array.getElem_push]
        by_cases h : a.size = i
        · subst h
          simp
        · have hi : i < a.size := by simp at h1; omega
          simp [h, hi]
    unfold World.freeze
    rw [if_neg (by decide)]
    show ({ w.alloc (.cells C e) with heap := (w.heap.push (.cells C e)).modify w.heap.size _ } : World) = _
    rw [hm]
    rfl
  simp [convert, run_underlying ht, run_underlying he, markStringish, hsh]
  exact hfr
theorem vregion_sound (hC : ∀ f, SoundFn P f (C f)) (hT : TtOk P tt) {id : Nat} {ops : Array Oper} {env : List V} {σ : St} {K : List V → St → Option R} {r : R} (h : vregion C tt ops.toList env σ K = some r) :
    ∃ env' σ', K env' σ' = some r ∧ Goes (wrOps ops.toList) (fun Q a w => (Code.region id ops false).wp P Q a w) .normal env σ env' σ' := by
  have plain := fun h => region_sound (P := P) (id := id) (ops := ops) (env := env) (σ := σ) (K := K) (r := r) hC hT h
  unfold vregion at h
  split at h
  · rename_i o p l hl
    split at h
    · rename_i t n ps s d x hg1 ho hg2 hp
      split at h
      · rename_i eb htt
        split at h
        · rename_i hc
          obtain ⟨hd, hx, rfl, rfl, hn⟩ := hc
          obtain ⟨xs, h1, e, h3, h2⟩ := lit_run (P := P) hT htt hn h
          obtain ⟨e', b', h4, h5⟩ := elem_dat (P := P) hT htt
          have h6 := hT e'; rw [h5] at h6
          have h7 : P.underlying e = some (.int .u8) := by
            have : e = e' := by rw [h3] at h4; simpa using h4
            rw [this]; exact h6.2.1
          have hdrop : ops.toList.drop 2 = l := by rw [hl]; rfl
          obtain ⟨env', σ', k1, k2⟩ := vops_sound hC hT ops.toList l 2 _ _ K r hdrop h1
          refine ⟨env', σ', k1, fun g w a Q hst he hdf hq => wp_region ?_⟩
          have hlen : ops.size = l.length + 1 + 1 := by rw [← Array.length_toList, hl]; simp
          have o0 : ops[0]? = some o := by rw [← Array.getElem?_toList, hl]; rfl
          have o1 : ops[1]? = some p := by rw [← Array.getElem?_toList, hl]; rfl
          have hps : PartsRel g (Imm g w) (ps.toList.map fun p => (p.1, ev env p.2)) (ps.map fun (i, x) => (i, a.eval x)).toList := by
            rw [Array.toList_map]
            exact PartsRel.map fun p hp => ev_rel he p.2
          obtain ⟨Cc, hrun, hrd⟩ := h2 g w (ps.map fun (i, x) => (i, a.eval x)) hst.bad_lt hps
          have r1 : (execOp a.eval o).run P w = .ok (.value (.slice (some ⟨w.heap.size, 0, none⟩) n n)) (w.alloc (.cells Cc e)) := by
            obtain ⟨_, _, _, _, _, _⟩ := o
            simp only at ho; subst ho
            simp only [execOp, Sem.run_bind]; rw [hrun]; rfl
          have hasz : x < a.tmps.size := by rw [he.1]; exact hx
          have hev : (a.put o.dst (.slice (some ⟨w.heap.size, 0, none⟩) n n)).eval (.tmp x) = .slice (some ⟨w.heap.size, 0, none⟩) n n := by
            rw [hd]
            simp [Act.put, Act.eval, hasz]
          have r2 : (execOp (a.put o.dst (.slice (some ⟨w.heap.size, 0, none⟩) n n)).eval p).run P (w.alloc (.cells Cc e)) = .ok (.value (.slice (some ⟨w.heap.size, 0, none⟩) n n)) (w.alloc (.cells Cc e (Cc.size, Cc.size + 1))) := by
            obtain ⟨_, _, _, _, _, _⟩ := p
            simp only at hp; subst hp
            simp only [execOp, Sem.run_bind, hev]; rw [run_convert_lit w _ Cc n h3 h7]; rfl
          have hb : Below w.heap.size w (w.alloc (.cells Cc e (Cc.size, Cc.size + 1))) := (Below.refl _ w).alloc (Nat.le_refl _) _
          have hu : Up g w g (w.alloc (.cells Cc e (Cc.size, Cc.size + 1))) := .of_below hb
          have hrow : RelV g (Imm g (w.alloc (.cells Cc e (Cc.size, Cc.size + 1)))) (.row u8 xs .none) (.slice (some ⟨w.heap.size, 0, none⟩) n n) :=
            .row _ _ _ _ _ _ (hrd _ _ (heap_alloc_new _ _) hu.cells) trivial
          rw [hlen, List.range_eq_range', List.range'_succ, List.range'_succ]
          simp only [wpOps, o0, show Region.wanted o (yielded ops a.tmps) = true by simp [Region.wanted, hg1], if_true]
          refine .inl ?_
          unfold Oper.wp
          rw [r1, Oper.upon_value]
          simp only [wpOps, Nat.zero_add, o1, show ∀ ts, Region.wanted p (yielded ops ts) = true from fun ts => by simp [Region.wanted, hg2], if_true]
          refine .inl ?_
          rw [r2, Oper.upon_value]
          refine k2 g _ _ Q (hst.below hb) (((he.up hu).put (.undef _) _).put hrow _) (by rw [put_defers, put_defers]; exact hdf) fun g2 w2 a2 hu2 hst2 he2 hd2 hk2 => hq g2 w2 a2 (hu.trans hu2) hst2 he2 hd2 fun i hi => ?_
          rw [hl] at hi
          have i1 := wrOps_cons hi
          have i2 := wrOps_cons i1.2
          exact (hk2 i i2.2).trans ((put_keep _ _ _ i2.1).trans (put_keep _ _ _ i1.1))
        · exact plain h
      · exact plain h
    · exact plain h
  · rename_i l hl
    exact plain h
end
end Go.Proofs.Yticelgnmcjkknaa.Vm
