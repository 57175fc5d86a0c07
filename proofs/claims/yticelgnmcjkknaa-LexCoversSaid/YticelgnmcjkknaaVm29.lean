/-
A machine of values, part twenty-nine: regions that draw their order; sound.
-/
import Derived.Test.YticelgnmcjkknaaVm28
set_option linter.unusedVariables false
set_option linter.unusedSimpArgs false
namespace Go.Proofs.Yticelgnmcjkknaa.Vm
open Go.RowKit (Below)
section
variable {P : Program} {C : Nat → Fun} {tt : Nat → TI} {R : Type}

/-- What holds when these operations have been taken. -/
structure DInv (C : Nat → Fun) (all : List Oper) (env0 : List V) (S : Nat → St) (v : Nat → V) (a0 : Act) (L : Nat → Prop) (g : Gh) (τ : St) (w : World) (a : Act) : Prop where
  st : RelSt g τ w
  df : a.defers = []
  size : a.tmps.size = env0.length
  keep : ∀ i, wrOps all i = false → a.tmps[i]? = a0.tmps[i]?
  objs : ∀ k, k ≤ all.length → (∀ i o, all[i]? = some o → cls C o.op = 3 → (L i ↔ i < k)) → τ.objs = (S k).objs
  all_ : ∀ k, k ≤ all.length → (∀ i o, all[i]? = some o → 1 < cls C o.op → (L i ↔ i < k)) → τ = S k
  done : ∀ i o d, L i → all[i]? = some o → o.dst = some d → d < env0.length → ∃ rv, a.tmps[d]? = some rv ∧ RelV g (Imm g w) (v i) rv
  old : ∀ d u, env0[d]? = some u → (∀ i o, L i → all[i]? = some o → o.dst ≠ some d) → ∃ rv, a.tmps[d]? = some rv ∧ RelV g (Imm g w) u rv

theorem clash_of {a b : Nat} (ha : a ≤ 3) (hb : b ≤ 3) (h : (1 < a ∧ 1 < b) ∨ (a = 3 ∧ b ≠ 0) ∨ (b = 3 ∧ a ≠ 0)) : clash a b = true := by
  unfold clash
  have : a = 0 ∨ a = 1 ∨ a = 2 ∨ a = 3 := by omega
  have : b = 0 ∨ b = 1 ∨ b = 2 ∨ b = 3 := by omega
  rcases ‹a = 0 ∨ _› with rfl | rfl | rfl | rfl <;> rcases ‹b = 0 ∨ _› with rfl | rfl | rfl | rfl <;> first | rfl | omega

theorem dstep {all : List Oper} (hd : DrawSpec C all) {E : Nat → List V} {S : Nat → St} {v : Nat → V} (hS : ∀ j o, all[j]? = some o → StepOk P C all E S v j o) {L : Nat → Prop} (hL : Closed all L) {a0 : Act} {g : Gh} {τ : St} {w : World} {a : Act} (h : DInv C all (E 0) S v a0 L g τ w a)
    {j : Nat} {o : Oper} (ho : all[j]? = some o) (hj : ¬ L j) (hr : ∀ e ∈ o.after, Region.binds .any e = true → L e.on) {Q : Exit → Act → World → Prop} {K : Act → World → Prop}
    (hK : ∀ g' τ' w' a', Up g w g' w' → DInv C all (E 0) S v a0 (fun i => L i ∨ i = j) g' τ' w' a' → K a' w') : wpOp P all.toArray Q j K a w := by
  have hjl := getElem?_lt ho
  obtain ⟨hlen, henv⟩ := env_at hS j (by omega)
  -- those before it are taken, those behind it not
  have bef : ∀ {i p}, all[i]? = some p → i ≠ j → (clash (cls C p.op) (cls C o.op) = true) → clash (cls C o.op) (cls C p.op) = true → (L i ↔ i < j) := by
    intro i p hp hne h1 h2
    constructor
    · intro hi
      rcases Nat.lt_or_ge i j with hlt | hge
      · exact hlt
      · exact absurd (bef_closed hL _ _ (hd.clash j i o p (by omega) ho hp h2) hi) hj
    · intro hlt; exact bef_ready hL ho hr (hd.clash i j p o hlt hp ho h1)
  -- the slots that it names are as in the text
  have slot : ∀ d u, d ∈ named all o → (E j)[d]? = some u → ∃ rv, a.tmps[d]? = some rv ∧ RelV g (Imm g w) u rv := by
    intro d u hn hu
    have hdl : d < (E 0).length := by rw [← hlen]; exact getElem?_lt hu
    rcases henv d u hu with ⟨i, p, hlt, hp, hpd, rfl⟩ | ⟨h1, h2⟩
    · exact h.done i p d (bef_ready hL ho hr ((hd.nam i j p o d (by omega) hp ho hpd hn).1 hlt)) hp hpd hdl
    · refine h.old d u h2 fun i p hi hp hpd => ?_
      rcases Nat.lt_or_ge i j with hlt | hge
      · exact h1 i p hlt hp hpd
      · have hne : i ≠ j := fun e => hj (e ▸ hi)
        exact hj (bef_closed hL _ _ ((hd.nam i j p o d hne hp ho hpd hn).2 (by omega)) hi)
  have oper : ∀ x, x ∈ o.op.operands → RelV g (Imm g w) (ev (E j) x) (a.eval x) := by
    intro x hx
    cases x with
    | tmp t =>
      show RelV g (Imm g w) ((E j).getD t .undef) (a.tmps.getD t undef)
      cases ht : (E j)[t]? with
      | none => rw [List.getD_eq_getElem?_getD, ht]; exact .undef _
      | some u =>
        obtain ⟨rv, h1, h2⟩ := slot t u (List.mem_append_left _ (List.mem_filterMap.2 ⟨.tmp t, by simpa using hx, rfl⟩)) ht
        rw [List.getD_eq_getElem?_getD, ht, Array.getD_eq_getD_getElem?, h1]; exact h2
    | const c => exact ofConst_rel c
    | func f => exact .fn f [] [] rfl fun i v rv hv => by simp at hv
    | global i => exact .undef _
  have want : ∀ b, wantsV all (E j) o = some b → Region.wanted o (yielded all.toArray a.tmps) = b := by
    intro b hb
    unfold wantsV at hb
    unfold Region.wanted
    split at hb
    · rename_i hg; rw [hg]; simpa using hb
    · rename_i q want hg
      rw [hg]
      split at hb
      · rename_i d hdd
        have hn : d ∈ named all o := List.mem_append_right _ (by rw [hg]; simp only [hdd]; simp)
        split at hb
        · rename_i t ht
          obtain ⟨rv, h1, h2⟩ := slot d _ hn (env_some ht (by simp))
          have h3 := relV_bool h2
          subst h3
          have hy : yielded all.toArray a.tmps q = some t := by simp [yielded, hdd, h1]; rfl
          rw [← Option.some.inj hb]
          show (yielded all.toArray a.tmps q == some want) = _
          rw [hy]; rfl
        · rename_i vs ht
          obtain ⟨rv, h1, h2⟩ := slot d _ hn (env_some ht (by simp))
          cases h2
          have hy : yielded all.toArray a.tmps q = none := by simp [yielded, hdd, h1]
          rw [← Option.some.inj hb]
          show (yielded all.toArray a.tmps q == some want) = _
          rw [hy]; rfl
        · cases hb
      · cases hb
  -- afterwards
  have next : ∀ g' τ' w' rv, Up g w g' w' → RelSt g' τ' w' → RelV g' (Imm g' w') (v j) rv → (cls C o.op ≤ 1 → τ' = τ) → (1 < cls C o.op → τ = S j ∧ τ' = S (j + 1)) → DInv C all (E 0) S v a0 (fun i => L i ∨ i = j) g' τ' w' (a.put o.dst rv) := by
    intro g' τ' w' rv hu hst hv h1 h2
    refine ⟨hst, by rw [put_defers]; exact h.df, ?_, fun i hi => (put_keep a o.dst rv (by have := List.any_eq_false.1 hi o (List.mem_of_getElem? ho); simpa using this)).trans (h.keep i hi), fun k hk hc => ?_, fun k hk hc => ?_, fun i p d hi hp hpd hdl => ?_, fun d u hu0 hnot => ?_⟩
    · cases hdd : o.dst <;> simp [Act.put, h.size]
    · -- the objects
      rcases Nat.lt_or_ge (cls C o.op) 2 with hlt | hge
      · rw [h1 (by omega)]
        refine h.objs k hk fun i p hp hp3 => ⟨fun hi => (hc i p hp hp3).1 (.inl hi), fun hi => ?_⟩
        rcases (hc i p hp hp3).2 hi with h3 | rfl
        · exact h3
        · rw [ho] at hp; simp only [Option.some.injEq] at hp; subst hp; omega
      · obtain ⟨h3, h4⟩ := h2 (by omega)
        rcases Nat.lt_or_ge (cls C o.op) 3 with hlt3 | hge3
        · rw [h4, step_objs (hS j o ho) (by omega), ← h3]
          refine h.objs k hk fun i p hp hp3 => ⟨fun hi => (hc i p hp hp3).1 (.inl hi), fun hi => ?_⟩
          rcases (hc i p hp hp3).2 hi with h5 | rfl
          · exact h5
          · rw [ho] at hp; simp only [Option.some.injEq] at hp; subst hp; omega
        · have hj3 : cls C o.op = 3 := by have := cls_le (C := C) o.op; omega
          have hjk : j < k := (hc j o ho hj3).1 (.inr rfl)
          rw [h4]
          have := objs_const hS (p := j + 1) (k - (j + 1)) (by omega) fun i p h5 h6 hp hp3 => by
            rcases (hc i p hp hp3).2 (by omega) with h7 | rfl
            · have h8 := (bef hp (by omega) (clash_of (cls_le _) (cls_le _) (by omega)) (clash_of (cls_le _) (cls_le _) (by omega))).1 h7
              omega
            · omega
          rw [show j + 1 + (k - (j + 1)) = k by omega] at this
          exact this.symm
    · -- the whole state
      rcases Nat.lt_or_ge (cls C o.op) 2 with hlt | hge
      · rw [h1 (by omega)]
        refine h.all_ k hk fun i p hp hp3 => ⟨fun hi => (hc i p hp hp3).1 (.inl hi), fun hi => ?_⟩
        rcases (hc i p hp hp3).2 hi with h3 | rfl
        · exact h3
        · rw [ho] at hp; simp only [Option.some.injEq] at hp; subst hp; omega
      · obtain ⟨h3, h4⟩ := h2 (by omega)
        have hjk : j < k := (hc j o ho (by omega)).1 (.inr rfl)
        rw [h4]
        have := st_const hS (p := j + 1) (k - (j + 1)) (by omega) fun i p h5 h6 hp => by
          rcases Nat.lt_or_ge 1 (cls C p.op) with hp1 | hp1
          · rcases (hc i p hp hp1).2 (by omega) with h7 | rfl
            · have h8 := (bef hp (by omega) (clash_of (cls_le _) (cls_le _) (by omega)) (clash_of (cls_le _) (cls_le _) (by omega))).1 h7
              omega
            · omega
          · exact hp1
        rw [show j + 1 + (k - (j + 1)) = k by omega] at this
        exact this.symm
    · by_cases hij : i = j
      · subst hij
        rw [ho] at hp; simp only [Option.some.injEq] at hp; subst hp
        rw [hpd]
        exact ⟨rv, by show (a.tmps.setIfInBounds d rv)[d]? = _; rw [Array.getElem?_setIfInBounds_self_of_lt (by rw [h.size]; exact hdl)], hv⟩
      · obtain ⟨ru, h5, h6⟩ := h.done i p d (hi.resolve_right hij) hp hpd hdl
        refine ⟨ru, ?_, h6.up hu⟩
        have hne := hd.dst i j p o d hij hp ho hpd
        cases hdd : o.dst with
        | none => exact h5
        | some e =>
          show (a.tmps.setIfInBounds e rv)[d]? = _
          rw [Array.getElem?_setIfInBounds_ne (by intro e'; subst e'; exact hne hdd)]; exact h5
    · obtain ⟨ru, h5, h6⟩ := h.old d u hu0 fun i p hi hp => hnot i p (.inl hi) hp
      refine ⟨ru, ?_, h6.up hu⟩
      have hne := hnot j o (.inr rfl) ho
      cases hdd : o.dst with
      | none => exact h5
      | some e =>
        show (a.tmps.setIfInBounds e rv)[d]? = _
        rw [Array.getElem?_setIfInBounds_ne (by intro e'; subst e'; exact hne hdd)]; exact h5
  -- the state that it needs
  have hall : 1 < cls C o.op → τ = S j := fun hc => h.all_ j (by omega) fun i p hp hp1 => by
    by_cases hij : i = j
    · subst hij; exact ⟨fun h => absurd h hj, fun h => absurd h (Nat.lt_irrefl _)⟩
    · exact bef hp hij (clash_of (cls_le _) (cls_le _) (by omega)) (clash_of (cls_le _) (cls_le _) (by omega))
  have hobj : cls C o.op = 1 → τ.objs = (S j).objs := fun hc => h.objs j (by omega) fun i p hp hp3 => by
    by_cases hij : i = j
    · subst hij; exact ⟨fun h => absurd h hj, fun h => absurd h (Nat.lt_irrefl _)⟩
    · exact bef hp hij (clash_of (cls_le _) (cls_le _) (by omega)) (clash_of (cls_le _) (cls_le _) (by omega))
  unfold wpOp
  simp only [List.getElem?_toArray, ho]
  rcases (hS j o ho).2 with ⟨hw, h1, h2, h3⟩ | ⟨hw, hv, h1⟩
  · rw [if_pos (want true hw)]
    refine .inl (wp_of_oo (h3 g w a τ hobj hall h.st oper) fun rv g' w' hu hv hst => ?_)
    refine hK g' _ w' _ hu (next g' _ w' rv hu hst hv (fun hc => if_pos hc) fun hc => ⟨hall hc, if_neg (by omega)⟩)
  · rw [if_neg (by rw [want false hw]; simp)]
    refine hK g τ w _ (.refl g w) (next g τ w undef (.refl g w) h.st (by rw [hv]; exact void_rel) (fun _ => rfl) fun hc => ⟨hall hc, by rw [h1]; exact hall hc⟩)

/-! ### all orders -/
def unl (l : List Bool) : Nat := l.countP (!·)
theorem unl_set : ∀ (l : List Bool) (i : Nat), l[i]? = some false → unl (l.set i true) + 1 = unl l
  | [], i, h => by simp at h
  | b :: l, 0, h => by simp at h; subst h; simp [unl]
  | b :: l, i + 1, h => by
    have := unl_set l i (by simpa using h)
    unfold unl at this ⊢
    simp only [List.set_cons_succ, List.countP_cons]
    omega
theorem unl_zero : ∀ (l : List Bool), unl l = 0 → ∀ (i : Nat) (b : Bool), l[i]? = some b → b = true
  | [], _, i, b, h => by simp at h
  | x :: l, hz, i, b, h => by
    unfold unl at hz
    simp only [List.countP_cons] at hz
    cases i with
    | zero => simp at h; subst h; cases x <;> simp_all
    | succ i => exact unl_zero l (by unfold unl; omega) i b (by simpa using h)
theorem dall {all : List Oper} (hd : DrawSpec C all) {E : Nat → List V} {S : Nat → St} {v : Nat → V} (hS : ∀ j o, all[j]? = some o → StepOk P C all E S v j o) {Q : Exit → Act → World → Prop} {a0 : Act} {g0 : Gh} {w0 : World}
    (hq : ∀ g w a, Up g0 w0 g w → DInv C all (E 0) S v a0 (fun i => i < all.length) g (S all.length) w a → Q .normal a w) :
    ∀ (fuel : Nat) (l : List Bool) (g : Gh) (τ : St) (w : World) (a : Act), l.length = all.length → unl l ≤ fuel → Closed all (fun i => l[i]? = some true) → Up g0 w0 g w → DInv C all (E 0) S v a0 (fun i => l[i]? = some true) g τ w a →
      wpAny P .any all.toArray Q fuel l.toArray a w := by
  have fin : ∀ (l : List Bool) (g : Gh) (τ : St) (w : World) (a : Act), l.length = all.length → unl l = 0 → Up g0 w0 g w → DInv C all (E 0) S v a0 (fun i => l[i]? = some true) g τ w a → Q .normal a w := by
    intro l g τ w a hl hz hu h
    have hL : ∀ i, l[i]? = some true ↔ i < all.length := fun i => ⟨fun h => by rw [← hl]; exact getElem?_lt h, fun h => by
      have h1 : l[i]? = some (l[i]'(by omega)) := List.getElem?_eq_getElem _
      rw [h1, unl_zero l hz i _ h1]⟩
    have hτ : τ = S all.length := h.all_ _ (Nat.le_refl _) fun i o ho _ => ⟨fun h => (hL i).1 h, fun h => (hL i).2 h⟩
    subst hτ
    have : (fun i => l[i]? = some true) = fun i => i < all.length := funext fun i => propext (hL i)
    rw [this] at h
    exact hq g w a hu h
  have prog : ∀ (l : List Bool), l.length = all.length → Closed all (fun i => l[i]? = some true) → Region.ready .any all.toArray l.toArray = [] → unl l = 0 := by
    intro l hl hc hr
    have key : ∀ i, i < all.length → l[i]? = some true := by
      intro i
      induction i using Nat.strongRecOn with
      | _ i ih =>
        intro hi
        have h1 : l[i]? = some (l[i]'(by omega)) := List.getElem?_eq_getElem _
        cases hb : l[i]'(by omega) with
        | true => rw [h1, hb]
        | false =>
          exfalso
          have ho : all[i]? = some (all[i]'hi) := List.getElem?_eq_getElem _
          have : i ∈ Region.ready .any all.toArray l.toArray := mem_ready.2 ⟨by simp [h1, hb], all[i]'hi, by rw [List.getElem?_toArray]; exact ho, fun e he hbi => by
            have h2 := hd.back i _ ho e he hbi
            have h3 := ih e.on h2 (by omega)
            simp [h3]⟩
          rw [hr] at this; cases this
    have : ∀ (l : List Bool), (∀ i, i < l.length → l[i]? = some true) → unl l = 0 := by
      intro l
      induction l with
      | nil => intro _; rfl
      | cons x l ih =>
        intro h
        have h0 := h 0 (by simp)
        simp at h0; subst h0
        have := ih fun i hi => by have := h (i + 1) (by simpa using hi); simpa using this
        unfold unl at this ⊢
        simp [this]
    exact this l fun i hi => key i (by omega)
  intro fuel
  induction fuel with
  | zero =>
    intro l g τ w a hl hz hc hu h
    refine ⟨?_, fin l g τ w a hl (by omega) hu h⟩
    cases hr : Region.ready .any all.toArray l.toArray with
    | nil => rfl
    | cons j js =>
      have hj : j ∈ Region.ready .any all.toArray l.toArray := by rw [hr]; exact List.mem_cons_self ..
      obtain ⟨h1, o, ho, _⟩ := mem_ready.1 hj
      have hlt : j < l.length := by have : j < all.length := getElem?_lt (by simpa using ho); omega
      have h2 : l[j]? = some (l[j]'hlt) := List.getElem?_eq_getElem _
      have h3 := unl_zero l (by omega) j _ h2
      simp [h2, h3] at h1
  | succ fuel ih =>
    intro l g τ w a hl hz hc hu h
    refine ⟨fun hr => fin l g τ w a hl (prog l hl hc hr) hu h, fun j hj => ?_⟩
    obtain ⟨h1, o, ho, hr⟩ := mem_ready.1 hj
    have ho' : all[j]? = some o := by simpa using ho
    have hlt : j < l.length := by have := getElem?_lt ho'; omega
    have h2 : l[j]? = some false := by
      have h3 : l[j]? = some (l[j]'hlt) := List.getElem?_eq_getElem _
      rw [h3]; simp [h3] at h1; rw [h1]
    have hr' : ∀ e ∈ o.after, Region.binds .any e = true → l[e.on]? = some true := fun e he hb => by
      have h4 := hr e he hb
      cases h5 : l[e.on]? with
      | none => simp [h5] at h4
      | some b => simp [h5] at h4; rw [h4]
    refine dstep hd hS hc h ho' (by rw [h2]; simp) hr' fun g' τ' w' a' hu' h' => ?_
    have hset : (l.toArray.setIfInBounds j true) = (l.set j true).toArray := by simp
    rw [hset]
    have hL : (fun i => l[i]? = some true ∨ i = j) = fun i => (l.set j true)[i]? = some true := funext fun i => propext (by
      by_cases hij : j = i
      · subst hij; rw [List.getElem?_set_self hlt]; simp
      · rw [List.getElem?_set_ne hij]; constructor
        · rintro (h | h)
          · exact h
          · exact absurd h.symm hij
        · exact .inl)
    rw [hL] at h'
    refine ih _ g' τ' w' a' (by simpa using hl) (by have := unl_set l j h2; omega) ?_ (hu.trans hu') h'
    rw [← hL]
    intro i p hi hp e he hb
    rcases hi with hi | rfl
    · exact .inl (hc i p hi hp e he hb)
    · rw [ho'] at hp; simp only [Option.some.injEq] at hp; subst hp
      exact .inl (hr' e he hb)

theorem draw_ok (hC : ∀ f, SoundFn P f (C f)) (hT : TtOk P tt) (hm : P.follows .mixedOrders = true) : DrawOk P C tt := by
  intro R id ops env σ K r h
  unfold vdraw at h
  split at h
  · rename_i hdr
    have hd := drawOk_spec hdr
    obtain ⟨E, S, v, h1, h2, h3, h4⟩ := vops_trace hC hT ops.toList ops.toList 0 env σ K r rfl h
    have h4' : ∀ j o, ops.toList[j]? = some o → StepOk P C ops.toList E S v j o := fun j o ho => h4 j o (Nat.zero_le _) ho
    rw [Nat.zero_add] at h3
    refine ⟨_, _, h3, fun g w a Q hst he hdf hq => wp_region_any hm ?_⟩
    have hb : Below w.heap.size w { w with drawn := w.drawn + 1 } := ⟨rfl, rfl, rfl, Nat.le_refl _, fun _ _ => rfl⟩
    have hu0 : Up g w g { w with drawn := w.drawn + 1 } := .of_below hb
    obtain ⟨hlen, henv⟩ := env_at h4' ops.toList.length (Nat.le_refl _)
    have := dall (P := P) (Q := Q) hd h4' (a0 := a) (g0 := g) (w0 := w) (fun g' w' a' hu hi => hq g' w' a' hu hi.st ⟨by rw [hi.size, hlen], fun d u hu' => ?_⟩ hi.df hi.keep) ops.size (List.replicate ops.size false) g σ { w with drawn := w.drawn + 1 } a (by simp) (by
        have : ∀ n, unl (List.replicate n false) ≤ n := fun n => by unfold unl; exact Nat.le_trans (List.countP_le_length) (by simp)
        exact this _) (fun i o hi => absurd hi (by dsimp only; rw [List.getElem?_replicate]; split <;> simp)) hu0 ?_
    · simpa using this
    · rcases henv d u hu' with ⟨i, o, hlt, hio, hid, rfl⟩ | ⟨k1, k2⟩
      · exact hi.done i o d hlt hio hid (by rw [← hlen]; exact getElem?_lt hu')
      · exact hi.old d u k2 fun i o hlt hio => k1 i o hlt hio
    · have no : ∀ i, ¬ (List.replicate ops.size false)[i]? = some true := fun i => by rw [List.getElem?_replicate]; split <;> simp
      have he' := he.up hu0
      refine ⟨hst.below hb, hdf, by rw [h1]; exact he.1, fun _ _ => rfl, fun k hk hc => ?_, fun k hk hc => ?_, fun i o d hi => absurd hi (no i), fun d u hu' _ => ?_⟩
      · have := objs_const h4' (p := 0) k (by omega) fun i o _ hlt hio h5 => no i ((hc i o hio h5).2 (by omega))
        rw [Nat.zero_add] at this
        rw [this, h2]
      · have := st_const h4' (p := 0) k (by omega) fun i o _ hlt hio => by
          rcases Nat.lt_or_ge 1 (cls C o.op) with h5 | h5
          · exact absurd ((hc i o hio h5).2 (by omega)) (no i)
          · exact h5
        rw [Nat.zero_add] at this
        rw [this, h2]
      · rw [h1] at hu'; exact he'.2 d u hu'
  · cases h
end
end Go.Proofs.Yticelgnmcjkknaa.Vm
