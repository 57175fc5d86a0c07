/-
A machine of values, part twenty-nine: regions that draw their order; sound.
-/
import Derived.Test.YticelgnmcjkknaaVm28
set_option linter.unusedVariables false
set_option linter.unusedSimpArgs false
namespace Go.Proofs.Yticelgnmcjkknaa.Vm
open Go.RowKit (Below)
section
variable {P : Program} {C : Nat → Fun} {tt : Nat → TI} {R : Type}

/-- What holds when these operations have been taken. -/
structure DInv (C : Nat → Fun) (all : List Oper) (env0 : List V) (S : Nat → St) (v : Nat → V) (a0 : Act) (L : Nat → Prop) (g : Gh) (τ : St) (w : World) (a : Act) : Prop where
  st : RelSt g τ w
  df : a.defers = []
  size : a.tmps.size = env0.length
  keep : ∀ i, wrOps all i = false → a.tmps[i]? = a0.tmps[i]?
  objs : ∀ k, k ≤ all.length → (∀ i o, all[i]? = some o → cls C o.op = 3 → (L i ↔ i < k)) → τ.objs = (S k).objs
  all_ : ∀ k, k ≤ all.length → (∀ i o, all[i]? = some o → 1 < cls C o.op → (L i ↔ i < k)) → τ = S k
  done : ∀ i o d, L i → all[i]? = some o → o.dst = some d → d < env0.length → ∃ rv, a.tmps[d]? = some rv ∧ RelV g (Imm g w) (v i) rv
  old : ∀ d u, env0[d]? = some u → (∀ i o, L i → all[i]? = some o → o.dst ≠ some d) → ∃ rv, a.tmps[d]? = some rv ∧ RelV g (Imm g w) u rv

theorem clash_of {a b : Nat} (ha : a ≤ 3) (hb : b ≤ 3) (h : (1 < a ∧ 1 < b) ∨ (a = 3 ∧ b ≠ 0) ∨ (b = 3 ∧ a ≠ 0)) : clash a b = true := by
  unfold clash
  have : a = 0 ∨ a = 1 ∨ a = 2 ∨ a = 3 := by omega
  have : b = 0 ∨ b = 1 ∨ b = 2 ∨ b = 3 := by omega
  rcases ‹a = 0 ∨ _› with rfl | rfl | rfl | rfl <;> rcases ‹b = 0 ∨ _› with rfl | rfl | rfl | rfl <;> first | rfl | omega

/-- A load, and what leaves the object that it looks at as it is. -/
def Apart (C : Nat → Fun) (all : List Oper) (E : Nat → List V) (S : Nat → St) (l s : Nat) : Prop :=
  ∃ o, all[l]? = some o ∧ ((∃ x, look o.op = some x ∧ ∀ m, addrOb (ev (E l) x) = some m → (S (s + 1)).objs[m]? = (S s).objs[m]?) ∨
    ∃ f xs ats, o.op = .call ⟨.value (.func f), ⟨xs⟩, ats⟩ ∧ (C f).ro = true ∧ ∀ x ∈ xs, noIds (ev (E l) x) = true)
theorem look_cls {op : Op} {x : Operand} (h : look op = some x) : cls C op ≤ 1 := by
  cases op <;> first | (cases h; done) | (unfold cls; cases (C 2000001).ro <;> simp)
theorem Apart.cls {all : List Oper} {E : Nat → List V} {S : Nat → St} {l s : Nat} (h : Apart C all E S l s) {o : Oper} (ho : all[l]? = some o) : cls C o.op ≤ 1 := by
  obtain ⟨o', h1, h2⟩ := h
  rw [ho] at h1; simp only [Option.some.injEq] at h1; subst h1
  rcases h2 with ⟨x, h2, _⟩ | ⟨f, xs, ats, h2, h3, _⟩
  · exact look_cls h2
  · rw [h2]; simp [Vm.cls, h3]
/-- Where those that turn objects were taken up to. -/
theorem cut_of {all : List Oper} {L : Nat → Prop} (h : ∀ i i' p p', i < i' → all[i]? = some p → all[i']? = some p' → cls C p.op = 3 → cls C p'.op = 3 → L i' → L i) : ∀ n, ∃ k, k ≤ n ∧ ∀ i p, i < n → all[i]? = some p → cls C p.op = 3 → (L i ↔ i < k)
  | 0 => ⟨0, Nat.le_refl _, fun i p hi => absurd hi (Nat.not_lt_zero _)⟩
  | n + 1 => by
    obtain ⟨k, hk, hc⟩ := cut_of h n
    by_cases hx : ∃ p, all[n]? = some p ∧ cls C p.op = 3 ∧ L n
    · obtain ⟨p, h1, h2, h3⟩ := hx
      refine ⟨n + 1, Nat.le_refl _, fun i q hi hq hq3 => ⟨fun _ => hi, fun _ => ?_⟩⟩
      rcases Nat.lt_or_ge i n with hlt | hge
      · exact h i n q p hlt hq h1 hq3 h2 h3
      · have : i = n := by omega
        subst this; exact h3
    · refine ⟨k, by omega, fun i q hi hq hq3 => ?_⟩
      rcases Nat.lt_or_ge i n with hlt | hge
      · exact hc i q hlt hq hq3
      · have : i = n := by omega
        subst this
        exact ⟨fun hl => absurd ⟨q, hq, hq3, hl⟩ hx, fun h => by omega⟩
theorem dstep {all : List Oper} {X : Nat → Nat → Prop} {A : Prop} (hd : DrawSpec C all X A) {E : Nat → List V} {S : Nat → St} {v : Nat → V} (hS : ∀ j o, all[j]? = some o → StepOk P C all E S v j o) (hX : ∀ l s, X l s → Apart C all E S l s) {L : Nat → Prop} (hL : Closed all L) (hA : A → ∀ z, alAt all z = true → L z) {a0 : Act} {g : Gh} {τ : St} {w : World} {a : Act} (h : DInv C all (E 0) S v a0 L g τ w a)
    {j : Nat} {o : Oper} (ho : all[j]? = some o) (hj : ¬ L j) (hr : ∀ e ∈ o.after, Region.binds .any e = true → L e.on) {Q : Exit → Act → World → Prop} {K : Act → World → Prop}
    (hK : ∀ g' τ' w' a', Up g w g' w' → DInv C all (E 0) S v a0 (fun i => L i ∨ i = j) g' τ' w' a' → K a' w') : wpOp P all.toArray Q j K a w := by
  have hjl := getElem?_lt ho
  obtain ⟨hlen, henv⟩ := env_at hS j (by omega)
  -- those before it are taken, those behind it not
  have bef0 : ∀ {i p}, all[i]? = some p → i ≠ j → (∀ q, ¬ X i q) → (∀ q, ¬ X j q) → (clash (cls C p.op) (cls C o.op) = true) → clash (cls C o.op) (cls C p.op) = true → (L i ↔ i < j) := by
    intro i p hp hne n1 n2 h1 h2
    constructor
    · intro hi
      rcases Nat.lt_or_ge i j with hlt | hge
      · exact hlt
      · rcases hd.clash j i o p (by omega) ho hp h2 with hb | hx | hx | ⟨hax, h5, h6⟩
        · exact absurd (bef_closed hL _ _ hb hi) hj
        · exact absurd hx (n2 _)
        · exact absurd hx (n1 _)
        · exact absurd (hA hax _ h5) hj
    · intro hlt
      rcases hd.clash i j p o hlt hp ho h1 with hb | hx | hx | ⟨hax, h5, h6⟩
      · exact bef_ready hL ho hr hb
      · exact absurd hx (n1 _)
      · exact absurd hx (n2 _)
      · exact absurd (hA hax _ h6) hj
  have noX : ∀ {i p}, all[i]? = some p → 1 < cls C p.op → ∀ q, ¬ X i q := fun hp h1 q hx => by
    have := (hX _ _ hx).cls (C := C) hp; omega
  have bef : ∀ {i p}, all[i]? = some p → i ≠ j → 1 < cls C p.op → 1 < cls C o.op → (clash (cls C p.op) (cls C o.op) = true) → clash (cls C o.op) (cls C p.op) = true → (L i ↔ i < j) :=
    fun hp hne h1 h2 => bef0 hp hne (noX hp h1) (noX ho h2)
  -- the slots that it names are as in the text
  have slot : ∀ d u, d ∈ named all o → (E j)[d]? = some u → ∃ rv, a.tmps[d]? = some rv ∧ RelV g (Imm g w) u rv := by
    intro d u hn hu
    have hdl : d < (E 0).length := by rw [← hlen]; exact getElem?_lt hu
    rcases henv d u hu with ⟨i, p, hlt, hp, hpd, rfl⟩ | ⟨h1, h2⟩
    · exact h.done i p d (bef_ready hL ho hr ((hd.nam i j p o d (by omega) hp ho hpd hn).1 hlt)) hp hpd hdl
    · refine h.old d u h2 fun i p hi hp hpd => ?_
      rcases Nat.lt_or_ge i j with hlt | hge
      · exact h1 i p hlt hp hpd
      · have hne : i ≠ j := fun e => hj (e ▸ hi)
        exact hj (bef_closed hL _ _ ((hd.nam i j p o d hne hp ho hpd hn).2 (by omega)) hi)
  have oper : ∀ x, x ∈ o.op.operands → RelV g (Imm g w) (ev (E j) x) (a.eval x) := by
    intro x hx
    cases x with
    | tmp t =>
      show RelV g (Imm g w) ((E j).getD t .undef) (a.tmps.getD t undef)
      cases ht : (E j)[t]? with
      | none => rw [List.getD_eq_getElem?_getD, ht]; exact .undef _
      | some u =>
        obtain ⟨rv, h1, h2⟩ := slot t u (List.mem_append_left _ (List.mem_filterMap.2 ⟨.tmp t, by simpa using hx, rfl⟩)) ht
        rw [List.getD_eq_getElem?_getD, ht, Array.getD_eq_getD_getElem?, h1]; exact h2
    | const c => exact ofConst_rel c
    | func f => exact .fn f [] [] rfl fun i v rv hv => by simp at hv
    | global i => exact .undef _
  have want : ∀ b, wantsV all (E j) o = some b → Region.wanted o (yielded all.toArray a.tmps) = b := by
    intro b hb
    unfold wantsV at hb
    unfold Region.wanted
    split at hb
    · rename_i hg; rw [hg]; simpa using hb
    · rename_i q want hg
      rw [hg]
      split at hb
      · rename_i d hdd
        have hn : d ∈ named all o := List.mem_append_right _ (by rw [hg]; simp only [hdd]; simp)
        split at hb
        · rename_i t ht
          obtain ⟨rv, h1, h2⟩ := slot d _ hn (env_some ht (by simp))
          have h3 := relV_bool h2
          subst h3
          have hy : yielded all.toArray a.tmps q = some t := by simp [yielded, hdd, h1]; rfl
          rw [← Option.some.inj hb]
          show (yielded all.toArray a.tmps q == some want) = _
          rw [hy]; rfl
        · rename_i vs ht
          obtain ⟨rv, h1, h2⟩ := slot d _ hn (env_some ht (by simp))
          cases h2
          have hy : yielded all.toArray a.tmps q = none := by simp [yielded, hdd, h1]
          rw [← Option.some.inj hb]
          show (yielded all.toArray a.tmps q == some want) = _
          rw [hy]; rfl
        · cases hb
      · cases hb
  -- afterwards
  have next : ∀ g' τ' w' rv, Up g w g' w' → RelSt g' τ' w' → RelV g' (Imm g' w') (v j) rv → (cls C o.op ≤ 1 → τ' = τ) → (1 < cls C o.op → τ = S j ∧ τ' = S (j + 1)) → DInv C all (E 0) S v a0 (fun i => L i ∨ i = j) g' τ' w' (a.put o.dst rv) := by
    intro g' τ' w' rv hu hst hv h1 h2
    refine ⟨hst, by rw [put_defers]; exact h.df, ?_, fun i hi => (put_keep a o.dst rv (by have := List.any_eq_false.1 hi o (List.mem_of_getElem? ho); simpa using this)).trans (h.keep i hi), fun k hk hc => ?_, fun k hk hc => ?_, fun i p d hi hp hpd hdl => ?_, fun d u hu0 hnot => ?_⟩
    · cases hdd : o.dst <;> simp [Act.put, h.size]
    · -- the objects
      rcases Nat.lt_or_ge (cls C o.op) 2 with hlt | hge
      · rw [h1 (by omega)]
        refine h.objs k hk fun i p hp hp3 => ⟨fun hi => (hc i p hp hp3).1 (.inl hi), fun hi => ?_⟩
        rcases (hc i p hp hp3).2 hi with h3 | rfl
        · exact h3
        · rw [ho] at hp; simp only [Option.some.injEq] at hp; subst hp; omega
      · obtain ⟨h3, h4⟩ := h2 (by omega)
        rcases Nat.lt_or_ge (cls C o.op) 3 with hlt3 | hge3
        · rw [h4, step_objs (hS j o ho) (by omega), ← h3]
          refine h.objs k hk fun i p hp hp3 => ⟨fun hi => (hc i p hp hp3).1 (.inl hi), fun hi => ?_⟩
          rcases (hc i p hp hp3).2 hi with h5 | rfl
          · exact h5
          · rw [ho] at hp; simp only [Option.some.injEq] at hp; subst hp; omega
        · have hj3 : cls C o.op = 3 := by have := cls_le (C := C) o.op; omega
          have hjk : j < k := (hc j o ho hj3).1 (.inr rfl)
          rw [h4]
          have := objs_const hS (p := j + 1) (k - (j + 1)) (by omega) fun i p h5 h6 hp hp3 => by
            rcases (hc i p hp hp3).2 (by omega) with h7 | rfl
            · have h8 := (bef hp (by omega) (by omega) (by omega) (clash_of (cls_le _) (cls_le _) (by omega)) (clash_of (cls_le _) (cls_le _) (by omega))).1 h7
              omega
            · omega
          rw [show j + 1 + (k - (j + 1)) = k by omega] at this
          exact this.symm
    · -- the whole state
      rcases Nat.lt_or_ge (cls C o.op) 2 with hlt | hge
      · rw [h1 (by omega)]
        refine h.all_ k hk fun i p hp hp3 => ⟨fun hi => (hc i p hp hp3).1 (.inl hi), fun hi => ?_⟩
        rcases (hc i p hp hp3).2 hi with h3 | rfl
        · exact h3
        · rw [ho] at hp; simp only [Option.some.injEq] at hp; subst hp; omega
      · obtain ⟨h3, h4⟩ := h2 (by omega)
        have hjk : j < k := (hc j o ho (by omega)).1 (.inr rfl)
        rw [h4]
        have := st_const hS (p := j + 1) (k - (j + 1)) (by omega) fun i p h5 h6 hp => by
          rcases Nat.lt_or_ge 1 (cls C p.op) with hp1 | hp1
          · rcases (hc i p hp hp1).2 (by omega) with h7 | rfl
            · have h8 := (bef hp (by omega) (by omega) (by omega) (clash_of (cls_le _) (cls_le _) (by omega)) (clash_of (cls_le _) (cls_le _) (by omega))).1 h7
              omega
            · omega
          · exact hp1
        rw [show j + 1 + (k - (j + 1)) = k by omega] at this
        exact this.symm
    · by_cases hij : i = j
      · subst hij
        rw [ho] at hp; simp only [Option.some.injEq] at hp; subst hp
        rw [hpd]
        exact ⟨rv, by show (a.tmps.setIfInBounds d rv)[d]? = _; rw [Array.getElem?_setIfInBounds_self_of_lt (by rw [h.size]; exact hdl)], hv⟩
      · obtain ⟨ru, h5, h6⟩ := h.done i p d (hi.resolve_right hij) hp hpd hdl
        refine ⟨ru, ?_, h6.up hu⟩
        have hne := hd.dst i j p o d hij hp ho hpd
        cases hdd : o.dst with
        | none => exact h5
        | some e =>
          show (a.tmps.setIfInBounds e rv)[d]? = _
          rw [Array.getElem?_setIfInBounds_ne (by intro e'; subst e'; exact hne hdd)]; exact h5
    · obtain ⟨ru, h5, h6⟩ := h.old d u hu0 fun i p hi hp => hnot i p (.inl hi) hp
      refine ⟨ru, ?_, h6.up hu⟩
      have hne := hnot j o (.inr rfl) ho
      cases hdd : o.dst with
      | none => exact h5
      | some e =>
        show (a.tmps.setIfInBounds e rv)[d]? = _
        rw [Array.getElem?_setIfInBounds_ne (by intro e'; subst e'; exact hne hdd)]; exact h5
  -- the state that it needs
  have hall : 1 < cls C o.op → τ = S j := fun hc => h.all_ j (by omega) fun i p hp hp1 => by
    by_cases hij : i = j
    · subst hij; exact ⟨fun h => absurd h hj, fun h => absurd h (Nat.lt_irrefl _)⟩
    · exact bef hp hij hp1 hc (clash_of (cls_le _) (cls_le _) (by omega)) (clash_of (cls_le _) (cls_le _) (by omega))
  have hobj : (∀ q, ¬ X j q) → cls C o.op = 1 → τ.objs = (S j).objs := fun hn hc => h.objs j (by omega) fun i p hp hp3 => by
    by_cases hij : i = j
    · subst hij; exact ⟨fun h => absurd h hj, fun h => absurd h (Nat.lt_irrefl _)⟩
    · exact bef0 hp hij (noX hp (by omega)) hn (clash_of (cls_le _) (cls_le _) (by omega)) (clash_of (cls_le _) (cls_le _) (by omega))
  -- a load that is apart from others: its object is as in the text
  have hone : ∀ {x m}, look o.op = some x → cls C o.op = 1 → addrOb (ev (E j) x) = some m → τ.objs[m]? = (S j).objs[m]? := by
    intro x m hop hc hm
    have hmX : ∀ {q}, X j q → (S (q + 1)).objs[m]? = (S q).objs[m]? := fun {q} hx => by
      obtain ⟨o', h1, h2⟩ := hX _ _ hx
      rw [ho] at h1; simp only [Option.some.injEq] at h1; subst h1
      rcases h2 with ⟨x', h2, h3⟩ | ⟨f, xs, ats, h2, _⟩
      · rw [hop] at h2; simp only [Option.some.injEq] at h2; subst h2
        exact h3 m hm
      · rw [h2] at hop; cases hop
    obtain ⟨k, hk, hcut⟩ := cut_of (C := C) (all := all) (L := L) (fun i i' p p' hlt hp hp' h3 h3' hl => by
      rcases hd.clash i i' p p' hlt hp hp' (clash_of (cls_le _) (cls_le _) (by omega)) with hb | hx | hx | ⟨hax, h5, h6⟩
      · exact bef_closed hL _ _ hb hl
      · exact absurd hx (noX hp (by omega) _)
      · exact absurd hx (noX hp' (by omega) _)
      · exact hA hax _ h5) all.length
    rw [h.objs k hk fun i p hp hp3 => hcut i p (getElem?_lt hp) hp hp3]
    have same : ∀ i, i < all.length → (i < j → k ≤ i) → (j < i → i < k) → (S (i + 1)).objs[m]? = (S i).objs[m]? := by
      intro i hi h1 h2
      have hp : all[i]? = some (all[i]'hi) := List.getElem?_eq_getElem _
      by_cases h3 : cls C (all[i]'hi).op = 3
      · have hL' := hcut i _ hi hp h3
        rcases Nat.lt_trichotomy i j with hlt | heq | hgt
        · have nl : ¬ L i := fun hl => by have := hL'.1 hl; have := h1 hlt; omega
          rcases hd.clash i j _ o hlt hp ho (clash_of (cls_le _) (cls_le _) (by omega)) with hb | hx | hx | ⟨hax, h5, h6⟩
          · exact absurd (bef_ready hL ho hr hb) nl
          · exact absurd hx (noX hp (by omega) _)
          · exact hmX hx
          · exact absurd (hA hax _ h6) hj
        · subst heq; rw [ho] at hp; simp only [Option.some.injEq] at hp; rw [← hp] at h3; omega
        · have hl : L i := hL'.2 (h2 hgt)
          rcases hd.clash j i o _ hgt ho hp (clash_of (cls_le _) (cls_le _) (by omega)) with hb | hx | hx | ⟨hax, h5, h6⟩
          · exact absurd (bef_closed hL _ _ hb hl) hj
          · exact hmX hx
          · exact absurd hx (noX hp (by omega) _)
          · exact absurd (hA hax _ h5) hj
      · rw [step_objs (hS i _ hp) h3]
    have up : ∀ d q, q + d ≤ all.length → (∀ i, q ≤ i → i < q + d → (S (i + 1)).objs[m]? = (S i).objs[m]?) → (S (q + d)).objs[m]? = (S q).objs[m]? := by
      intro d
      induction d with
      | zero => intro q _ _; rfl
      | succ d ih =>
        intro q hq hs
        rw [show q + (d + 1) = q + d + 1 by omega, hs (q + d) (by omega) (by omega)]
        exact ih q (by omega) fun i h1 h2 => hs i h1 (by omega)
    rcases Nat.le_total k j with hkj | hjk
    · have := up (j - k) k (by omega) fun i h1 h2 => same i (by omega) (fun _ => h1) (fun h => by omega)
      rw [show k + (j - k) = j by omega] at this
      exact this.symm
    · have := up (k - j) j (by omega) fun i h1 h2 => same i (by omega) (fun h => by omega) (fun _ => by omega)
      rw [show j + (k - j) = k by omega] at this
      exact this
  unfold wpOp
  simp only [List.getElem?_toArray, ho]
  rcases (hS j o ho).2 with ⟨hw, h1, h2, hx, h3⟩ | ⟨hw, hv, h1⟩
  · rw [if_pos (want true hw)]
    by_cases hex : cls C o.op = 1 ∧ ∃ q, X j q
    · obtain ⟨hc1, q, hq⟩ := hex
      obtain ⟨o', k1, k2⟩ := hX _ _ hq
      rw [ho] at k1; simp only [Option.some.injEq] at k1; subst k1
      have hx : OO P (execOp a.eval o) g w (v j) τ := by
        rcases k2 with ⟨x, k2, _⟩ | ⟨f, xs, ats, k2, k3, k4⟩
        · have hx : LookOk P o (E j) (S j) (v j) x := by
            obtain ⟨dst, op, type, pos, after, guard⟩ := o
            cases op <;> first | (cases k2; done) | (simp only [look, Option.some.injEq] at k2; subst k2; exact hx)
          exact (hx g w a τ (fun m hm => hone k2 hc1 hm) h.st oper).oo
        · obtain ⟨dst, op, type, pos, after, guard⟩ := o
          simp only at k2; subst k2
          exact (hx k3 k4 g w a τ h.st oper).oo
      refine .inl (wp_of_oo hx fun rv g' w' hu hv hst => ?_)
      exact hK g' _ w' _ hu (next g' _ w' rv hu hst hv (fun _ => rfl) fun hc => by omega)
    · refine .inl (wp_of_oo (h3 g w a τ (fun hc => hobj (fun q hq => hex ⟨hc, q, hq⟩) hc) hall h.st oper) fun rv g' w' hu hv hst => ?_)
      refine hK g' _ w' _ hu (next g' _ w' rv hu hst hv (fun hc => if_pos hc) fun hc => ⟨hall hc, if_neg (by omega)⟩)
  · rw [if_neg (by rw [want false hw]; simp)]
    refine hK g τ w _ (.refl g w) (next g τ w undef (.refl g w) h.st (by rw [hv]; exact void_rel) (fun _ => rfl) fun hc => ⟨hall hc, by rw [h1]; exact hall hc⟩)

/-! ### all orders -/
def unl (l : List Bool) : Nat := l.countP (!·)
theorem unl_set : ∀ (l : List Bool) (i : Nat), l[i]? = some false → unl (l.set i true) + 1 = unl l
  | [], i, h => by simp at h
  | b :: l, 0, h => by simp at h; subst h; simp [unl]
  | b :: l, i + 1, h => by
    have := unl_set l i (by simpa using h)
    unfold unl at this ⊢
    simp only [List.set_cons_succ, List.countP_cons]
    omega
theorem unl_zero : ∀ (l : List Bool), unl l = 0 → ∀ (i : Nat) (b : Bool), l[i]? = some b → b = true
  | [], _, i, b, h => by simp at h
  | x :: l, hz, i, b, h => by
    unfold unl at hz
    simp only [List.countP_cons] at hz
    cases i with
    | zero => simp at h; subst h; cases x <;> simp_all
    | succ i => exact unl_zero l (by unfold unl; omega) i b (by simpa using h)
theorem set_keep {l : List Bool} {j z : Nat} (h : l[z]? = some true) : (l.set j true)[z]? = some true := by
  rw [List.getElem?_set]
  split
  · rename_i e; subst e
    rw [if_pos (getElem?_lt h)]
  · exact h
theorem dall {all : List Oper} {X : Nat → Nat → Prop} {A : Prop} (hd : DrawSpec C all X A) {E : Nat → List V} {S : Nat → St} {v : Nat → V} (hS : ∀ j o, all[j]? = some o → StepOk P C all E S v j o) (hX : ∀ l s, X l s → Apart C all E S l s) {Q : Exit → Act → World → Prop} {a0 : Act} {g0 : Gh} {w0 : World}
    (hq : ∀ g w a, Up g0 w0 g w → DInv C all (E 0) S v a0 (fun i => i < all.length) g (S all.length) w a → Q .normal a w) :
    ∀ (fuel : Nat) (l : List Bool) (g : Gh) (τ : St) (w : World) (a : Act), l.length = all.length → unl l ≤ fuel → Closed all (fun i => l[i]? = some true) → (A → ∀ z, alAt all z = true → l[z]? = some true) → Up g0 w0 g w → DInv C all (E 0) S v a0 (fun i => l[i]? = some true) g τ w a →
      wpAny P .any all.toArray Q fuel l.toArray a w := by
  have fin : ∀ (l : List Bool) (g : Gh) (τ : St) (w : World) (a : Act), l.length = all.length → unl l = 0 → Up g0 w0 g w → DInv C all (E 0) S v a0 (fun i => l[i]? = some true) g τ w a → Q .normal a w := by
    intro l g τ w a hl hz hu h
    have hL : ∀ i, l[i]? = some true ↔ i < all.length := fun i => ⟨fun h => by rw [← hl]; exact getElem?_lt h, fun h => by
      have h1 : l[i]? = some (l[i]'(by omega)) := List.getElem?_eq_getElem _
      rw [h1, unl_zero l hz i _ h1]⟩
    have hτ : τ = S all.length := h.all_ _ (Nat.le_refl _) fun i o ho _ => ⟨fun h => (hL i).1 h, fun h => (hL i).2 h⟩
    subst hτ
    have : (fun i => l[i]? = some true) = fun i => i < all.length := funext fun i => propext (hL i)
    rw [this] at h
    exact hq g w a hu h
  have prog : ∀ (l : List Bool), l.length = all.length → Closed all (fun i => l[i]? = some true) → Region.ready .any all.toArray l.toArray = [] → unl l = 0 := by
    intro l hl hc hr
    have key : ∀ i, i < all.length → l[i]? = some true := by
      intro i
      induction i using Nat.strongRecOn with
      | _ i ih =>
        intro hi
        have h1 : l[i]? = some (l[i]'(by omega)) := List.getElem?_eq_getElem _
        cases hb : l[i]'(by omega) with
        | true => rw [h1, hb]
        | false =>
          exfalso
          have ho : all[i]? = some (all[i]'hi) := List.getElem?_eq_getElem _
          have : i ∈ Region.ready .any all.toArray l.toArray := mem_ready.2 ⟨by simp [h1, hb], all[i]'hi, by rw [List.getElem?_toArray]; exact ho, fun e he hbi => by
            have h2 := hd.back i _ ho e he hbi
            have h3 := ih e.on h2 (by omega)
            simp [h3]⟩
          rw [hr] at this; cases this
    have : ∀ (l : List Bool), (∀ i, i < l.length → l[i]? = some true) → unl l = 0 := by
      intro l
      induction l with
      | nil => intro _; rfl
      | cons x l ih =>
        intro h
        have h0 := h 0 (by simp)
        simp at h0; subst h0
        have := ih fun i hi => by have := h (i + 1) (by simpa using hi); simpa using this
        unfold unl at this ⊢
        simp [this]
    exact this l fun i hi => key i (by omega)
  intro fuel
  induction fuel with
  | zero =>
    intro l g τ w a hl hz hc hA hu h
    refine ⟨?_, fin l g τ w a hl (by omega) hu h⟩
    cases hr : Region.ready .any all.toArray l.toArray with
    | nil => rfl
    | cons j js =>
      have hj : j ∈ Region.ready .any all.toArray l.toArray := by rw [hr]; exact List.mem_cons_self ..
      obtain ⟨h1, o, ho, _⟩ := mem_ready.1 hj
      have hlt : j < l.length := by have : j < all.length := getElem?_lt (by simpa using ho); omega
      have h2 : l[j]? = some (l[j]'hlt) := List.getElem?_eq_getElem _
      have h3 := unl_zero l (by omega) j _ h2
      simp [h2, h3] at h1
  | succ fuel ih =>
    intro l g τ w a hl hz hc hA hu h
    refine ⟨fun hr => fin l g τ w a hl (prog l hl hc hr) hu h, fun j hj => ?_⟩
    obtain ⟨h1, o, ho, hr⟩ := mem_ready.1 hj
    have ho' : all[j]? = some o := by simpa using ho
    have hlt : j < l.length := by have := getElem?_lt ho'; omega
    have h2 : l[j]? = some false := by
      have h3 : l[j]? = some (l[j]'hlt) := List.getElem?_eq_getElem _
      rw [h3]; simp [h3] at h1; rw [h1]
    have hr' : ∀ e ∈ o.after, Region.binds .any e = true → l[e.on]? = some true := fun e he hb => by
      have h4 := hr e he hb
      cases h5 : l[e.on]? with
      | none => simp [h5] at h4
      | some b => simp [h5] at h4; rw [h4]
    refine dstep hd hS hX hc hA h ho' (by rw [h2]; simp) hr' fun g' τ' w' a' hu' h' => ?_
    have hset : (l.toArray.setIfInBounds j true) = (l.set j true).toArray := by simp
    rw [hset]
    have hL : (fun i => l[i]? = some true ∨ i = j) = fun i => (l.set j true)[i]? = some true := funext fun i => propext (by
      by_cases hij : j = i
      · subst hij; rw [List.getElem?_set_self hlt]; simp
      · rw [List.getElem?_set_ne hij]; constructor
        · rintro (h | h)
          · exact h
          · exact absurd h.symm hij
        · exact .inl)
    rw [hL] at h'
    refine ih _ g' τ' w' a' (by simpa using hl) (by have := unl_set l j h2; omega) ?_ (fun ha z hz => set_keep (hA ha z hz)) (hu.trans hu') h'
    rw [← hL]
    intro i p hi hp e he hb
    rcases hi with hi | rfl
    · exact .inl (hc i p hi hp e he hb)
    · rw [ho'] at hp; simp only [Option.some.injEq] at hp; subst hp
      exact .inl (hr' e he hb)

theorem stays_ev {all : List Oper} {X : Nat → Nat → Prop} {A : Prop} (hd : DrawSpec C all X A) {E : Nat → List V} {S : Nat → St} {v : Nat → V} (hS : ∀ j o, all[j]? = some o → StepOk P C all E S v j o) {j : Nat} (hj : j ≤ all.length) {x : Operand} (h : stays all j x = true) : ev (E all.length) x = ev (E j) x := by
  cases x with
  | tmp t =>
    obtain ⟨l1, e1⟩ := env_at hS all.length (Nat.le_refl _)
    obtain ⟨l2, e2⟩ := env_at hS j hj
    have h : (all.drop j).all (fun p => p.dst != some t) = true := h
    have nw : ∀ i p, j ≤ i → all[i]? = some p → p.dst ≠ some t := fun i p hi hp hpd => by
      have hm : p ∈ all.drop j := List.mem_of_getElem? (i := i - j) (by rw [List.getElem?_drop, show j + (i - j) = i by omega]; exact hp)
      have := List.all_eq_true.1 h p hm
      rw [hpd] at this; simp at this
    show (E all.length).getD t .undef = (E j).getD t .undef
    rw [List.getD_eq_getElem?_getD, List.getD_eq_getElem?_getD]
    rcases Nat.lt_or_ge t (E 0).length with hlt | hge
    · have hu : (E all.length)[t]? = some ((E all.length)[t]'(by omega)) := List.getElem?_eq_getElem _
      have hu' : (E j)[t]? = some ((E j)[t]'(by omega)) := List.getElem?_eq_getElem _
      rw [hu, hu']
      rcases e1 t _ hu with ⟨i, p, _, hp, hpd, h1⟩ | ⟨h1, h2⟩
      · have hij : i < j := by
          rcases Nat.lt_or_ge i j with h' | h'
          · exact h'
          · exact absurd hpd (nw i p h' hp)
        rcases e2 t _ hu' with ⟨i', p', _, hp', hpd', h3⟩ | ⟨h3, _⟩
        · by_cases hii : i = i'
          · subst hii; rw [h1, h3]
          · exact absurd hpd' (hd.dst i i' p p' t hii hp hp' hpd)
        · exact absurd hpd (h3 i p hij hp)
      · rcases e2 t _ hu' with ⟨i', p', hlt', hp', hpd', h3⟩ | ⟨_, h3⟩
        · exact absurd hpd' (h1 i' p' (by omega) hp')
        · rw [h2] at h3; exact congrArg (fun o : Option V => o.getD .undef) h3
    · rw [List.getElem?_eq_none (by omega), List.getElem?_eq_none (by omega)]
  | const c => rfl
  | func f => rfl
  | global i => rfl
theorem new_ev {all : List Oper} {X : Nat → Nat → Prop} {A : Prop} (hd : DrawSpec C all X A) {E : Nat → List V} {S : Nat → St} {v : Nat → V} (hS : ∀ j o, all[j]? = some o → StepOk P C all E S v j o) {s m : Nat} {p : Oper} (hp : all[s]? = some p) (h : newAt p (E all.length) m = true) : addrOb (v s) ≠ some m := by
  unfold newAt at h
  split at h
  · rename_i d hpd
    split at h
    · rename_i m' hm'
      obtain ⟨_, e1⟩ := env_at hS all.length (Nat.le_refl _)
      rw [List.getD_eq_getElem?_getD] at hm'
      cases hu : (E all.length)[d]? with
      | none => rw [hu] at hm'; cases hm'
      | some u =>
        rw [hu] at hm'
        rcases e1 d u hu with ⟨i, q, _, hq, hqd, rfl⟩ | ⟨h1, _⟩
        · by_cases his : i = s
          · subst his
            simp only [Option.getD_some] at hm'
            rw [hm']
            intro e; simp only [Option.some.injEq] at e; subst e; simp at h
          · exact absurd hpd (hd.dst i s q p d his hq hp hqd)
        · exact absurd hpd (h1 s p (getElem?_lt hp) hp)
    · cases h
  · cases h
/-- What the check at the end says. -/
theorem apart_ok {all : List Oper} {X : Nat → Nat → Prop} {A : Prop} (hd : DrawSpec C all X A) {E : Nat → List V} {S : Nat → St} {v : Nat → V} (hS : ∀ j o, all[j]? = some o → StepOk P C all E S v j o) {l s : Nat} (h : apart C all (E all.length) l s = true) : Apart C all E S l s := by
  unfold apart at h
  cases ho : all[l]? with
  | none => rw [ho] at h; cases h
  | some o =>
  cases hp : all[s]? with
  | none => rw [ho, hp] at h; cases h
  | some p =>
  rw [ho, hp] at h
  have hs := hS s p hp
  have hlo := getElem?_lt ho
  have hlp := getElem?_lt hp
  have two : ∀ {m : Nat} {ob : Option Nat}, (match ob with | some m' => m' != m | none => false) = true → ob ≠ some m := by
    intro m ob h e
    subst e; simp at h
  have h : (match look o.op with
    | some x => stays all l x && (match addrOb (ev (E all.length) x) with
      | some m => (match p.op with
        | .store _ a _ => stays all s a && (match addrOb (ev (E all.length) a) with | some m' => m' != m | none => false)
        | .alloc _ => newAt p (E all.length) m
        | .box _ _ => newAt p (E all.length) m
        | _ => false)
      | none => true)
    | none => freeCall C all (E all.length) l o.op) = true := h
  cases hl : look o.op with
  | none =>
    rw [hl] at h
    have h : freeCall C all (E all.length) l o.op = true := h
    refine ⟨_, ho, .inr ?_⟩
    unfold freeCall at h
    split at h
    · rename_i f xs ats hop
      obtain ⟨h1, h2⟩ := Bool.and_eq_true_iff.1 h
      refine ⟨f, xs, ats, hop, h1, fun x hx => ?_⟩
      obtain ⟨h3, h4⟩ := Bool.and_eq_true_iff.1 (List.all_eq_true.1 h2 x hx)
      rw [stays_ev hd hS (Nat.le_of_lt hlo) h3] at h4
      exact h4
    · cases h
  | some x =>
    rw [hl] at h
    obtain ⟨h1, h⟩ := Bool.and_eq_true_iff.1 h
    rw [stays_ev hd hS (Nat.le_of_lt hlo) h1] at h
    refine ⟨_, ho, .inl ⟨x, hl, fun m hm => ?_⟩⟩
    rw [hm] at h
    obtain ⟨dst, op, type, pos, after, guard⟩ := p
    rcases hs.2 with ⟨_, _, _, hx, _⟩ | ⟨_, _, h4⟩
    · cases op with
      | store t' a y =>
        obtain ⟨h5, h6⟩ := Bool.and_eq_true_iff.1 h
        rw [stays_ev hd hS (Nat.le_of_lt hlp) h5] at h6
        have hx : ∀ m, addrOb (ev (E s) a) ≠ some m → (S (s + 1)).objs[m]? = (S s).objs[m]? := hx
        exact hx m (two h6)
      | alloc t' =>
        have hx : ∀ m, addrOb (v s) ≠ some m → (S (s + 1)).objs[m]? = (S s).objs[m]? := hx
        exact hx m (new_ev hd hS hp h)
      | box t' y =>
        have hx : ∀ m, addrOb (v s) ≠ some m → (S (s + 1)).objs[m]? = (S s).objs[m]? := hx
        exact hx m (new_ev hd hS hp h)
      | _ => cases h
    · rw [h4]
theorem draw_run (hm : P.follows .mixedOrders = true) {id : Nat} {ops : Array Oper} {env : List V} {σ : St} {X : Nat → Nat → Prop} {E : Nat → List V} {S : Nat → St} {v : Nat → V}
    (hd : DrawSpec C ops.toList X False) (h1 : E 0 = env) (h2 : S 0 = σ) (h4' : ∀ j o, ops.toList[j]? = some o → StepOk P C ops.toList E S v j o) (hX : ∀ l s, X l s → Apart C ops.toList E S l s) :
    Goes (wrOps ops.toList) (fun Q a w => (Code.region id ops true).wp P Q a w) .normal env σ (E ops.toList.length) (S ops.toList.length) := by
  refine fun g w a Q hst he hdf hq => wp_region_any hm ?_
  have hb : Below w.heap.size w { w with drawn := w.drawn + 1 } := ⟨rfl, rfl, rfl, Nat.le_refl _, fun _ _ => rfl⟩
  have hu0 : Up g w g { w with drawn := w.drawn + 1 } := .of_below hb
  obtain ⟨hlen, henv⟩ := env_at h4' ops.toList.length (Nat.le_refl _)
  have := dall (P := P) (Q := Q) hd h4' hX (a0 := a) (g0 := g) (w0 := w) (fun g' w' a' hu hi => hq g' w' a' hu hi.st ⟨by rw [hi.size, hlen], fun d u hu' => ?_⟩ hi.df hi.keep) ops.size (List.replicate ops.size false) g σ { w with drawn := w.drawn + 1 } a (by simp) (by
      have : ∀ n, unl (List.replicate n false) ≤ n := fun n => by unfold unl; exact Nat.le_trans (List.countP_le_length) (by simp)
      exact this _) (fun i o hi => absurd hi (by dsimp only; rw [List.getElem?_replicate]; split <;> simp)) (fun h => h.elim) hu0 ?_
  · simpa using this
  · rcases henv d u hu' with ⟨i, o, hlt, hio, hid, rfl⟩ | ⟨k1, k2⟩
    · exact hi.done i o d hlt hio hid (by rw [← hlen]; exact getElem?_lt hu')
    · exact hi.old d u k2 fun i o hlt hio => k1 i o hlt hio
  · have no : ∀ i, ¬ (List.replicate ops.size false)[i]? = some true := fun i => by rw [List.getElem?_replicate]; split <;> simp
    have he' := he.up hu0
    refine ⟨hst.below hb, hdf, by rw [h1]; exact he.1, fun _ _ => rfl, fun k hk hc => ?_, fun k hk hc => ?_, fun i o d hi => absurd hi (no i), fun d u hu' _ => ?_⟩
    · have := objs_const h4' (p := 0) k (by omega) fun i o _ hlt hio h5 => no i ((hc i o hio h5).2 (by omega))
      rw [Nat.zero_add] at this
      rw [this, h2]
    · have := st_const h4' (p := 0) k (by omega) fun i o _ hlt hio => by
        rcases Nat.lt_or_ge 1 (cls C o.op) with h5 | h5
        · exact absurd ((hc i o hio h5).2 (by omega)) (no i)
        · exact h5
      rw [Nat.zero_add] at this
      rw [this, h2]
    · rw [h1] at hu'; exact he'.2 d u hu'
/-! ### new variables, in any order -/
def Gh.hole (g : Gh) (r : Nat) : Gh := { g with blk := g.blk ++ List.replicate r none }
def Gh.fill (g : Gh) (m b : Nat) : Gh := { g with blk := g.blk.set m (some (b, true)) }
theorem hole_inv {g : Gh} {r i b : Nat} {f : Bool} (h : (g.hole r).blk[i]? = some (some (b, f))) : g.blk[i]? = some (some (b, f)) := by
  have h : (g.blk ++ List.replicate r none)[i]? = some (some (b, f)) := h
  rcases Nat.lt_or_ge i g.blk.length with h' | h'
  · rw [List.getElem?_append_left h'] at h; exact h
  · rw [List.getElem?_append_right h', List.getElem?_replicate] at h
    split at h <;> simp at h
theorem hole_old {g : Gh} {r i : Nat} {x : Option (Nat × Bool)} (h : g.blk[i]? = some x) : (g.hole r).blk[i]? = some x := by
  show (g.blk ++ List.replicate r none)[i]? = some x
  rw [List.getElem?_append_left (getElem?_lt h)]; exact h
theorem up_hole (g : Gh) (w : World) (r : Nat) : Up g w (g.hole r) w where
  os := rfl
  tape := rfl
  output := rfl
  size := Nat.le_refl _
  keep := fun _ _ _ => rfl
  wb := fun b hlt hw => by
    rcases hw with ⟨i, hi⟩ | ht
    · exact .inl ⟨i, hole_inv hi⟩
    · exact .inr ht
  cells := fun a v ⟨h1, h2⟩ => ⟨h1, fun hbad => h2 (by
    rcases hbad with (⟨i, hi⟩ | ht) | hf
    · exact .inl (.inl ⟨i, hole_inv hi⟩)
    · exact .inl (.inr ht)
    · exact .inr hf)⟩
  wr := fun a hlt hw => by
    rcases hw with ⟨i, hi⟩ | ht
    · exact .inl ⟨i, hole_inv hi⟩
    · exact .inr ht
  fr := rfl
  blk := fun i b f hi => hole_old hi
  nb := fun i b f hi _ => hole_inv hi
  tk := fun i ver R h => ⟨ver, R, h, Nat.le_refl _, fun _ => rfl⟩
theorem st_hole {g : Gh} {σ : St} {w : World} (h : RelSt g σ w) (r : Nat) : RelSt (g.hole r) ⟨σ.objs ++ List.replicate r .dead, σ.toks⟩ w where
  lb := by show (g.blk ++ _).length = (σ.objs ++ _).length; rw [List.length_append, List.length_append, h.lb, List.length_replicate, List.length_replicate]
  lt := h.lt
  obj := fun i o hi => by
    have hi : (σ.objs ++ List.replicate r .dead)[i]? = some o := hi
    rcases Nat.lt_or_ge i σ.objs.length with h' | h'
    · rw [List.getElem?_append_left h'] at hi
      exact (h.obj i o hi).keep (up_hole g w r) fun b f hbf => rfl
    · rw [List.getElem?_append_right h', List.getElem?_replicate] at hi
      split at hi
      · obtain rfl := Option.some.inj hi; exact True.intro
      · cases hi
  inj := fun i j b f f' hi hj => h.inj i j b f f' (hole_inv hi) (hole_inv hj)
  bsz := fun i b f hi => h.bsz i b f (hole_inv hi)
  tok := fun i ver b lo hi ht => by
    obtain ⟨h1, h3, h4⟩ := h.tok i ver b lo hi ht
    exact ⟨h1, fun k f hk => h3 k f (hole_inv hk), h4⟩
  fresh := h.fresh
  tinj := h.tinj
  gl := gl_up h (up_hole g w r)
theorem fill_inv {g : Gh} {m b i : Nat} {x : Option (Nat × Bool)} (h : (g.fill m b).blk[i]? = some x) : (i ≠ m ∧ g.blk[i]? = some x) ∨ (i = m ∧ x = some (b, true)) := by
  have h : (g.blk.set m (some (b, true)))[i]? = some x := h
  rw [List.getElem?_set] at h
  split at h
  · rename_i e
    split at h
    · exact .inr ⟨e.symm, (Option.some.inj h).symm⟩
    · cases h
  · rename_i e; exact .inl ⟨fun e' => e e'.symm, h⟩
theorem fill_old {g : Gh} {m b i : Nat} {x : Option (Nat × Bool)} (hi : i ≠ m) (h : g.blk[i]? = some x) : (g.fill m b).blk[i]? = some x := by
  show (g.blk.set m (some (b, true)))[i]? = some x
  rw [List.getElem?_set_ne (fun e => hi e.symm)]; exact h
theorem fill_new {g : Gh} {m b : Nat} {x : Option (Nat × Bool)} (h : g.blk[m]? = some x) : (g.fill m b).blk[m]? = some (some (b, true)) := by
  show (g.blk.set m (some (b, true)))[m]? = _
  rw [List.getElem?_set_self (getElem?_lt h)]
theorem up_fill {g : Gh} {w w' : World} {m : Nat} (hb : Below w.heap.size w w') (hm : g.blk[m]? = some none) : Up g w (g.fill m w.heap.size) w' where
  os := hb.os
  tape := hb.tape
  output := hb.output
  size := hb.size
  keep := fun b hlt _ => hb.block b hlt
  wb := fun b hlt hw => by
    rcases hw with ⟨i, hi⟩ | ht
    · rcases fill_inv hi with ⟨_, hi⟩ | ⟨_, e⟩
      · exact .inl ⟨i, hi⟩
      · simp only [Option.some.injEq, Prod.mk.injEq] at e; omega
    · exact .inr ht
  cells := fun a v ⟨h1, h2⟩ => by
    have hlt := cell_block h1
    refine ⟨(cell_of_block (hb.block _ hlt)).trans h1, fun hbad => h2 ?_⟩
    rcases hbad with (⟨i, hi⟩ | ht) | hf
    · rcases fill_inv hi with ⟨_, hi⟩ | ⟨_, e⟩
      · exact .inl (.inl ⟨i, hi⟩)
      · simp only [Option.some.injEq, Prod.mk.injEq] at e; omega
    · exact .inl (.inr ht)
    · exact .inr hf
  wr := fun a hlt hw => by
    rcases hw with ⟨i, hi⟩ | ht
    · rcases fill_inv hi with ⟨_, hi⟩ | ⟨_, e⟩
      · exact .inl ⟨i, hi⟩
      · simp only [Option.some.injEq, Prod.mk.injEq] at e; omega
    · exact .inr ht
  fr := rfl
  blk := fun i b f hi => fill_old (fun e => by rw [e, hm] at hi; cases hi) hi
  nb := fun i b f hi hlt => by
    rcases fill_inv hi with ⟨_, hi⟩ | ⟨_, e⟩
    · exact hi
    · simp only [Option.some.injEq, Prod.mk.injEq] at e; omega
  tk := fun i ver R h => ⟨ver, R, h, Nat.le_refl _, fun _ => rfl⟩
theorem st_fill {g : Gh} {σ : St} {w w' : World} {o : Ob} {m : Nat} (h : RelSt g σ w) (hb : Below w.heap.size w w') (hlt : w.heap.size < w'.heap.size) (hm : g.blk[m]? = some none) (ho : RelOb (g.fill m w.heap.size) w' m o) : RelSt (g.fill m w.heap.size) ⟨σ.objs.set m o, σ.toks⟩ w' where
  lb := by show (g.blk.set _ _).length = (σ.objs.set _ _).length; rw [List.length_set, List.length_set, h.lb]
  lt := h.lt
  obj := fun i o' hi => by
    have hi : (σ.objs.set m o)[i]? = some o' := hi
    rw [List.getElem?_set] at hi
    split at hi
    · rename_i e
      split at hi
      · obtain rfl := Option.some.inj hi; subst e; exact ho
      · cases hi
    · exact (h.obj i o' hi).keep (up_fill hb hm) fun b f hbf => hb.block b (h.bsz i b f hbf)
  inj := fun i j b f f' hi hj => by
    rcases fill_inv hi with ⟨_, hi⟩ | ⟨ei, e⟩ <;> rcases fill_inv hj with ⟨_, hj⟩ | ⟨ej, e'⟩
    · exact h.inj i j b f f' hi hj
    · simp only [Option.some.injEq, Prod.mk.injEq] at e'; have := h.bsz i b f hi; omega
    · simp only [Option.some.injEq, Prod.mk.injEq] at e; have := h.bsz j b f' hj; omega
    · omega
  bsz := fun i b f hi => by
    rcases fill_inv hi with ⟨_, hi⟩ | ⟨ei, e⟩
    · exact Nat.lt_of_lt_of_le (h.bsz i b f hi) hb.size
    · simp only [Option.some.injEq, Prod.mk.injEq] at e; omega
  tok := fun i ver b lo hi ht => by
    have hb' := h.bad_lt_tok ht
    obtain ⟨⟨c, e, h1, h2⟩, h3, h4⟩ := h.tok i ver b lo hi ht
    refine ⟨⟨c, e, by rw [hb.block b hb']; exact h1, h2⟩, fun k f hk => ?_, h4⟩
    rcases fill_inv hk with ⟨_, hk⟩ | ⟨_, e⟩
    · exact h3 k f hk
    · simp only [Option.some.injEq, Prod.mk.injEq] at e; omega
  fresh := fun a ha => Nat.lt_of_lt_of_le (h.fresh a ha) hb.size
  tinj := h.tinj
  gl := gl_up h (up_fill hb hm)
theorem fill_sound (hT : TtOk P tt) {t : Nat} {T : Ty} {b : Nat} (htt : tt t = .dat T b) (hbx : boxyT (tt t) = true) {g : Gh} {σ : St} {w : World} {m : Nat} (h : RelSt g σ w) (hm : g.blk[m]? = some none) :
    ∃ w', (do pure (.value (← Instr.alloc t true (.tuple #[]))) : Sem Next).run P w = .ok (.value (.pointer (some ⟨w.heap.size, 0, none⟩))) w' ∧ Up g w (g.fill m w.heap.size) w' ∧ RelV (g.fill m w.heap.size) (Imm (g.fill m w.heap.size) w') (.ptr m 0) (.pointer (some ⟨w.heap.size, 0, none⟩)) ∧ RelSt (g.fill m w.heap.size) ⟨σ.objs.set m (zeroOb T), σ.toks⟩ w' := by
  have h1 := hT t; rw [htt] at h1
  obtain ⟨⟨i, z, h2, h3, h4, h5⟩, _, _, hz⟩ := h1
  have hz := hz i z h2 h4
  have hrun : (do pure (.value (← Instr.alloc t true (.tuple #[]))) : Sem Next).run P w = .ok (.value (.pointer (some ⟨w.heap.size, 0, none⟩))) (w.alloc (.cells z.cells t)) := by
    simp [Instr.alloc, zeroValue, typeInfo, h2, h4, newVar, newRow]
  have e : zeroOb T = .box true (zflat T) := by
    rw [htt] at hbx
    cases T <;> first | rfl | (simp [boxyT] at hbx)
  rw [e]
  have hb : Below w.heap.size w (w.alloc (.cells z.cells t)) := (Below.refl _ w).alloc (Nat.le_refl _) _
  have hone := (h5 (fun _ _ => False)).cells.one
  refine ⟨_, hrun, up_fill hb hm, .ptr _ _ _ true (fill_new hm), st_fill h hb (by simp) hm ⟨w.heap.size, z.cells, t, fill_new hm, heap_alloc_new' _ _, ?_, fun j v hj => ?_⟩⟩
  · have := (zflat_rel (g := g) (I := Imm g w) T).1; rw [this, ← hz]; simp
  · obtain ⟨rv, k1, k2⟩ := (zflat_rel (g := g.fill m w.heap.size) (I := Imm (g.fill m w.heap.size) (w.alloc (.cells z.cells t))) T).2 j v hj
    rw [← hz] at k1
    exact ⟨rv, by simpa using k1, k2, hone rv (List.mem_of_getElem? k1)⟩
structure AlFacts (C : Nat → Fun) (tt : Nat → TI) (all : List Oper) (E : Nat → List V) (S : Nat → St) (v : Nat → V) (F : Nat) : Prop where
  hF : F ≤ all.length
  al : ∀ z o, all[z]? = some o → isAl o.op = true → z < F ∧ o.guard = none ∧ ∃ t T b, o.op = .alloc t ∧ tt t = .dat T b ∧ boxyT (tt t) = true ∧ v z = .ptr (S z).objs.length 0 ∧ S (z + 1) = ⟨(S z).objs ++ [zeroOb T], (S z).toks⟩
  big : ∀ i o, all[i]? = some o → isAl o.op = false → 1 < cls C o.op → F ≤ i ∧ ∀ z, alAt all z = true → befI all z i
  one : ∀ j o, all[j]? = some o → cls C o.op = 1 → (∃ x, look o.op = some x ∧ ∀ m, addrOb (ev (E j) x) = some m → m < (S 0).objs.length) ∨ ∃ f xs ats, o.op = .call ⟨.value (.func f), ⟨xs⟩, ats⟩ ∧ (C f).ro = true ∧ ∀ x ∈ xs, noIds (ev (E j) x) = true
theorem alAt_of {all : List Oper} {z : Nat} (h : alAt all z = true) : ∃ o, all[z]? = some o ∧ isAl o.op = true := by
  unfold alAt at h
  cases ho : all[z]? with
  | none => rw [ho] at h; cases h
  | some o => rw [ho] at h; exact ⟨o, rfl, h⟩
theorem alAt_mk {all : List Oper} {z : Nat} {o : Oper} (ho : all[z]? = some o) (h : isAl o.op = true) : alAt all z = true := by unfold alAt; rw [ho]; exact h
theorem isAl_cls {op : Op} (h : isAl op = true) : cls C op = 3 := by
  cases op <;> first | (cases h; done) | rfl
theorem al_step {all : List Oper} {E : Nat → List V} {S : Nat → St} {v : Nat → V} {F : Nat} (A : AlFacts C tt all E S v F) (hS : ∀ j o, all[j]? = some o → StepOk P C all E S v j o) {j : Nat} (hj : j < F) :
    (alAt all j = true ∧ ∃ ob, S (j + 1) = ⟨(S j).objs ++ [ob], (S j).toks⟩) ∨ (alAt all j = false ∧ S (j + 1) = S j) := by
  have hF := A.hF
  have ho : all[j]? = some (all[j]'(by omega)) := List.getElem?_eq_getElem _
  cases ha : isAl (all[j]'(by omega)).op with
  | true =>
    obtain ⟨_, _, t, T, b, _, _, _, _, h⟩ := A.al j _ ho ha
    exact .inl ⟨alAt_mk ho ha, _, h⟩
  | false =>
    refine .inr ⟨by unfold alAt; rw [ho]; exact ha, step_st (hS j _ ho) ?_⟩
    rcases Nat.lt_or_ge 1 (cls C (all[j]'(by omega)).op) with h | h
    · have := (A.big j _ ho ha h).1; omega
    · exact h
theorem al_pre {all : List Oper} {E : Nat → List V} {S : Nat → St} {v : Nat → V} {F : Nat} (A : AlFacts C tt all E S v F) (hS : ∀ j o, all[j]? = some o → StepOk P C all E S v j o) : ∀ (d i : Nat), i + d ≤ F → ∃ l, S (i + d) = ⟨(S i).objs ++ l, (S i).toks⟩
  | 0, i, _ => ⟨[], by rw [List.append_nil]; rfl⟩
  | d + 1, i, h => by
    obtain ⟨l, hl⟩ := al_pre A hS d i (by omega)
    rcases al_step A hS (j := i + d) (by omega) with ⟨_, ob, h1⟩ | ⟨_, h1⟩
    · exact ⟨l ++ [ob], by rw [show i + (d + 1) = i + d + 1 by omega, h1, hl, List.append_assoc]⟩
    · exact ⟨l, by rw [show i + (d + 1) = i + d + 1 by omega, h1, hl]⟩
theorem al_cov {all : List Oper} {E : Nat → List V} {S : Nat → St} {v : Nat → V} {F : Nat} (A : AlFacts C tt all E S v F) (hS : ∀ j o, all[j]? = some o → StepOk P C all E S v j o) : ∀ j, j ≤ F → ∀ m, (S 0).objs.length ≤ m → m < (S j).objs.length → ∃ z, z < j ∧ alAt all z = true ∧ (S z).objs.length = m
  | 0, _, m, h1, h2 => by omega
  | j + 1, hj, m, h1, h2 => by
    rcases al_step A hS (j := j) (by omega) with ⟨ha, ob, h3⟩ | ⟨_, h3⟩
    · rw [h3] at h2
      simp only [List.length_append, List.length_cons, List.length_nil] at h2
      rcases Nat.lt_or_ge m (S j).objs.length with h4 | h4
      · obtain ⟨z, k1, k2⟩ := al_cov A hS j (by omega) m h1 h4
        exact ⟨z, by omega, k2⟩
      · exact ⟨j, by omega, ha, by omega⟩
    · rw [h3] at h2
      obtain ⟨z, k1, k2⟩ := al_cov A hS j (by omega) m h1 h2
      exact ⟨z, by omega, k2⟩
theorem al_rank {all : List Oper} {E : Nat → List V} {S : Nat → St} {v : Nat → V} {F : Nat} (A : AlFacts C tt all E S v F) (hS : ∀ j o, all[j]? = some o → StepOk P C all E S v j o) {z j : Nat} (hz : alAt all z = true) (hlt : z < j) (hj : j ≤ F) : (S z).objs.length < (S j).objs.length ∧ (S 0).objs.length ≤ (S z).objs.length ∧ (S j).objs[(S z).objs.length]? = (S (z + 1)).objs[(S z).objs.length]? := by
  obtain ⟨l, hl⟩ := al_pre A hS (j - (z + 1)) (z + 1) (by omega)
  rw [show z + 1 + (j - (z + 1)) = j by omega] at hl
  obtain ⟨l0, hl0⟩ := al_pre A hS z 0 (by omega)
  rw [Nat.zero_add] at hl0
  rcases al_step A hS (j := z) (by omega) with ⟨_, ob, h3⟩ | ⟨h, _⟩
  · rw [hl, h3]
    simp only [List.length_append, List.length_cons, List.length_nil]
    refine ⟨by omega, by rw [hl0]; simp, ?_⟩
    rw [List.getElem?_append_left (by simp)]
  · rw [h] at hz; cases hz
/-- What holds as long as not all new variables are made. -/
structure DPh (C : Nat → Fun) (all : List Oper) (env0 : List V) (SF : St) (v : Nat → V) (a0 : Act) (L : Nat → Prop) (g : Gh) (τ : St) (w : World) (a : Act) : Prop where
  st : RelSt g τ w
  df : a.defers = []
  size : a.tmps.size = env0.length
  keep : ∀ i, wrOps all i = false → a.tmps[i]? = a0.tmps[i]?
  done : ∀ i o d, L i → all[i]? = some o → o.dst = some d → d < env0.length → ∃ rv, a.tmps[d]? = some rv ∧ RelV g (Imm g w) (v i) rv
  old : ∀ d u, env0[d]? = some u → (∀ i o, L i → all[i]? = some o → o.dst ≠ some d) → ∃ rv, a.tmps[d]? = some rv ∧ RelV g (Imm g w) u rv
  toks : τ.toks = SF.toks
  len : τ.objs.length = SF.objs.length
  hole : ∀ z m, alAt all z = true → ¬ L z → v z = .ptr m 0 → g.blk[m]? = some none
  full : ∀ m, (∀ z, alAt all z = true → ¬ L z → v z ≠ .ptr m 0) → τ.objs[m]? = SF.objs[m]?
theorem wp_of_oq {o : Oper} {g : Gh} {w : World} {a : Act} {v : V} {σ' : St} (h : OQ P (execOp a.eval o) g w v σ') {next : Act → World → Prop} {Q : Exit → Act → World → Prop}
    (hn : ∀ rv w', Up g w g w' → RelV g (Imm g w') v rv → RelSt g σ' w' → next (a.put o.dst rv) w') : o.wp P a w next Q := by
  unfold Oper.wp
  rcases h with ⟨rv, w', h1, h2, h3, h4⟩ | ⟨f, args, h1, h2⟩
  · rcases h1 with h1 | ⟨h1, rfl⟩
    · rw [h1]; exact hn rv w' h2 h3 h4
    · rw [h1]; exact hn undef w' h2 h3 h4
  · rw [h1, Oper.upon_enter]
    refine h2.mono fun e w' ⟨rv, he, h3, h4, h5⟩ => ?_
    subst he
    exact hn rv w' h3 h4 h5
theorem dph_step (hT : TtOk P tt) {all : List Oper} {X : Nat → Nat → Prop} (hd : DrawSpec C all X True) {E : Nat → List V} {S : Nat → St} {v : Nat → V} {F : Nat} (A : AlFacts C tt all E S v F) (hS : ∀ j o, all[j]? = some o → StepOk P C all E S v j o) (hX : ∀ l s, X l s → Apart C all E S l s) {L : Nat → Prop} (hL : Closed all L) {z0 : Nat} (hz0 : alAt all z0 = true) (hz0L : ¬ L z0)
    {a0 : Act} {g : Gh} {τ : St} {w : World} {a : Act} (h : DPh C all (E 0) (S F) v a0 L g τ w a)
    {j : Nat} {o : Oper} (ho : all[j]? = some o) (hj : ¬ L j) (hr : ∀ e ∈ o.after, Region.binds .any e = true → L e.on) {Q : Exit → Act → World → Prop} {K : Act → World → Prop}
    (hK : ∀ g' τ' w' a', Up g w g' w' → DPh C all (E 0) (S F) v a0 (fun i => L i ∨ i = j) g' τ' w' a' → K a' w') : wpOp P all.toArray Q j K a w := by
  have hjl := getElem?_lt ho
  obtain ⟨hlen, henv⟩ := env_at hS j (by omega)
  have noX : ∀ {i p}, all[i]? = some p → 1 < cls C p.op → ∀ q, ¬ X i q := fun hp h1 q hx => by
    have := (hX _ _ hx).cls (C := C) hp; omega
  have slot : ∀ d u, d ∈ named all o → (E j)[d]? = some u → ∃ rv, a.tmps[d]? = some rv ∧ RelV g (Imm g w) u rv := by
    intro d u hn hu
    have hdl : d < (E 0).length := by rw [← hlen]; exact getElem?_lt hu
    rcases henv d u hu with ⟨i, p, hlt, hp, hpd, rfl⟩ | ⟨h1, h2⟩
    · exact h.done i p d (bef_ready hL ho hr ((hd.nam i j p o d (by omega) hp ho hpd hn).1 hlt)) hp hpd hdl
    · refine h.old d u h2 fun i p hi hp hpd => ?_
      rcases Nat.lt_or_ge i j with hlt | hge
      · exact h1 i p hlt hp hpd
      · have hne : i ≠ j := fun e => hj (e ▸ hi)
        exact hj (bef_closed hL _ _ ((hd.nam i j p o d hne hp ho hpd hn).2 (by omega)) hi)
  have oper : ∀ x, x ∈ o.op.operands → RelV g (Imm g w) (ev (E j) x) (a.eval x) := by
    intro x hx
    cases x with
    | tmp t =>
      show RelV g (Imm g w) ((E j).getD t .undef) (a.tmps.getD t undef)
      cases ht : (E j)[t]? with
      | none => rw [List.getD_eq_getElem?_getD, ht]; exact .undef _
      | some u =>
        obtain ⟨rv, h1, h2⟩ := slot t u (List.mem_append_left _ (List.mem_filterMap.2 ⟨.tmp t, by simpa using hx, rfl⟩)) ht
        rw [List.getD_eq_getElem?_getD, ht, Array.getD_eq_getD_getElem?, h1]; exact h2
    | const c => exact ofConst_rel c
    | func f => exact .fn f [] [] rfl fun i v rv hv => by simp at hv
    | global i => exact .undef _
  have want : ∀ b, wantsV all (E j) o = some b → Region.wanted o (yielded all.toArray a.tmps) = b := by
    intro b hb
    unfold wantsV at hb
    unfold Region.wanted
    split at hb
    · rename_i hg; rw [hg]; simpa using hb
    · rename_i q want hg
      rw [hg]
      split at hb
      · rename_i d hdd
        have hn : d ∈ named all o := List.mem_append_right _ (by rw [hg]; simp only [hdd]; simp)
        split at hb
        · rename_i t ht
          obtain ⟨rv, h1, h2⟩ := slot d _ hn (env_some ht (by simp))
          have h3 := relV_bool h2
          subst h3
          have hy : yielded all.toArray a.tmps q = some t := by simp [yielded, hdd, h1]; rfl
          rw [← Option.some.inj hb]
          show (yielded all.toArray a.tmps q == some want) = _
          rw [hy]; rfl
        · rename_i vs ht
          obtain ⟨rv, h1, h2⟩ := slot d _ hn (env_some ht (by simp))
          cases h2
          have hy : yielded all.toArray a.tmps q = none := by simp [yielded, hdd, h1]
          rw [← Option.some.inj hb]
          show (yielded all.toArray a.tmps q == some want) = _
          rw [hy]; rfl
        · cases hb
      · cases hb
  have next : ∀ g' τ' w' rv, Up g w g' w' → RelSt g' τ' w' → RelV g' (Imm g' w') (v j) rv → τ'.toks = τ.toks → τ'.objs.length = τ.objs.length → (∀ z m, alAt all z = true → ¬ (L z ∨ z = j) → v z = .ptr m 0 → g'.blk[m]? = some none) →
      (∀ m, (∀ z, alAt all z = true → ¬ (L z ∨ z = j) → v z ≠ .ptr m 0) → τ'.objs[m]? = (S F).objs[m]?) → DPh C all (E 0) (S F) v a0 (fun i => L i ∨ i = j) g' τ' w' (a.put o.dst rv) := by
    intro g' τ' w' rv hu hst hv ht1 ht2 ht3 ht4
    refine ⟨hst, by rw [put_defers]; exact h.df, ?_, fun i hi => (put_keep a o.dst rv (by have := List.any_eq_false.1 hi o (List.mem_of_getElem? ho); simpa using this)).trans (h.keep i hi), fun i p d hi hp hpd hdl => ?_, fun d u hu0 hnot => ?_, by rw [ht1, h.toks], by rw [ht2, h.len], ht3, ht4⟩
    · cases hdd : o.dst <;> simp [Act.put, h.size]
    · by_cases hij : i = j
      · subst hij
        rw [ho] at hp; simp only [Option.some.injEq] at hp; subst hp
        rw [hpd]
        exact ⟨rv, by show (a.tmps.setIfInBounds d rv)[d]? = _; rw [Array.getElem?_setIfInBounds_self_of_lt (by rw [h.size]; exact hdl)], hv⟩
      · obtain ⟨ru, h5, h6⟩ := h.done i p d (hi.resolve_right hij) hp hpd hdl
        refine ⟨ru, ?_, h6.up hu⟩
        have hne := hd.dst i j p o d hij hp ho hpd
        cases hdd : o.dst with
        | none => exact h5
        | some e =>
          show (a.tmps.setIfInBounds e rv)[d]? = _
          rw [Array.getElem?_setIfInBounds_ne (by intro e'; subst e'; exact hne hdd)]; exact h5
    · obtain ⟨ru, h5, h6⟩ := h.old d u hu0 fun i p hi hp => hnot i p (.inl hi) hp
      refine ⟨ru, ?_, h6.up hu⟩
      have hne := hnot j o (.inr rfl) ho
      cases hdd : o.dst with
      | none => exact h5
      | some e =>
        show (a.tmps.setIfInBounds e rv)[d]? = _
        rw [Array.getElem?_setIfInBounds_ne (by intro e'; subst e'; exact hne hdd)]; exact h5
  -- where it leaves all as it is
  have same : ∀ w' rv, isAl o.op = false → Up g w g w' → RelSt g τ w' → RelV g (Imm g w') (v j) rv → DPh C all (E 0) (S F) v a0 (fun i => L i ∨ i = j) g τ w' (a.put o.dst rv) := by
    intro w' rv hna hu hst hv
    have hzj : ∀ z, alAt all z = true → z ≠ j := fun z hz e => by
      obtain ⟨o', h1, h2⟩ := alAt_of hz
      rw [e, ho] at h1; simp only [Option.some.injEq] at h1; subst h1; rw [hna] at h2; cases h2
    exact next g τ w' rv hu hst hv rfl rfl (fun z m hz hzL hv => h.hole z m hz (fun hl => hzL (.inl hl)) hv) (fun m hm => h.full m fun z hz hzL => hm z hz fun hl => hl.elim hzL (hzj z hz))
  unfold wpOp
  simp only [List.getElem?_toArray, ho]
  cases hal : isAl o.op with
  | true =>
    obtain ⟨hjF, hg, t, T, b, hop, htt, hbx, hvj, hSj⟩ := A.al j o ho hal
    have hw : wantsV all (E j) o = some true := by unfold wantsV; rw [hg]
    rw [if_pos (want true hw)]
    have hm := h.hole j _ (alAt_mk ho hal) hj hvj
    obtain ⟨w', hrun, k1, k2, k3⟩ := fill_sound (P := P) hT htt hbx h.st hm
    rw [← hvj] at k2
    refine .inl ?_
    have hoo' : ∃ rv w', (execOp a.eval o).run P w = .ok (.value rv) w' ∧ Up g w (g.fill (S j).objs.length w.heap.size) w' ∧ RelV (g.fill (S j).objs.length w.heap.size) (Imm (g.fill (S j).objs.length w.heap.size) w') (v j) rv ∧ RelSt (g.fill (S j).objs.length w.heap.size) ⟨τ.objs.set (S j).objs.length (zeroOb T), τ.toks⟩ w' := by
      obtain ⟨dst, op, type, pos, after, guard⟩ := o
      simp only at hop; subst hop
      exact ⟨_, w', hrun, k1, k2, k3⟩
    obtain ⟨rv, w2, hrun2, k4, k5, k6⟩ := hoo'
    unfold Oper.wp
    rw [hrun2]
    have inj : ∀ z m, alAt all z = true → z ≠ j → v z = .ptr m 0 → m ≠ (S j).objs.length := by
      intro z m hz hne hvz e
      obtain ⟨oz, h1, h2⟩ := alAt_of hz
      obtain ⟨hzF, _, _, _, _, _, _, _, hvz2, _⟩ := A.al z oz h1 h2
      rw [hvz] at hvz2
      simp only [V.ptr.injEq, and_true] at hvz2
      rcases Nat.lt_or_ge z j with hlt | hge
      · have := (al_rank A hS hz hlt (Nat.le_of_lt hjF)).1; omega
      · have := (al_rank A hS (alAt_mk ho hal) (show j < z by omega) (Nat.le_of_lt hzF)).1; omega
    refine hK _ _ w2 _ k4 (next _ _ w2 rv k4 k6 k5 rfl (by simp) (fun z m hz hzL hvz => ?_) (fun m hm2 => ?_))
    · exact fill_old (inj z m hz (fun e => hzL (.inr e)) hvz) (h.hole z m hz (fun hl => hzL (.inl hl)) hvz)
    · show (τ.objs.set (S j).objs.length (zeroOb T))[m]? = _
      rw [List.getElem?_set]
      have hr := al_rank A hS (alAt_mk ho hal) hjF (Nat.le_refl F)
      split
      · rename_i e
        subst e
        rw [if_pos (by rw [h.len]; exact hr.1), hr.2.2, hSj]
        simp
      · rename_i e
        exact h.full m fun z hz hzL hvz => hm2 z hz (fun hl => hl.elim hzL fun hzj => e (by rw [hzj, hvj] at hvz; simp only [V.ptr.injEq, and_true] at hvz; exact hvz)) hvz
  | false =>
    rcases (hS j o ho).2 with ⟨hw, h1, h2, hx, h3⟩ | ⟨hw, hv, h1⟩
    · rw [if_pos (want true hw)]
      have hc : cls C o.op ≤ 1 := by
        rcases Nat.lt_or_ge 1 (cls C o.op) with h' | h'
        · exact absurd (bef_ready hL ho hr ((A.big j o ho hal h').2 z0 hz0)) hz0L
        · exact h'
      have hoq : OQ P (execOp a.eval o) g w (v j) τ := by
        rcases Nat.eq_zero_or_pos (cls C o.op) with hc0 | hc1
        · exact (h1 hc).2 g w a τ (fun h => by omega) h.st oper
        · rcases A.one j o ho (by omega) with ⟨x, k1, k2⟩ | ⟨f, xs, ats, k1, k2, k3⟩
          · have hlk : LookOk P o (E j) (S j) (v j) x := by
              obtain ⟨dst, op, type, pos, after, guard⟩ := o
              cases op <;> first | (cases k1; done) | (simp only [look, Option.some.injEq] at k1; subst k1; exact hx)
            refine hlk g w a τ (fun m hm => ?_) h.st oper
            have hmn := k2 m hm
            -- as at the beginning
            have hmX : ∀ {q}, X j q → (S (q + 1)).objs[m]? = (S q).objs[m]? := fun {q} hxq => by
              obtain ⟨o', q1, q2⟩ := hX _ _ hxq
              rw [ho] at q1; simp only [Option.some.injEq] at q1; subst q1
              rcases q2 with ⟨x', q2, q3⟩ | ⟨f, xs, ats, q2, _⟩
              · rw [k1] at q2; simp only [Option.some.injEq] at q2; subst q2
                exact q3 m hm
              · rw [q2] at k1; cases k1
            have hin : ∃ u, (S 0).objs[m]? = some u := ⟨_, List.getElem?_eq_getElem hmn⟩
            have up : ∀ i, i ≤ j → (S i).objs[m]? = (S 0).objs[m]? := by
              intro i
              induction i with
              | zero => intro _; rfl
              | succ i ih =>
                intro hi
                have hih := ih (by omega)
                have hp : all[i]? = some (all[i]'(by omega)) := List.getElem?_eq_getElem _
                refine Eq.trans ?_ hih
                cases hai : isAl (all[i]'(by omega)).op with
                | true =>
                  obtain ⟨_, _, t', T', b', _, _, _, _, hSi⟩ := A.al i _ hp hai
                  obtain ⟨u, hu⟩ := hin
                  rw [hSi]
                  exact List.getElem?_append_left (getElem?_lt (hih.trans hu))
                | false =>
                  by_cases h3c : cls C (all[i]'(by omega)).op = 3
                  · rcases hd.clash i j _ o (by omega) hp ho (clash_of (cls_le _) (cls_le _) (by omega)) with hb | hxx | hxx | ⟨_, _, h6⟩
                    · have hLi := bef_ready hL ho hr hb
                      exact absurd (bef_closed hL _ _ ((A.big i _ hp hai (by omega)).2 z0 hz0) hLi) hz0L
                    · exact absurd hxx (noX hp (by omega) _)
                    · exact hmX hxx
                    · obtain ⟨o', q1, q2⟩ := alAt_of h6
                      rw [ho] at q1; simp only [Option.some.injEq] at q1; subst q1; rw [hal] at q2; cases q2
                  · rw [step_objs (hS i _ hp) h3c]
            have e1 : τ.objs[m]? = (S F).objs[m]? := h.full m fun z hz _ hvz => by
              obtain ⟨oz, q1, q2⟩ := alAt_of hz
              obtain ⟨hzF, _, _, _, _, _, _, _, hvz2, _⟩ := A.al z oz q1 q2
              rw [hvz] at hvz2
              simp only [V.ptr.injEq, and_true] at hvz2
              have := (al_rank A hS hz hzF (Nat.le_refl F)).2.1; omega
            obtain ⟨l, hl⟩ := al_pre A hS F 0 (by omega)
            rw [Nat.zero_add] at hl
            rw [e1, up j (Nat.le_refl j), hl]
            exact List.getElem?_append_left hmn
          · obtain ⟨dst, op, type, pos, after, guard⟩ := o
            simp only at k1; subst k1
            exact hx k2 k3 g w a τ h.st oper
      refine .inl (wp_of_oq hoq fun rv w' hu hv hst => hK g τ w' _ hu (same w' rv hal hu hst hv))
    · rw [if_neg (by rw [want false hw]; simp)]
      exact hK g τ w _ (.refl g w) (same w undef hal (.refl g w) h.st (by rw [hv]; exact void_rel))
theorem ready_nil {all : List Oper} {X : Nat → Nat → Prop} {A : Prop} (hd : DrawSpec C all X A) (l : List Bool) (hl : l.length = all.length) (hr : Region.ready .any all.toArray l.toArray = []) : unl l = 0 := by
  have key : ∀ i, i < all.length → l[i]? = some true := by
    intro i
    induction i using Nat.strongRecOn with
    | _ i ih =>
      intro hi
      have h1 : l[i]? = some (l[i]'(by omega)) := List.getElem?_eq_getElem _
      cases hb : l[i]'(by omega) with
      | true => rw [h1, hb]
      | false =>
        exfalso
        have ho : all[i]? = some (all[i]'hi) := List.getElem?_eq_getElem _
        have : i ∈ Region.ready .any all.toArray l.toArray := mem_ready.2 ⟨by simp [h1, hb], all[i]'hi, by rw [List.getElem?_toArray]; exact ho, fun e he hbi => by
          have h2 := hd.back i _ ho e he hbi
          have h3 := ih e.on h2 (by omega)
          simp [h3]⟩
        rw [hr] at this; cases this
  have : ∀ (l : List Bool), (∀ i, i < l.length → l[i]? = some true) → unl l = 0 := by
    intro l
    induction l with
    | nil => intro _; rfl
    | cons x l ih =>
      intro h
      have h0 := h 0 (by simp)
      simp at h0; subst h0
      have := ih fun i hi => by have := h (i + 1) (by simpa using hi); simpa using this
      unfold unl at this ⊢
      simp [this]
  exact this l fun i hi => key i (by omega)
/-- All new variables are made: the state is the text's. -/
theorem dph_inv {all : List Oper} {E : Nat → List V} {S : Nat → St} {v : Nat → V} {F : Nat} (A : AlFacts C tt all E S v F) (hS : ∀ j o, all[j]? = some o → StepOk P C all E S v j o) {L : Nat → Prop} (hall : ∀ z, alAt all z = true → L z) (hbig : ∀ i o, all[i]? = some o → isAl o.op = false → 1 < cls C o.op → ¬ L i)
    {a0 : Act} {g : Gh} {τ : St} {w : World} {a : Act} (h : DPh C all (E 0) (S F) v a0 L g τ w a) : DInv C all (E 0) S v a0 L g τ w a := by
  have hF := A.hF
  have e0 : τ.objs = (S F).objs := List.ext_getElem? fun m => h.full m fun z hz hzL => absurd (hall z hz) hzL
  have e1 : τ = S F := by
    have h1 := h.toks
    cases τ; cases hSF : S F
    rw [hSF] at e0 h1
    simp only at e0 h1
    rw [e0, h1]
  have mid : ∀ k i p, (∀ i o, all[i]? = some o → cls C o.op = 3 → (L i ↔ i < k)) → all[i]? = some p → cls C p.op = 3 → ((k ≤ i ∧ i < F) ∨ (F ≤ i ∧ i < k)) → False := by
    intro k i p hc hp h3 hr
    cases ha : isAl p.op with
    | true =>
      have := (hc i p hp h3).1 (hall i (alAt_mk hp ha))
      have := (A.al i p hp ha).1
      omega
    | false =>
      have := (A.big i p hp ha (by omega)).1
      exact hbig i p hp ha (by omega) ((hc i p hp h3).2 (by omega))
  refine ⟨h.st, h.df, h.size, h.keep, fun k hk hc => ?_, fun k hk hc => ?_, h.done, h.old⟩
  · rw [e0]
    rcases Nat.le_total k F with hkF | hFk
    · have := objs_const hS (p := k) (F - k) (by omega) fun i p h1 h2 hp h3 => mid k i p hc hp h3 (.inl ⟨h1, by omega⟩)
      rw [show k + (F - k) = F by omega] at this
      exact this
    · have := objs_const hS (p := F) (k - F) (by omega) fun i p h1 h2 hp h3 => mid k i p hc hp h3 (.inr ⟨h1, by omega⟩)
      rw [show F + (k - F) = k by omega] at this
      exact this.symm
  · have mid2 : ∀ i p, all[i]? = some p → ((k ≤ i ∧ i < F) ∨ (F ≤ i ∧ i < k)) → cls C p.op ≤ 1 := by
      intro i p hp hr
      rcases Nat.lt_or_ge 1 (cls C p.op) with h1 | h1
      · exfalso
        cases ha : isAl p.op with
        | true =>
          have := (hc i p hp h1).1 (hall i (alAt_mk hp ha))
          have := (A.al i p hp ha).1
          omega
        | false =>
          have := (A.big i p hp ha h1).1
          exact hbig i p hp ha h1 ((hc i p hp h1).2 (by omega))
      · exact h1
    rw [e1]
    rcases Nat.le_total k F with hkF | hFk
    · have := st_const hS (p := k) (F - k) (by omega) fun i p h1 h2 hp => mid2 i p hp (.inl ⟨h1, by omega⟩)
      rw [show k + (F - k) = F by omega] at this
      exact this
    · have := st_const hS (p := F) (k - F) (by omega) fun i p h1 h2 hp => mid2 i p hp (.inr ⟨h1, by omega⟩)
      rw [show F + (k - F) = k by omega] at this
      exact this.symm
theorem dall1 (hT : TtOk P tt) {all : List Oper} {X : Nat → Nat → Prop} (hd : DrawSpec C all X True) {E : Nat → List V} {S : Nat → St} {v : Nat → V} {F : Nat} (A : AlFacts C tt all E S v F) (hS : ∀ j o, all[j]? = some o → StepOk P C all E S v j o) (hX : ∀ l s, X l s → Apart C all E S l s) {Q : Exit → Act → World → Prop} {a0 : Act} {g0 : Gh} {w0 : World}
    (hq : ∀ g w a, Up g0 w0 g w → DInv C all (E 0) S v a0 (fun i => i < all.length) g (S all.length) w a → Q .normal a w) :
    ∀ (fuel : Nat) (l : List Bool) (g : Gh) (τ : St) (w : World) (a : Act), l.length = all.length → unl l ≤ fuel → Closed all (fun i => l[i]? = some true) → (∃ z, alAt all z = true ∧ ¬ l[z]? = some true) → Up g0 w0 g w → DPh C all (E 0) (S F) v a0 (fun i => l[i]? = some true) g τ w a →
      wpAny P .any all.toArray Q fuel l.toArray a w := by
  intro fuel
  induction fuel with
  | zero =>
    intro l g τ w a hl hz hc ⟨z, hz1, hz2⟩ hu h
    exfalso
    obtain ⟨o, ho, _⟩ := alAt_of hz1
    have hlt : z < l.length := by have := getElem?_lt ho; omega
    have h2 : l[z]? = some (l[z]'hlt) := List.getElem?_eq_getElem _
    have h3 := unl_zero l (by omega) z _ h2
    rw [h3] at h2; exact hz2 h2
  | succ fuel ih =>
    intro l g τ w a hl hz hc ⟨z, hz1, hz2⟩ hu h
    refine ⟨fun hr => ?_, fun j hj => ?_⟩
    · exfalso
      have h0 := ready_nil hd l hl hr
      obtain ⟨o, ho, _⟩ := alAt_of hz1
      have hlt : z < l.length := by have := getElem?_lt ho; omega
      have h2 : l[z]? = some (l[z]'hlt) := List.getElem?_eq_getElem _
      have h3 := unl_zero l h0 z _ h2
      rw [h3] at h2; exact hz2 h2
    · obtain ⟨h1, o, ho, hr⟩ := mem_ready.1 hj
      have ho' : all[j]? = some o := by simpa using ho
      have hlt : j < l.length := by have := getElem?_lt ho'; omega
      have h2 : l[j]? = some false := by
        have h3 : l[j]? = some (l[j]'hlt) := List.getElem?_eq_getElem _
        rw [h3]; simp [h3] at h1; rw [h1]
      have hr' : ∀ e ∈ o.after, Region.binds .any e = true → l[e.on]? = some true := fun e he hb => by
        have h4 := hr e he hb
        cases h5 : l[e.on]? with
        | none => simp [h5] at h4
        | some b => simp [h5] at h4; rw [h4]
      refine dph_step hT hd A hS hX hc hz1 hz2 h ho' (by rw [h2]; simp) hr' fun g' τ' w' a' hu' h' => ?_
      have hset : (l.toArray.setIfInBounds j true) = (l.set j true).toArray := by simp
      rw [hset]
      have hL : (fun i => l[i]? = some true ∨ i = j) = fun i => (l.set j true)[i]? = some true := funext fun i => propext (by
        by_cases hij : j = i
        · subst hij; rw [List.getElem?_set_self hlt]; simp
        · rw [List.getElem?_set_ne hij]; constructor
          · rintro (h | h)
            · exact h
            · exact absurd h.symm hij
          · exact .inl)
      have hcl : Closed all fun i => (l.set j true)[i]? = some true := by
        rw [← hL]
        intro i p hi hp e he hb
        rcases hi with hi | rfl
        · exact .inl (hc i p hi hp e he hb)
        · rw [ho'] at hp; simp only [Option.some.injEq] at hp; subst hp
          exact .inl (hr' e he hb)
      have hun : unl (l.set j true) ≤ fuel := by have := unl_set l j h2; omega
      by_cases hrest : ∃ z, alAt all z = true ∧ ¬ (l.set j true)[z]? = some true
      · rw [hL] at h'
        exact ih _ g' τ' w' a' (by simpa using hl) hun hcl hrest (hu.trans hu') h'
      · have hall : ∀ z, alAt all z = true → (l[z]? = some true ∨ z = j) := fun y hy => by
          have : (l.set j true)[y]? = some true := Classical.byContradiction fun hn => hrest ⟨y, hy, hn⟩
          have e := congrFun hL y
          exact e ▸ this
        have hzj : z = j := (hall z hz1).resolve_left hz2
        have hinv := dph_inv A hS (L := fun i => l[i]? = some true ∨ i = j) hall (fun i p hp hna hc1 hi => by
          rcases hi with hi | rfl
          · exact hz2 (bef_closed hc _ _ ((A.big i p hp hna hc1).2 z hz1) hi)
          · obtain ⟨o', q1, q2⟩ := alAt_of hz1
            rw [hzj, hp] at q1; simp only [Option.some.injEq] at q1; subst q1; rw [hna] at q2; cases q2) h'
        rw [hL] at hinv
        exact dall hd hS hX hq fuel _ g' τ' w' a' (by simpa using hl) hun hcl (fun _ y hy => by
          have e := congrFun hL y
          exact e ▸ (hall y hy)) (hu.trans hu') hinv
theorem exists_F {B : Nat → Prop} : ∀ n, ∃ F, F ≤ n ∧ (∀ i, i < F → ¬ B i) ∧ (F = n ∨ B F)
  | 0 => ⟨0, Nat.le_refl _, fun i hi => absurd hi (Nat.not_lt_zero _), .inl rfl⟩
  | n + 1 => by
    obtain ⟨F, h1, h2, h3⟩ := exists_F (B := B) n
    rcases h3 with rfl | h3
    · by_cases hb : B F
      · exact ⟨F, by omega, h2, .inr hb⟩
      · refine ⟨F + 1, Nat.le_refl _, fun i hi => ?_, .inl rfl⟩
        rcases Nat.eq_or_lt_of_le (Nat.le_of_lt_succ hi) with rfl | h4
        · exact hb
        · exact h2 i h4
    · exact ⟨F, by omega, h2, .inr h3⟩
theorem al_facts {all : List Oper} {E : Nat → List V} {S : Nat → St} {v : Nat → V} {X : Nat → Nat → Prop} {A : Prop} (hd : DrawSpec C all X A) (hS : ∀ j o, all[j]? = some o → StepOk P C all E S v j o) (hAl : ∀ j o, all[j]? = some o → AlFact tt o (S j) (v j) (S (j + 1))) (h : alOk C tt all (E all.length) (S 0).objs.length = true) : ∃ F, AlFacts C tt all E S v F := by
  have h : ∀ {j o}, all[j]? = some o → _ := fun {j o} ho => zip_all h ho
  have big2 : ∀ i o, all[i]? = some o → isAl o.op = false → 1 < cls C o.op → ∀ z p, all[z]? = some p → isAl p.op = true → z < i ∧ befI all z i := by
    intro i o ho hna hc z p hp hpa
    have h1 := h ho
    simp only [hna, cond_false, decide_eq_true hc, cond_true] at h1
    have h2 := zip_all h1 hp
    simp only [hpa, Bool.not_true, Bool.false_or, Bool.and_eq_true, decide_eq_true_eq] at h2
    exact h2
  obtain ⟨F, hF, hlow, hend⟩ := exists_F (B := fun i => ∃ o, all[i]? = some o ∧ isAl o.op = false ∧ 1 < cls C o.op) all.length
  refine ⟨F, hF, fun z o ho ha => ?_, fun i o ho hna hc => ⟨?_, fun z hz => ?_⟩, fun j o ho hc => ?_⟩
  · have h1 := h ho
    simp only [ha, cond_true, Bool.and_eq_true] at h1
    obtain ⟨h2, h3⟩ := h1
    have hg : o.guard = none := by cases hgo : o.guard <;> simp [hgo] at h2 ⊢
    refine ⟨?_, hg, ?_⟩
    · rcases hend with rfl | ⟨p, hp, hpn, hpc⟩
      · exact getElem?_lt ho
      · exact (big2 F p hp hpn hpc z o ho ha).1
    · have hal := hAl z o ho
      obtain ⟨dst, op, type, pos, after, guard⟩ := o
      cases op <;> first | (cases ha; done) | skip
      rename_i t
      simp only at h3
      cases htt : tt t with
      | dat T b =>
        obtain ⟨k1, k2⟩ := hal t T b rfl hg htt
        exact ⟨t, T, b, rfl, htt, h3, k1, k2⟩
      | _ => rw [htt] at h3; simp [boxyT] at h3
  · rcases Nat.lt_or_ge i F with h' | h'
    · exact absurd ⟨o, ho, hna, hc⟩ (hlow i h')
    · exact h'
  · obtain ⟨p, hp, hpa⟩ := alAt_of hz
    exact (big2 i o ho hna hc z p hp hpa).2
  · have hna : isAl o.op = false := by
      cases ha : isAl o.op with
      | false => rfl
      | true => rw [isAl_cls ha] at hc; cases hc
    have h1 := h ho
    simp only [hna, cond_false, decide_eq_false (show ¬ 1 < cls C o.op by omega), decide_eq_true hc, cond_true] at h1
    have hlo := getElem?_lt ho
    cases hl : look o.op with
    | some x =>
      simp only [hl, Bool.and_eq_true] at h1
      obtain ⟨h2, h3⟩ := h1
      rw [stays_ev hd hS (Nat.le_of_lt hlo) h2] at h3
      refine .inl ⟨x, rfl, fun m hm => ?_⟩
      rw [hm] at h3
      simpa using h3
    | none =>
      simp only [hl] at h1
      refine .inr ?_
      unfold freeCall at h1
      split at h1
      · rename_i f xs ats hop
        obtain ⟨k1, k2⟩ := Bool.and_eq_true_iff.1 h1
        refine ⟨f, xs, ats, hop, k1, fun x hx => ?_⟩
        obtain ⟨k3, k4⟩ := Bool.and_eq_true_iff.1 (List.all_eq_true.1 k2 x hx)
        rw [stays_ev hd hS (Nat.le_of_lt hlo) k3] at k4
        exact k4
      · cases h1
theorem draw_run3 (hT : TtOk P tt) (hm : P.follows .mixedOrders = true) {id : Nat} {ops : Array Oper} {env : List V} {σ : St} {X : Nat → Nat → Prop} {E : Nat → List V} {S : Nat → St} {v : Nat → V} {F : Nat}
    (hd : DrawSpec C ops.toList X True) (h1 : E 0 = env) (h2 : S 0 = σ) (h4' : ∀ j o, ops.toList[j]? = some o → StepOk P C ops.toList E S v j o) (A : AlFacts C tt ops.toList E S v F) (hX : ∀ l s, X l s → Apart C ops.toList E S l s) :
    Goes (wrOps ops.toList) (fun Q a w => (Code.region id ops true).wp P Q a w) .normal env σ (E ops.toList.length) (S ops.toList.length) := by
  by_cases hz : ∃ z, alAt ops.toList z = true
  case neg =>
    have hd' : DrawSpec C ops.toList X False := ⟨hd.back, hd.dst, hd.nam, fun i j p o hlt hp ho hc => by
      rcases hd.clash i j p o hlt hp ho hc with h | h | h | ⟨_, h, _⟩
      · exact .inl h
      · exact .inr (.inl h)
      · exact .inr (.inr (.inl h))
      · exact absurd ⟨i, h⟩ hz⟩
    exact draw_run hm hd' h1 h2 h4' hX
  case pos =>
  obtain ⟨z, hz⟩ := hz
  refine fun g w a Q hst he hdf hq => wp_region_any hm ?_
  have hb : Below w.heap.size w { w with drawn := w.drawn + 1 } := ⟨rfl, rfl, rfl, Nat.le_refl _, fun _ _ => rfl⟩
  have hu0 : Up g w g { w with drawn := w.drawn + 1 } := .of_below hb
  obtain ⟨hlen, henv⟩ := env_at h4' ops.toList.length (Nat.le_refl _)
  obtain ⟨l, hl⟩ := al_pre A h4' F 0 (by omega)
  rw [Nat.zero_add, h2] at hl
  have hun : unl (List.replicate ops.size false) ≤ ops.size := by
    have : ∀ n, unl (List.replicate n false) ≤ n := fun n => by unfold unl; exact Nat.le_trans (List.countP_le_length) (by simp)
    exact this _
  have no : ∀ i, ¬ (List.replicate ops.size false)[i]? = some true := fun i => by rw [List.getElem?_replicate]; split <;> simp
  have hlb := hst.lb
  have hu1 := hu0.trans (up_hole g { w with drawn := w.drawn + 1 } l.length)
  have he' := he.up hu1
  have hph : DPh C ops.toList (E 0) (S F) v a (fun i => (List.replicate ops.size false)[i]? = some true) (g.hole l.length) ⟨σ.objs ++ List.replicate l.length .dead, σ.toks⟩ { w with drawn := w.drawn + 1 } a := by
    refine ⟨st_hole (hst.below hb) _, hdf, by rw [h1]; exact he.1, fun _ _ => rfl, fun i o d hi => absurd hi (no i), fun d u hu' _ => by rw [h1] at hu'; exact he'.2 d u hu', by rw [hl], by rw [hl]; simp, fun y m hy _ hvy => ?_, fun m hm => ?_⟩
    · obtain ⟨oy, q1, q2⟩ := alAt_of hy
      obtain ⟨hyF, _, _, _, _, _, _, _, hvy2, _⟩ := A.al y oy q1 q2
      rw [hvy] at hvy2
      simp only [V.ptr.injEq, and_true] at hvy2
      have hr := al_rank A h4' hy hyF (Nat.le_refl F)
      rw [h2, hl] at hr
      simp only [List.length_append] at hr
      show (g.blk ++ List.replicate l.length none)[m]? = some none
      rw [List.getElem?_append_right (by omega), List.getElem?_replicate, if_pos (by omega)]
    · rw [hl]
      show (σ.objs ++ List.replicate l.length Ob.dead)[m]? = (σ.objs ++ l)[m]?
      rcases Nat.lt_or_ge m σ.objs.length with h' | h'
      · rw [List.getElem?_append_left h', List.getElem?_append_left h']
      · rcases Nat.lt_or_ge m (σ.objs.length + l.length) with h'' | h''
        · obtain ⟨y, k1, k2, k3⟩ := al_cov A h4' F (Nat.le_refl F) m (by rw [h2]; exact h') (by rw [hl]; simpa using h'')
          obtain ⟨oy, q1, q2⟩ := alAt_of k2
          obtain ⟨_, _, _, _, _, _, _, _, hvy2, _⟩ := A.al y oy q1 q2
          exact absurd (by rw [hvy2, k3]) (hm y k2 (no y))
        · rw [List.getElem?_eq_none (by simp; omega), List.getElem?_eq_none (by simp; omega)]
  have := dall1 (P := P) (Q := Q) hT hd A h4' hX (a0 := a) (g0 := g) (w0 := w) (fun g' w' a' hu hi => hq g' w' a' hu hi.st ⟨by rw [hi.size, hlen], fun d u hu' => ?_⟩ hi.df hi.keep) ops.size (List.replicate ops.size false) (g.hole l.length) _ _ a (by simp) hun (fun i o hi => absurd hi (no i)) ⟨z, hz, no z⟩ hu1 hph
  · simpa using this
  · rcases henv d u hu' with ⟨i, o, hlt, hio, hid, rfl⟩ | ⟨k1, k2⟩
    · exact hi.done i o d hlt hio hid (by rw [← hlen]; exact getElem?_lt hu')
    · exact hi.old d u k2 fun i o hlt hio => k1 i o hlt hio
theorem draw_ok (hC : ∀ f, SoundFn P f (C f)) (hT : TtOk P tt) (hm : P.follows .mixedOrders = true) : DrawOk P C tt := by
  intro R id ops env σ K r h
  unfold vdraw at h
  split at h
  · rename_i hdr
    obtain ⟨E, S, v, h1, h2, h3, h4⟩ := vops_trace hC hT ops.toList ops.toList 0 env σ K r rfl h
    rw [Nat.zero_add] at h3
    exact ⟨_, _, h3, draw_run hm (drawOk_spec hdr) h1 h2 (fun j o ho => (h4 j o (Nat.zero_le _) ho).1) fun l s hx => hx.elim⟩
  · obtain ⟨E, S, v, h1, h2, h3, h4⟩ := vops_trace hC hT ops.toList ops.toList 0 env σ _ r rfl h
    rw [Nat.zero_add] at h3
    split at h3
    · rename_i hdr
      have hd := drawOk2_spec hdr
      have h4' : ∀ j o, ops.toList[j]? = some o → StepOk P C ops.toList E S v j o := fun j o ho => (h4 j o (Nat.zero_le _) ho).1
      exact ⟨_, _, h3, draw_run hm hd h1 h2 h4' fun l s hx => apart_ok hd h4' hx⟩
    · split at h3
      · rename_i hdr
        obtain ⟨hd, hal⟩ := drawOk3_spec hdr
        have h4' : ∀ j o, ops.toList[j]? = some o → StepOk P C ops.toList E S v j o := fun j o ho => (h4 j o (Nat.zero_le _) ho).1
        rw [← h2] at hal
        obtain ⟨F, A⟩ := al_facts hd h4' (fun j o ho => (h4 j o (Nat.zero_le _) ho).2) hal
        exact ⟨_, _, h3, draw_run3 hT hm hd h1 h2 h4' A fun l s hx => apart_ok hd h4' hx⟩
      · cases h3
end
end Go.Proofs.Yticelgnmcjkknaa.Vm
