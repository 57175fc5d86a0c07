/-
A machine of values, part twenty-nine: regions that draw their order; sound.
-/
import Derived.Test.YtnkjnbfaechiaaaVm28
set_option linter.unusedVariables false
set_option linter.unusedSimpArgs false
namespace Go.Proofs.Ytnkjnbfaechiaaa.Vm
open Go.RowKit (Below)
section
variable {P : Program} {C : Nat → Fun} {tt : Nat → TI} {R : Type}

/-- What holds when these operations have been taken. -/
structure DInv (C : Nat → Fun) (all : List Oper) (env0 : List V) (S : Nat → St) (v : Nat → V) (a0 : Act) (L : Nat → Prop) (g : Gh) (τ : St) (w : World) (a : Act) : Prop where
  st : RelSt g τ w
  df : a.defers = []
  size : a.tmps.size = env0.length
  keep : ∀ i, wrOps all i = false → a.tmps[i]? = a0.tmps[i]?
  objs : ∀ k, k ≤ all.length → (∀ i o, all[i]? = some o → cls C o.op = 3 → (L i ↔ i < k)) → τ.objs = (S k).objs
  all_ : ∀ k, k ≤ all.length → (∀ i o, all[i]? = some o → 1 < cls C o.op → (L i ↔ i < k)) → τ = S k
  done : ∀ i o d, L i → all[i]? = some o → o.dst = some d → d < env0.length → ∃ rv, a.tmps[d]? = some rv ∧ RelV g (Imm g w) (v i) rv
  old : ∀ d u, env0[d]? = some u → (∀ i o, L i → all[i]? = some o → o.dst ≠ some d) → ∃ rv, a.tmps[d]? = some rv ∧ RelV g (Imm g w) u rv

theorem clash_of {a b : Nat} (ha : a ≤ 3) (hb : b ≤ 3) (h : (1 < a ∧ 1 < b) ∨ (a = 3 ∧ b ≠ 0) ∨ (b = 3 ∧ a ≠ 0)) : clash a b = true := by
  unfold clash
  have : a = 0 ∨ a = 1 ∨ a = 2 ∨ a = 3 := by omega
  have : b = 0 ∨ b = 1 ∨ b = 2 ∨ b = 3 := by omega
  rcases ‹a = 0 ∨ _› with rfl | rfl | rfl | rfl <;> rcases ‹b = 0 ∨ _› with rfl | rfl | rfl | rfl <;> first | rfl | omega

/-- A load, and what leaves the object that it looks at as it is. -/
def Apart (C : Nat → Fun) (all : List Oper) (E : Nat → List V) (S : Nat → St) (l s : Nat) : Prop :=
  ∃ o, all[l]? = some o ∧ ((∃ x, look o.op = some x ∧ ∀ m, addrOb (ev (E l) x) = some m → (S (s + 1)).objs[m]? = (S s).objs[m]?) ∨
    ∃ f xs ats, o.op = .call ⟨.value (.func f), ⟨xs⟩, ats⟩ ∧ (C f).ro = true ∧ ∀ x ∈ xs, noIds (ev (E l) x) = true)
theorem look_cls {op : Op} {x : Operand} (h : look op = some x) : cls C op ≤ 1 := by
  cases op <;> first | (cases h; done) | (unfold cls; cases (C 2000001).ro <;> simp)
theorem Apart.cls {all : List Oper} {E : Nat → List V} {S : Nat → St} {l s : Nat} (h : Apart C all E S l s) {o : Oper} (ho : all[l]? = some o) : cls C o.op ≤ 1 := by
  obtain ⟨o', h1, h2⟩ := h
  rw [ho] at h1; simp only [Option.some.injEq] at h1; subst h1
  rcases h2 with ⟨x, h2, _⟩ | ⟨f, xs, ats, h2, h3, _⟩
  · exact look_cls h2
  · rw [h2]; simp [Vm.cls, h3]
/-- Where those that turn objects were taken up to. -/
theorem cut_of {all : List Oper} {L : Nat → Prop} (h : ∀ i i' p p', i < i' → all[i]? = some p → all[i']? = some p' → cls C p.op = 3 → cls C p'.op = 3 → L i' → L i) : ∀ n, ∃ k, k ≤ n ∧ ∀ i p, i < n → all[i]? = some p → cls C p.op = 3 → (L i ↔ i < k)
  | 0 => ⟨0, Nat.le_refl _, fun i p hi => absurd hi (Nat.not_lt_zero _)⟩
  | n + 1 => by
    obtain ⟨k, hk, hc⟩ := cut_of h n
    by_cases hx : ∃ p, all[n]? = some p ∧ cls C p.op = 3 ∧ L n
    · obtain ⟨p, h1, h2, h3⟩ := hx
      refine ⟨n + 1, Nat.le_refl _, fun i q hi hq hq3 => ⟨fun _ => hi, fun _ => ?_⟩⟩
      rcases Nat.lt_or_ge i n with hlt | hge
      · exact h i n q p hlt hq h1 hq3 h2 h3
      · have : i = n := by omega
        subst this; exact h3
    · refine ⟨k, by omega, fun i q hi hq hq3 => ?_⟩
      rcases Nat.lt_or_ge i n with hlt | hge
      · exact hc i q hlt hq hq3
      · have : i = n := by omega
        subst this
        exact ⟨fun hl => absurd ⟨q, hq, hq3, hl⟩ hx, fun h => by omega⟩
theorem dstep {all : List Oper} {X : Nat → Nat → Prop} (hd : DrawSpec C all X) {E : Nat → List V} {S : Nat → St} {v : Nat → V} (hS : ∀ j o, all[j]? = some o → StepOk P C all E S v j o) (hX : ∀ l s, X l s → Apart C all E S l s) {L : Nat → Prop} (hL : Closed all L) {a0 : Act} {g : Gh} {τ : St} {w : World} {a : Act} (h : DInv C all (E 0) S v a0 L g τ w a)
    {j : Nat} {o : Oper} (ho : all[j]? = some o) (hj : ¬ L j) (hr : ∀ e ∈ o.after, Region.binds .any e = true → L e.on) {Q : Exit → Act → World → Prop} {K : Act → World → Prop}
    (hK : ∀ g' τ' w' a', Up g w g' w' → DInv C all (E 0) S v a0 (fun i => L i ∨ i = j) g' τ' w' a' → K a' w') : wpOp P all.toArray Q j K a w := by
  have hjl := getElem?_lt ho
  obtain ⟨hlen, henv⟩ := env_at hS j (by omega)
  -- those before it are taken, those behind it not
  have bef0 : ∀ {i p}, all[i]? = some p → i ≠ j → (∀ q, ¬ X i q) → (∀ q, ¬ X j q) → (clash (cls C p.op) (cls C o.op) = true) → clash (cls C o.op) (cls C p.op) = true → (L i ↔ i < j) := by
    intro i p hp hne n1 n2 h1 h2
    constructor
    · intro hi
      rcases Nat.lt_or_ge i j with hlt | hge
      · exact hlt
      · rcases hd.clash j i o p (by omega) ho hp h2 with hb | hx | hx
        · exact absurd (bef_closed hL _ _ hb hi) hj
        · exact absurd hx (n2 _)
        · exact absurd hx (n1 _)
    · intro hlt
      rcases hd.clash i j p o hlt hp ho h1 with hb | hx | hx
      · exact bef_ready hL ho hr hb
      · exact absurd hx (n1 _)
      · exact absurd hx (n2 _)
  have noX : ∀ {i p}, all[i]? = some p → 1 < cls C p.op → ∀ q, ¬ X i q := fun hp h1 q hx => by
    have := (hX _ _ hx).cls (C := C) hp; omega
  have bef : ∀ {i p}, all[i]? = some p → i ≠ j → 1 < cls C p.op → 1 < cls C o.op → (clash (cls C p.op) (cls C o.op) = true) → clash (cls C o.op) (cls C p.op) = true → (L i ↔ i < j) :=
    fun hp hne h1 h2 => bef0 hp hne (noX hp h1) (noX ho h2)
  -- the slots that it names are as in the text
  have slot : ∀ d u, d ∈ named all o → (E j)[d]? = some u → ∃ rv, a.tmps[d]? = some rv ∧ RelV g (Imm g w) u rv := by
    intro d u hn hu
    have hdl : d < (E 0).length := by rw [← hlen]; exact getElem?_lt hu
    rcases henv d u hu with ⟨i, p, hlt, hp, hpd, rfl⟩ | ⟨h1, h2⟩
    · exact h.done i p d (bef_ready hL ho hr ((hd.nam i j p o d (by omega) hp ho hpd hn).1 hlt)) hp hpd hdl
    · refine h.old d u h2 fun i p hi hp hpd => ?_
      rcases Nat.lt_or_ge i j with hlt | hge
      · exact h1 i p hlt hp hpd
      · have hne : i ≠ j := fun e => hj (e ▸ hi)
        exact hj (bef_closed hL _ _ ((hd.nam i j p o d hne hp ho hpd hn).2 (by omega)) hi)
  have oper : ∀ x, x ∈ o.op.operands → RelV g (Imm g w) (ev (E j) x) (a.eval x) := by
    intro x hx
    cases x with
    | tmp t =>
      show RelV g (Imm g w) ((E j).getD t .undef) (a.tmps.getD t undef)
      cases ht : (E j)[t]? with
      | none => rw [List.getD_eq_getElem?_getD, ht]; exact .undef _
      | some u =>
        obtain ⟨rv, h1, h2⟩ := slot t u (List.mem_append_left _ (List.mem_filterMap.2 ⟨.tmp t, by simpa using hx, rfl⟩)) ht
        rw [List.getD_eq_getElem?_getD, ht, Array.getD_eq_getD_getElem?, h1]; exact h2
    | const c => exact ofConst_rel c
    | func f => exact .fn f [] [] rfl fun i v rv hv => by simp at hv
    | global i => exact .undef _
  have want : ∀ b, wantsV all (E j) o = some b → Region.wanted o (yielded all.toArray a.tmps) = b := by
    intro b hb
    unfold wantsV at hb
    unfold Region.wanted
    split at hb
    · rename_i hg; rw [hg]; simpa using hb
    · rename_i q want hg
      rw [hg]
      split at hb
      · rename_i d hdd
        have hn : d ∈ named all o := List.mem_append_right _ (by rw [hg]; simp only [hdd]; simp)
        split at hb
        · rename_i t ht
          obtain ⟨rv, h1, h2⟩ := slot d _ hn (env_some ht (by simp))
          have h3 := relV_bool h2
          subst h3
          have hy : yielded all.toArray a.tmps q = some t := by simp [yielded, hdd, h1]; rfl
          rw [← Option.some.inj hb]
          show (yielded all.toArray a.tmps q == some want) = _
          rw [hy]; rfl
        · rename_i vs ht
          obtain ⟨rv, h1, h2⟩ := slot d _ hn (env_some ht (by simp))
          cases h2
          have hy : yielded all.toArray a.tmps q = none := by simp [yielded, hdd, h1]
          rw [← Option.some.inj hb]
          show (yielded all.toArray a.tmps q == some want) = _
          rw [hy]; rfl
        · cases hb
      · cases hb
  -- afterwards
  have next : ∀ g' τ' w' rv, Up g w g' w' → RelSt g' τ' w' → RelV g' (Imm g' w') (v j) rv → (cls C o.op ≤ 1 → τ' = τ) → (1 < cls C o.op → τ = S j ∧ τ' = S (j + 1)) → DInv C all (E 0) S v a0 (fun i => L i ∨ i = j) g' τ' w' (a.put o.dst rv) := by
    intro g' τ' w' rv hu hst hv h1 h2
    refine ⟨hst, by rw [put_defers]; exact h.df, ?_, fun i hi => (put_keep a o.dst rv (by have := List.any_eq_false.1 hi o (List.mem_of_getElem? ho); simpa using this)).trans (h.keep i hi), fun k hk hc => ?_, fun k hk hc => ?_, fun i p d hi hp hpd hdl => ?_, fun d u hu0 hnot => ?_⟩
    · cases hdd : o.dst <;> simp [Act.put, h.size]
    · -- the objects
      rcases Nat.lt_or_ge (cls C o.op) 2 with hlt | hge
      · rw [h1 (by omega)]
        refine h.objs k hk fun i p hp hp3 => ⟨fun hi => (hc i p hp hp3).1 (.inl hi), fun hi => ?_⟩
        rcases (hc i p hp hp3).2 hi with h3 | rfl
        · exact h3
        · rw [ho] at hp; simp only [Option.some.injEq] at hp; subst hp; omega
      · obtain ⟨h3, h4⟩ := h2 (by omega)
        rcases Nat.lt_or_ge (cls C o.op) 3 with hlt3 | hge3
        · rw [h4, step_objs (hS j o ho) (by omega), ← h3]
          refine h.objs k hk fun i p hp hp3 => ⟨fun hi => (hc i p hp hp3).1 (.inl hi), fun hi => ?_⟩
          rcases (hc i p hp hp3).2 hi with h5 | rfl
          · exact h5
          · rw [ho] at hp; simp only [Option.some.injEq] at hp; subst hp; omega
        · have hj3 : cls C o.op = 3 := by have := cls_le (C := C) o.op; omega
          have hjk : j < k := (hc j o ho hj3).1 (.inr rfl)
          rw [h4]
          have := objs_const hS (p := j + 1) (k - (j + 1)) (by omega) fun i p h5 h6 hp hp3 => by
            rcases (hc i p hp hp3).2 (by omega) with h7 | rfl
            · have h8 := (bef hp (by omega) (by omega) (by omega) (clash_of (cls_le _) (cls_le _) (by omega)) (clash_of (cls_le _) (cls_le _) (by omega))).1 h7
              omega
            · omega
          rw [show j + 1 + (k - (j + 1)) = k by omega] at this
          exact this.symm
    · -- the whole state
      rcases Nat.lt_or_ge (cls C o.op) 2 with hlt | hge
      · rw [h1 (by omega)]
        refine h.all_ k hk fun i p hp hp3 => ⟨fun hi => (hc i p hp hp3).1 (.inl hi), fun hi => ?_⟩
        rcases (hc i p hp hp3).2 hi with h3 | rfl
        · exact h3
        · rw [ho] at hp; simp only [Option.some.injEq] at hp; subst hp; omega
      · obtain ⟨h3, h4⟩ := h2 (by omega)
        have hjk : j < k := (hc j o ho (by omega)).1 (.inr rfl)
        rw [h4]
        have := st_const hS (p := j + 1) (k - (j + 1)) (by omega) fun i p h5 h6 hp => by
          rcases Nat.lt_or_ge 1 (cls C p.op) with hp1 | hp1
          · rcases (hc i p hp hp1).2 (by omega) with h7 | rfl
            · have h8 := (bef hp (by omega) (by omega) (by omega) (clash_of (cls_le _) (cls_le _) (by omega)) (clash_of (cls_le _) (cls_le _) (by omega))).1 h7
              omega
            · omega
          · exact hp1
        rw [show j + 1 + (k - (j + 1)) = k by omega] at this
        exact this.symm
    · by_cases hij : i = j
      · subst hij
        rw [ho] at hp; simp only [Option.some.injEq] at hp; subst hp
        rw [hpd]
        exact ⟨rv, by show (a.tmps.setIfInBounds d rv)[d]? = _; rw [Array.getElem?_setIfInBounds_self_of_lt (by rw [h.size]; exact hdl)], hv⟩
      · obtain ⟨ru, h5, h6⟩ := h.done i p d (hi.resolve_right hij) hp hpd hdl
        refine ⟨ru, ?_, h6.up hu⟩
        have hne := hd.dst i j p o d hij hp ho hpd
        cases hdd : o.dst with
        | none => exact h5
        | some e =>
          show (a.tmps.setIfInBounds e rv)[d]? = _
          rw [Array.getElem?_setIfInBounds_ne (by intro e'; subst e'; exact hne hdd)]; exact h5
    · obtain ⟨ru, h5, h6⟩ := h.old d u hu0 fun i p hi hp => hnot i p (.inl hi) hp
      refine ⟨ru, ?_, h6.up hu⟩
      have hne := hnot j o (.inr rfl) ho
      cases hdd : o.dst with
      | none => exact h5
      | some e =>
        show (a.tmps.setIfInBounds e rv)[d]? = _
        rw [Array.getElem?_setIfInBounds_ne (by intro e'; subst e'; exact hne hdd)]; exact h5
  -- the state that it needs
  have hall : 1 < cls C o.op → τ = S j := fun hc => h.all_ j (by omega) fun i p hp hp1 => by
    by_cases hij : i = j
    · subst hij; exact ⟨fun h => absurd h hj, fun h => absurd h (Nat.lt_irrefl _)⟩
    · exact bef hp hij hp1 hc (clash_of (cls_le _) (cls_le _) (by omega)) (clash_of (cls_le _) (cls_le _) (by omega))
  have hobj : (∀ q, ¬ X j q) → cls C o.op = 1 → τ.objs = (S j).objs := fun hn hc => h.objs j (by omega) fun i p hp hp3 => by
    by_cases hij : i = j
    · subst hij; exact ⟨fun h => absurd h hj, fun h => absurd h (Nat.lt_irrefl _)⟩
    · exact bef0 hp hij (noX hp (by omega)) hn (clash_of (cls_le _) (cls_le _) (by omega)) (clash_of (cls_le _) (cls_le _) (by omega))
  -- a load that is apart from others: its object is as in the text
  have hone : ∀ {x m}, look o.op = some x → cls C o.op = 1 → addrOb (ev (E j) x) = some m → τ.objs[m]? = (S j).objs[m]? := by
    intro x m hop hc hm
    have hmX : ∀ {q}, X j q → (S (q + 1)).objs[m]? = (S q).objs[m]? := fun {q} hx => by
      obtain ⟨o', h1, h2⟩ := hX _ _ hx
      rw [ho] at h1; simp only [Option.some.injEq] at h1; subst h1
      rcases h2 with ⟨x', h2, h3⟩ | ⟨f, xs, ats, h2, _⟩
      · rw [hop] at h2; simp only [Option.some.injEq] at h2; subst h2
        exact h3 m hm
      · rw [h2] at hop; cases hop
    obtain ⟨k, hk, hcut⟩ := cut_of (C := C) (all := all) (L := L) (fun i i' p p' hlt hp hp' h3 h3' hl => by
      rcases hd.clash i i' p p' hlt hp hp' (clash_of (cls_le _) (cls_le _) (by omega)) with hb | hx | hx
      · exact bef_closed hL _ _ hb hl
      · exact absurd hx (noX hp (by omega) _)
      · exact absurd hx (noX hp' (by omega) _)) all.length
    rw [h.objs k hk fun i p hp hp3 => hcut i p (getElem?_lt hp) hp hp3]
    have same : ∀ i, i < all.length → (i < j → k ≤ i) → (j < i → i < k) → (S (i + 1)).objs[m]? = (S i).objs[m]? := by
      intro i hi h1 h2
      have hp : all[i]? = some (all[i]'hi) := List.getElem?_eq_getElem _
      by_cases h3 : cls C (all[i]'hi).op = 3
      · have hL' := hcut i _ hi hp h3
        rcases Nat.lt_trichotomy i j with hlt | heq | hgt
        · have nl : ¬ L i := fun hl => by have := hL'.1 hl; have := h1 hlt; omega
          rcases hd.clash i j _ o hlt hp ho (clash_of (cls_le _) (cls_le _) (by omega)) with hb | hx | hx
          · exact absurd (bef_ready hL ho hr hb) nl
          · exact absurd hx (noX hp (by omega) _)
          · exact hmX hx
        · subst heq; rw [ho] at hp; simp only [Option.some.injEq] at hp; rw [← hp] at h3; omega
        · have hl : L i := hL'.2 (h2 hgt)
          rcases hd.clash j i o _ hgt ho hp (clash_of (cls_le _) (cls_le _) (by omega)) with hb | hx | hx
          · exact absurd (bef_closed hL _ _ hb hl) hj
          · exact hmX hx
          · exact absurd hx (noX hp (by omega) _)
      · rw [step_objs (hS i _ hp) h3]
    have up : ∀ d q, q + d ≤ all.length → (∀ i, q ≤ i → i < q + d → (S (i + 1)).objs[m]? = (S i).objs[m]?) → (S (q + d)).objs[m]? = (S q).objs[m]? := by
      intro d
      induction d with
      | zero => intro q _ _; rfl
      | succ d ih =>
        intro q hq hs
        rw [show q + (d + 1) = q + d + 1 by omega, hs (q + d) (by omega) (by omega)]
        exact ih q (by omega) fun i h1 h2 => hs i h1 (by omega)
    rcases Nat.le_total k j with hkj | hjk
    · have := up (j - k) k (by omega) fun i h1 h2 => same i (by omega) (fun _ => h1) (fun h => by omega)
      rw [show k + (j - k) = j by omega] at this
      exact this.symm
    · have := up (k - j) j (by omega) fun i h1 h2 => same i (by omega) (fun h => by omega) (fun _ => by omega)
      rw [show j + (k - j) = k by omega] at this
      exact this
  unfold wpOp
  simp only [List.getElem?_toArray, ho]
  rcases (hS j o ho).2 with ⟨hw, h1, h2, hx, h3⟩ | ⟨hw, hv, h1⟩
  · rw [if_pos (want true hw)]
    by_cases hex : cls C o.op = 1 ∧ ∃ q, X j q
    · obtain ⟨hc1, q, hq⟩ := hex
      obtain ⟨o', k1, k2⟩ := hX _ _ hq
      rw [ho] at k1; simp only [Option.some.injEq] at k1; subst k1
      have hx : OO P (execOp a.eval o) g w (v j) τ := by
        rcases k2 with ⟨x, k2, _⟩ | ⟨f, xs, ats, k2, k3, k4⟩
        · have hx : LookOk P o (E j) (S j) (v j) x := by
            obtain ⟨dst, op, type, pos, after, guard⟩ := o
            cases op <;> first | (cases k2; done) | (simp only [look, Option.some.injEq] at k2; subst k2; exact hx)
          exact hx g w a τ (fun m hm => hone k2 hc1 hm) h.st oper
        · obtain ⟨dst, op, type, pos, after, guard⟩ := o
          simp only at k2; subst k2
          exact hx k3 k4 g w a τ h.st oper
      refine .inl (wp_of_oo hx fun rv g' w' hu hv hst => ?_)
      exact hK g' _ w' _ hu (next g' _ w' rv hu hst hv (fun _ => rfl) fun hc => by omega)
    · refine .inl (wp_of_oo (h3 g w a τ (fun hc => hobj (fun q hq => hex ⟨hc, q, hq⟩) hc) hall h.st oper) fun rv g' w' hu hv hst => ?_)
      refine hK g' _ w' _ hu (next g' _ w' rv hu hst hv (fun hc => if_pos hc) fun hc => ⟨hall hc, if_neg (by omega)⟩)
  · rw [if_neg (by rw [want false hw]; simp)]
    refine hK g τ w _ (.refl g w) (next g τ w undef (.refl g w) h.st (by rw [hv]; exact void_rel) (fun _ => rfl) fun hc => ⟨hall hc, by rw [h1]; exact hall hc⟩)

/-! ### all orders -/
def unl (l : List Bool) : Nat := l.countP (!·)
theorem unl_set : ∀ (l : List Bool) (i : Nat), l[i]? = some false → unl (l.set i true) + 1 = unl l
  | [], i, h => by simp at h
  | b :: l, 0, h => by simp at h; subst h; simp [unl]
  | b :: l, i + 1, h => by
    have := unl_set l i (by simpa using h)
    unfold unl at this ⊢
    simp only [List.set_cons_succ, List.countP_cons]
    omega
theorem unl_zero : ∀ (l : List Bool), unl l = 0 → ∀ (i : Nat) (b : Bool), l[i]? = some b → b = true
  | [], _, i, b, h => by simp at h
  | x :: l, hz, i, b, h => by
    unfold unl at hz
    simp only [List.countP_cons] at hz
    cases i with
    | zero => simp at h; subst h; cases x <;> simp_all
    | succ i => exact unl_zero l (by unfold unl; omega) i b (by simpa using h)
theorem dall {all : List Oper} {X : Nat → Nat → Prop} (hd : DrawSpec C all X) {E : Nat → List V} {S : Nat → St} {v : Nat → V} (hS : ∀ j o, all[j]? = some o → StepOk P C all E S v j o) (hX : ∀ l s, X l s → Apart C all E S l s) {Q : Exit → Act → World → Prop} {a0 : Act} {g0 : Gh} {w0 : World}
    (hq : ∀ g w a, Up g0 w0 g w → DInv C all (E 0) S v a0 (fun i => i < all.length) g (S all.length) w a → Q .normal a w) :
    ∀ (fuel : Nat) (l : List Bool) (g : Gh) (τ : St) (w : World) (a : Act), l.length = all.length → unl l ≤ fuel → Closed all (fun i => l[i]? = some true) → Up g0 w0 g w → DInv C all (E 0) S v a0 (fun i => l[i]? = some true) g τ w a →
      wpAny P .any all.toArray Q fuel l.toArray a w := by
  have fin : ∀ (l : List Bool) (g : Gh) (τ : St) (w : World) (a : Act), l.length = all.length → unl l = 0 → Up g0 w0 g w → DInv C all (E 0) S v a0 (fun i => l[i]? = some true) g τ w a → Q .normal a w := by
    intro l g τ w a hl hz hu h
    have hL : ∀ i, l[i]? = some true ↔ i < all.length := fun i => ⟨fun h => by rw [← hl]; exact getElem?_lt h, fun h => by
      have h1 : l[i]? = some (l[i]'(by omega)) := List.getElem?_eq_getElem _
      rw [h1, unl_zero l hz i _ h1]⟩
    have hτ : τ = S all.length := h.all_ _ (Nat.le_refl _) fun i o ho _ => ⟨fun h => (hL i).1 h, fun h => (hL i).2 h⟩
    subst hτ
    have : (fun i => l[i]? = some true) = fun i => i < all.length := funext fun i => propext (hL i)
    rw [this] at h
    exact hq g w a hu h
  have prog : ∀ (l : List Bool), l.length = all.length → Closed all (fun i => l[i]? = some true) → Region.ready .any all.toArray l.toArray = [] → unl l = 0 := by
    intro l hl hc hr
    have key : ∀ i, i < all.length → l[i]? = some true := by
      intro i
      induction i using Nat.strongRecOn with
      | _ i ih =>
        intro hi
        have h1 : l[i]? = some (l[i]'(by omega)) := List.getElem?_eq_getElem _
        cases hb : l[i]'(by omega) with
        | true => rw [h1, hb]
        | false =>
          exfalso
          have ho : all[i]? = some (all[i]'hi) := List.getElem?_eq_getElem _
          have : i ∈ Region.ready .any all.toArray l.toArray := mem_ready.2 ⟨by simp [h1, hb], all[i]'hi, by rw [List.getElem?_toArray]; exact ho, fun e he hbi => by
            have h2 := hd.back i _ ho e he hbi
            have h3 := ih e.on h2 (by omega)
            simp [h3]⟩
          rw [hr] at this; cases this
    have : ∀ (l : List Bool), (∀ i, i < l.length → l[i]? = some true) → unl l = 0 := by
      intro l
      induction l with
      | nil => intro _; rfl
      | cons x l ih =>
        intro h
        have h0 := h 0 (by simp)
        simp at h0; subst h0
        have := ih fun i hi => by have := h (i + 1) (by simpa using hi); simpa using this
        unfold unl at this ⊢
        simp [this]
    exact this l fun i hi => key i (by omega)
  intro fuel
  induction fuel with
  | zero =>
    intro l g τ w a hl hz hc hu h
    refine ⟨?_, fin l g τ w a hl (by omega) hu h⟩
    cases hr : Region.ready .any all.toArray l.toArray with
    | nil => rfl
    | cons j js =>
      have hj : j ∈ Region.ready .any all.toArray l.toArray := by rw [hr]; exact List.mem_cons_self ..
      obtain ⟨h1, o, ho, _⟩ := mem_ready.1 hj
      have hlt : j < l.length := by have : j < all.length := getElem?_lt (by simpa using ho); omega
      have h2 : l[j]? = some (l[j]'hlt) := List.getElem?_eq_getElem _
      have h3 := unl_zero l (by omega) j _ h2
      simp [h2, h3] at h1
  | succ fuel ih =>
    intro l g τ w a hl hz hc hu h
    refine ⟨fun hr => fin l g τ w a hl (prog l hl hc hr) hu h, fun j hj => ?_⟩
    obtain ⟨h1, o, ho, hr⟩ := mem_ready.1 hj
    have ho' : all[j]? = some o := by simpa using ho
    have hlt : j < l.length := by have := getElem?_lt ho'; omega
    have h2 : l[j]? = some false := by
      have h3 : l[j]? = some (l[j]'hlt) := List.getElem?_eq_getElem _
      rw [h3]; simp [h3] at h1; rw [h1]
    have hr' : ∀ e ∈ o.after, Region.binds .any e = true → l[e.on]? = some true := fun e he hb => by
      have h4 := hr e he hb
      cases h5 : l[e.on]? with
      | none => simp [h5] at h4
      | some b => simp [h5] at h4; rw [h4]
    refine dstep hd hS hX hc h ho' (by rw [h2]; simp) hr' fun g' τ' w' a' hu' h' => ?_
    have hset : (l.toArray.setIfInBounds j true) = (l.set j true).toArray := by simp
    rw [hset]
    have hL : (fun i => l[i]? = some true ∨ i = j) = fun i => (l.set j true)[i]? = some true := funext fun i => propext (by
      by_cases hij : j = i
      · subst hij; rw [List.getElem?_set_self hlt]; simp
      · rw [List.getElem?_set_ne hij]; constructor
        · rintro (h | h)
          · exact h
          · exact absurd h.symm hij
        · exact .inl)
    rw [hL] at h'
    refine ih _ g' τ' w' a' (by simpa using hl) (by have := unl_set l j h2; omega) ?_ (hu.trans hu') h'
    rw [← hL]
    intro i p hi hp e he hb
    rcases hi with hi | rfl
    · exact .inl (hc i p hi hp e he hb)
    · rw [ho'] at hp; simp only [Option.some.injEq] at hp; subst hp
      exact .inl (hr' e he hb)

theorem stays_ev {all : List Oper} {X : Nat → Nat → Prop} (hd : DrawSpec C all X) {E : Nat → List V} {S : Nat → St} {v : Nat → V} (hS : ∀ j o, all[j]? = some o → StepOk P C all E S v j o) {j : Nat} (hj : j ≤ all.length) {x : Operand} (h : stays all j x = true) : ev (E all.length) x = ev (E j) x := by
  cases x with
  | tmp t =>
    obtain ⟨l1, e1⟩ := env_at hS all.length (Nat.le_refl _)
    obtain ⟨l2, e2⟩ := env_at hS j hj
    have h : (all.drop j).all (fun p => p.dst != some t) = true := h
    have nw : ∀ i p, j ≤ i → all[i]? = some p → p.dst ≠ some t := fun i p hi hp hpd => by
      have hm : p ∈ all.drop j := List.mem_of_getElem? (i := i - j) (by rw [List.getElem?_drop, show j + (i - j) = i by omega]; exact hp)
      have := List.all_eq_true.1 h p hm
      rw [hpd] at this; simp at this
    show (E all.length).getD t .undef = (E j).getD t .undef
    rw [List.getD_eq_getElem?_getD, List.getD_eq_getElem?_getD]
    rcases Nat.lt_or_ge t (E 0).length with hlt | hge
    · have hu : (E all.length)[t]? = some ((E all.length)[t]'(by omega)) := List.getElem?_eq_getElem _
      have hu' : (E j)[t]? = some ((E j)[t]'(by omega)) := List.getElem?_eq_getElem _
      rw [hu, hu']
      rcases e1 t _ hu with ⟨i, p, _, hp, hpd, h1⟩ | ⟨h1, h2⟩
      · have hij : i < j := by
          rcases Nat.lt_or_ge i j with h' | h'
          · exact h'
          · exact absurd hpd (nw i p h' hp)
        rcases e2 t _ hu' with ⟨i', p', _, hp', hpd', h3⟩ | ⟨h3, _⟩
        · by_cases hii : i = i'
          · subst hii; rw [h1, h3]
          · exact absurd hpd' (hd.dst i i' p p' t hii hp hp' hpd)
        · exact absurd hpd (h3 i p hij hp)
      · rcases e2 t _ hu' with ⟨i', p', hlt', hp', hpd', h3⟩ | ⟨_, h3⟩
        · exact absurd hpd' (h1 i' p' (by omega) hp')
        · rw [h2] at h3; exact congrArg (fun o : Option V => o.getD .undef) h3
    · rw [List.getElem?_eq_none (by omega), List.getElem?_eq_none (by omega)]
  | const c => rfl
  | func f => rfl
  | global i => rfl
theorem new_ev {all : List Oper} {X : Nat → Nat → Prop} (hd : DrawSpec C all X) {E : Nat → List V} {S : Nat → St} {v : Nat → V} (hS : ∀ j o, all[j]? = some o → StepOk P C all E S v j o) {s m : Nat} {p : Oper} (hp : all[s]? = some p) (h : newAt p (E all.length) m = true) : addrOb (v s) ≠ some m := by
  unfold newAt at h
  split at h
  · rename_i d hpd
    split at h
    · rename_i m' hm'
      obtain ⟨_, e1⟩ := env_at hS all.length (Nat.le_refl _)
      rw [List.getD_eq_getElem?_getD] at hm'
      cases hu : (E all.length)[d]? with
      | none => rw [hu] at hm'; cases hm'
      | some u =>
        rw [hu] at hm'
        rcases e1 d u hu with ⟨i, q, _, hq, hqd, rfl⟩ | ⟨h1, _⟩
        · by_cases his : i = s
          · subst his
            simp only [Option.getD_some] at hm'
            rw [hm']
            intro e; simp only [Option.some.injEq] at e; subst e; simp at h
          · exact absurd hpd (hd.dst i s q p d his hq hp hqd)
        · exact absurd hpd (h1 s p (getElem?_lt hp) hp)
    · cases h
  · cases h
/-- What the check at the end says. -/
theorem apart_ok {all : List Oper} {X : Nat → Nat → Prop} (hd : DrawSpec C all X) {E : Nat → List V} {S : Nat → St} {v : Nat → V} (hS : ∀ j o, all[j]? = some o → StepOk P C all E S v j o) {l s : Nat} (h : apart C all (E all.length) l s = true) : Apart C all E S l s := by
  unfold apart at h
  cases ho : all[l]? with
  | none => rw [ho] at h; cases h
  | some o =>
  cases hp : all[s]? with
  | none => rw [ho, hp] at h; cases h
  | some p =>
  rw [ho, hp] at h
  have hs := hS s p hp
  have hlo := getElem?_lt ho
  have hlp := getElem?_lt hp
  have two : ∀ {m : Nat} {ob : Option Nat}, (match ob with | some m' => m' != m | none => false) = true → ob ≠ some m := by
    intro m ob h e
    subst e; simp at h
  have h : (match look o.op with
    | some x => stays all l x && (match addrOb (ev (E all.length) x) with
      | some m => (match p.op with
        | .store _ a _ => stays all s a && (match addrOb (ev (E all.length) a) with | some m' => m' != m | none => false)
        | .alloc _ => newAt p (E all.length) m
        | .box _ _ => newAt p (E all.length) m
        | _ => false)
      | none => true)
    | none => freeCall C all (E all.length) l o.op) = true := h
  cases hl : look o.op with
  | none =>
    rw [hl] at h
    have h : freeCall C all (E all.length) l o.op = true := h
    refine ⟨_, ho, .inr ?_⟩
    unfold freeCall at h
    split at h
    · rename_i f xs ats hop
      obtain ⟨h1, h2⟩ := Bool.and_eq_true_iff.1 h
      refine ⟨f, xs, ats, hop, h1, fun x hx => ?_⟩
      obtain ⟨h3, h4⟩ := Bool.and_eq_true_iff.1 (List.all_eq_true.1 h2 x hx)
      rw [stays_ev hd hS (Nat.le_of_lt hlo) h3] at h4
      exact h4
    · cases h
  | some x =>
    rw [hl] at h
    obtain ⟨h1, h⟩ := Bool.and_eq_true_iff.1 h
    rw [stays_ev hd hS (Nat.le_of_lt hlo) h1] at h
    refine ⟨_, ho, .inl ⟨x, hl, fun m hm => ?_⟩⟩
    rw [hm] at h
    obtain ⟨dst, op, type, pos, after, guard⟩ := p
    rcases hs.2 with ⟨_, _, _, hx, _⟩ | ⟨_, _, h4⟩
    · cases op with
      | store t' a y =>
        obtain ⟨h5, h6⟩ := Bool.and_eq_true_iff.1 h
        rw [stays_ev hd hS (Nat.le_of_lt hlp) h5] at h6
        have hx : ∀ m, addrOb (ev (E s) a) ≠ some m → (S (s + 1)).objs[m]? = (S s).objs[m]? := hx
        exact hx m (two h6)
      | alloc t' =>
        have hx : ∀ m, addrOb (v s) ≠ some m → (S (s + 1)).objs[m]? = (S s).objs[m]? := hx
        exact hx m (new_ev hd hS hp h)
      | box t' y =>
        have hx : ∀ m, addrOb (v s) ≠ some m → (S (s + 1)).objs[m]? = (S s).objs[m]? := hx
        exact hx m (new_ev hd hS hp h)
      | _ => cases h
    · rw [h4]
theorem draw_run (hm : P.follows .mixedOrders = true) {id : Nat} {ops : Array Oper} {env : List V} {σ : St} {X : Nat → Nat → Prop} {E : Nat → List V} {S : Nat → St} {v : Nat → V}
    (hd : DrawSpec C ops.toList X) (h1 : E 0 = env) (h2 : S 0 = σ) (h4' : ∀ j o, ops.toList[j]? = some o → StepOk P C ops.toList E S v j o) (hX : ∀ l s, X l s → Apart C ops.toList E S l s) :
    Goes (wrOps ops.toList) (fun Q a w => (Code.region id ops true).wp P Q a w) .normal env σ (E ops.toList.length) (S ops.toList.length) := by
  refine fun g w a Q hst he hdf hq => wp_region_any hm ?_
  have hb : Below w.heap.size w { w with drawn := w.drawn + 1 } := ⟨rfl, rfl, rfl, Nat.le_refl _, fun _ _ => rfl⟩
  have hu0 : Up g w g { w with drawn := w.drawn + 1 } := .of_below hb
  obtain ⟨hlen, henv⟩ := env_at h4' ops.toList.length (Nat.le_refl _)
  have := dall (P := P) (Q := Q) hd h4' hX (a0 := a) (g0 := g) (w0 := w) (fun g' w' a' hu hi => hq g' w' a' hu hi.st ⟨by rw [hi.size, hlen], fun d u hu' => ?_⟩ hi.df hi.keep) ops.size (List.replicate ops.size false) g σ { w with drawn := w.drawn + 1 } a (by simp) (by
      have : ∀ n, unl (List.replicate n false) ≤ n := fun n => by unfold unl; exact Nat.le_trans (List.countP_le_length) (by simp)
      exact this _) (fun i o hi => absurd hi (by dsimp only; rw [List.getElem?_replicate]; split <;> simp)) hu0 ?_
  · simpa using this
  · rcases henv d u hu' with ⟨i, o, hlt, hio, hid, rfl⟩ | ⟨k1, k2⟩
    · exact hi.done i o d hlt hio hid (by rw [← hlen]; exact getElem?_lt hu')
    · exact hi.old d u k2 fun i o hlt hio => k1 i o hlt hio
  · have no : ∀ i, ¬ (List.replicate ops.size false)[i]? = some true := fun i => by rw [List.getElem?_replicate]; split <;> simp
    have he' := he.up hu0
    refine ⟨hst.below hb, hdf, by rw [h1]; exact he.1, fun _ _ => rfl, fun k hk hc => ?_, fun k hk hc => ?_, fun i o d hi => absurd hi (no i), fun d u hu' _ => ?_⟩
    · have := objs_const h4' (p := 0) k (by omega) fun i o _ hlt hio h5 => no i ((hc i o hio h5).2 (by omega))
      rw [Nat.zero_add] at this
      rw [this, h2]
    · have := st_const h4' (p := 0) k (by omega) fun i o _ hlt hio => by
        rcases Nat.lt_or_ge 1 (cls C o.op) with h5 | h5
        · exact absurd ((hc i o hio h5).2 (by omega)) (no i)
        · exact h5
      rw [Nat.zero_add] at this
      rw [this, h2]
    · rw [h1] at hu'; exact he'.2 d u hu'
theorem draw_ok (hC : ∀ f, SoundFn P f (C f)) (hT : TtOk P tt) (hm : P.follows .mixedOrders = true) : DrawOk P C tt := by
  intro R id ops env σ K r h
  unfold vdraw at h
  split at h
  · rename_i hdr
    obtain ⟨E, S, v, h1, h2, h3, h4⟩ := vops_trace hC hT ops.toList ops.toList 0 env σ K r rfl h
    rw [Nat.zero_add] at h3
    exact ⟨_, _, h3, draw_run hm (drawOk_spec hdr) h1 h2 (fun j o ho => h4 j o (Nat.zero_le _) ho) fun l s hx => hx.elim⟩
  · obtain ⟨E, S, v, h1, h2, h3, h4⟩ := vops_trace hC hT ops.toList ops.toList 0 env σ _ r rfl h
    rw [Nat.zero_add] at h3
    split at h3
    · rename_i hdr
      have hd := drawOk2_spec hdr
      have h4' : ∀ j o, ops.toList[j]? = some o → StepOk P C ops.toList E S v j o := fun j o ho => h4 j o (Nat.zero_le _) ho
      exact ⟨_, _, h3, draw_run hm hd h1 h2 h4' fun l s hx => apart_ok hd h4' hx⟩
    · cases h3
end
end Go.Proofs.Ytnkjnbfaechiaaa.Vm
