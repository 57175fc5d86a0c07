/-
A machine of values, part thirty-eight: the table of types by a check; callees and hints by lists.
-/
import Derived.Test.YticelgnmcjkknaaVm37
set_option linter.unusedVariables false
set_option linter.unusedSimpArgs false
namespace Go.Proofs.Yticelgnmcjkknaa.Vm
section
variable {P : Program}

def datB (P : Program) (tt : Nat → TI) (t : Nat) (T : Ty) (b : Nat) : Bool :=
  (match P.info? t with
    | some i => (i.size == wd T) && (match i.zero with
      | some z => if aggT T then (match z with | .agg cs => vsEq (zcells T) cs.toList | _ => false) else (match zcells T with | [c] => vEq c z | _ => false)
      | none => false)
    | none => false) && uB P tt T b (P.underlying t) && (!(eqTy T && aggT T) || (!P.eqGuardType P.depth t && !P.stoodInHeld t))
theorem datB_ok {tt : Nat → TI} {t : Nat} {T : Ty} {b : Nat} (h : datB P tt t T b = true) : TOk P tt t (.dat T b) := by
  unfold datB at h
  simp only [Bool.and_eq_true] at h
  obtain ⟨⟨h1, h2⟩, h3⟩ := h
  refine ⟨?_, uB_ok h2, fun he ha => ?_, fun i z hi hz => ?_⟩
  · split at h1
    · rename_i i hi
      simp only [Bool.and_eq_true, beq_iff_eq] at h1
      obtain ⟨h4, h5⟩ := h1
      split at h5
      · rename_i z hz
        refine ⟨i, z, hi, h4, hz, fun I => ?_⟩
        split at h5
        · rename_i ha
          split at h5
          · rename_i cs
            have := vsEq_eq _ _ h5
            refine .inl ⟨ha, cs.toList, rfl, ?_⟩
            rw [← this]; exact zcells_rd I T
          · cases h5
        · rename_i ha
          split at h5
          · rename_i c hc
            have := vEq_eq _ _ h5
            refine .inr ⟨by simpa using ha, ?_⟩
            rw [← this, ← hc]; exact zcells_rd I T
          · cases h5
      · cases h5
    · cases h1
  · simp [he, ha] at h3
    exact h3
  · rw [hi] at h1
    simp only [hz, Bool.and_eq_true] at h1
    obtain ⟨_, h5⟩ := h1
    split at h5
    · split at h5
      · rename_i cs; exact (vsEq_eq _ _ h5).symm
      · cases h5
    · rename_i ha
      split at h5
      · rename_i c hc
        have := vEq_eq _ _ h5
        rw [hc, this]
        have h6 := zcells_rd (fun _ _ => False) T
        rw [hc] at h6
        have h7 := h6.one c (by simp)
        rw [this] at h7
        cases z <;> first | rfl | (simp [Value.oneCell'] at h7)
      · cases h5
def mixFs (tt : Nat → TI) (w : Nat) : List Field → List (Nat × Nat) → Bool
  | [], [] => true
  | f :: fs, (o, t) :: l => (f.offset == o) && (f.type == t) && tiOk (tt t) && decide (o + wTI (tt t) ≤ w) && mixFs tt w fs l
  | _, _ => false
theorem mixFs_ok {tt : Nat → TI} {w : Nat} : ∀ (fs : List Field) (l : List (Nat × Nat)), mixFs tt w fs l = true → fs.length = l.length ∧ ∀ (j : Nat) (f : Field), fs[j]? = some f → l[j]? = some (f.offset, f.type) ∧ tt f.type ≠ .none ∧ f.offset + wTI (tt f.type) ≤ w
  | [], [], _ => ⟨rfl, fun j f h => by simp at h⟩
  | [], x :: l, h => by simp [mixFs] at h
  | f :: fs, [], h => by simp [mixFs] at h
  | f :: fs, (o, t) :: l, h => by
    simp only [mixFs, Bool.and_eq_true, beq_iff_eq, decide_eq_true_eq] at h
    obtain ⟨⟨⟨⟨rfl, rfl⟩, h3⟩, h4⟩, h5⟩ := h
    obtain ⟨h6, h7⟩ := mixFs_ok fs l h5
    refine ⟨by simp [h6], fun j f' hj => ?_⟩
    cases j with
    | zero => simp at hj; subst hj; exact ⟨rfl, fun e => by rw [e] at h3; simp [tiOk] at h3, h4⟩
    | succ j => simpa using h7 j f' (by simpa using hj)
def refZ (k : Nat) (z : Value) : Bool := if k = 0 then (match z with | .pointer none => true | _ => false) else (match z with | .nilFunc => true | _ => false)
theorem refZ_eq {k : Nat} {z : Value} (h : refZ k z = true) : z = if k = 0 then .pointer none else .nilFunc := by
  unfold refZ at h
  split at h
  · rename_i hk; rw [if_pos hk]; split at h <;> first | rfl | cases h
  · rename_i hk; rw [if_neg hk]; split at h <;> first | rfl | cases h
def refD (k : Nat) (d : Option TypeDesc) : Bool := if k = 0 then (match d with | some (.pointer _) => true | _ => false) else (match d with | some (.func _ _ _) => true | _ => false)
theorem refD_ok {k : Nat} {d : Option TypeDesc} (h : refD k d = true) : ∃ e, d = some e ∧ plainDesc e = true ∧ (k = 0 → ∃ x, e = .pointer x) ∧ (k ≠ 0 → ∃ a b c, e = .func a b c) := by
  unfold refD at h
  split at h
  · rename_i hk; split at h <;> first | exact ⟨_, rfl, rfl, fun _ => ⟨_, rfl⟩, fun h => absurd hk h⟩ | cases h
  · rename_i hk; split at h <;> first | exact ⟨_, rfl, rfl, fun h => absurd h hk, fun _ => ⟨_, _, _, rfl⟩⟩ | cases h
def tokB (P : Program) (tt : Nat → TI) (t : Nat) : TI → Bool
  | .dat T b => datB P tt t T b
  | .ref k => (match P.info? t with
    | some i => (i.size == 1) && (match i.zero with
      | some z => refZ k z
      | none => false)
    | none => false) && refD k (P.underlying t)
  | .map kt vt => (match P.info? t with
    | some i => (i.size == 1) && (match i.zero with
      | some (.map none) => true
      | _ => false)
    | none => false) && (match P.underlying t with | some (.map k v) => isDatB tt k kt && isDatB tt v vt | _ => false)
  | .mix w fs => (match P.info? t with
    | some i => (i.size == w) && (match i.zero with
      | some (.agg cs) => zvsB (zeroTI tt 3 (.mix w fs)) cs.toList && (cs.size == w)
      | _ => false)
    | none => false) && (match P.underlying t with | some (.struct fd) => mixFs tt w fd.toList fs | _ => false)
  | .none => true
theorem tokB_ok {tt : Nat → TI} {t : Nat} {ti : TI} (h : tokB P tt t ti = true) : TOk P tt t ti := by
  cases ti with
  | dat T b => exact datB_ok h
  | none => trivial
  | ref k =>
    simp only [tokB, Bool.and_eq_true] at h
    obtain ⟨h1, h2⟩ := h
    split at h1
    · rename_i i hi
      simp only [Bool.and_eq_true, beq_iff_eq] at h1
      obtain ⟨h3, h4⟩ := h1
      split at h4
      · rename_i z hz
        obtain ⟨e, k1, k2, k3, k4⟩ := refD_ok h2
        exact ⟨⟨i, hi, h3, by rw [hz, refZ_eq h4]⟩, e, k1, k2, k3, k4⟩
      · cases h4
    · cases h1
  | map kt vt =>
    simp only [tokB, Bool.and_eq_true] at h
    obtain ⟨h1, h2⟩ := h
    split at h1
    · rename_i i hi
      simp only [Bool.and_eq_true, beq_iff_eq] at h1
      obtain ⟨h3, h4⟩ := h1
      split at h4
      · rename_i hz
        split at h2
        · rename_i k v hu
          simp only [Bool.and_eq_true] at h2
          obtain ⟨b1, h5⟩ := isDatB_some h2.1
          obtain ⟨b2, h6⟩ := isDatB_some h2.2
          exact ⟨⟨i, hi, h3, hz⟩, k, v, b1, b2, hu, h5, h6⟩
        · cases h2
      · cases h4
    · cases h1
  | mix w fs =>
    simp only [tokB, Bool.and_eq_true] at h
    obtain ⟨h1, h2⟩ := h
    split at h1
    · rename_i i hi
      simp only [Bool.and_eq_true, beq_iff_eq] at h1
      obtain ⟨h3, h4⟩ := h1
      split at h4
      · rename_i cs hz
        simp only [Bool.and_eq_true, beq_iff_eq] at h4
        split at h2
        · rename_i fd hu
          obtain ⟨h5, h6⟩ := mixFs_ok _ _ h2
          refine ⟨⟨i, .agg cs, hi, h3, hz, fun g I => ⟨?_, by simpa [Value.cells] using h4.2⟩⟩, fd, hu, by simpa using h5, fun j f hj => h6 j f (by simpa using hj)⟩
          obtain ⟨h7, h8⟩ := zvsB_rel (g := g) (I := I) _ _ h4.1
          have : cs = cs.toList.toArray := by simp
          rw [this]
          exact .mix _ _ h7.1 h7.2 fun i rv hr => h8 rv (List.mem_of_getElem? hr)
        · cases h2
      · cases h4
    · cases h1
/-- A table of types by a list. -/
def mkT (l : List (Nat × TI)) (t : Nat) : TI := match l.find? fun p => p.1 == t with
  | some p => p.2
  | none => .none
theorem mkT_ok {l : List (Nat × TI)} (h : (l.all fun p => tokB P (mkT l) p.1 p.2) = true) : TtOk P (mkT l) := by
  intro t
  cases hf : l.find? fun p => p.1 == t with
  | none => have : mkT l t = .none := by unfold mkT; rw [hf]
            rw [this]; trivial
  | some p =>
    have : mkT l t = p.2 := by unfold mkT; rw [hf]
    rw [this]
    have h1 := List.mem_of_find?_eq_some hf
    have h2 := List.find?_some hf
    rw [beq_iff_eq] at h2
    subst h2
    exact tokB_ok (List.all_eq_true.1 h p h1)

/-! ### callees, hints -/
def mkC : List (Nat × Fun) → Nat → Fun
  | [], _ => Fun.none
  | p :: l, f => cond (p.1 == f) p.2 (mkC l f)
theorem none_ok (f : Nat) : SoundFn P f Fun.none := fun R args σ K r h => by cases h
theorem mkC_ok : ∀ {l : List (Nat × Fun)}, (∀ p ∈ l, SoundFn P p.1 p.2) → ∀ f, SoundFn P f (mkC l f)
  | [], _, f => none_ok f
  | p :: l, h, f => by
    unfold mkC
    cases hp : p.1 == f with
    | true => rw [beq_iff_eq] at hp; subst hp; exact h p (List.mem_cons_self ..)
    | false => exact mkC_ok (fun q hq => h q (List.mem_cons_of_mem _ hq)) f
def noH : Nat → Option Cut := fun _ => none
def addH (H : Nat → Option Cut) (p : Nat) (S : Cut) : Nat → Option Cut := fun q => cond (p == q) (some S) (H q)
theorem noH_ok {c0 : Code} : ∀ p S, noH p = some S → ∀ c, At c0 p c → CutOk P c S := fun p S h => by cases h
theorem addH_ok {c0 : Code} {H : Nat → Option Cut} {p : Nat} {S : Cut} (hH : ∀ p S, H p = some S → ∀ c, At c0 p c → CutOk P c S) (h : ∀ c, At c0 p c → CutOk P c S) : ∀ q T, addH H p S q = some T → ∀ c, At c0 q c → CutOk P c T := by
  intro q T hq c hc
  unfold addH at hq
  cases hp : p == q with
  | true =>
    rw [hp] at hq
    rw [beq_iff_eq] at hp; subst hp
    obtain rfl := Option.some.inj hq
    exact h c hc
  | false => rw [hp] at hq; exact hH q T hq c hc
end
end Go.Proofs.Yticelgnmcjkknaa.Vm
