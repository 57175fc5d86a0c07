/-
A machine of values, part thirty-seven: a check of the table of types; callees and hints by lists.
-/
import Derived.Test.YticelgnmcjkknaaVm36
set_option linter.unusedVariables false
set_option linter.unusedSimpArgs false
namespace Go.Proofs.Yticelgnmcjkknaa.Vm
section
variable {P : Program}

theorem zcG_rd {I : Addr → Value → Prop} {r : Nat → List Value} {r' : (i : Nat) → Sx i} : ∀ t, (noRc t = true ∨ ∀ i, Rd I (.rc i) (r' i) (r i)) → Rd I t (zeroG r' t) (zcG r t) := by
  intro t
  induction t with
  | int k => intro _; exact .int k 0
  | bool => intro _; exact .bool false
  | str => intro _; exact .str ByteArray.empty
  | slice t _ => intro _; exact rd_nil I t none 0
  | unit => intro _; exact .unit ()
  | pair a b iha ihb =>
    intro h
    exact .pair _ _ _ _ _ _ (iha (h.imp (fun h => by simp [noRc] at h; exact h.1) id)) (ihb (h.imp (fun h => by simp [noRc] at h; exact h.2) id))
  | arr n t ih =>
    intro h
    have h1 := ih (h.imp (fun h => by simpa [noRc] using h) id)
    show Rd I (.arr n t) (List.replicate n (zeroG r' t)) (List.replicate n (zcG r t)).flatten
    refine .arr n t _ _ (List.length_replicate ..) (List.length_replicate ..) fun i x cs hx hcs => ?_
    have hx' : x = zeroG r' t := by
      rw [List.getElem?_replicate] at hx; split at hx <;> simp at hx; exact hx.symm
    have hc' : cs = zcG r t := by
      rw [List.getElem?_replicate] at hcs; split at hcs <;> simp at hcs; exact hcs.symm
    rw [hx', hc']; exact h1
  | rc i =>
    intro h
    rcases h with h | h
    · simp [noRc] at h
    · exact h i
theorem un_zero : ∀ i, un i (zeroRc i) = zeroG zeroRc (rcTy i)
  | 0 => rfl
  | _ + 1 => rfl
theorem zeroG_noRc {r r' : (i : Nat) → Sx i} : ∀ t, noRc t = true → zeroG r t = zeroG r' t := by
  intro t
  induction t with
  | pair a b iha ihb => intro h; simp [noRc] at h; show (zeroG r a, zeroG r b) = (zeroG r' a, zeroG r' b); rw [iha h.1, ihb h.2]
  | arr n t ih => intro h; simp [noRc] at h; show List.replicate n (zeroG r t) = List.replicate n (zeroG r' t); rw [ih h]
  | rc i => intro h; simp [noRc] at h
  | _ => intro _; rfl
theorem zcells_rd (I : Addr → Value → Prop) (t : Ty) : Rd I t (zeroD t) (zcells t) :=
  zcG_rd t (.inr fun i => .rc i _ _ (by rw [un_zero]; exact zcG_rd (rcTy i) (.inl (noRc_rc i))))

/-! ### equal values -/
def vEq : Value → Value → Bool
  | .int k n, .int k' n' => decide (k = k') && decide (n = n')
  | .bool a, .bool b => a == b
  | .string a, .string b => a.size == 0 && b.size == 0
  | .slice none 0 0, .slice none 0 0 => true
  | _, _ => false
theorem ba_empty {a : ByteArray} (h : a.size = 0) : a = ByteArray.empty := by
  obtain ⟨⟨l⟩⟩ := a
  have : l.length = 0 := h
  rw [List.length_eq_zero_iff] at this
  subst this; rfl
theorem vEq_eq : ∀ a b : Value, vEq a b = true → a = b := by
  intro a b h
  unfold vEq at h
  split at h
  · simp only [Bool.and_eq_true, decide_eq_true_eq] at h; rw [h.1, h.2]
  · rw [beq_iff_eq] at h; rw [h]
  · simp only [Bool.and_eq_true, beq_iff_eq] at h; rw [ba_empty h.1, ba_empty h.2]
  · rfl
  · cases h
def vsEq : List Value → List Value → Bool
  | [], [] => true
  | a :: as, b :: bs => vEq a b && vsEq as bs
  | _, _ => false
theorem vsEq_eq : ∀ as bs : List Value, vsEq as bs = true → as = bs
  | [], [], _ => rfl
  | [], b :: bs, h => by simp [vsEq] at h
  | a :: as, [], h => by simp [vsEq] at h
  | a :: as, b :: bs, h => by
    simp only [vsEq, Bool.and_eq_true] at h
    rw [vEq_eq a b h.1, vsEq_eq as bs h.2]
/-- A value of the evaluator against one of the model: zeros. -/
def zvB : V → Value → Bool
  | .dat (.int k) n, .int k' n' => decide (k = k') && decide ((show Int from n) = n')
  | .dat .bool a, .bool b => (show Bool from a) == b
  | .dat .str a, .string b => (show ByteArray from a).size == 0 && b.size == 0
  | .row _ [] .none, .slice none 0 0 => true
  | .nils, .slice none 0 0 => true
  | .nilp, .pointer none => true
  | .nilf, .nilFunc => true
  | .nilm, .map none => true
  | _, _ => false
theorem zvB_rel {g : Gh} {I : Addr → Value → Prop} : ∀ (v : V) (rv : Value), zvB v rv = true → RelV g I v rv ∧ rv.oneCell' = true := by
  intro v rv h
  unfold zvB at h
  split at h
  · rename_i k n k' n'
    simp only [Bool.and_eq_true, decide_eq_true_eq] at h
    obtain ⟨rfl, h2⟩ := h
    have h2 : n = n' := h2
    subst h2
    exact ⟨.leaf (.int k) n _ rfl (.int k n), rfl⟩
  · rename_i a b
    rw [beq_iff_eq] at h
    have h : a = b := h
    subst h
    exact ⟨.leaf .bool a _ rfl (.bool a), rfl⟩
  · rename_i a b
    simp only [Bool.and_eq_true, beq_iff_eq] at h
    have h1 : a = ByteArray.empty := ba_empty h.1
    rw [h1, ba_empty h.2]
    exact ⟨.leaf .str _ _ rfl (.str _), rfl⟩
  · exact ⟨.row _ _ _ _ _ _ (rd_nil _ _ _ _) trivial, rfl⟩
  · exact ⟨.nils, rfl⟩
  · exact ⟨.nilp, rfl⟩
  · exact ⟨.nilf, rfl⟩
  · exact ⟨.nilm, rfl⟩
  · cases h
def zvsB : List V → List Value → Bool
  | [], [] => true
  | a :: as, b :: bs => zvB a b && zvsB as bs
  | _, _ => false
theorem zvsB_rel {g : Gh} {I : Addr → Value → Prop} : ∀ (vs : List V) (rs : List Value), zvsB vs rs = true → RelL g I vs rs ∧ ∀ r ∈ rs, r.oneCell' = true
  | [], [], _ => ⟨⟨rfl, fun i v rv hv => by simp at hv⟩, fun r hr => by simp at hr⟩
  | [], b :: bs, h => by simp [zvsB] at h
  | a :: as, [], h => by simp [zvsB] at h
  | a :: as, b :: bs, h => by
    simp only [zvsB, Bool.and_eq_true] at h
    obtain ⟨h1, h2⟩ := zvB_rel (g := g) (I := I) a b h.1
    obtain ⟨h3, h4⟩ := zvsB_rel (g := g) (I := I) as bs h.2
    refine ⟨RelL.cons h1 h3, fun r hr => ?_⟩
    rcases List.mem_cons.1 hr with rfl | hr
    · exact h2
    · exact h4 r hr

/-! ### one type -/
def isDatB (tt : Nat → TI) (e : Nat) (T : Ty) : Bool := match tt e with
  | .dat T' _ => decide (T' = T)
  | _ => false
theorem isDatB_some {tt : Nat → TI} {e : Nat} {T : Ty} (h : isDatB tt e T = true) : ∃ b, tt e = .dat T b := by
  unfold isDatB at h
  split at h
  · rename_i T' b he; rw [decide_eq_true_eq] at h; subst h; exact ⟨b, he⟩
  · cases h
def fldsP : Ty → Nat → List (Nat × Ty)
  | .pair a b, o => (o, a) :: fldsP b (o + wd a)
  | _, _ => []
def flds : Ty → List (Nat × Ty)
  | .rc i => fldsP (rcTy i) 0
  | t => fldsP t 0
theorem fldsP_get : ∀ (t : Ty) (o j : Nat), (fldsP t o)[j]? = (fldP t j).map fun (p, u) => (o + p, u) := by
  intro t
  induction t with
  | pair a b _ ihb =>
    intro o j
    cases j with
    | zero => rfl
    | succ j =>
      show (fldsP b (o + wd a))[j]? = ((fldP b j).map _).map _
      rw [ihb, Option.map_map]
      congr 1
      funext x
      obtain ⟨p, u⟩ := x
      show (o + wd a + p, u) = (o + (wd a + p), u)
      rw [Nat.add_assoc]
  | _ => intro o j; simp [fldsP, fldP]
theorem flds_get (t : Ty) (j : Nat) : (flds t)[j]? = fld t j := by
  have : ∀ t, (fldsP t 0)[j]? = fldP t j := fun t => by
    rw [fldsP_get]
    cases fldP t j with
    | none => rfl
    | some x => obtain ⟨p, u⟩ := x; simp
  cases t <;> first | exact this _
def fieldsB (tt : Nat → TI) : List (Nat × Ty) → List Field → Bool
  | [], [] => true
  | (o, u) :: l, f :: fs => (f.offset == o) && isDatB tt f.type u && (f.name != "_") && fieldsB tt l fs
  | _, _ => false
theorem fieldsB_ok {tt : Nat → TI} : ∀ (l : List (Nat × Ty)) (fs : List Field), fieldsB tt l fs = true → l.length = fs.length ∧ ∀ (j o : Nat) (u : Ty), l[j]? = some (o, u) → ∃ f b, fs[j]? = some f ∧ f.offset = o ∧ tt f.type = .dat u b ∧ f.name ≠ "_"
  | [], [], _ => ⟨rfl, fun j o u h => by simp at h⟩
  | [], f :: fs, h => by simp [fieldsB] at h
  | x :: l, [], h => by simp [fieldsB] at h
  | (o, u) :: l, f :: fs, h => by
    simp only [fieldsB, Bool.and_eq_true, beq_iff_eq, bne_iff_ne] at h
    obtain ⟨⟨⟨h1, h2⟩, h3⟩, h4⟩ := h
    obtain ⟨h5, h6⟩ := fieldsB_ok l fs h4
    refine ⟨by simp [h5], fun j o' u' hj => ?_⟩
    cases j with
    | zero =>
      simp at hj
      obtain ⟨rfl, rfl⟩ := hj
      obtain ⟨b, h7⟩ := isDatB_some h2
      exact ⟨f, b, rfl, h1, h7, h3⟩
    | succ j => simpa using h6 j o' u' (by simpa using hj)
def isStruct : Ty → Bool
  | .pair _ _ | .unit | .rc _ => true
  | _ => false
def uB (P : Program) (tt : Nat → TI) (T : Ty) (eb : Nat) (d : Option TypeDesc) : Bool := match T, d with
  | .int k, some (.int k') => decide (k = k')
  | .bool, some .bool => true
  | .str, some .string => true
  | .slice T, some (.slice e) => isDatB tt e T && (match P.info? e with | some i => i.bytes == eb | none => false)
  | .arr n T, some (.array n' e) => (n == n') && isDatB tt e T
  | T, some (.struct fs) => isStruct T && fieldsB tt (flds T) fs.toList
  | _, _ => false
theorem fields_ok {tt : Nat → TI} {T : Ty} {fs : Array Field} (h : fieldsB tt (flds T) fs.toList = true) : FieldsOk tt T fs := by
  obtain ⟨h1, h2⟩ := fieldsB_ok _ _ h
  intro j
  refine ⟨fun o u hj => ?_, fun hj => ?_⟩
  · rw [← flds_get] at hj
    obtain ⟨f, b, h3, h4⟩ := h2 j o u hj
    exact ⟨f, b, by simpa using h3, h4⟩
  · rw [← flds_get] at hj
    have : (flds T).length ≤ j := by simpa using hj
    rw [h1] at this
    exact Array.getElem?_eq_none (by simpa using this)
theorem uB_ok {tt : Nat → TI} {T : Ty} {eb : Nat} {d : Option TypeDesc} (h : uB P tt T eb d = true) : UOk P tt T eb d := by
  cases T with
  | int k => cases d with
    | none => simp [uB] at h
    | some d => cases d <;> simp [uB, isStruct] at h; subst h; rfl
  | bool => cases d with
    | none => simp [uB] at h
    | some d => cases d <;> simp [uB, isStruct] at h; rfl
  | str => cases d with
    | none => simp [uB] at h
    | some d => cases d <;> simp [uB, isStruct] at h; rfl
  | slice T => cases d with
    | none => simp [uB] at h
    | some d =>
      cases d <;> simp only [uB, isStruct, Bool.false_and, Bool.false_eq_true, Bool.and_eq_true] at h
      rename_i e
      obtain ⟨b, h1⟩ := isDatB_some h.1
      have h2 := h.2
      split at h2
      · rename_i i hi; exact ⟨e, b, i, rfl, h1, hi, by simpa using h2⟩
      · cases h2
  | arr n T => cases d with
    | none => simp [uB] at h
    | some d =>
      cases d <;> simp only [uB, isStruct, Bool.false_and, Bool.false_eq_true, Bool.and_eq_true, beq_iff_eq] at h
      obtain ⟨rfl, h2⟩ := h
      obtain ⟨b, h1⟩ := isDatB_some h2
      exact ⟨_, b, rfl, h1⟩
  | pair a b => cases d with
    | none => simp [uB] at h
    | some d =>
      cases d <;> simp only [uB, Bool.false_eq_true, Bool.and_eq_true] at h
      exact ⟨_, rfl, fields_ok h.2⟩
  | unit => cases d with
    | none => simp [uB] at h
    | some d =>
      cases d <;> simp only [uB, Bool.false_eq_true, Bool.and_eq_true] at h
      exact ⟨_, rfl, fields_ok h.2⟩
  | rc i => cases d with
    | none => simp [uB] at h
    | some d =>
      cases d <;> simp only [uB, Bool.false_eq_true, Bool.and_eq_true] at h
      exact ⟨_, rfl, fields_ok h.2⟩
end
end Go.Proofs.Yticelgnmcjkknaa.Vm
