/-
A machine of values, eleventh part: aggregates that are built.
-/
import Derived.Test.YticelgnmcjkknaaVm10
set_option linter.unusedVariables false
set_option linter.unusedSimpArgs false
namespace Go.Proofs.Yticelgnmcjkknaa.Vm
open Go.RowKit (Below)
section
variable {P : Program} {tt : Nat → TI} {R : Type}

/-! ### a part is laid -/
def lay (cs : List Value) (o : Nat) (vs : List Value) : List Value := cs.take o ++ vs ++ cs.drop (o + vs.length)
theorem lay_len {cs vs : List Value} {o : Nat} (h : o + vs.length ≤ cs.length) : (lay cs o vs).length = cs.length := by
  unfold lay; rw [List.length_append, List.length_append, List.length_take, List.length_drop]; omega
theorem lay_get {cs vs : List Value} {o : Nat} (h : o + vs.length ≤ cs.length) (j : Nat) : (lay cs o vs)[j]? = if j < o then cs[j]? else if j < o + vs.length then vs[j - o]? else cs[j]? := by
  unfold lay
  have ht : (cs.take o).length = o := by rw [List.length_take]; omega
  by_cases h1 : j < o
  · rw [if_pos h1, List.append_assoc, List.getElem?_append_left (by omega), List.getElem?_take, if_pos h1]
  · rw [if_neg h1, List.append_assoc, List.getElem?_append_right (by omega), ht]
    by_cases h2 : j < o + vs.length
    · rw [if_pos h2, List.getElem?_append_left (by omega)]
    · rw [if_neg h2, List.getElem?_append_right (by omega), List.getElem?_drop]; congr 1; omega
theorem fold_lay (off : Nat) : ∀ (vs : List Value) (k : Nat) (cells : Array Value), off + k + vs.length ≤ cells.size →
    ((vs.zipIdx k).foldl (fun cs p => cs.setIfInBounds (off + p.2) p.1) cells).toList = lay cells.toList (off + k) vs
  | [], k, cells, _ => by simp [lay]
  | v :: vs, k, cells, h => by
    simp only [List.zipIdx_cons, List.foldl_cons]
    rw [fold_lay off vs (k + 1) _ (by simp; simp at h; omega)]
    have hlen : off + k + (v :: vs).length ≤ cells.toList.length := by simpa using h
    apply List.ext_getElem?
    intro j
    simp only [List.length_cons] at h
    rw [lay_get (by simp; omega), lay_get hlen]
    simp only [Array.toList_setIfInBounds, List.getElem?_set, List.length_cons]
    by_cases h1 : j < off + k
    · rw [if_pos (by omega), if_pos h1, if_neg (by omega)]
    · rw [if_neg h1]
      by_cases h2 : j = off + k
      · subst h2
        rw [if_pos (by omega), if_pos rfl, if_pos (by simp; omega), if_pos (by omega)]; simp
      · rw [if_neg (by omega)]
        by_cases h3 : j < off + (k + 1) + vs.length
        · rw [if_pos h3, if_pos (by omega), show j - (off + k) = (j - (off + (k + 1))) + 1 by omega]; rfl
        · rw [if_neg h3, if_neg (by omega), if_neg (by omega)]
theorem fill_one {place : Nat → Option (Nat × Nat)} {cells : Array Value} {i off size : Nat} {v : Value} {rest : List (Nat × Value)} (hp : place i = some (off, size)) (hs : v.cells.size = size) (ho : off + size ≤ cells.size) :
    ∃ cells' : Array Value, cells'.toList = lay cells.toList off v.cells.toList ∧ cells'.size = cells.size ∧ Instr.fill place cells ((i, v) :: rest) = Instr.fill place cells' rest := by
  refine ⟨(v.cells.zipIdx.foldl (fun cs (c, j) => cs.setIfInBounds (off + j) c) cells), ?_, ?_, ?_⟩
  · rw [← Array.foldl_toList, Array.toList_zipIdx]
    have := fold_lay off v.cells.toList 0 cells (by simp; omega)
    simpa using this
  · have h1 : (v.cells.zipIdx.foldl (fun cs (c, j) => cs.setIfInBounds (off + j) c) cells).toList = lay cells.toList off v.cells.toList := by
      rw [← Array.foldl_toList, Array.toList_zipIdx]
      have := fold_lay off v.cells.toList 0 cells (by simp; omega)
      simpa using this
    have h2 := congrArg List.length h1
    rw [lay_len (by simp; omega)] at h2
    simpa using h2
  · simp only [Instr.fill, hp]
    rw [if_neg (by simp; omega)]

/-! ### a field is set -/
def placeOf : Ty → Nat → Option (Nat × Ty)
  | .arr n t, j => if j < n then some (j * wd t, t) else none
  | t, j => fld t j
theorem setP_sound : ∀ (T : Ty) (x : T.D) (j : Nat) (v : V) (K : T.D → Option R) (r : R), setP T x j v K = some r →
    ∃ y o u, K y = some r ∧ fldP T j = some (o, u) ∧ o + wd u ≤ wd T ∧ ∀ g I rv cs, RelV g I v rv → Rd I T x cs → rv.cells.size = wd u ∧ Rd I T y (lay cs o rv.cells.toList) := by
  intro T
  induction T with
  | pair a b _ ihb =>
    intro x j v K r h
    obtain ⟨x1, x2⟩ := x
    cases j with
    | zero =>
      obtain ⟨y, h1, h2⟩ := asD_sound (by simpa [setP] using h)
      refine ⟨(y, x2), 0, a, h1, rfl, by rw [wd_pair]; omega, fun g I rv cs hv hr => ?_⟩
      have h3 := (h2 g I rv hv).cells
      have h4 := h3.len
      obtain ⟨ca, cb, rfl, h5, h6⟩ := hr.inv
      refine ⟨by simpa using h4, ?_⟩
      unfold lay
      rw [List.take_zero, List.nil_append, Nat.zero_add, h4, ← h5.len, List.drop_left]
      exact .pair _ _ _ _ _ _ h3 h6
    | succ j =>
      obtain ⟨y, o, u, h1, h2, h3, h4⟩ := ihb x2 j v _ r (by simpa [setP] using h)
      refine ⟨(x1, y), wd a + o, u, h1, by simp [fldP, h2], by rw [wd_pair]; omega, fun g I rv cs hv hr => ?_⟩
      obtain ⟨ca, cb, rfl, h5, h6⟩ := hr.inv
      obtain ⟨h7, h8⟩ := h4 g I rv cb hv h6
      refine ⟨h7, ?_⟩
      have e : lay (ca ++ cb) (wd a + o) rv.cells.toList = ca ++ lay cb o rv.cells.toList := by
        unfold lay
        rw [← h5.len, List.take_length_add_append, Nat.add_assoc, List.drop_length_add_append]; simp [List.append_assoc]
      rw [e]
      exact .pair _ _ _ _ _ _ h5 h8
  | _ => intro x j v K r h; simp [setP] at h
theorem setD_sound {T : Ty} {x : T.D} {j : Nat} {v : V} {K : T.D → Option R} {r : R} (h : setD T x j v K = some r) :
    ∃ y o u, K y = some r ∧ placeOf T j = some (o, u) ∧ o + wd u ≤ wd T ∧ ∀ g I rv cs, RelV g I v rv → Rd I T x cs → rv.cells.size = wd u ∧ Rd I T y (lay cs o rv.cells.toList) := by
  cases T with
  | rc i =>
    obtain ⟨y, o, u, h1, h2, h3, h4⟩ := setP_sound (rcTy i) (un i x) j v _ r (by simpa [setD] using h)
    refine ⟨ro i y, o, u, h1, h2, by rw [wd_rc]; exact h3, fun g I rv cs hv hr => ?_⟩
    obtain ⟨h5, h6⟩ := h4 g I rv cs hv hr.inv
    exact ⟨h5, .rc _ _ _ (by rw [un_ro]; exact h6)⟩
  | pair a b => exact setP_sound _ x j v K r (by simpa [setD] using h)
  | arr n t =>
    have h' : (if j < n then asD t v fun y => K ((show List t.D from x).set j y) else none) = some r := by simpa [setD] using h
    by_cases hj : j < n
    · rw [if_pos hj] at h'
      obtain ⟨y, h1, h2⟩ := asD_sound h'
      have hle : j * wd t + wd t ≤ n * wd t := by rw [← Nat.succ_mul]; exact Nat.mul_le_mul_right _ hj
      refine ⟨_, j * wd t, t, h1, by simp [placeOf, hj], by rw [wd_arr]; exact hle, fun g I rv cs hv hr => ?_⟩
      have h3 := (h2 g I rv hv).cells
      have h4 := h3.len
      refine ⟨by simpa using h4, ?_⟩
      obtain ⟨h5, css, rfl, h6, h7⟩ := hr.inv
      have hl : ∀ cs ∈ css, cs.length = wd t := by
        intro cs hcs
        obtain ⟨i, hi, rfl⟩ := List.getElem_of_mem hcs
        have hx : i < (show List t.D from x).length := by omega
        exact (h7 i _ _ (List.getElem?_eq_getElem hx) (List.getElem?_eq_getElem hi)).len
      have e : lay css.flatten (j * wd t) rv.cells.toList = (css.set j rv.cells.toList).flatten := by
        have hl2 : ∀ cs ∈ css.set j rv.cells.toList, cs.length = wd t := by
          intro cs hcs
          rcases List.mem_or_eq_of_mem_set hcs with h | h
          · exact hl cs h
          · rw [h, h4]
        have hflen := flatten_len css (wd t) hl
        apply List.ext_getElem?
        intro k
        rw [lay_get (by rw [h4, hflen, h6]; exact hle), h4]
        rcases Nat.eq_zero_or_pos (wd t) with hz | hz
        · rw [hz]; simp only [Nat.mul_zero, Nat.add_zero]
          rw [if_neg (by omega), if_neg (by omega), List.getElem?_eq_none (by rw [hflen, hz]; omega), List.getElem?_eq_none (by rw [flatten_len _ (wd t) hl2, hz]; omega)]
        · rcases Nat.lt_or_ge k (n * wd t) with hk | hk
          · have hkd : k / wd t < n := (Nat.div_lt_iff_lt_mul hz).2 hk
            have hk2 : k = (k / wd t) * wd t + k % wd t := by rw [Nat.mul_comm]; exact (Nat.div_add_mod k (wd t)).symm
            have hmod : k % wd t < wd t := Nat.mod_lt _ hz
            have hi : k / wd t < css.length := by omega
            have hi2 : k / wd t < (css.set j rv.cells.toList).length := by simpa using hi
            obtain ⟨v1, hv1⟩ : ∃ v, (css[k / wd t]'hi)[k % wd t]? = some v := ⟨_, List.getElem?_eq_getElem (by rw [hl _ (List.getElem_mem hi)]; exact hmod)⟩
            have e1 := flatten_at css (wd t) hl (k / wd t) (k % wd t) _ v1 (List.getElem?_eq_getElem hi) hv1
            rw [← hk2] at e1
            by_cases hjk : k / wd t = j
            · obtain ⟨v2, hv2⟩ : ∃ v, rv.cells.toList[k % wd t]? = some v := ⟨_, List.getElem?_eq_getElem (by rw [h4]; exact hmod)⟩
              have e2 := flatten_at (css.set j rv.cells.toList) (wd t) hl2 (k / wd t) (k % wd t) rv.cells.toList v2 (by rw [hjk, List.getElem?_set_self (by omega)]) hv2
              rw [← hk2] at e2
              rw [e2, if_neg (by rw [← hjk]; omega), if_pos (by rw [← hjk]; omega)]
              have : k - j * wd t = k % wd t := by rw [← hjk]; omega
              rw [this]; exact hv2
            · have e2 := flatten_at (css.set j rv.cells.toList) (wd t) hl2 (k / wd t) (k % wd t) _ v1 (by rw [List.getElem?_set_ne (by omega)]; exact List.getElem?_eq_getElem hi) hv1
              rw [← hk2] at e2
              rw [e2, e1]
              split
              · rfl
              · rename_i h8
                rw [if_neg]
                intro h9
                apply hjk
                have h10 : j * wd t ≤ k := by omega
                have h11 : k < (j + 1) * wd t := by rw [Nat.succ_mul]; omega
                exact Nat.le_antisymm (by have := (Nat.div_lt_iff_lt_mul hz).2 h11; omega) ((Nat.le_div_iff_mul_le hz).2 h10)
          · rw [if_neg (by omega), if_neg (by omega), List.getElem?_eq_none (by rw [hflen, h6]; exact hk), List.getElem?_eq_none (by rw [flatten_len _ (wd t) hl2]; simp; rw [h6]; exact hk)]
      rw [e]
      refine .arr _ _ _ _ (by rw [List.length_set]; exact h5) (by rw [List.length_set]; exact h6) fun i z cs hz hcs => ?_
      by_cases hij : i = j
      · subst hij
        have hjx : i < (show List t.D from x).length := by omega
        rw [List.getElem?_set_self hjx] at hz
        rw [List.getElem?_set_self (by omega)] at hcs
        simp only [Option.some.injEq] at hz hcs
        subst hz; subst hcs; exact h3
      · rw [List.getElem?_set_ne (by omega)] at hz hcs
        exact h7 i z cs hz hcs
    · rw [if_neg hj] at h'; cases h'
  | _ => simp [setD] at h
def PartsRel (g : Gh) (I : Addr → Value → Prop) : List (Nat × V) → List (Nat × Value) → Prop
  | [], [] => True
  | p :: ps, q :: qs => p.1 = q.1 ∧ RelV g I p.2 q.2 ∧ PartsRel g I ps qs
  | _, _ => False
theorem setAll_sound {T : Ty} : ∀ (ps : List (Nat × V)) (x : T.D) (K : T.D → Option R) (r : R), setAll T ps x K = some r →
    ∃ y, K y = some r ∧ ∀ g I qs (place : Nat → Option (Nat × Nat)) (cells : Array Value), PartsRel g I ps qs → (∀ j o u, placeOf T j = some (o, u) → place j = some (o, wd u)) → Rd I T x cells.toList →
      ∃ cells' : Array Value, Instr.fill place cells qs = some cells' ∧ Rd I T y cells'.toList
  | [], x, K, r, h => ⟨x, h, fun g I qs place cells hq _ hr => by cases qs with | nil => exact ⟨cells, rfl, hr⟩ | cons q qs => exact hq.elim⟩
  | (j, v) :: ps, x, K, r, h => by
    obtain ⟨y, o, u, h1, h2, h3, h4⟩ := setD_sound (T := T) (x := x) (j := j) (v := v) h
    obtain ⟨z, h5, h6⟩ := setAll_sound ps y K r h1
    refine ⟨z, h5, fun g I qs place cells hq hp hr => ?_⟩
    cases qs with
    | nil => exact hq.elim
    | cons q qs =>
      obtain ⟨q1, q2⟩ := q
      obtain ⟨e, hq2, hq3⟩ := hq
      simp only at e hq2; subst e
      obtain ⟨h7, h8⟩ := h4 g I q2 cells.toList hq2 hr
      have hlen := hr.len
      obtain ⟨cells', h9, h10, h11⟩ := fill_one (place := place) (cells := cells) (rest := qs) (hp _ _ _ h2) h7 (by simp at hlen; omega)
      rw [h11]
      exact h6 g I qs place cells' hq3 hp (by rw [h9]; exact h8)
end
end Go.Proofs.Yticelgnmcjkknaa.Vm
