/-
A machine of values, fourth part: data taken apart and put together, against the model's values.
-/
import Derived.Test.YticelgnmcjkknaaVm3
set_option linter.unusedVariables false
set_option linter.unusedSimpArgs false
namespace Go.Proofs.Yticelgnmcjkknaa.Vm

/-- A value that holds such data. -/
def RelVal (I : Addr → Value → Prop) (t : Ty) (x : t.D) (v : Value) : Prop := (aggT t = true ∧ ∃ cs : List Value, v = .agg cs.toArray ∧ Rd I t x cs) ∨ (aggT t = false ∧ Rd I t x [v])
theorem RelVal.mono {I J : Addr → Value → Prop} (h : ∀ a v, I a v → J a v) {t : Ty} {x : t.D} {v : Value} (hv : RelVal I t x v) : RelVal J t x v := by
  rcases hv with ⟨h1, cs, h2, h3⟩ | ⟨h1, h2⟩
  · exact .inl ⟨h1, cs, h2, h3.mono h⟩
  · exact .inr ⟨h1, h2.mono h⟩
theorem Rd.one {I : Addr → Value → Prop} {t : Ty} {x : t.D} {cs : List Value} (h : Rd I t x cs) : ∀ v ∈ cs, v.oneCell' = true := by
  induction h with
  | int => simp [Value.oneCell']
  | bool => simp [Value.oneCell']
  | str => simp [Value.oneCell']
  | unit => simp
  | pair a b x y cs ds _ _ h1 h2 => intro v hv; rcases List.mem_append.1 hv with h | h; exact h1 v h; exact h2 v h
  | arr n t xs css h1 h2 _ ih =>
    intro v hv
    obtain ⟨cs, hcs, hv⟩ := List.mem_flatten.1 hv
    obtain ⟨i, hi, rfl⟩ := List.getElem_of_mem hcs
    have hx : i < xs.length := by omega
    exact ih i xs[i] _ (List.getElem?_eq_getElem hx) (List.getElem?_eq_getElem hi) v hv
  | rc i x cs _ ih => exact ih
  | slice => simp [Value.oneCell']
theorem RelVal.cells {I : Addr → Value → Prop} {t : Ty} {x : t.D} {v : Value} (h : RelVal I t x v) : Rd I t x v.cells.toList := by
  rcases h with ⟨_, cs, rfl, h⟩ | ⟨_, h⟩
  · simpa [Value.cells] using h
  · have := h.one v (by simp)
    cases v <;> first | (simpa [Value.cells] using h) | (simp [Value.oneCell'] at this)
theorem relV_dv {g : Gh} {I : Addr → Value → Prop} {t : Ty} {x : t.D} {v : Value} (h : RelVal I t x v) : RelV g I (dv t x) v := by
  rcases h with ⟨h1, cs, rfl, h3⟩ | ⟨h1, h2⟩
  · cases t <;> simp [aggT] at h1 <;> exact .agg _ _ _ rfl h3
  · cases t <;> simp [aggT] at h1
    case slice t =>
      obtain ⟨A, c, f, h3, _⟩ := h2.inv
      obtain rfl : v = .slice A _ c := by simpa using h3
      exact .row _ _ _ _ _ _ h2 trivial
    all_goals exact .leaf _ _ _ rfl h2
theorem relVal_dat {g : Gh} {I : Addr → Value → Prop} {t : Ty} {x : t.D} {v : Value} (h : RelV g I (.dat t x) v) : RelVal I t x v := by
  cases h with
  | agg _ _ cs h1 h2 => exact .inl ⟨h1, cs, rfl, h2⟩
  | leaf _ _ _ h1 h2 => exact .inr ⟨h1, h2⟩
theorem relVal_row {g : Gh} {I : Addr → Value → Prop} {t : Ty} {xs : List t.D} {tag : Tag} {v : Value} (h : RelV g I (.row t xs tag) v) : RelVal I (.slice t) xs v := by
  cases h with
  | row _ _ _ A n c h1 h2 => exact .inr ⟨rfl, h1⟩
theorem relVal_of_dv {g : Gh} {I : Addr → Value → Prop} {t : Ty} {x : t.D} {v : Value} (h : RelV g I (dv t x) v) : RelVal I t x v := by
  cases t <;> first | exact relVal_row h | exact relVal_dat h
theorem rd_nil (I : Addr → Value → Prop) (t : Ty) (A : Option Addr) (c : Nat) (hc : A = none → c = 0 := by intro _; rfl) : Rd I (.slice t) [] [.slice A 0 c] :=
  Rd.slice t [] A c (fun _ => []) (Nat.zero_le _) (fun h => absurd rfl h) (fun i x h => by simp at h) (fun ad i j v _ h => absurd h (Nat.not_lt_zero _)) hc
def NilC : (t : Ty) → t.D → List Value → Prop
  | .slice t, xs, cs => ∀ n c, cs = [.slice none n c] → n = 0 ∧ c = 0 ∧ (show List t.D from xs) = []
  | _, _, _ => True
theorem Rd.nilc0 {I : Addr → Value → Prop} {t : Ty} {x : t.D} {cs : List Value} (h : Rd I t x cs) : NilC t x cs := by
  cases h with
  | slice t xs A c f h1 h2 h3 h4 h5 =>
    intro n c' he
    simp only [List.cons.injEq, Value.slice.injEq, and_true] at he
    obtain ⟨rfl, rfl, rfl⟩ := he
    have hc := h5 rfl
    have hx : xs = [] := by
      have : xs.length = 0 := by omega
      exact List.length_eq_zero_iff.1 this
    exact ⟨by simp [hx], hc, hx⟩
  | _ => trivial
theorem Rd.nilc {I : Addr → Value → Prop} {t : Ty} {xs : List t.D} {n c : Nat} (h : Rd I (.slice t) xs [.slice none n c]) : n = 0 ∧ c = 0 ∧ xs = [] := h.nilc0 n c rfl

/-! ### out of a value -/
theorem asD0_sound {R : Type} {t : Ty} {v : V} {K : t.D → Option R} {r : R} (h : asD0 t v K = some r) : ∃ x, K x = some r ∧ ∀ g I rv, RelV g I v rv → RelVal I t x rv := by
  unfold asD0 at h
  split at h
  · rename_i u x
    split at h
    · rename_i e; subst e; exact ⟨x, h, fun g I rv hv => relVal_dat hv⟩
    · cases h
  · rename_i u xs tag
    split at h
    · rename_i t' K'
      split at h
      · rename_i e; subst e; exact ⟨xs, h, fun g I rv hv => relVal_row hv⟩
      · cases h
    · cases h
  · split at h
    · rename_i t' K'
      exact ⟨[], h, fun g I rv hv => by cases hv; exact .inr ⟨rfl, rd_nil _ _ _ _⟩⟩
    · cases h
  · cases h
/-- Cells, one for one. -/
def RelCs (g : Gh) (I : Addr → Value → Prop) (cs : List V) (rcs : List Value) : Prop := ∀ (j : Nat) (v : V), cs[j]? = some v → ∃ rv, rcs[j]? = some rv ∧ RelV g I v rv
theorem RelCs.drop {g : Gh} {I : Addr → Value → Prop} {cs : List V} {rcs : List Value} (h : RelCs g I cs rcs) (n : Nat) : RelCs g I (cs.drop n) (rcs.drop n) := by
  intro j v hj
  rw [List.getElem?_drop] at hj ⊢
  exact h _ v hj
theorem RelCs.tail {g : Gh} {I : Addr → Value → Prop} {c : V} {cs : List V} {rcs : List Value} (h : RelCs g I (c :: cs) rcs) : ∃ rc rs, rcs = rc :: rs ∧ RelV g I c rc ∧ RelCs g I cs rs := by
  obtain ⟨rc, h1, h2⟩ := h 0 c rfl
  cases rcs with
  | nil => simp at h1
  | cons a as =>
    obtain rfl : a = rc := by simpa using h1
    exact ⟨a, as, rfl, h2, fun j v hj => by simpa using h (j + 1) v (by simpa using hj)⟩
/-- What the assembling of one type is worth. -/
def AsmOk {R : Type} (W : Nat) (D : Type) (P : (Addr → Value → Prop) → D → List Value → Prop) (cs : List V) (K : D → List V → Option R) (r : R) : Prop :=
  ∃ x, K x (cs.drop W) = some r ∧ W ≤ cs.length ∧ ∀ g I rcs, RelCs g I cs rcs → P I x (rcs.take W)
theorem asmG_leaf {R : Type} {t : Ty} (ha : aggT t = false) (hw : wd t = 1) {c : V} {cs : List V} {K : t.D → List V → Option R} {r : R} (h : asD0 t c (fun x => K x cs) = some r) :
    AsmOk (wd t) t.D (fun I x rcs => Rd I t x rcs) (c :: cs) K r := by
  obtain ⟨x, h1, h2⟩ := asD0_sound h
  refine ⟨x, by rw [hw]; exact h1, by rw [hw]; simp, fun g I rcs hr => ?_⟩
  obtain ⟨rc, rs, rfl, h3, _⟩ := hr.tail
  rw [hw]
  rcases h2 g I rc h3 with ⟨h4, _⟩ | ⟨_, h4⟩
  · rw [ha] at h4; cases h4
  · exact h4
theorem asmG_sound {R : Type} {rk : (i : Nat) → List V → (Sx i → List V → Option R) → Option R}
    (hrk : ∀ i cs K r, rk i cs K = some r → AsmOk (wd (.rc i)) (Sx i) (fun I x rcs => Rd I (.rc i) x rcs) cs K r) :
    ∀ (t : Ty) (cs : List V) (K : t.D → List V → Option R) (r : R), asmG rk t cs K = some r → AsmOk (wd t) t.D (fun I x rcs => Rd I t x rcs) cs K r := by
  intro t
  induction t with
  | int k => intro cs K r h; cases cs with | nil => simp [asmG] at h | cons c cs => exact asmG_leaf rfl rfl h
  | bool => intro cs K r h; cases cs with | nil => simp [asmG] at h | cons c cs => exact asmG_leaf rfl rfl h
  | str => intro cs K r h; cases cs with | nil => simp [asmG] at h | cons c cs => exact asmG_leaf rfl rfl h
  | slice t _ => intro cs K r h; cases cs with | nil => simp [asmG] at h | cons c cs => exact asmG_leaf rfl rfl h
  | unit => intro cs K r h; exact ⟨(), by simpa [asmG, wd, wdG] using h, Nat.zero_le _, fun g I rcs _ => by show Rd I Ty.unit () _; exact Rd.unit ()⟩
  | arr n t _ => intro cs K r h; simp [asmG] at h
  | rc i => intro cs K r h; exact hrk i cs K r (by cases cs <;> simpa [asmG] using h)
  | pair a b iha ihb =>
    intro cs K r h
    have h' : asmG rk a cs (fun x cs => asmG rk b cs fun y cs => K (x, y) cs) = some r := by cases cs <;> simpa [asmG] using h
    obtain ⟨x, h1, h2, h3⟩ := iha cs _ r h'
    obtain ⟨y, h4, h5, h6⟩ := ihb _ _ r h1
    refine ⟨(x, y), ?_, ?_, fun g I rcs hr => ?_⟩
    · rw [wd_pair, ← List.drop_drop]; exact h4
    · rw [wd_pair]; simp at h5; omega
    · show Rd I (.pair a b) (x, y) _
      rw [wd_pair, List.take_add]
      exact Rd.pair _ _ _ _ _ _ (h3 g I rcs hr) (h6 g I _ (hr.drop _))
theorem un_ro : ∀ (i : Nat) (x : (rcTy i).D), un i (ro i x) = x
  | 0, (_, _, _, _, _, _, ()) => rfl
  | _ + 1, (_, _, _, _, _, _, _, ()) => rfl
theorem ro_un : ∀ (i : Nat) (x : Sx i), ro i (un i x) = x
  | 0, .mk .. => rfl
  | _ + 1, .mk .. => rfl
theorem asmD_sound {R : Type} {t : Ty} {cs : List V} {K : t.D → Option R} {r : R} (h : asmD t cs K = some r) :
    ∃ x, K x = some r ∧ wd t ≤ cs.length ∧ ∀ g I rcs, RelCs g I cs rcs → Rd I t x (rcs.take (wd t)) := by
  obtain ⟨x, h1, h2, h3⟩ := asmG_sound (rk := fun i cs K => asmG (fun _ _ _ => none) (rcTy i) cs fun x cs => K (ro i x) cs)
    (fun i cs K r h => by
      obtain ⟨x, h1, h2, h3⟩ := asmG_sound (fun _ _ _ _ h => by cases h) (rcTy i) cs _ r h
      refine ⟨ro i x, by rw [wd_rc]; exact h1, by rw [wd_rc]; exact h2, fun g I rcs hr => ?_⟩
      have h4 := h3 g I rcs hr
      rw [wd_rc]
      exact Rd.rc i _ _ (by rw [un_ro]; exact h4)) t cs _ r h
  exact ⟨x, h1, h2, h3⟩
theorem RelV.mix_cs {g : Gh} {I : Addr → Value → Prop} {cs : List V} {rv : Value} (h : RelV g I (.mix cs) rv) : ∃ rcs : List Value, rv = .agg rcs.toArray ∧ rcs.length = cs.length ∧ RelCs g I cs rcs ∧ ∀ v ∈ rcs, v.oneCell' = true := by
  cases h with
  | mix _ rs h1 h2 h3 =>
    refine ⟨rs, rfl, h1, fun j v hj => ?_, fun v hv => ?_⟩
    · have hlt : j < rs.length := by have := getElem?_lt hj; omega
      exact ⟨rs[j], List.getElem?_eq_getElem hlt, h2 j v _ hj (List.getElem?_eq_getElem hlt)⟩
    · obtain ⟨i, hi, rfl⟩ := List.getElem_of_mem hv
      exact h3 i _ (List.getElem?_eq_getElem hi)
theorem asD_sound {R : Type} {t : Ty} {v : V} {K : t.D → Option R} {r : R} (h : asD t v K = some r) : ∃ x, K x = some r ∧ ∀ g I rv, RelV g I v rv → RelVal I t x rv := by
  unfold asD at h
  split at h
  · rename_i cs
    split at h
    · rename_i ha
      split at h
      · rename_i hl
        obtain ⟨x, h1, h2, h3⟩ := asmD_sound h
        refine ⟨x, h1, fun g I rv hv => ?_⟩
        obtain ⟨rcs, rfl, h4, h5, _⟩ := hv.mix_cs
        have h6 := h3 g I rcs h5
        rw [← hl, ← h4, List.take_length] at h6
        exact .inl ⟨ha, rcs, rfl, h6⟩
      · cases h
    · cases h
  · exact asD0_sound h

/-! ### cells of a value -/
def noRc : Ty → Bool
  | .rc _ => false
  | .pair a b => noRc a && noRc b
  | .arr _ t => noRc t
  | _ => true
def FlOk (g : Gh) (I : Addr → Value → Prop) (us : List V) (cs : List Value) : Prop := us.length = cs.length ∧ RelCs g I us cs
theorem RelCs.append {g : Gh} {I : Addr → Value → Prop} {us vs : List V} {cs ds : List Value} (hl : us.length = cs.length) (h : RelCs g I us cs) (k : RelCs g I vs ds) : RelCs g I (us ++ vs) (cs ++ ds) := by
  intro j v hj
  rcases Nat.lt_or_ge j us.length with hlt | hge
  · rw [List.getElem?_append_left hlt] at hj
    rw [List.getElem?_append_left (by omega)]
    exact h j v hj
  · rw [List.getElem?_append_right hge] at hj
    rw [List.getElem?_append_right (by omega), ← hl]
    exact k _ v hj
theorem FlOk.append {g : Gh} {I : Addr → Value → Prop} {us vs : List V} {cs ds : List Value} (h : FlOk g I us cs) (k : FlOk g I vs ds) : FlOk g I (us ++ vs) (cs ++ ds) :=
  ⟨by rw [List.length_append, List.length_append, h.1, k.1], h.2.append h.1 k.2⟩
theorem FlOk.nil {g : Gh} {I : Addr → Value → Prop} : FlOk g I [] [] := ⟨rfl, fun j v hj => by simp at hj⟩
theorem FlOk.one {g : Gh} {I : Addr → Value → Prop} {u : V} {c : Value} (h : RelV g I u c) : FlOk g I [u] [c] :=
  ⟨rfl, fun j v hj => by cases j with | zero => exact ⟨c, rfl, by simp at hj; subst hj; exact h⟩ | succ j => simp at hj⟩
theorem flatG_sound {g : Gh} {I : Addr → Value → Prop} {rk : (i : Nat) → Sx i → List V} : ∀ (t : Ty) (x : t.D) (cs : List Value), (noRc t = true ∨ ∀ i x cs, Rd I (.rc i) x cs → FlOk g I (rk i x) cs) → Rd I t x cs → FlOk g I (flatG rk t x) cs := by
  intro t
  induction t with
  | int k => intro x cs _ h; obtain rfl := h.inv; exact .one (.leaf _ _ _ rfl h)
  | bool => intro x cs _ h; obtain rfl := h.inv; exact .one (.leaf _ _ _ rfl h)
  | str => intro x cs _ h; obtain rfl := h.inv; exact .one (.leaf _ _ _ rfl h)
  | slice t _ => intro x cs _ h; obtain ⟨A, c, f, rfl, _⟩ := h.inv; exact .one (.row _ _ _ _ _ _ h trivial)
  | unit => intro x cs _ h; obtain rfl := h.inv; exact .nil
  | rc i => intro x cs hr h; rcases hr with hr | hr; simp [noRc] at hr; exact hr i x cs h
  | pair a b iha ihb =>
    intro x cs hr h
    obtain ⟨x, y⟩ := x
    obtain ⟨ca, cb, rfl, h1, h2⟩ := h.inv
    refine FlOk.append (iha x ca ?_ h1) (ihb y cb ?_ h2) <;> rcases hr with hr | hr
    · simp [noRc] at hr; exact .inl hr.1
    · exact .inr hr
    · simp [noRc] at hr; exact .inl hr.2
    · exact .inr hr
  | arr n t ih =>
    intro xs cs hr h
    obtain ⟨h1, css, rfl, h2, h3⟩ := h.inv
    have hr' : noRc t = true ∨ ∀ i x cs, Rd I (.rc i) x cs → FlOk g I (rk i x) cs := by rcases hr with hr | hr; exact .inl (by simpa [noRc] using hr); exact .inr hr
    show FlOk g I ((show List t.D from xs).flatMap (flatG rk t)) css.flatten
    clear h hr
    revert h1 h2 h3
    generalize (show List t.D from xs) = ys
    intro h1 h2 h3
    subst h1
    clear xs
    induction ys generalizing css with
    | nil => cases css with | nil => exact .nil | cons c cs => simp at h2
    | cons y ys ih2 =>
      cases css with
      | nil => simp at h2
      | cons c cs =>
        rw [List.flatMap_cons, List.flatten_cons]
        exact .append (ih y c hr' (h3 0 y c rfl rfl)) (ih2 cs (fun i x d hx hd => h3 (i + 1) x d (by simpa using hx) (by simpa using hd)) (by simpa using h2))
theorem noRc_rc (i : Nat) : noRc (rcTy i) = true := by cases i <;> rfl
theorem flatD_sound {g : Gh} {I : Addr → Value → Prop} {t : Ty} {x : t.D} {cs : List Value} (h : Rd I t x cs) : FlOk g I (flatD t x) cs :=
  flatG_sound t x cs (.inr fun i x cs h => flatG_sound (rcTy i) (un i x) cs (.inl (noRc_rc i)) h.inv) h
theorem flat_sound {g : Gh} {I : Addr → Value → Prop} {v : V} {rv : Value} (h : RelV g I v rv) (hs : storable v = true) : FlOk g I (flat v) rv.cells.toList ∧ ∀ c ∈ rv.cells.toList, c.oneCell' = true := by
  cases v with
  | tup vs => simp [storable] at hs
  | undef => simp [storable] at hs
  | dat t x =>
    have h1 := (relVal_dat h).cells
    exact ⟨flatD_sound h1, h1.one⟩
  | mix cs =>
    obtain ⟨rcs, rfl, h1, h2, h3⟩ := h.mix_cs
    exact ⟨⟨by simpa [Value.cells, flat] using h1.symm, by simpa [Value.cells, flat] using h2⟩, by simpa [Value.cells] using h3⟩
  | _ => cases h <;> exact ⟨.one (by constructor <;> assumption), by simp [Value.cells, Value.oneCell']⟩

end Go.Proofs.Yticelgnmcjkknaa.Vm
