/-
A machine of values, fifth part: the types' table; loads, places, parts, cuts, lengths, numbers: what they compute is what the model computes.
-/
import Derived.Test.YticelgnmcjkknaaVm4
set_option linter.unusedVariables false
set_option linter.unusedSimpArgs false
namespace Go.Proofs.Yticelgnmcjkknaa.Vm
open Go.RowKit (Below)

/-! ### the table of types -/
def FieldsOk (tt : Nat → TI) (T : Ty) (fs : Array Field) : Prop := ∀ j : Nat, (∀ o u, fld T j = some (o, u) → ∃ f b, fs[j]? = some f ∧ f.offset = o ∧ tt f.type = .dat u b ∧ f.name ≠ "_") ∧ (fld T j = none → fs[j]? = none)
def UOk (P : Program) (tt : Nat → TI) : Ty → Nat → Option TypeDesc → Prop
  | .int k, _, d => d = some (.int k)
  | .bool, _, d => d = some .bool
  | .str, _, d => d = some .string
  | .slice T, eb, d => ∃ e b i, d = some (.slice e) ∧ tt e = .dat T b ∧ P.info? e = some i ∧ i.bytes = eb
  | .arr n T, _, d => ∃ e b, d = some (.array n e) ∧ tt e = .dat T b
  | T, _, d => ∃ fs, d = some (.struct fs) ∧ FieldsOk tt T fs
def plainDesc : TypeDesc → Bool
  | .struct _ | .array _ _ => false
  | _ => true
def TOk (P : Program) (tt : Nat → TI) (t : Nat) : TI → Prop
  | .dat T b => (∃ i z, P.info? t = some i ∧ i.size = wd T ∧ i.zero = some z ∧ ∀ I, RelVal I T (zeroD T) z) ∧ UOk P tt T b (P.underlying t) ∧
      (eqTy T = true → aggT T = true → P.eqGuardType P.depth t = false ∧ P.stoodInHeld t = false) ∧
      ∀ i z, P.info? t = some i → i.zero = some z → z.cells.toList = zcells T
  | .ref k => (∃ i, P.info? t = some i ∧ i.size = 1 ∧ i.zero = some (if k = 0 then .pointer none else .nilFunc)) ∧ ∃ d, P.underlying t = some d ∧ plainDesc d = true ∧ (k = 0 → ∃ e, d = .pointer e) ∧ (k ≠ 0 → ∃ a b c, d = .func a b c)
  | .map kt vt => (∃ i, P.info? t = some i ∧ i.size = 1 ∧ i.zero = some (.map none)) ∧ ∃ k v bk bv, P.underlying t = some (.map k v) ∧ tt k = .dat kt bk ∧ tt v = .dat vt bv
  | .mix w fs => (∃ i z, P.info? t = some i ∧ i.size = w ∧ i.zero = some z ∧ ∀ g I, RelV g I (.mix (zeroTI tt 3 (.mix w fs))) z ∧ z.cells.size = w) ∧
      ∃ fd, P.underlying t = some (.struct fd) ∧ fd.size = fs.length ∧ ∀ (j : Nat) (f : Field), fd[j]? = some f → fs[j]? = some (f.offset, f.type) ∧ tt f.type ≠ .none ∧ f.offset + wTI (tt f.type) ≤ w
  | .none => True
abbrev TtOk (P : Program) (tt : Nat → TI) : Prop := ∀ t, TOk P tt t (tt t)

theorem UOk.agg {P : Program} {tt : Nat → TI} {T : Ty} {b : Nat} {d : Option TypeDesc} (h : UOk P tt T b d) (ha : aggT T = true) : (∃ fs, d = some (.struct fs)) ∨ ∃ n e, d = some (.array n e) := by
  cases T <;> simp [aggT] at ha
  case arr n T => obtain ⟨e, b, h, _⟩ := h; exact .inr ⟨n, e, h⟩
  all_goals (obtain ⟨fs, h, _⟩ := h; exact .inl ⟨fs, h⟩)
theorem UOk.plain {P : Program} {tt : Nat → TI} {T : Ty} {b : Nat} {d : Option TypeDesc} (h : UOk P tt T b d) (ha : aggT T = false) : ∃ e, d = some e ∧ plainDesc e = true := by
  cases T <;> simp [aggT] at ha
  case slice T => obtain ⟨e, b, i, h, _⟩ := h; exact ⟨_, h, rfl⟩
  all_goals exact ⟨_, h, rfl⟩
section
variable {P : Program} {tt : Nat → TI}
theorem run_isAgg_plain {t : TypeId} {d : TypeDesc} (h : P.underlying t = some d) (hp : plainDesc d = true) (w : World) : (Go.isAgg t).run P w = .ok false w := by
  cases d <;> simp [plainDesc] at hp <;> simp [Go.isAgg, run_underlying h]
theorem run_isAgg_agg {t : TypeId} {d : Option TypeDesc} (h : P.underlying t = d) (hp : (∃ fs, d = some (.struct fs)) ∨ ∃ n e, d = some (.array n e)) (w : World) : (Go.isAgg t).run P w = .ok true w := by
  rcases hp with ⟨fs, rfl⟩ | ⟨n, e, rfl⟩ <;> simp [Go.isAgg, run_underlying h]
theorem run_sizeOf {t : TypeId} {i : TypeInfo} (h : P.info? t = some i) (w : World) : (sizeOf t).run P w = .ok i.size w := by simp [sizeOf, typeInfo, h]
theorem size_dat (hT : TtOk P tt) {t : Nat} {T : Ty} {b : Nat} (h : tt t = .dat T b) (w : World) : (sizeOf t).run P w = .ok (wd T) w := by
  have := hT t; rw [h] at this
  obtain ⟨⟨i, z, h1, h2, _⟩, _⟩ := this
  rw [run_sizeOf h1, h2]
theorem add_zero (a : Addr) : a.add 0 = a := by simp [Addr.add]
/-- A variable of data is read. -/
theorem loadVar_dat (hT : TtOk P tt) {t : Nat} {T : Ty} {b : Nat} (h : tt t = .dat T b) {I : Addr → Value → Prop} {x : T.D} {cs : List Value} (hr : Rd I T x cs) {w : World} {ad : Addr}
    (hc : ∀ (j : Nat) (v : Value), cs[j]? = some v → w.cell? (ad.add j) = some v) : ∃ v, (loadVar t ad).run P w = .ok v w ∧ RelVal I T x v := by
  have hs := size_dat hT h w
  have h1 := hT t; rw [h] at h1
  obtain ⟨_, h3, _⟩ := h1
  have hl := hr.len
  cases ha : aggT T with
  | true =>
    have h4 := run_isAgg_agg rfl (h3.agg ha) w
    have h5 := run_loadCells_list (P := P) w ad cs hc
    rw [hl] at h5
    exact ⟨.agg cs.toArray, by simp [loadVar, h4, hs, h5], .inl ⟨ha, cs, rfl, hr⟩⟩
  | false =>
    obtain ⟨d, h4, h5⟩ := h3.plain ha
    have h6 := run_isAgg_plain h4 h5 w
    have hw : wd T = 1 := by cases T <;> simp [aggT] at ha <;> rfl
    rw [hw] at hl
    obtain ⟨v, rfl⟩ := List.length_eq_one_iff.1 hl
    have h7 := hc 0 v rfl
    rw [add_zero] at h7
    exact ⟨v, by simp [loadVar, h6, h7], .inr ⟨ha, hr⟩⟩
/-- What an operation that leaves all as it is comes to. -/
def QR (P : Program) (s : Sem Value) (g : Gh) (w : World) (v : V) : Prop := ∃ rv w', s.run P w = .ok rv w' ∧ Below w.heap.size w w' ∧ RelV g (Imm g w') v rv
theorem QR.same {s : Sem Value} {g : Gh} {w : World} {v : V} {rv : Value} (h : s.run P w = .ok rv w) (hv : RelV g (Imm g w) v rv) : QR P s g w v := ⟨rv, w, h, Below.refl _ _, hv⟩
/-- The same, and the world is left as it is. -/
def QS (P : Program) (s : Sem Value) (g : Gh) (w : World) (v : V) : Prop := ∃ rv, s.run P w = .ok rv w ∧ RelV g (Imm g w) v rv
theorem QS.same {s : Sem Value} {g : Gh} {w : World} {v : V} {rv : Value} (h : s.run P w = .ok rv w) (hv : RelV g (Imm g w) v rv) : QS P s g w v := ⟨rv, h, hv⟩
theorem QS.qr {s : Sem Value} {g : Gh} {w : World} {v : V} (h : QS P s g w v) : QR P s g w v := let ⟨_, h1, h2⟩ := h; .same h1 h2
def RelObs (g : Gh) (w : World) (objs : List Ob) : Prop := ∀ (i : Nat) (o : Ob), objs[i]? = some o → RelOb g w i o
theorem addr_ext (b o : Nat) (j : Nat) : (⟨b, o, none⟩ : Addr).add j = ⟨b, o + j, none⟩ := Addr.add_lit b o j
theorem cellAt {w : World} {b : Nat} {c : Array Value} {e : TypeId} (h : w.heap[b]? = some (.cells c e (0, 0))) {o : Nat} {v : Value} (hc : c[o]? = some v) : w.cell? ⟨b, o, none⟩ = some v := cell_mk h hc
theorem loadV_sound (hT : TtOk P tt) {R : Type} {objs : List Ob} {t : Nat} {av : V} {K : V → Option R} {r : R} (h : loadV tt objs t av K = some r) :
    ∃ v, K v = some r ∧ ∀ g w rv, RelObs g w objs → RelV g (Imm g w) av rv → QS P (Instr.loadAt t rv) g w v := by
  unfold loadV at h
  split at h
  · rename_i T x
    split at h
    · rename_i T' b htt
      split at h
      · rename_i e; subst e
        refine ⟨_, h, fun g w rv _ hv => ?_⟩
        cases hv with
        | prd _ _ ad cs h1 h2 =>
          obtain ⟨v, h3, h4⟩ := loadVar_dat (P := P) hT htt h1 (fun j v hj => (h2 j v hj).1)
          exact .same (by simp [Instr.loadAt, Instr.sureAddr, h3]) (relV_dv h4)
      · cases h
    · cases h
  · rename_i i off
    split at h
    · rename_i f cs ho
      split at h
      · rename_i T b htt
        split at h
        · rename_i ha
          cases hany : (((cs.drop off).take (wd T)).any isM1) with
          | true =>
            rw [hany, cond_true] at h
            split at h
            · rename_i hle
              refine ⟨_, h, fun g w rv hobs hv => ?_⟩
              cases hv with
              | ptr _ _ b' f' hb =>
                obtain ⟨b2, c, e, h4, h5, h6, h7⟩ := hobs _ _ ho
                obtain ⟨rfl, rfl⟩ : b2 = b' ∧ f = f' := by rw [hb] at h4; simp at h4; exact ⟨h4.1.symm, h4.2.symm⟩
                have h10 := hT t; rw [htt] at h10
                have h14 := run_isAgg_agg (P := P) rfl (h10.2.1.agg ha) w
                have h11 := size_dat (P := P) hT htt w
                have hlen : ((c.toList.drop off).take (wd T)).length = wd T := by rw [List.length_take, List.length_drop, Array.length_toList]; omega
                have h15 := run_loadCells_list (P := P) w ⟨b2, off, none⟩ ((c.toList.drop off).take (wd T)) (fun j v hj => by
                  rw [addr_ext]; refine cellAt h5 ?_
                  have := (take_get hj).1
                  rw [List.getElem?_drop] at this
                  simpa using this)
                rw [hlen] at h15
                refine .same (rv := .agg ((c.toList.drop off).take (wd T)).toArray) (by simp [Instr.loadAt, Instr.sureAddr, loadVar, h14, h11, h15]) (.mix _ _ ?_ ?_ ?_)
                · rw [hlen, List.length_take, List.length_drop]; omega
                · intro j v rv hj hr
                  have h16 := (take_get hj).1
                  have h17 := (take_get hr).1
                  rw [List.getElem?_drop] at h16 h17
                  obtain ⟨rv', h18, h19, _⟩ := h7 _ _ h16
                  obtain rfl : rv' = rv := by simpa [h18] using h17
                  exact h19
                · intro j rv hr
                  have h17 := (take_get hr).1
                  rw [List.getElem?_drop] at h17
                  have hlt : off + j < cs.length := by have := getElem?_lt h17; simp at this; omega
                  obtain ⟨rv', h18, _, h19⟩ := h7 _ _ (List.getElem?_eq_getElem hlt)
                  obtain rfl : rv' = rv := by simpa [h18] using h17
                  exact h19
            · cases h
          | false =>
            rw [hany, cond_false] at h
            obtain ⟨x, h1, h2, h3⟩ := asmD_sound h
            refine ⟨_, h1, fun g w rv hobs hv => ?_⟩
            cases hv with
            | ptr _ _ b' f' hb =>
              obtain ⟨b2, c, e, h4, h5, h6, h7⟩ := hobs _ _ ho
              obtain ⟨rfl, rfl⟩ : b2 = b' ∧ f = f' := by rw [hb] at h4; simp at h4; exact ⟨h4.1.symm, h4.2.symm⟩
              have hcs : RelCs g (Imm g w) (cs.drop off) (c.toList.drop off) := RelCs.drop (fun j v hj => by obtain ⟨rv, h8, h9, _⟩ := h7 j v hj; exact ⟨rv, by simpa using h8, h9⟩) off
              obtain ⟨v, h8, h9⟩ := loadVar_dat (P := P) hT htt (w := w) (ad := ⟨b2, off, none⟩) (h3 g _ _ hcs) (fun j v hj => by
                rw [addr_ext]; refine cellAt h5 ?_
                have := (take_get hj).1
                rw [List.getElem?_drop] at this
                simpa using this)
              exact .same (by simp [Instr.loadAt, Instr.sureAddr, h8]) (relV_dv h9)
        · rename_i ha
          split at h
          · rename_i v hc
            refine ⟨v, h, fun g w rv hobs hv => ?_⟩
            cases hv with
            | ptr _ _ b' f' hb =>
              obtain ⟨b2, c, e, h4, h5, h6, h7⟩ := hobs _ _ ho
              obtain ⟨rfl, rfl⟩ : b2 = b' ∧ f = f' := by rw [hb] at h4; simp at h4; exact ⟨h4.1.symm, h4.2.symm⟩
              obtain ⟨rv, h8, h9, _⟩ := h7 _ _ hc
              have h10 := hT t; rw [htt] at h10
              obtain ⟨d, h11, h12⟩ := h10.2.1.plain (by simpa using ha)
              have h13 := run_isAgg_plain h11 h12 w
              have h14 := cellAt h5 h8
              exact .same (by simp [Instr.loadAt, Instr.sureAddr, loadVar, h13, h14]) h9
          · cases h
      · rename_i wd' fs htt
        split at h
        · rename_i hle
          refine ⟨_, h, fun g w rv hobs hv => ?_⟩
          cases hv with
          | ptr _ _ b' f' hb =>
            obtain ⟨b2, c, e, h4, h5, h6, h7⟩ := hobs _ _ ho
            obtain ⟨rfl, rfl⟩ : b2 = b' ∧ f = f' := by rw [hb] at h4; simp at h4; exact ⟨h4.1.symm, h4.2.symm⟩
            have h10 := hT t; rw [htt] at h10
            obtain ⟨⟨i, z, h11, h12, _⟩, fd, h13, _⟩ := h10
            have h14 := run_isAgg_agg h13 (.inl ⟨fd, rfl⟩) w
            have hlen : ((c.toList.drop off).take wd').length = wd' := by rw [List.length_take, List.length_drop, Array.length_toList]; omega
            have h15 := run_loadCells_list (P := P) w ⟨b2, off, none⟩ ((c.toList.drop off).take wd') (fun j v hj => by
              rw [addr_ext]; refine cellAt h5 ?_
              have := (take_get hj).1
              rw [List.getElem?_drop] at this
              simpa using this)
            rw [hlen] at h15
            refine .same (rv := .agg ((c.toList.drop off).take wd').toArray) (by simp [Instr.loadAt, Instr.sureAddr, loadVar, h14, run_sizeOf h11, h12, h15]) (.mix _ _ ?_ ?_ ?_)
            · rw [hlen, List.length_take, List.length_drop]; omega
            · intro j v rv hj hr
              have h16 := (take_get hj).1
              have h17 := (take_get hr).1
              rw [List.getElem?_drop] at h16 h17
              obtain ⟨rv', h18, h19, _⟩ := h7 _ _ h16
              obtain rfl : rv' = rv := by simpa [h18] using h17
              exact h19
            · intro j rv hr
              have h17 := (take_get hr).1
              rw [List.getElem?_drop] at h17
              have hlt : off + j < cs.length := by have := getElem?_lt h17; simp at this; omega
              obtain ⟨rv', h18, _, h19⟩ := h7 _ _ (List.getElem?_eq_getElem hlt)
              obtain rfl : rv' = rv := by simpa [h18] using h17
              exact h19
        · cases h
      · cases h
      · rename_i hn1 hn2 hn3
        split at h
        · rename_i v hc
          refine ⟨v, h, fun g w rv hobs hv => ?_⟩
          cases hv with
          | ptr _ _ b' f' hb =>
            obtain ⟨b2, c, e, h4, h5, h6, h7⟩ := hobs _ _ ho
            obtain ⟨rfl, rfl⟩ : b2 = b' ∧ f = f' := by rw [hb] at h4; simp at h4; exact ⟨h4.1.symm, h4.2.symm⟩
            obtain ⟨rv, h8, h9, _⟩ := h7 _ _ hc
            have h10 := hT t
            have h13 : (Go.isAgg t).run P w = .ok false w := by
              cases hti : tt t with
              | dat T b => exact absurd hti (hn1 T b)
              | mix w fs => exact absurd hti (hn2 w fs)
              | none => exact absurd hti hn3
              | ref k => rw [hti] at h10; obtain ⟨_, d, h11, h12, _⟩ := h10; exact run_isAgg_plain h11 h12 w
              | map kt vt => rw [hti] at h10; obtain ⟨_, k, v, bk, bv, h11, _⟩ := h10; exact run_isAgg_plain h11 rfl w
            have h14 := cellAt h5 h8
            exact .same (by simp [Instr.loadAt, Instr.sureAddr, loadVar, h13, h14]) h9
        · cases h
    · rename_i f m T xs ho
      split at h
      · rename_i n T' b htt
        split at h
        · rename_i hoff
          split at h
          · rename_i hm; subst hm
            split at h
            · rename_i e; subst e; subst hoff
              refine ⟨_, h, fun g w rv hobs hv => ?_⟩
              cases hv with
              | ptr _ _ b' f' hb =>
                obtain ⟨b2, c, e, h4, h5, h6, hfx, h7⟩ := hobs _ _ ho
                obtain ⟨rfl, rfl⟩ : b2 = b' ∧ f = f' := by rw [hb] at h4; simp at h4; exact ⟨h4.1.symm, h4.2.symm⟩
                have hlen := hfx m rfl
                have hex : ∃ css : List (List Value), css.length = xs.length ∧ (∀ (i : Nat) (x : T.D) (cs : List Value), xs[i]? = some x → css[i]? = some cs → Rd (Imm g w) T x cs) ∧
                    ∀ (i k : Nat) (cs : List Value) (v : Value), css[i]? = some cs → cs[k]? = some v → c[i * wd T + k]? = some v := by
                  refine ⟨List.ofFn fun i : Fin xs.length => Classical.choose (h7 i xs[i] (List.getElem?_eq_getElem i.2)), by simp, ?_, ?_⟩
                  · intro i x cs hx hcs
                    have hlt := getElem?_lt hx
                    rw [List.getElem?_ofFn, dif_pos hlt] at hcs
                    simp only [Option.some.injEq] at hcs
                    subst hcs
                    have := (Classical.choose_spec (h7 i xs[i] (List.getElem?_eq_getElem hlt))).1
                    rw [List.getElem?_eq_getElem hlt] at hx
                    simp only [Option.some.injEq] at hx
                    subst hx; exact this
                  · intro i k cs v hcs hv
                    have hlt : i < xs.length := by have := getElem?_lt hcs; simpa using this
                    rw [List.getElem?_ofFn, dif_pos hlt] at hcs
                    simp only [Option.some.injEq] at hcs
                    subst hcs
                    exact (Classical.choose_spec (h7 i xs[i] (List.getElem?_eq_getElem hlt))).2 k v hv
                obtain ⟨css, h8, h9, h10⟩ := hex
                have hrd : Rd (Imm g w) (.arr m T) xs css.flatten := .arr _ _ _ _ hlen (by rw [h8, hlen]) h9
                have hw : ∀ cs ∈ css, cs.length = wd T := by
                  intro cs hcs
                  obtain ⟨i, hi, rfl⟩ := List.getElem_of_mem hcs
                  have hx : i < xs.length := by omega
                  exact (h9 i _ _ (List.getElem?_eq_getElem hx) (List.getElem?_eq_getElem hi)).len
                obtain ⟨v, h11, h12⟩ := loadVar_dat (P := P) hT htt (w := w) (ad := ⟨b2, 0, none⟩) hrd (fun j v hj => by
                  rw [addr_ext, Nat.zero_add]; refine cellAt h5 ?_
                  obtain ⟨i, k, cs, rfl, h13, h14⟩ := flatten_get css (wd T) hw j v hj
                  exact h10 i k cs v h13 h14)
                exact .same (rv := v) (by simp [Instr.loadAt, Instr.sureAddr, h11]) (by have := relV_dv (g := g) h12; simpa [dv] using this)
            · cases h
          · cases h
        · cases h
      · cases h
    · cases h
  · rename_i i T j
    split at h
    · rename_i f fx T' xs ho
      split at h
      · rename_i T'' b htt
        split at h
        · rename_i e; subst e
          split at h
          · rename_i e; subst e
            obtain ⟨y, hy, hK⟩ := Option.bind_eq_some_iff.1 h
            refine ⟨_, hK, fun g w rv hobs hv => ?_⟩
            cases hv with
            | pel _ _ _ b' f' hb =>
              obtain ⟨b2, c, e, h4, h5, h6, _, h7⟩ := hobs _ _ ho
              obtain ⟨rfl, rfl⟩ : b2 = b' ∧ f = f' := by rw [hb] at h4; simp at h4; exact ⟨h4.1.symm, h4.2.symm⟩
              obtain ⟨cs, h8, h9⟩ := h7 _ _ hy
              obtain ⟨v, h10, h11⟩ := loadVar_dat (P := P) hT htt (w := w) (ad := ⟨b2, j * wd T'', none⟩) h8 (fun k v hk => by rw [addr_ext]; exact cellAt h5 (h9 k v hk))
              exact .same (by simp [Instr.loadAt, Instr.sureAddr, h10]) (relV_dv h11)
          · cases h
        · cases h
      · cases h
    · cases h
  · rename_i i T m j k
    split at h
    · rename_i f fx m' T' xs ho
      split at h
      · rename_i T'' b htt
        split at h
        · rename_i e; subst e
          split at h
          · rename_i e; subst e
            split at h
            · rename_i e; subst e
              obtain ⟨ys, hys, h⟩ := Option.bind_eq_some_iff.1 h
              obtain ⟨y, hy, hK⟩ := Option.bind_eq_some_iff.1 h
              refine ⟨_, hK, fun g w rv hobs hv => ?_⟩
              cases hv with
              | pin _ _ _ _ _ b' f' hb =>
                obtain ⟨b2, c, e, h4, h5, h6, _, h7⟩ := hobs _ _ ho
                obtain ⟨rfl, rfl⟩ : b2 = b' ∧ f = f' := by rw [hb] at h4; simp at h4; exact ⟨h4.1.symm, h4.2.symm⟩
                obtain ⟨cs, h8, h9⟩ := h7 _ _ hys
                obtain ⟨hl, css, rfl, hcl, hcss⟩ := h8.inv
                have hlt : k < css.length := by
                  have := getElem?_lt hy
                  have hl : ys.length = m' := hl
                  omega
                have hw : ∀ cs ∈ css, cs.length = wd T'' := by
                  intro cs hcs
                  obtain ⟨i, hi, rfl⟩ := List.getElem_of_mem hcs
                  have hx : i < (show List T''.D from ys).length := by
                    have hl : ys.length = m' := hl
                    show i < ys.length
                    omega
                  exact (hcss i _ _ (List.getElem?_eq_getElem hx) (List.getElem?_eq_getElem hi)).len
                obtain ⟨v, h10, h11⟩ := loadVar_dat (P := P) hT htt (w := w) (ad := ⟨b2, j * (m' * wd T'') + k * wd T'', none⟩) (hcss k _ _ hy (List.getElem?_eq_getElem hlt)) (fun q v hk => by
                  rw [addr_ext, Nat.add_assoc]
                  exact cellAt h5 (h9 _ v (flatten_at css (wd T'') hw k q _ v (List.getElem?_eq_getElem hlt) hk)))
                exact .same (by simp [Instr.loadAt, Instr.sureAddr, h10]) (relV_dv h11)
            · cases h
          · cases h
        · cases h
      · cases h
    · cases h
  · cases h
end
end Go.Proofs.Yticelgnmcjkknaa.Vm
