/-
A machine of values, twelfth part: builds run; maps looked into.
-/
import Derived.Test.YticelgnmcjkknaaVm11
set_option linter.unusedVariables false
set_option linter.unusedSimpArgs false
namespace Go.Proofs.Yticelgnmcjkknaa.Vm
open Go.RowKit (Below)
section
variable {P : Program} {tt : Nat → TI} {R : Type}

theorem mapM_places : ∀ (fs : List Field), (∀ f ∈ fs, ∃ i, P.info? f.type = some i) → ∃ places : List (Nat × Nat), fs.mapM (fun f => (P.info? f.type).map fun i => (f.offset, i.size)) = some places ∧
    ∀ (j : Nat) (f : Field) (i : TypeInfo), fs[j]? = some f → P.info? f.type = some i → places[j]? = some (f.offset, i.size)
  | [], _ => ⟨[], rfl, fun j f i h => by simp at h⟩
  | f :: fs, h => by
    obtain ⟨i, hi⟩ := h f (List.mem_cons_self ..)
    obtain ⟨places, h1, h2⟩ := mapM_places fs (fun g hg => h g (List.mem_cons_of_mem _ hg))
    refine ⟨(f.offset, i.size) :: places, ?_, fun j g k hj hk => ?_⟩
    · rw [List.mapM_cons, hi, h1]; rfl
    · cases j with
      | zero =>
        simp only [List.getElem?_cons_zero, Option.some.injEq] at hj ⊢
        subst hj; rw [hi] at hk; simp only [Option.some.injEq] at hk; subst hk; rfl
      | succ j => simpa using h2 j g k (by simpa using hj) hk
theorem relVal_cells {I : Addr → Value → Prop} {t : Ty} {x : t.D} {cells : Array Value} (ha : aggT t = true) (h : Rd I t x cells.toList) : RelVal I t x (.agg cells) := .inl ⟨ha, _, by simp, h⟩
theorem PartsRel.map {g : Gh} {w : World} {env : List V} {a : Act} : ∀ {ps : List (Nat × Operand)}, (∀ p ∈ ps, RelV g (Imm g w) (ev env p.2) (a.eval p.2)) → PartsRel g (Imm g w) (ps.map fun p => (p.1, ev env p.2)) (ps.map fun p => (p.1, a.eval p.2))
  | [], _ => trivial
  | p :: ps, h => ⟨rfl, h p (List.mem_cons_self ..), PartsRel.map fun q hq => h q (List.mem_cons_of_mem _ hq)⟩
theorem fld_of_some {T : Ty} (ha : aggT T = true) (hn : ∀ n t, T ≠ .arr n t) {j o : Nat} {u : Ty} (h : placeOf T j = some (o, u)) : fld T j = some (o, u) := by
  cases T <;> first | exact h | (exfalso; exact hn _ _ rfl)
/-- A struct or an array is built. -/
theorem build_dat (hT : TtOk P tt) {t : Nat} {T : Ty} {b : Nat} (htt : tt t = .dat T b) {ps : List (Nat × V)} {K : T.D → Option R} {r : R} (h : setAll T ps (zeroD T) K = some r) (ha : aggT T = true) :
    ∃ y, K y = some r ∧ ∀ g w (parts : Array (Nat × Value)), PartsRel g (Imm g w) ps parts.toList → ∃ rv, (Instr.build t parts).run P w = .ok rv w ∧ RelVal (Imm g w) T y rv := by
  obtain ⟨y, h1, h2⟩ := setAll_sound ps _ K r h
  refine ⟨y, h1, fun g w parts hp => ?_⟩
  have h3 := hT t; rw [htt] at h3
  obtain ⟨⟨i, z, h4, h5, h6, h7⟩, h8, _⟩ := h3
  have hz := (h7 (Imm g w)).cells
  by_cases harr : ∃ n u, T = .arr n u
  · obtain ⟨n, u, rfl⟩ := harr
    obtain ⟨e, b', h9, h10⟩ := h8
    have h11 := hT e; rw [h10] at h11
    obtain ⟨⟨ie, ze, h12, h13, _⟩, _⟩ := h11
    obtain ⟨cells', h14, h15⟩ := h2 g (Imm g w) parts.toList (fun i => some (i * ie.size, ie.size)) z.cells hp (fun j o v hj => by
      simp only [placeOf] at hj
      split at hj
      · simp only [Option.some.injEq, Prod.mk.injEq] at hj; rw [h13, ← hj.1, ← hj.2]
      · cases hj) hz
    exact ⟨.agg cells', run_build w t parts cells' (by simp only [Program.built, h4, h9, h6, h12]; exact h14), relVal_cells ha h15⟩
  · have hn : ∀ n u, T ≠ .arr n u := fun n u e => harr ⟨n, u, e⟩
    have hfs : ∃ fs, P.underlying t = some (.struct fs) ∧ FieldsOk tt T fs := by
      cases T <;> first | (simp [aggT] at ha; done) | exact h8 | exact absurd rfl (hn _ _)
    obtain ⟨fs, h9, h10⟩ := hfs
    have hinfo : ∀ f ∈ fs.toList, ∃ i, P.info? f.type = some i := by
      intro f hf
      obtain ⟨j, hj, rfl⟩ := List.getElem_of_mem hf
      have hj' : j < fs.size := by simpa using hj
      cases hfl : fld T j with
      | none => have := (h10 j).2 hfl; rw [Array.getElem?_eq_getElem hj'] at this; cases this
      | some ou =>
        obtain ⟨f, b', k1, k2, k3, _⟩ := (h10 j).1 ou.1 ou.2 hfl
        rw [Array.getElem?_eq_getElem hj'] at k1
        simp only [Option.some.injEq] at k1
        have k4 := hT f.type; rw [k3] at k4
        obtain ⟨⟨i, _, k5, _⟩, _⟩ := k4
        exact ⟨i, by simpa [k1] using k5⟩
    obtain ⟨places, h11, h12⟩ := mapM_places (P := P) fs.toList hinfo
    obtain ⟨cells', h14, h15⟩ := h2 g (Imm g w) parts.toList (places.toArray[·]?) z.cells hp (fun j o v hj => by
      have hj' := fld_of_some ha hn hj
      obtain ⟨f, b', k1, k2, k3, _⟩ := (h10 j).1 o v hj'
      have k4 := hT f.type; rw [k3] at k4
      obtain ⟨⟨i, _, k5, k6, _⟩, _⟩ := k4
      have := h12 j f i (by simpa using k1) k5
      rw [k2, k6] at this
      simpa using this) hz
    exact ⟨.agg cells', run_build w t parts cells' (by simp only [Program.built, h4, h9, h6, h11]; exact h14), relVal_cells ha h15⟩

/-! ### a struct with cells that lead elsewhere -/
theorem RelCs.lay {g : Gh} {I : Addr → Value → Prop} {cs us : List V} {rs vs : List Value} {o : Nat} (h : RelCs g I cs rs) (hl : cs.length = rs.length) (k : FlOk g I us vs) (ho : o + us.length ≤ cs.length) : RelCs g I (splice cs o us) (lay rs o vs) := by
  unfold splice Vm.lay
  have h1 : (cs.take o).length = (rs.take o).length := by rw [List.length_take, List.length_take, hl]
  rw [k.1]
  refine RelCs.append (by rw [List.length_append, List.length_append, h1, k.1]) (RelCs.append h1 (fun j v hj => ?_) k.2) (h.drop _)
  obtain ⟨hj1, hj2⟩ := take_get hj
  obtain ⟨rv, h2, h3⟩ := h j v hj1
  exact ⟨rv, by rw [List.getElem?_take, if_pos hj2]; exact h2, h3⟩
theorem splice_len {cs us : List V} {o : Nat} (h : o + us.length ≤ cs.length) : (splice cs o us).length = cs.length := by
  unfold splice; rw [List.length_append, List.length_append, List.length_take, List.length_drop]; omega
def MixOk (g : Gh) (I : Addr → Value → Prop) (cs : List V) (rs : List Value) : Prop := cs.length = rs.length ∧ RelCs g I cs rs ∧ ∀ v ∈ rs, v.oneCell' = true
theorem setMix_sound {fs : List (Nat × Nat)} : ∀ (ps : List (Nat × V)) (cs ds : List V), setMix tt fs ps cs = some ds →
    ∀ g I qs (place : Nat → Option (Nat × Nat)) (cells : Array Value), PartsRel g I ps qs → (∀ j o t, fs[j]? = some (o, t) → place j = some (o, wTI (tt t)) ∧ o + wTI (tt t) ≤ cells.size) → MixOk g I cs cells.toList →
      ∃ cells' : Array Value, Instr.fill place cells qs = some cells' ∧ cells'.size = cells.size ∧ MixOk g I ds cells'.toList
  | [], cs, ds, h => by
    intro g I qs place cells hq _ hm
    simp only [setMix, Option.some.injEq] at h
    subst h
    cases qs with
    | nil => exact ⟨cells, rfl, rfl, hm⟩
    | cons q qs => exact hq.elim
  | (j, v) :: ps, cs, ds, h => by
    intro g I qs place cells hq hp hm
    simp only [setMix] at h
    cases hf : fs[j]? with
    | none => rw [hf] at h; cases h
    | some ot =>
      obtain ⟨o, t⟩ := ot
      rw [hf] at h
      simp only at h
      split at h
      · rename_i hc
        obtain ⟨hc1, hc2⟩ := hc
        cases qs with
        | nil => exact hq.elim
        | cons q qs =>
          obtain ⟨q1, q2⟩ := q
          obtain ⟨e, hq2, hq3⟩ := hq
          simp only at e hq2; subst e
          obtain ⟨h1, h2⟩ := hp j o t hf
          obtain ⟨h3, h4⟩ := flat_sound hq2 hc1
          have h5 : q2.cells.size = wTI (tt t) := by rw [← hc2, h3.1]; simp
          obtain ⟨cells', h9, h10, h11⟩ := fill_one (place := place) (cells := cells) (rest := qs) h1 h5 h2
          have hlen : o + (flat v).length ≤ cs.length := by rw [hc2, hm.1]; simpa using h2
          obtain ⟨c2, k1, k2, k3⟩ := setMix_sound ps _ ds h g I qs place cells' hq3 (fun j o t hj => by rw [h10]; exact hp j o t hj)
            ⟨by rw [splice_len hlen, h9, lay_len (by rw [← h3.1, ← hm.1]; exact hlen), hm.1], by rw [h9]; exact hm.2.1.lay hm.1 h3 hlen, fun u hu => by
              rw [h9] at hu
              unfold lay at hu
              rcases List.mem_append.1 hu with hu | hu
              · rcases List.mem_append.1 hu with hu | hu
                · exact hm.2.2 u (List.mem_of_mem_take hu)
                · exact h4 u hu
              · exact hm.2.2 u (List.mem_of_mem_drop hu)⟩
          exact ⟨c2, by rw [h11]; exact k1, by rw [k2, h10], k3⟩
      · cases h
theorem mix_rel {g : Gh} {I : Addr → Value → Prop} {cs : List V} {cells : Array Value} (h : MixOk g I cs cells.toList) : RelV g I (.mix cs) (.agg cells) := by
  have := RelV.mix (g := g) (I := I) cs cells.toList h.1.symm (fun i v rv hv hr => by
    obtain ⟨rv', h1, h2⟩ := h.2.1 i v hv
    rw [h1] at hr; simp only [Option.some.injEq] at hr; subst hr; exact h2) (fun i rv hr => h.2.2 rv (List.mem_of_getElem? hr))
  simpa using this
theorem build_mix (hT : TtOk P tt) {t w0 : Nat} {fs : List (Nat × Nat)} (htt : tt t = .mix w0 fs) {ps : List (Nat × V)} {cs : List V} (h : setMix tt fs ps (zeroTI tt 3 (.mix w0 fs)) = some cs) :
    ∀ g w (parts : Array (Nat × Value)), PartsRel g (Imm g w) ps parts.toList → ∃ rv, (Instr.build t parts).run P w = .ok rv w ∧ RelV g (Imm g w) (.mix cs) rv := by
  intro g w parts hp
  have h3 := hT t; rw [htt] at h3
  obtain ⟨⟨i, z, h4, h5, h6, h7⟩, fd, h8, h9, h10⟩ := h3
  obtain ⟨h11, h12⟩ := h7 g (Imm g w)
  obtain ⟨rcs, rfl, k1, k2, k3⟩ := h11.mix_cs
  have hinfo : ∀ f ∈ fd.toList, ∃ i, P.info? f.type = some i := by
    intro f hf
    obtain ⟨j, hj, rfl⟩ := List.getElem_of_mem hf
    have hj' : j < fd.size := by simpa using hj
    obtain ⟨_, k5, _⟩ := h10 j fd[j] (Array.getElem?_eq_getElem hj')
    have k6 := hT fd[j].type
    cases hti : tt fd[j].type with
    | dat T b => rw [hti] at k6; obtain ⟨⟨i, _, k7, _⟩, _⟩ := k6; exact ⟨i, by simpa using k7⟩
    | ref k => rw [hti] at k6; obtain ⟨⟨i, k7, _⟩, _⟩ := k6; exact ⟨i, by simpa using k7⟩
    | map k v => rw [hti] at k6; obtain ⟨⟨i, k7, _⟩, _⟩ := k6; exact ⟨i, by simpa using k7⟩
    | mix w fs => rw [hti] at k6; obtain ⟨⟨i, _, k7, _⟩, _⟩ := k6; exact ⟨i, by simpa using k7⟩
    | none => exact absurd hti k5
  obtain ⟨places, h13, h14⟩ := mapM_places (P := P) fd.toList hinfo
  obtain ⟨cells', h15, _, h16⟩ := setMix_sound ps _ cs h g (Imm g w) parts.toList (places.toArray[·]?) rcs.toArray hp (fun j o u hj => by
    have hlt : j < fd.size := by rw [h9]; exact getElem?_lt hj
    obtain ⟨k4, k5, k11⟩ := h10 j fd[j] (Array.getElem?_eq_getElem hlt)
    rw [hj] at k4
    simp only [Option.some.injEq, Prod.mk.injEq] at k4
    obtain ⟨k6, k7⟩ := k4
    obtain ⟨i', k8⟩ := hinfo fd[j] (by simp)
    have k9 := h14 j fd[j] i' (by simp [Array.getElem?_eq_getElem hlt]) k8
    have k10 := size_TI (P := P) hT k5 w
    rw [run_sizeOf k8] at k10
    simp only [Result.ok.injEq, and_true] at k10
    rw [k10, ← k6, ← k7] at k9
    refine ⟨by simpa using k9, ?_⟩
    have h17 : rcs.toArray.size = w0 := h12
    rw [h17, k6, k7]; exact k11) ⟨k1.symm, by simpa using k2, by simpa using k3⟩
  exact ⟨.agg cells', run_build w t parts cells' (by simp only [Program.built, h4, h8, h6, h13]; exact h15), mix_rel h16⟩
end
end Go.Proofs.Yticelgnmcjkknaa.Vm
