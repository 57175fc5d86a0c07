/-
A machine of values, seventeenth part: operations that make objects, and turn them.
-/
import Derived.Test.YticelgnmcjkknaaVm16
set_option linter.unusedVariables false
set_option linter.unusedSimpArgs false
namespace Go.Proofs.Yticelgnmcjkknaa.Vm
open Go.RowKit (Below)
section
variable {P : Program} {tt : Nat → TI} {R : Type}

/-- What an operation that makes, or turns, comes to. -/
def SO (P : Program) (s : Sem Next) (g : Gh) (w : World) (v : V) (σ' : St) : Prop :=
  ∃ res rv w' g', s.run P w = .ok res w' ∧ (res = .value rv ∨ (res = .skip ∧ rv = undef)) ∧ Up g w g' w' ∧ RelV g' (Imm g' w') v rv ∧ RelSt g' σ' w'
theorem void_rel {g : Gh} {I : Addr → Value → Prop} : RelV g I void undef := .tup [] [] rfl fun i v rv hv => by simp at hv
theorem box_rel {g : Gh} {w : World} {i b : Nat} {v : V} {rv : Value} {e : TypeId} (hv : RelV g (Imm g w) v rv) (hs : storable v = true) (hb : g.blk[i]? = some (some (b, true))) (hh : w.heap[b]? = some (.cells rv.cells e (0, 0))) : RelOb g w i (boxOf v) := by
  have key : RelOb g w i (.box true (flat v)) := by
    obtain ⟨h1, h2⟩ := flat_sound hv hs
    refine ⟨b, rv.cells, e, hb, hh, by have := h1.1; simpa using this.symm, fun j u hj => ?_⟩
    obtain ⟨ru, h3, h4⟩ := h1.2 j u hj
    exact ⟨ru, by simpa using h3, h4, h2 ru (List.mem_of_getElem? h3)⟩
  unfold boxOf
  split
  · rename_i n t xs
    rcases relVal_dat hv with ⟨_, cs, rfl, h1⟩ | ⟨h1, _⟩
    · obtain ⟨h2, css, rfl, h3, h4⟩ := h1.inv
      have hl : ∀ cs ∈ css, cs.length = wd t := by
        intro cs hcs
        obtain ⟨k, hk, rfl⟩ := List.getElem_of_mem hcs
        have hx : k < (show List t.D from xs).length := by omega
        exact (h4 k _ _ (List.getElem?_eq_getElem hx) (List.getElem?_eq_getElem hk)).len
      refine ⟨b, css.flatten.toArray, e, hb, hh, ?_, fun m hm => ?_, fun j x hj => ?_⟩
      · have := flatten_len css (wd t) hl
        simp only [List.size_toArray, this]
        have h5 : (show List t.D from xs).length = n := h2
        have h6 : xs.length = n := h5
        rw [h6, h3]; exact Nat.le_refl _
      · simp only [Option.some.injEq] at hm; rw [← hm]; exact h2
      · have hlt := getElem?_lt hj
        have hlt' : j < css.length := by have : (show List t.D from xs).length = n := h2; have h7 : j < (show List t.D from xs).length := hlt; omega
        refine ⟨css[j], h4 j x _ hj (List.getElem?_eq_getElem hlt'), fun k v hk => ?_⟩
        have := flatten_at css (wd t) hl j k _ v (List.getElem?_eq_getElem hlt') hk
        simpa using this
    · cases h1
  · exact key
theorem new_sound {g : Gh} {σ : St} {w : World} (h : RelSt g σ w) {v : V} {rv : Value} (hv : RelV g (Imm g w) v rv) (hs : storable v = true) (e : TypeId) :
    RelSt (g.new w.heap.size) ⟨σ.objs ++ [boxOf v], σ.toks⟩ (w.alloc (.cells rv.cells e)) ∧ Up g w (g.new w.heap.size) (w.alloc (.cells rv.cells e)) ∧ RelV (g.new w.heap.size) (Imm (g.new w.heap.size) (w.alloc (.cells rv.cells e))) (.ptr σ.objs.length 0) (.pointer (some ⟨w.heap.size, 0, none⟩)) := by
  have hb : Below w.heap.size w (w.alloc (.cells rv.cells e)) := (Below.refl _ w).alloc (Nat.le_refl _) _
  have hu := up_new h hb
  refine ⟨st_new h hb (by simp) (box_rel (hv.up hu) hs (blk_last h _) (heap_alloc_new' _ _)), hu, .ptr _ _ _ true (blk_last h _)⟩
theorem storable_dv (t : Ty) (x : t.D) : storable (dv t x) = true := by cases t <;> rfl
theorem zfG_rel {g : Gh} {I : Addr → Value → Prop} {r : Nat → List V} {r' : Nat → List Value} (hr : ∀ i, FlOk g I (r i) (r' i)) : ∀ t, FlOk g I (zfG r t) (zcG r' t) := by
  intro t
  induction t with
  | int k => exact .one (.leaf (.int k) _ _ rfl (.int k 0))
  | bool => exact .one (.leaf .bool _ _ rfl (.bool false))
  | str => exact .one (.leaf .str _ _ rfl (.str _))
  | slice t _ => exact .one .nils
  | unit => exact .nil
  | pair a b iha ihb => exact iha.append ihb
  | arr n t ih =>
    show FlOk g I (List.replicate n (zfG r t)).flatten (List.replicate n (zcG r' t)).flatten
    induction n with
    | zero => exact .nil
    | succ n ihn => rw [List.replicate_succ, List.replicate_succ, List.flatten_cons, List.flatten_cons]; exact ih.append ihn
  | rc i => exact hr i
theorem zflat_rel {g : Gh} {I : Addr → Value → Prop} (t : Ty) : FlOk g I (zflat t) (zcells t) := zfG_rel (fun i => zfG_rel (fun _ => .nil) (rcTy i)) t
theorem alloc_sound (hT : TtOk P tt) {t : Nat} {T : Ty} {b : Nat} (htt : tt t = .dat T b) {g : Gh} {σ : St} {w : World} (h : RelSt g σ w) :
    SO P (do pure (.value (← Instr.alloc t true (.tuple #[])))) g w (.ptr σ.objs.length 0) ⟨σ.objs ++ [zeroOb T], σ.toks⟩ := by
  have h1 := hT t; rw [htt] at h1
  obtain ⟨⟨i, z, h2, h3, h4, h5⟩, _, _, hz⟩ := h1
  have hz := hz i z h2 h4
  have hrun : (do pure (.value (← Instr.alloc t true (.tuple #[]))) : Sem Next).run P w = .ok (.value (.pointer (some ⟨w.heap.size, 0, none⟩))) (w.alloc (.cells z.cells t)) := by
    simp [Instr.alloc, zeroValue, typeInfo, h2, h4, newVar, newRow]
  have hbox : zeroOb T = .box true (zflat T) → SO P (do pure (.value (← Instr.alloc t true (.tuple #[])))) g w (.ptr σ.objs.length 0) ⟨σ.objs ++ [zeroOb T], σ.toks⟩ := by
    intro e
    rw [e]
    have hb : Below w.heap.size w (w.alloc (.cells z.cells t)) := (Below.refl _ w).alloc (Nat.le_refl _) _
    have hu := up_new h hb
    have hone := (h5 (fun _ _ => False)).cells.one
    refine ⟨_, _, _, _, hrun, .inl rfl, hu, .ptr _ _ _ true (blk_last h _), st_new h hb (by simp) ⟨w.heap.size, z.cells, t, blk_last h _, heap_alloc_new' _ _, ?_, fun j v hj => ?_⟩⟩
    · have := (zflat_rel (g := g) (I := Imm g w) T).1; rw [this, ← hz]; simp
    · obtain ⟨rv, k1, k2⟩ := (zflat_rel (g := g.new w.heap.size) (I := Imm (g.new w.heap.size) (w.alloc (.cells z.cells t))) T).2 j v hj
      rw [← hz] at k1
      exact ⟨rv, by simpa using k1, k2, hone rv (List.mem_of_getElem? k1)⟩
  cases T with
  | arr n T =>
    obtain ⟨k1, k2, k3⟩ := new_sound h (relV_dv (g := g) (h5 (Imm g w))) (storable_dv (.arr n T) _) t
    exact ⟨_, _, _, _, hrun, .inl rfl, k2, k3, k1⟩
  | _ => exact hbox rfl
theorem allocRef_sound (hT : TtOk P tt) {t : Nat} (hd : ∀ T b, tt t ≠ .dat T b) (hn : tt t ≠ .none) {g : Gh} {σ : St} {w : World} (h : RelSt g σ w) :
    SO P (do pure (.value (← Instr.alloc t true (.tuple #[])))) g w (.ptr σ.objs.length 0) ⟨σ.objs ++ [.box true (zeroTI tt 3 (tt t))], σ.toks⟩ := by
  have h1 := hT t
  have key : ∀ (i : TypeInfo) (z : Value) (v : V), P.info? t = some i → i.zero = some z → RelV g (Imm g w) v z → storable v = true → boxOf v = .box true (zeroTI tt 3 (tt t)) →
      SO P (do pure (.value (← Instr.alloc t true (.tuple #[])))) g w (.ptr σ.objs.length 0) ⟨σ.objs ++ [.box true (zeroTI tt 3 (tt t))], σ.toks⟩ := by
    intro i z v h2 h3 h4 h5 h6
    obtain ⟨k1, k2, k3⟩ := new_sound h h4 h5 t
    rw [h6] at k1
    exact ⟨_, _, _, _, by simp [Instr.alloc, zeroValue, typeInfo, h2, h3, newVar, newRow], .inl rfl, k2, k3, k1⟩
  cases htt : tt t with
  | dat T b => exact absurd htt (hd T b)
  | none => exact absurd htt hn
  | ref k =>
    rw [htt] at h1 key
    obtain ⟨⟨i, h2, _, h3⟩, _⟩ := h1
    cases k with
    | zero => exact key i _ .nilp h2 h3 .nilp rfl rfl
    | succ k => exact key i _ .nilf h2 h3 .nilf rfl rfl
  | map kt vt =>
    rw [htt] at h1 key
    obtain ⟨⟨i, h2, _, h3⟩, _⟩ := h1
    exact key i _ .nilm h2 h3 .nilm rfl rfl
  | mix w0 fs =>
    rw [htt] at h1 key
    obtain ⟨⟨i, z, h2, _, h3, h4⟩, _⟩ := h1
    exact key i z _ h2 h3 (h4 g (Imm g w)).1 rfl rfl

/-! ### stores -/
theorem storeAt_run (hT : TtOk P tt) {t : Nat} (hn : tt t ≠ .none) {w : World} {b o : Nat} {c : Array Value} {e : TypeId} (hb : w.heap[b]? = some (.cells c e (0, 0))) {rv : Value} (hs : rv.cells.size = wTI (tt t)) (ho : o + rv.cells.size ≤ c.size) (h1 : ∀ v ∈ rv.cells.toList, v.oneCell' = true) :
    (Instr.storeAt t (.pointer (some ⟨b, o, none⟩)) rv).run P w = .ok () (w.setRow b (lay c.toList o rv.cells.toList).toArray) := by
  have hsz := size_TI (P := P) hT hn w
  have := run_storeCells_at P b o e rv.cells.toList 0 c w hb (by simpa using ho) h1
  simp only [Nat.add_zero] at this
  simp [Instr.storeAt, Instr.sureAddr, storeVar, hsz, hs, this, lay]
theorem turn_row {g : Gh} {σ : St} {w : World} (h : RelSt g σ w) {i b : Nat} (hb : g.blk[i]? = some (some (b, true))) (cs : Array Value) {o : Ob} (ho : Up g w g (w.setRow b cs) → RelOb g (w.setRow b cs) i o) :
    Up g w g (w.setRow b cs) ∧ RelSt g ⟨σ.objs.set i o, σ.toks⟩ (w.setRow b cs) := by
  have hu := up_turn h hb (w' := w.setRow b cs) rfl rfl rfl (by simp) fun k hk => setRow_other w b k cs hk
  exact ⟨hu, st_turn h hb (w' := w.setRow b cs) rfl rfl rfl (by simp) (fun k hk => setRow_other w b k cs hk) (ho hu)⟩
theorem setOff_sound {U : Ty} {y : U.D} (hw : wd U = 1) : ∀ (T : Ty) (z : T.D) (k : Nat) (K : T.D → Option R) (r : R), setOff T z k U y K = some r →
    ∃ z', K z' = some r ∧ k < wd T ∧ ∀ (I : Addr → Value → Prop) (cs : List Value) (c : Value), Rd I T z cs → Rd I U y [c] → Rd I T z' (cs.set k c) := by
  intro T
  induction T with
  | pair a b iha ihb =>
    intro z k K r h
    obtain ⟨x, x2⟩ := z
    simp only [setOff] at h
    split at h
    · rename_i e; subst e
      split at h
      · rename_i e; subst e
        refine ⟨_, h, by rw [wd_pair]; omega, fun I cs c h1 h2 => ?_⟩
        obtain ⟨ca, cb, rfl, h3, h4⟩ := h1.inv
        have h5 := h3.len
        rw [hw] at h5
        obtain ⟨q, rfl⟩ := List.length_eq_one_iff.1 h5
        exact .pair _ _ _ _ [c] cb h2 h4
      · cases h
    · split at h
      · rename_i hle
        obtain ⟨z', h1, h2, h3⟩ := ihb _ _ _ _ h
        refine ⟨_, h1, by rw [wd_pair]; omega, fun I cs c h4 h5 => ?_⟩
        obtain ⟨ca, cb, rfl, h6, h7⟩ := h4.inv
        have h8 := h6.len
        rw [List.set_append_right _ _ (by omega), h8]
        exact .pair _ _ _ _ _ _ h6 (h3 I cb c h7 h5)
      · cases h
  | _ => intro z k K r h; simp [setOff] at h
theorem storeV_sound (hT : TtOk P tt) {σ : St} {t : Nat} {av v : V} {K : V → St → Option R} {r : R} (h : storeV tt σ t av v K = some r) :
    ∃ u σ', K u σ' = some r ∧ (∃ i ob, addrOb av = some i ∧ σ'.objs = σ.objs.set i ob) ∧ ∀ g w ra rv, RelSt g σ w → RelV g (Imm g w) av ra → RelV g (Imm g w) v rv → SO P (do Instr.storeAt t ra rv; pure .skip) g w u σ' := by
  unfold storeV at h
  split at h
  · rename_i i off
    split at h
    · rename_i cs ho
      split at h
      · rename_i hc
        obtain ⟨hc1, hc2, hc3⟩ := hc
        have hn : tt t ≠ .none := by intro e; rw [e] at hc2; cases hc2
        split at h
        · rename_i hle
          refine ⟨_, _, h, ⟨_, _, rfl, rfl⟩, fun g w ra rv hst ha hv => ?_⟩
          cases ha with
          | ptr _ _ b f hb =>
            obtain ⟨b2, c, e, h4, h5, h6, h7⟩ := hst.obj _ _ ho
            obtain ⟨rfl, rfl⟩ : b2 = b ∧ f = true := by rw [hb] at h4; simp at h4; exact ⟨h4.1.symm, h4.2⟩
            obtain ⟨k1, k2⟩ := flat_sound hv hc1
            have hsz : rv.cells.size = wTI (tt t) := by rw [hc3, k1.1]; simp
            have hfit : off + rv.cells.size ≤ c.size := by rw [h6]; rw [hsz, hc3]; exact hle
            have hrun := storeAt_run hT hn h5 hsz hfit k2
            obtain ⟨k3, k4⟩ := turn_row hst hb (lay c.toList off rv.cells.toList).toArray (o := .box true (splice cs off (flat v))) fun hu => by
              have hlen : off + rv.cells.toList.length ≤ c.toList.length := by simpa using hfit
              refine ⟨b2, _, e, hb, setRow_heap w b2 c _ e (0, 0) h5, by rw [splice_len hle]; simp [lay_len hlen, h6], fun j u hj => ?_⟩
              have hcs : RelCs g (Imm g w) cs c.toList := fun j v hj => by obtain ⟨rv, h8, h9, _⟩ := h7 j v hj; exact ⟨rv, by simpa using h8, h9⟩
              obtain ⟨ru, k5, k6⟩ := hcs.lay (by simp [h6]) k1 hle j u hj
              refine ⟨ru, by simpa using k5, k6.up hu, ?_⟩
              have := List.mem_of_getElem? k5
              unfold lay at this
              rcases List.mem_append.1 this with hm | hm
              · rcases List.mem_append.1 hm with hm | hm
                · obtain ⟨q, hq, rfl⟩ := List.getElem_of_mem (List.mem_of_mem_take hm)
                  have hq' : q < cs.length := by simp at hq; omega
                  obtain ⟨rv', h8, _, h10⟩ := h7 q _ (List.getElem?_eq_getElem hq')
                  have hq2 : q < c.size := by simpa using hq
                  rw [Array.getElem?_eq_getElem hq2] at h8
                  simp only [Option.some.injEq] at h8
                  simp only [Array.getElem_toList]; rw [h8]; exact h10
                · exact k2 ru hm
              · obtain ⟨q, hq, rfl⟩ := List.getElem_of_mem (List.mem_of_mem_drop hm)
                have hq' : q < cs.length := by simp at hq; omega
                obtain ⟨rv', h8, _, h10⟩ := h7 q _ (List.getElem?_eq_getElem hq')
                have hq2 : q < c.size := by simpa using hq
                rw [Array.getElem?_eq_getElem hq2] at h8
                simp only [Option.some.injEq] at h8
                simp only [Array.getElem_toList]; rw [h8]; exact h10
            exact ⟨_, _, _, g, by simp [hrun], .inr ⟨rfl, rfl⟩, k3, void_rel, k4⟩
        · cases h
      · cases h
    · rename_i m T xs ho
      split at h
      · rename_i n T' b htt
        split at h
        · rename_i e; obtain ⟨rfl, rfl⟩ := e
          split at h
          · rename_i hoff; subst hoff
            obtain ⟨ys, h1, h2⟩ := asD_sound h
            refine ⟨_, _, h1, ⟨_, _, rfl, rfl⟩, fun g w ra rv hst ha hv => ?_⟩
            cases ha with
            | ptr _ _ b' f hb =>
              obtain ⟨b2, c, e, h4, h5, h6, hfx, h7⟩ := hst.obj _ _ ho
              obtain ⟨rfl, rfl⟩ : b2 = b' ∧ f = true := by rw [hb] at h4; simp at h4; exact ⟨h4.1.symm, h4.2⟩
              have hlen := hfx m rfl
              rcases h2 _ _ _ hv with ⟨_, cells, rfl, k1⟩ | ⟨k1, _⟩
              · have k2 := k1.len
                obtain ⟨k3, css, rfl, k4, k5⟩ := k1.inv
                have hfit : 0 + css.flatten.length ≤ c.toList.length := by rw [k2, wd_arr, ← hlen]; simpa using h6
                have hrun := storeAt_run (P := P) hT (t := t) (by rw [htt]; intro e; cases e) h5 (rv := .agg css.flatten.toArray) (o := 0) (by simp only [Value.cells, List.size_toArray, k2, htt, wTI]) (by simpa [Value.cells] using hfit) (by simpa [Value.cells] using k1.one)
                obtain ⟨k6, k7⟩ := turn_row hst hb (lay c.toList 0 css.flatten).toArray (o := .arr true (some m) T' ys) fun hu => by
                  have hl : ∀ cs ∈ css, cs.length = wd T' := by
                    intro cs hcs
                    obtain ⟨k, hk, rfl⟩ := List.getElem_of_mem hcs
                    have hx : k < (show List T'.D from ys).length := by omega
                    exact (k5 k _ _ (List.getElem?_eq_getElem hx) (List.getElem?_eq_getElem hk)).len
                  refine ⟨b2, _, e, hb, setRow_heap w b2 c _ e (0, 0) h5, ?_, fun q hq => by simp only [Option.some.injEq] at hq; rw [← hq]; exact k3, fun j x hj => ?_⟩
                  · have k3' : ys.length = m := k3
                    simp only [List.size_toArray, lay_len hfit]
                    rw [k3', ← hlen]; simpa using h6
                  · have hlt := getElem?_lt hj
                    have hlt' : j < css.length := by have k3' : (show List T'.D from ys).length = m := k3; have h7' : j < (show List T'.D from ys).length := hlt; omega
                    refine ⟨css[j], (k5 j x _ hj (List.getElem?_eq_getElem hlt')).mono hu.cells, fun k v hk => ?_⟩
                    have h8 := flatten_at css (wd T') hl j k _ v (List.getElem?_eq_getElem hlt') hk
                    have h9 := getElem?_lt h8
                    simp only [List.getElem?_toArray]
                    rw [lay_get hfit, if_neg (by omega), if_pos (by omega)]
                    exact h8
                exact ⟨_, _, _, g, by simp only [Value.cells] at hrun; simp [hrun], .inr ⟨rfl, rfl⟩, k6, void_rel, k7⟩
              · cases k1
          · cases h
        · cases h
      · cases h
    · cases h
  · rename_i i T j
    split at h
    · rename_i fx T' xs ho
      split at h
      · rename_i e; subst e
        split at h
        · rename_i T'' b htt
          split at h
          · rename_i e; subst e
            obtain ⟨y, h1, h2⟩ := asD_sound h
            obtain ⟨hj, h1⟩ := cond_some h1
            refine ⟨_, _, h1, ⟨_, _, rfl, rfl⟩, fun g w ra rv hst ha hv => ?_⟩
            cases ha with
            | pel _ _ _ b' f hb =>
              obtain ⟨b2, c, e, h4, h5, h6, hfx, h7⟩ := hst.obj _ _ ho
              obtain ⟨rfl, rfl⟩ : b2 = b' ∧ f = true := by rw [hb] at h4; simp at h4; exact ⟨h4.1.symm, h4.2⟩
              have k1 := (h2 _ _ _ hv).cells
              have k2 := k1.len
              have hle : j * wd T'' + wd T'' ≤ c.size := by
                have : (j + 1) * wd T'' ≤ xs.length * wd T'' := Nat.mul_le_mul_right _ hj
                rw [Nat.succ_mul] at this; omega
              have hfit : j * wd T'' + rv.cells.toList.length ≤ c.toList.length := by rw [k2]; simpa using hle
              have hrun := storeAt_run (P := P) hT (t := t) (by rw [htt]; intro e; cases e) h5 (rv := rv) (o := j * wd T'') (by rw [htt]; simpa [wTI] using k2) (by simpa using hfit) k1.one
              obtain ⟨k6, k7⟩ := turn_row hst hb (lay c.toList (j * wd T'') rv.cells.toList).toArray (o := .arr true fx T'' (xs.set j y)) fun hu => by
                refine ⟨b2, _, e, hb, setRow_heap w b2 c _ e (0, 0) h5, ?_, fun q hq => by rw [List.length_set]; exact hfx q hq, fun q x hq => ?_⟩
                · simp only [List.size_toArray, lay_len hfit, List.length_set]; simpa using h6
                · by_cases hqj : q = j
                  · subst hqj
                    rw [List.getElem?_set_self hj] at hq
                    simp only [Option.some.injEq] at hq; subst hq
                    refine ⟨_, k1.mono hu.cells, fun k v hk => ?_⟩
                    have := getElem?_lt hk
                    simp only [List.getElem?_toArray]
                    rw [lay_get hfit, if_neg (by omega), if_pos (by omega), Nat.add_sub_cancel_left]; exact hk
                  · rw [List.getElem?_set_ne (by omega)] at hq
                    obtain ⟨cs, h8, h9⟩ := h7 q x hq
                    refine ⟨cs, h8.mono hu.cells, fun k v hk => ?_⟩
                    have h10 := h9 k v hk
                    have h11 := getElem?_lt hk
                    have h12 := h8.len
                    have h13 : q * wd T'' + k < j * wd T'' ∨ j * wd T'' + wd T'' ≤ q * wd T'' + k := by
                      rcases Nat.lt_or_gt_of_ne hqj with hlt | hgt
                      · left
                        have : (q + 1) * wd T'' ≤ j * wd T'' := Nat.mul_le_mul_right _ hlt
                        rw [Nat.succ_mul] at this; omega
                      · right
                        have : (j + 1) * wd T'' ≤ q * wd T'' := Nat.mul_le_mul_right _ hgt
                        rw [Nat.succ_mul] at this; omega
                    simp only [List.getElem?_toArray]
                    rw [lay_get hfit]
                    rcases h13 with h13 | h13
                    · rw [if_pos h13]; simpa using h10
                    · rw [if_neg (by omega), if_neg (by omega)]; simpa using h10
              exact ⟨_, _, _, g, by simp [hrun], .inr ⟨rfl, rfl⟩, k6, void_rel, k7⟩
          · cases h
        · cases h
      · cases h
    · cases h
  · rename_i i U m j k
    split at h
    · rename_i fx T'' xs ho
      split at h
      · rename_i U' b htt
        split at h
        · rename_i hc
          obtain ⟨rfl, hw, hm⟩ := hc
          obtain ⟨y, h1, h2⟩ := asD_sound h
          obtain ⟨z, hz, h1⟩ := Option.bind_eq_some_iff.1 h1
          obtain ⟨z', h1, hk, hset⟩ := setOff_sound hw _ _ _ _ _ h1
          have hj := getElem?_lt hz
          refine ⟨_, _, h1, ⟨_, _, rfl, rfl⟩, fun g w ra rv hst ha hv => ?_⟩
          cases ha with
          | pin _ _ _ _ _ b' f hb =>
            obtain ⟨b2, c, e, h4, h5, h6, hfx, h7⟩ := hst.obj _ _ ho
            obtain ⟨rfl, rfl⟩ : b2 = b' ∧ f = true := by rw [hb] at h4; simp at h4; exact ⟨h4.1.symm, h4.2⟩
            have k1 := (h2 _ _ _ hv).cells
            have k2 := k1.len
            rw [hw] at k2
            obtain ⟨q0, hq0⟩ := List.length_eq_one_iff.1 k2
            have hle : j * wd T'' + wd T'' ≤ c.size := by
              have : (j + 1) * wd T'' ≤ xs.length * wd T'' := Nat.mul_le_mul_right _ hj
              rw [Nat.succ_mul] at this; omega
            have hfit : j * wd T'' + k + rv.cells.toList.length ≤ c.toList.length := by rw [k2]; simp only [Array.length_toList]; omega
            have hrun := storeAt_run (P := P) hT (t := t) (by rw [htt]; intro e; cases e) h5 (rv := rv) (o := j * wd T'' + k) (by rw [htt, ← Array.length_toList, k2]; exact hw.symm) (by simpa using hfit) k1.one
            have hoff : j * (m * wd U') + k * wd U' = j * wd T'' + k := by rw [hw, Nat.mul_one, Nat.mul_one, hm]
            obtain ⟨k6, k7⟩ := turn_row hst hb (lay c.toList (j * wd T'' + k) rv.cells.toList).toArray (o := .arr true fx T'' (xs.set j z')) fun hu => by
              refine ⟨b2, _, e, hb, setRow_heap w b2 c _ e (0, 0) h5, ?_, fun q hq => by rw [List.length_set]; exact hfx q hq, fun q x hq => ?_⟩
              · simp only [List.size_toArray, lay_len hfit, List.length_set]; simpa using h6
              · by_cases hqj : q = j
                · subst hqj
                  rw [List.getElem?_set_self hj] at hq
                  simp only [Option.some.injEq] at hq; subst hq
                  obtain ⟨cs, h8, h9⟩ := h7 q z hz
                  rw [hq0] at k1
                  refine ⟨_, (hset _ _ _ h8 k1).mono hu.cells, fun p v hp => ?_⟩
                  simp only [List.getElem?_toArray]
                  rw [lay_get hfit, k2]
                  by_cases hpk : p = k
                  · subst hpk
                    have hlt := getElem?_lt hp
                    rw [List.length_set] at hlt
                    rw [List.getElem?_set_self hlt] at hp
                    rw [if_neg (by omega), if_pos (by omega), hq0, Nat.sub_self]; exact hp
                  · rw [List.getElem?_set_ne (by omega)] at hp
                    have h10 := h9 p v hp
                    rcases Nat.lt_or_gt_of_ne hpk with hlt | hgt
                    · rw [if_pos (by omega)]; simpa using h10
                    · rw [if_neg (by omega), if_neg (by omega)]; simpa using h10
                · rw [List.getElem?_set_ne (by omega)] at hq
                  obtain ⟨cs, h8, h9⟩ := h7 q x hq
                  refine ⟨cs, h8.mono hu.cells, fun p v hp => ?_⟩
                  have h10 := h9 p v hp
                  have h11 := getElem?_lt hp
                  have h12 := h8.len
                  have h13 : q * wd T'' + p < j * wd T'' + k ∨ j * wd T'' + k + 1 ≤ q * wd T'' + p := by
                    rcases Nat.lt_or_gt_of_ne hqj with hlt | hgt
                    · left
                      have : (q + 1) * wd T'' ≤ j * wd T'' := Nat.mul_le_mul_right _ hlt
                      rw [Nat.succ_mul] at this; omega
                    · right
                      have : (j + 1) * wd T'' ≤ q * wd T'' := Nat.mul_le_mul_right _ hgt
                      rw [Nat.succ_mul] at this; omega
                  simp only [List.getElem?_toArray]
                  rw [lay_get hfit, k2]
                  rcases h13 with h13 | h13
                  · rw [if_pos h13]; simpa using h10
                  · rw [if_neg (by omega), if_neg (by omega)]; simpa using h10
            rw [hoff]
            exact ⟨_, _, _, g, by simp [hrun], .inr ⟨rfl, rfl⟩, k6, void_rel, k7⟩
        · cases h
      · cases h
    · cases h
  · cases h
end
end Go.Proofs.Yticelgnmcjkknaa.Vm
