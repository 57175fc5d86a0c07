/-
A machine of values, nineteenth part: append, make, maps turned, copy; all operations but calls.
-/
import Derived.Test.YticelgnmcjkknaaVm18
set_option linter.unusedVariables false
set_option linter.unusedSimpArgs false
namespace Go.Proofs.Yticelgnmcjkknaa.Vm
open Go.RowKit (Below)
section
variable {P : Program} {tt : Nat → TI} {R : Type}

theorem SO.of {s : Sem Value} {g g' : Gh} {w w' : World} {v : V} {rv : Value} {σ' : St} (h : s.run P w = .ok rv w') (hu : Up g w g' w') (hv : RelV g' (Imm g' w') v rv) (hs : RelSt g' σ' w') : SO P (do pure (.value (← s))) g w v σ' :=
  ⟨_, rv, w', g', by simp [h], .inl rfl, hu, hv, hs⟩
theorem appendV_sound (hT : TtOk P tt) {σ : St} {t tx : Nat} {sv xv : V} {K : V → St → Option R} {r : R} (h : appendV tt σ t tx sv xv K = some r) :
    ∃ u σ', K u σ' = some r ∧ σ'.objs = σ.objs ∧ ∀ g w rs rx (ty : TypeId), RelSt g σ w → RelV g (Imm g w) sv rs → RelV g (Imm g w) xv rx → SO P (do pure (.value (← Builtin.append_ #[t, tx] ty #[rs, rx]))) g w u σ' := by
  unfold appendV at h
  split at h
  · rename_i T eb htt
    split at h
    · rename_i hc
      obtain ⟨hseq, heb⟩ := hc
      obtain ⟨e, b', i, h1, h2, h3, h4⟩ : ∃ e b' i, P.underlying t = some (.slice e) ∧ tt e = .dat T b' ∧ P.info? e = some i ∧ i.bytes = eb := by
        have := hT t; rw [htt] at this; exact this.2.1
      have h5 := hT e; rw [h2] at h5
      obtain ⟨⟨i', z, h6, h7, h8, h9⟩, _⟩ := h5
      obtain rfl : i = i' := by rw [h3] at h6; exact Option.some.inj h6
      have hzs : z.cells.size = wd T := by have := ((h9 (fun _ _ => True)).cells).len; simpa using this
      obtain ⟨ys, k1, k2⟩ := asRow_sound h
      split at k1
      · obtain ⟨hr, k1⟩ := cond_some k1
        refine ⟨_, _, k1, rfl, fun g w rs rx ty hst hs hx => ?_⟩
        cases hs
        obtain ⟨csy, k3, k4, k5⟩ := src_of (P := P) hT hseq (k2 g w rx hst.obj hx)
        obtain ⟨rv, w', R', k6, k7, k8, k9⟩ := append_core h1 h3 h8 h7 hzs (by omega) hst (xs := []) (ys := ys) (rd_nil _ _ none 0) k3 k4 k5 (by rw [h4]; simpa [room] using hr) (fun R => g.tkNew R) σ.toks.length 0 (σ.toks ++ [0]) (fun _ => rfl) (fun _ => rfl)
          (fun R => by show (g.tk ++ [(0, R)])[σ.toks.length]? = _; rw [← hst.lt, List.length_map, List.getElem?_append_right (Nat.le_refl _)]; simp)
          (fun R k hk => by
            show (g.tk ++ [(0, R)])[k]? = g.tk[k]?
            have hl : g.tk.length = σ.toks.length := by rw [← hst.lt, List.length_map]
            rcases Nat.lt_or_ge k g.tk.length with hlt | hge
            · rw [List.getElem?_append_left hlt]
            · rw [List.getElem?_append_right hge, List.getElem?_eq_none hge, List.getElem?_eq_none (by simp; omega)])
          (fun R => by show (g.tk ++ [(0, R)]).map Prod.fst = _; rw [List.map_append, show g.tk.map Prod.fst = σ.toks from hst.lt]; rfl)
          (fun ver R0 hk => by have := getElem?_lt hk; rw [← hst.lt, List.length_map] at this; omega) (fun hlt => absurd hlt (Nat.lt_irrefl _)) ty
        exact .of k6 k7 (by simpa using k8) k9
      · rename_i u xs tag
        split at k1
        · rename_i e1; subst e1
          split at k1
          · obtain ⟨hr, k1⟩ := cond_some k1
            refine ⟨_, _, k1, rfl, fun g w rs rx ty hst hs hx => ?_⟩
            cases hs with
            | row _ _ _ A n0 c0 hx1 hx2 =>
              obtain ⟨csy, k3, k4, k5⟩ := src_of (P := P) hT hseq (k2 g w rx hst.obj hx)
              have hnc : n0 = c0 := hx2
              obtain ⟨rv, w', R', k6, k7, k8, k9⟩ := append_core h1 h3 h8 h7 hzs (by omega) hst (xs := xs) (ys := ys) hx1 k3 k4 k5 (by rw [h4]; exact hr) (fun R => g.tkNew R) σ.toks.length 0 (σ.toks ++ [0]) (fun _ => rfl) (fun _ => rfl)
                (fun R => by show (g.tk ++ [(0, R)])[σ.toks.length]? = _; rw [← hst.lt, List.length_map, List.getElem?_append_right (Nat.le_refl _)]; simp)
                (fun R k hk => by
                  show (g.tk ++ [(0, R)])[k]? = g.tk[k]?
                  have hl : g.tk.length = σ.toks.length := by rw [← hst.lt, List.length_map]
                  rcases Nat.lt_or_ge k g.tk.length with hlt | hge
                  · rw [List.getElem?_append_left hlt]
                  · rw [List.getElem?_append_right hge, List.getElem?_eq_none hge, List.getElem?_eq_none (by simp; omega)])
                (fun R => by show (g.tk ++ [(0, R)]).map Prod.fst = _; rw [List.map_append, show g.tk.map Prod.fst = σ.toks from hst.lt]; rfl)
                (fun ver R0 hk => by have := getElem?_lt hk; rw [← hst.lt, List.length_map] at this; omega) (fun hlt => by omega) ty
              exact .of k6 k7 k8 k9
          · rename_i j ver
            split at k1
            · rename_i hver
              obtain ⟨hr, k1⟩ := cond_some k1
              refine ⟨_, _, k1, rfl, fun g w rs rx ty hst hs hx => ?_⟩
              cases hs with
              | row _ _ _ A n0 c0 hx1 hx2 =>
                obtain ⟨csy, k3, k4, k5⟩ := src_of (P := P) hT hseq (k2 g w rx hst.obj hx)
                obtain ⟨ver0, R0, q1, q2, q3⟩ := hx2
                have hv0 : ver0 = ver := by
                  have := congrArg (fun l : List Nat => l[j]?) hst.lt
                  simp only [List.getElem?_map, q1, Option.map_some, hver, Option.some.injEq] at this
                  exact this
                subst hv0
                have hjl : j < g.tk.length := getElem?_lt q1
                obtain ⟨rv, w', R', k6, k7, k8, k9⟩ := append_core h1 h3 h8 h7 hzs (by omega) hst (xs := xs) (ys := ys) hx1 k3 k4 k5 (by rw [h4]; exact hr) (fun R => g.tkSet j (ver0 + 1) R) j (ver0 + 1) (σ.toks.set j (ver0 + 1)) (fun _ => rfl) (fun _ => rfl)
                  (fun R => by show (g.tk.set j (ver0 + 1, R))[j]? = _; rw [List.getElem?_set_self hjl])
                  (fun R k hk => by show (g.tk.set j (ver0 + 1, R))[k]? = _; rw [List.getElem?_set_ne (by omega)])
                  (fun R => by show (g.tk.set j (ver0 + 1, R)).map Prod.fst = _; rw [List.map_set, show g.tk.map Prod.fst = σ.toks from hst.lt])
                  (fun ver R1 hk => by rw [q1] at hk; simp only [Option.some.injEq, Prod.mk.injEq] at hk; omega) (fun _ => ⟨ver0, R0, q1, q3 rfl⟩) ty
                exact .of k6 k7 k8 k9
            · cases k1
          · cases k1
        · cases k1
      · cases k1
    · cases h
  · cases h

/-! ### append that makes an object -/
theorem append_new {t tx : TypeId} {e : TypeId} {i : TypeInfo} {z : Value} {T : Ty} (ht : P.underlying t = some (.slice e)) (hi : P.info? e = some i) (hz : i.zero = some z) (hsz : i.size = wd T) (hzs : z.cells.size = wd T) (heb : 0 < i.bytes)
    {g : Gh} {σ : St} {w : World} (hst : RelSt g σ w) {xs ys : List T.D} {A : Option Addr} {n0 c0 : Nat} (hx : Rd (Imm g w) (.slice T) xs [.slice A n0 c0]) {rx : Value} {csy : List (List Value)} (hly : csy.length = ys.length)
    (hy : ∀ (i : Nat) (x : T.D) (cs : List Value), ys[i]? = some x → csy[i]? = some cs → Rd (Imm g w) T x cs) (hsrc : Src P (wd T) tx rx ys.length csy.flatten w) (hroom : (xs.length + ys.length) * i.bytes ≤ 140737488355328)
    (hfull : n0 = c0) (hne : ys.isEmpty = false) (ty : TypeId) :
    ∃ rv w', (Builtin.append_ #[t, tx] ty #[.slice A n0 c0, rx]).run P w = .ok rv w' ∧ Up g w (g.new w.heap.size) w' ∧ RelV (g.new w.heap.size) (Imm (g.new w.heap.size) w') (.msl σ.objs.length T 0 (xs.length + ys.length)) rv ∧
      RelSt (g.new w.heap.size) ⟨σ.objs ++ [.arr true none T (xs ++ ys)], σ.toks⟩ w' := by
  obtain ⟨rfl, hxc, hxA, csx, hlx, hx1, hx2⟩ := rd_css hx
  have hxl : csx.flatten.length = xs.length * wd T := by
    rw [flatten_len csx (wd T) (fun cs hcs => by
      obtain ⟨k, hk, rfl⟩ := List.getElem_of_mem hcs
      have hx' : k < xs.length := by omega
      exact (hx1 k _ _ (List.getElem?_eq_getElem hx') (List.getElem?_eq_getElem hk)).len), hlx]
  have hy0 : 0 < ys.length := by cases ys with
    | nil => simp at hne
    | cons => simp
  have hg : c0 < xs.length + ys.length := by omega
  have h63 : ((xs.length + ys.length : Nat) : Int) ≤ 9223372036854775807 := by
    have : (xs.length + ys.length) * 1 ≤ (xs.length + ys.length) * i.bytes := Nat.mul_le_mul_left _ heb
    omega
  have hold : (Builtin.firstCells i.size xs.length (.slice A xs.length c0)).run P w.drew = .ok csx.flatten.toArray w.drew := by
    cases hA : A with
    | none =>
      have hxs : xs = [] := by
        apply Classical.byContradiction
        intro hne
        have := hxA hne
        rw [hA] at this; cases this
      subst hxs
      have : csx = [] := List.eq_nil_of_length_eq_zero hlx
      subst this
      exact run_firstCells_none w.drew _ _ _ _
    | some ad => exact run_firstCells_some w.drew _ _ ad _ c0 csx.flatten (by rw [hsz]; exact hxl) fun k v hk => by simpa using (hx2 ad k v hA hk).1
  have hrun := run_append_grow_src (P := P) w t tx ty e i z ht hi hz A xs.length c0 csx.flatten hold rx ys.length csy.flatten (by rw [hsz]; exact hsrc) hg h63 (growslice_fits hg hroom)
  have hcap : xs.length + ys.length ≤ grownCap w (xs.length + ys.length) c0 e := grownCap_ge ..
  generalize hcapd : grownCap w (xs.length + ys.length) c0 e = cap at hrun hcap
  have hfl := hsrc.newsLen
  have hCsz : ((csx.flatten ++ csy.flatten).toArray ++ Builtin.zeroCells z.cells (cap - (xs.length + ys.length))).size = cap * wd T := by
    rw [Array.size_append, size_zeroCells, hzs]
    simp only [List.size_toArray, List.length_append, hxl, hfl]
    rw [← Nat.add_mul, ← Nat.add_mul]; congr 1; omega
  generalize hCd : (csx.flatten ++ csy.flatten).toArray ++ Builtin.zeroCells z.cells (cap - (xs.length + ys.length)) = C at hrun hCsz
  have hCget : ∀ (k : Nat) (v : Value), (csx.flatten ++ csy.flatten)[k]? = some v → C[k]? = some v := by
    intro k v hk
    have := getElem?_lt hk
    rw [← hCd, Array.getElem?_append_left (by simpa using this)]
    simpa using hk
  have hb : Below w.heap.size w (w.drew.alloc (.cells C e)) := ((Below.refl _ w).drew).alloc (Nat.le_refl _) _
  have hu := up_new hst hb
  have hl : ∀ cs ∈ csx ++ csy, cs.length = wd T := by
    intro cs hcs
    rcases List.mem_append.1 hcs with hcs | hcs
    · obtain ⟨k, hk, rfl⟩ := List.getElem_of_mem hcs
      have hx' : k < xs.length := by omega
      exact (hx1 k _ _ (List.getElem?_eq_getElem hx') (List.getElem?_eq_getElem hk)).len
    · obtain ⟨k, hk, rfl⟩ := List.getElem_of_mem hcs
      have hx' : k < ys.length := by omega
      exact (hy k _ _ (List.getElem?_eq_getElem hx') (List.getElem?_eq_getElem hk)).len
  refine ⟨_, _, hrun, hu, .msl _ _ _ _ w.heap.size true _ _ (blk_last hst _) hcap (fun _ => by rw [Nat.zero_mul]) (fun h => by cases h), st_new hst hb (by simp) ⟨w.heap.size, C, e, blk_last hst _, heap_alloc_new _ _, ?_, (fun q hq => by cases hq), fun j x hj => ?_⟩⟩
  · rw [hCsz, List.length_append]; exact Nat.mul_le_mul_right _ hcap
  · have hlt := getElem?_lt hj
    rw [List.length_append] at hlt
    have hlt' : j < (csx ++ csy).length := by rw [List.length_append]; omega
    refine ⟨(csx ++ csy)[j], Rd.mono hu.cells ?_, fun k v hk => ?_⟩
    · rcases Nat.lt_or_ge j xs.length with h1 | h1
      · rw [List.getElem?_append_left h1] at hj
        exact hx1 j x _ hj (by rw [← List.getElem?_append_left (l₂ := csy) (by omega)]; exact List.getElem?_eq_getElem hlt')
      · rw [List.getElem?_append_right h1] at hj
        refine hy _ x _ hj ?_
        have := List.getElem?_append_right (l₁ := csx) (l₂ := csy) (i := j) (by omega)
        rw [hlx] at this
        rw [← this]; exact List.getElem?_eq_getElem hlt'
    · refine hCget _ v ?_
      rw [← List.flatten_append]
      exact flatten_at (csx ++ csy) (wd T) hl j k _ v (List.getElem?_eq_getElem hlt') hk
theorem appendO_sound (hT : TtOk P tt) {σ : St} {t tx : Nat} {sv xv : V} {K : V → St → Option R} {r : R} (h : appendO tt σ t tx sv xv K = some r) :
    ∃ u σ', K u σ' = some r ∧ ∀ g w rs rx (ty : TypeId), RelSt g σ w → RelV g (Imm g w) sv rs → RelV g (Imm g w) xv rx → SO P (do pure (.value (← Builtin.append_ #[t, tx] ty #[rs, rx]))) g w u σ' := by
  unfold appendO at h
  split at h
  · rename_i T eb htt
    split at h
    · rename_i hc
      obtain ⟨hseq, heb⟩ := hc
      obtain ⟨e, b', i, h1, h2, h3, h4⟩ : ∃ e b' i, P.underlying t = some (.slice e) ∧ tt e = .dat T b' ∧ P.info? e = some i ∧ i.bytes = eb := by
        have := hT t; rw [htt] at this; exact this.2.1
      have h5 := hT e; rw [h2] at h5
      obtain ⟨⟨i', z, h6, h7, h8, h9⟩, _⟩ := h5
      obtain rfl : i = i' := by rw [h3] at h6; exact Option.some.inj h6
      have hzs : z.cells.size = wd T := by have := ((h9 (fun _ _ => True)).cells).len; simpa using this
      split at h
      · obtain ⟨ys, k1, k2⟩ := asRow_sound h
        cases hem : ys.isEmpty with
        | true => rw [hem] at k1; cases k1
        | false =>
          rw [hem, cond_false] at k1
          obtain ⟨hr, k1⟩ := cond_some k1
          refine ⟨_, _, k1, fun g w rs rx ty hst hs hx => ?_⟩
          cases hs
          obtain ⟨csy, k3, k4, k5⟩ := src_of (P := P) hT hseq (k2 g w rx hst.obj hx)
          obtain ⟨rv, w', k6, k7, k8, k9⟩ := append_new h1 h3 h8 h7 hzs (by omega) hst (xs := []) (ys := ys) (rd_nil _ _ none 0) k3 k4 k5 (by rw [h4]; simpa [room] using hr) rfl hem ty
          exact .of k6 k7 (by simpa using k8) (by simpa using k9)
      · rename_i u xs
        split at h
        · rename_i e1; subst e1
          obtain ⟨ys, k1, k2⟩ := asRow_sound h
          cases hem : ys.isEmpty with
          | true => rw [hem] at k1; cases k1
          | false =>
            rw [hem, cond_false] at k1
            obtain ⟨hr, k1⟩ := cond_some k1
            refine ⟨_, _, k1, fun g w rs rx ty hst hs hx => ?_⟩
            cases hs with
            | row _ _ _ A n0 c0 hx1 hx2 =>
              obtain ⟨csy, k3, k4, k5⟩ := src_of (P := P) hT hseq (k2 g w rx hst.obj hx)
              obtain ⟨rv, w', k6, k7, k8, k9⟩ := append_new h1 h3 h8 h7 hzs (by omega) hst (xs := xs) (ys := ys) hx1 k3 k4 k5 (by rw [h4]; exact hr) hx2 hem ty
              exact .of k6 k7 k8 k9
        · cases h
      · obtain ⟨u, σ', k1, _, k2⟩ := appendV_sound (P := P) hT h
        exact ⟨u, σ', k1, k2⟩
    · cases h
  · cases h

/-! ### copy -/
theorem mid_get {A : Type} {xs ys : List A} {lo m : Nat} (h : lo + m ≤ xs.length) (hm : m ≤ ys.length) (q : Nat) : (xs.take lo ++ ys.take m ++ xs.drop (lo + m))[q]? = if q < lo then xs[q]? else if q < lo + m then ys[q - lo]? else xs[q]? := by
  have l1 : (xs.take lo).length = lo := by rw [List.length_take]; omega
  have l2 : (ys.take m).length = m := by rw [List.length_take]; omega
  split
  · rename_i h1
    rw [List.append_assoc, List.getElem?_append_left (by omega), List.getElem?_take, if_pos h1]
  · rename_i h1
    split
    · rename_i h2
      rw [List.append_assoc, List.getElem?_append_right (by omega), l1, List.getElem?_append_left (by omega), List.getElem?_take, if_pos (by omega)]
    · rename_i h2
      rw [List.getElem?_append_right (by rw [List.length_append]; omega), List.length_append, l1, l2, List.getElem?_drop]
      congr 1; omega
theorem mid_len {A : Type} {xs ys : List A} {lo m : Nat} (h : lo + m ≤ xs.length) (hm : m ≤ ys.length) : (xs.take lo ++ ys.take m ++ xs.drop (lo + m)).length = xs.length := by
  simp only [List.length_append, List.length_take, List.length_drop]; omega
theorem copyV_sound (hT : TtOk P tt) {σ : St} {td ts : Nat} {dv sv : V} {K : V → St → Option R} {r : R} (h : copyV tt σ td ts dv sv K = some r) :
    ∃ u σ', K u σ' = some r ∧ ∀ g w rd rs (ty : TypeId), RelSt g σ w → RelV g (Imm g w) dv rd → RelV g (Imm g w) sv rs → SO P (do pure (.value (← Builtin.copy_ #[td, ts] ty #[rd, rs]))) g w u σ' := by
  unfold copyV at h
  split at h
  · rename_i T eb htt
    split at h
    · rename_i hc
      obtain ⟨hsl, hwd⟩ := hc
      obtain ⟨e, b', i, h1, h2, h3, h4⟩ : ∃ e b' i, P.underlying td = some (.slice e) ∧ tt e = .dat T b' ∧ P.info? e = some i ∧ i.bytes = eb := by
        have := hT td; rw [htt] at this; exact this.2.1
      have h5 := hT e; rw [h2] at h5
      obtain ⟨⟨i', z, h6, h7, h8, h9⟩, _⟩ := h5
      obtain rfl : i = i' := by rw [h3] at h6; exact Option.some.inj h6
      have hsz1 : (P.info? e).map (·.size) = some 1 := by rw [h3]; simp only [Option.map_some]; rw [← hwd]; first | rw [h7] | rw [h8]
      split at h
      · rename_i j T' lo n
        split at h
        · rename_i hc2
          obtain ⟨e1, hnd⟩ := hc2
          subst e1
          obtain ⟨ys, k1, k2⟩ := asRow_sound h
          split at k1
          · rename_i fx T'' xs ho
            split at k1
            · rename_i e2; subst e2
              obtain ⟨hfit, k1⟩ := cond_some k1
              refine ⟨_, _, k1, fun g w rd rs ty hst hd hs => ?_⟩
              cases hd with
              | msl _ _ _ _ b f A c hb hnc hA hA0 =>
                obtain ⟨b2, cur, e', q4, q5, q6, qfx, q7⟩ := hst.obj _ _ ho
                obtain ⟨rfl, rfl⟩ : b2 = b ∧ f = true := by rw [hb] at q4; simp at q4; exact ⟨q4.1.symm, q4.2⟩
                obtain ⟨css, p1, p2, p3⟩ := k2 g w rs hst.obj hs
                rcases p3 with ⟨A', c', rfl, p4, p5⟩ | ⟨s, rfl, _⟩
                · have hlow : ∀ cs ∈ css, cs.length = wd T'' := by
                    intro cs hcs
                    obtain ⟨k, hk, rfl⟩ := List.getElem_of_mem hcs
                    have hx : k < ys.length := by omega
                    exact (p2 k _ _ (List.getElem?_eq_getElem hx) (List.getElem?_eq_getElem hk)).len
                  have hcl : css.flatten.length = ys.length := by rw [flatten_len css _ hlow, hwd, Nat.mul_one, p1]
                  generalize hm : min ys.length n = m
                  have hm1 : m ≤ ys.length := by omega
                  have hm2 : lo + m ≤ xs.length := by omega
                  by_cases hm0 : m = 0
                  · have hrun := run_copy_none (P := P) w td ts ty e A A' n c ys.length c' h1 hsz1 (by show min ys.length n = 0; omega)
                    subst hm0
                    have hobjs : σ.objs.set j (.arr true fx T'' (xs.take lo ++ ys.take 0 ++ xs.drop (lo + 0))) = σ.objs := by
                      rw [List.take_zero, List.append_nil, Nat.add_zero, List.take_append_drop]
                      have hlt := getElem?_lt ho
                      apply List.ext_getElem?
                      intro q
                      by_cases hq : j = q
                      · subst hq; rw [List.getElem?_set_self hlt, ho]
                      · rw [List.getElem?_set_ne hq]
                    rw [hobjs]
                    exact .of hrun (.refl g w) (.leaf _ _ _ rfl (.int _ _)) hst
                  · have hn0 : n ≠ 0 := by omega
                    have hy0 : ys ≠ [] := by intro e; rw [e] at hm1; simp at hm1; omega
                    have hA := hA hn0
                    rw [hwd, Nat.mul_one] at hA
                    subst hA
                    obtain ⟨a, rfl⟩ : ∃ a, A' = some a := by
                      cases A' with
                      | some a => exact ⟨a, rfl⟩
                      | none => cases (p5 hy0)
                    have hcsz : (css.flatten.take m).length = m := by rw [List.length_take]; omega
                    rw [hwd, Nat.mul_one] at q6
                    have hrun := run_copy_row (P := P) w td ts ty e b2 lo n c a ys.length c' cur e' (css.flatten.take m) h1 hsz1 q5 (by rw [hcsz]; exact hm.symm)
                      (fun k v hk => p4 a k v rfl (take_get hk).1) (by rw [hcsz]; omega) (fun v hv => by
                        have hv := List.mem_of_mem_take hv
                        obtain ⟨cs, hcs, hu⟩ := List.mem_flatten.1 hv
                        obtain ⟨k, hk, rfl⟩ := List.getElem_of_mem hcs
                        have hx : k < ys.length := by omega
                        exact (p2 k _ _ (List.getElem?_eq_getElem hx) (List.getElem?_eq_getElem hk)).one v hu)
                    have hlen : lo + (css.flatten.take m).length ≤ cur.toList.length := by rw [hcsz]; simp; omega
                    have hrow : (cur.toList.take lo ++ css.flatten.take m ++ cur.toList.drop (lo + (css.flatten.take m).length)).toArray = (lay cur.toList lo (css.flatten.take m)).toArray := rfl
                    rw [hrow, hcsz] at hrun
                    obtain ⟨k6, k7⟩ := turn_row hst hb (lay cur.toList lo (css.flatten.take m)).toArray (o := .arr true fx T'' (xs.take lo ++ ys.take m ++ xs.drop (lo + m))) fun hu => by
                      refine ⟨b2, _, e', hb, setRow_heap w b2 cur _ e' (0, 0) q5, ?_, fun q hq => by rw [mid_len hm2 hm1]; exact qfx q hq, fun q x hq => ?_⟩
                      · rw [mid_len hm2 hm1, hwd, Nat.mul_one]
                        simp only [List.size_toArray, lay_len hlen]; simpa using q6
                      · rw [mid_get hm2 hm1] at hq
                        have hlg : ∀ k, (lay cur.toList lo (css.flatten.take m)).toArray[k]? = if k < lo then cur[k]? else if k < lo + m then (css.flatten.take m)[k - lo]? else cur[k]? := by
                          intro k
                          simp only [List.getElem?_toArray]
                          rw [lay_get hlen, hcsz]
                          simp
                        have hk0 : ∀ {cs : List Value} {k : Nat} {v : Value} {x : T''.D}, Rd (Imm g w) T'' x cs → cs[k]? = some v → k = 0 := fun h1 h2 => by
                          have := h1.len; rw [hwd] at this
                          have := getElem?_lt h2; omega
                        split at hq
                        · rename_i hql
                          obtain ⟨cs, h10, h11⟩ := q7 q x hq
                          refine ⟨cs, h10.mono hu.cells, fun k v hk => ?_⟩
                          have := hk0 h10 hk; subst this
                          have h12 := h11 0 v hk
                          rw [hwd, Nat.mul_one, Nat.add_zero] at h12 ⊢
                          rw [hlg, if_pos hql]; exact h12
                        · rename_i hql
                          split at hq
                          · rename_i hqm
                            have hlt := getElem?_lt hq
                            have hlt' : q - lo < css.length := by omega
                            have h10 := p2 _ x _ hq (List.getElem?_eq_getElem hlt')
                            refine ⟨css[q - lo], h10.mono hu.cells, fun k v hk => ?_⟩
                            have := hk0 h10 hk; subst this
                            have h12 := flatten_at css (wd T'') hlow (q - lo) 0 _ v (List.getElem?_eq_getElem hlt') hk
                            rw [hwd, Nat.mul_one, Nat.add_zero] at h12 ⊢
                            rw [hlg, if_neg hql, if_pos hqm, List.getElem?_take, if_pos (by omega)]; exact h12
                          · rename_i hqm
                            obtain ⟨cs, h10, h11⟩ := q7 q x hq
                            refine ⟨cs, h10.mono hu.cells, fun k v hk => ?_⟩
                            have := hk0 h10 hk; subst this
                            have h12 := h11 0 v hk
                            rw [hwd, Nat.mul_one, Nat.add_zero] at h12 ⊢
                            rw [hlg, if_neg hql, if_neg hqm]; exact h12
                    exact .of hrun k6 (.leaf _ _ _ rfl (.int _ _)) k7
                · exfalso
                  cases hs <;> simp [isDat] at hnd
            · cases k1
          · cases k1
        · cases h
      · cases h
    · cases h
  · cases h

/-! ### make -/
theorem makeSlice_sound (hT : TtOk P tt) {σ : St} {t : Nat} {T : Ty} {eb : Nat} (htt : tt t = .dat (.slice T) eb) (heb : 0 < eb) {kl kc : IntKind} {n m : Int} (h0 : 0 ≤ n) (hnm : n ≤ m) (hr : m.toNat * eb ≤ room) {g : Gh} {w : World} (hst : RelSt g σ w) :
    SO P (do pure (.value (← Instr.makeSlice t (.int kl n) (.int kc m)))) g w (.msl σ.objs.length T 0 n.toNat) ⟨σ.objs ++ [.arr true none T (List.replicate n.toNat (zeroD T))], σ.toks⟩ := by
  obtain ⟨e, b', i, h1, h2, h3, h4⟩ : ∃ e b' i, P.underlying t = some (.slice e) ∧ tt e = .dat T b' ∧ P.info? e = some i ∧ i.bytes = eb := by
    have := hT t; rw [htt] at this; exact this.2.1
  have h5 := hT e; rw [h2] at h5
  obtain ⟨⟨i', z, h6, h7, h8, h9⟩, _⟩ := h5
  obtain rfl : i = i' := by rw [h3] at h6; exact Option.some.inj h6
  have hz := (h9 (Imm g w)).cells
  have hzs : z.cells.size = wd T := by have := hz.len; simpa using this
  have hm63 : m.toNat ≤ 140737488355328 := by
    have : m.toNat * 1 ≤ m.toNat * eb := Nat.mul_le_mul_left _ heb
    unfold room at hr; omega
  have hbytes : (i.bytes : Int) * m ≤ 281474976710656 := by
    rw [h4]
    have h10 : ((m.toNat * eb : Nat) : Int) ≤ 140737488355328 := by unfold room at hr; omega
    rw [Int.natCast_mul, Int.toNat_of_nonneg (by omega), Int.mul_comm] at h10
    omega
  have hrun := run_make (P := P) w t e i z h1 h3 h8 kl kc n m h0 hnm hbytes (by omega)
  rw [h7] at hrun
  have hb : Below w.heap.size w (w.alloc (.cells (madeCells z.cells (m.toNat * wd T)) e)) := (Below.refl _ w).alloc (Nat.le_refl _) _
  have hu := up_new hst hb
  have hRd := rd_zeros hz m.toNat
  rw [hzs] at hRd
  obtain ⟨q1, css, q2, q3, q4⟩ := hRd.inv
  have hl : ∀ cs ∈ css, cs.length = wd T := by
    intro cs hcs
    obtain ⟨k, hk, rfl⟩ := List.getElem_of_mem hcs
    have hx : k < (List.replicate m.toNat (zeroD T)).length := by simp; omega
    exact (q4 k _ _ (List.getElem?_eq_getElem hx) (List.getElem?_eq_getElem hk)).len
  have hle : n.toNat ≤ m.toNat := by omega
  refine .of hrun hu (.msl _ _ _ _ w.heap.size true _ _ (blk_last hst _) hle (fun _ => by rw [Nat.zero_mul]) (fun h => by cases h)) (st_new hst hb (by simp) ⟨w.heap.size, _, e, blk_last hst _, heap_alloc_new' _ _, ?_, (fun q hq => by cases hq), fun j x hj => ?_⟩)
  · rw [size_madeCells, List.length_replicate]; exact Nat.mul_le_mul_right _ hle
  · rw [List.getElem?_replicate] at hj
    split at hj
    · rename_i hjn
      simp only [Option.some.injEq] at hj; subst hj
      have hjc : j < css.length := by omega
      have hjm : (List.replicate m.toNat (zeroD T))[j]? = some (zeroD T) := by rw [List.getElem?_replicate, if_pos (by omega)]
      refine ⟨css[j], (q4 j _ _ hjm (List.getElem?_eq_getElem hjc)).mono hu.cells, fun k v hk => ?_⟩
      have := flatten_at css (wd T) hl j k _ v (List.getElem?_eq_getElem hjc) hk
      rw [← q2] at this
      rw [← Array.getElem?_toList]
      unfold madeCells
      rw [hzs]
      exact this
    · cases hj
theorem makeMap_sound {σ : St} {t : Nat} {kt vt : Ty} {g : Gh} {w : World} (hst : RelSt g σ w) :
    SO P (do pure (.value (← Instr.makeMap t none))) g w (.mp σ.objs.length) ⟨σ.objs ++ [.map true kt vt []], σ.toks⟩ := by
  have hb : Below w.heap.size w (w.alloc (.map #[] 0)) := (Below.refl _ w).alloc (Nat.le_refl _) _
  have hu := up_new hst hb
  exact .of (by simp [Instr.makeMap]) hu (.mp _ w.heap.size true (blk_last hst _)) (st_new hst hb (by simp) ⟨w.heap.size, #[], 0, blk_last hst _, heap_alloc_new' _ _, rfl, fun j e m hj => by simp at hj⟩)

/-! ### maps turned -/
theorem mput_find {A : Type} (kt : Ty) (k : kt.D) (x : A) : ∀ (es : List (kt.D × A)) (n : Nat), mput kt k x es = match mfind kt k es n with
    | some i => es.set (i - n) (k, x)
    | none => es ++ [(k, x)]
  | [], n => rfl
  | e :: es, n => by
    simp only [mput, mfind]
    cases hb : beqD kt k e.1
    · rw [cond_false, cond_false, mput_find kt k x es (n + 1)]
      cases hm : mfind kt k es (n + 1) with
      | none => rfl
      | some i =>
        obtain ⟨h1, _⟩ := mfind_lt kt k es (n + 1) i hm
        simp only
        rw [show i - n = (i - (n + 1)) + 1 by omega]; rfl
    · simp
theorem sb_int (k : IntKind) (m : Int) (n : Nat) : Instr.sameBits n (.int k m) (.int k m) = true := by cases n <;> simp [Instr.sameBits]
theorem sb_bool (b : Bool) (n : Nat) : Instr.sameBits n (.bool b) (.bool b) = true := by cases n <;> simp [Instr.sameBits]
theorem beq_bytes {a b : ByteArray} (h : beqD .str a b = true) : a = b := by
  have h1 : (a == b) = true := h
  have h2 := beq_toListBytes a b
  rw [h1] at h2
  have h3 : a.toList = b.toList := eq_of_beq h2.symm
  rw [ByteArray.toList_eq, ByteArray.toList_eq] at h3
  obtain ⟨a⟩ := a
  obtain ⟨b⟩ := b
  congr 1
  exact Array.ext' h3
theorem sb_str (s : ByteArray) (n : Nat) : Instr.sameBits n (.string s) (.string s) = true := by
  have : (s == s) = true := by rw [beq_toListBytes]; exact beq_self_eq_true _
  cases n <;> simpa [Instr.sameBits] using this
theorem beqD_eq {I : Addr → Value → Prop} : ∀ (T : Ty), eqTy0 T = true → ∀ (x y : T.D) (cx cy : List Value), beqD T x y = true → Rd I T x cx → Rd I T y cy → cx = cy ∧ ∀ v ∈ cx, ∀ n, Instr.sameBits n v v = true := by
  intro T
  induction T with
  | int k =>
    intro _ x y cx cy h hx hy
    have h1 : cx = [.int k x] := hx.inv
    have h2 : cy = [.int k y] := hy.inv
    have h3 : x = y := eq_of_beq (α := Int) h
    subst h1; subst h2
    refine ⟨by rw [h3], fun v hv n => ?_⟩
    simp only [List.mem_singleton] at hv; subst hv
    exact sb_int k x n
  | bool =>
    intro _ x y cx cy h hx hy
    have h1 : cx = [.bool x] := hx.inv
    have h2 : cy = [.bool y] := hy.inv
    have h3 : x = y := eq_of_beq (α := Bool) h
    subst h1; subst h2
    refine ⟨by rw [h3], fun v hv n => ?_⟩
    simp only [List.mem_singleton] at hv; subst hv
    exact sb_bool x n
  | str =>
    intro _ x y cx cy h hx hy
    have h1 : cx = [.string x] := hx.inv
    have h2 : cy = [.string y] := hy.inv
    have h3 : x = y := beq_bytes h
    subst h1; subst h2
    refine ⟨by rw [h3], fun v hv n => ?_⟩
    simp only [List.mem_singleton] at hv; subst hv
    exact sb_str x n
  | unit =>
    intro _ x y cx cy h hx hy
    have h1 : cx = [] := hx.inv
    have h2 : cy = [] := hy.inv
    subst h1; subst h2
    exact ⟨rfl, fun v hv => by simp at hv⟩
  | slice t _ => intro h; simp [eqTy0] at h
  | arr n t _ => intro h; simp [eqTy0] at h
  | rc i => intro h; simp [eqTy0] at h
  | pair a b iha ihb =>
    intro he x y cx cy h hx hy
    have hea : (eqTy0 a = true ∧ eqTy0 b = true) ∧ isChain b = true := by simpa [eqTy0] using he
    obtain ⟨x1, x2⟩ := x
    obtain ⟨y1, y2⟩ := y
    obtain ⟨c1, c2, rfl, h1, h2⟩ := hx.inv
    obtain ⟨d1, d2, rfl, h3, h4⟩ := hy.inv
    have h : cond (beqD a x1 y1) (beqD b x2 y2) false = true := h
    cases h5 : beqD a x1 y1
    · rw [h5] at h; cases h
    · rw [h5, cond_true] at h
      obtain ⟨k1, k2⟩ := iha hea.1.1 x1 y1 c1 d1 h5 h1 h3
      obtain ⟨k3, k4⟩ := ihb hea.1.2 x2 y2 c2 d2 h h2 h4
      refine ⟨by rw [k1, k3], fun v hv => ?_⟩
      rcases List.mem_append.1 hv with hv | hv
      · exact k2 v hv
      · exact k4 v hv
theorem sameBits_refl (T : Ty) (he : eqTy0 T = true) (I : Addr → Value → Prop) (x y : T.D) (rx ry : Value) (n : Nat) (hb : beqD T x y = true) (hx : RelVal I T x rx) (hy : RelVal I T y ry) : Instr.sameBits (n + 1) ry rx = true := by
  rcases hx with ⟨ha, cx, rfl, hx⟩ | ⟨ha, hx⟩
  · rcases hy with ⟨_, cy, rfl, hy⟩ | ⟨ha', _⟩
    · obtain ⟨k1, k2⟩ := beqD_eq T he x y cx cy hb hx hy
      subst k1
      simp only [Instr.sameBits, beq_self_eq_true, Bool.true_and, List.all_eq_true]
      intro p hp
      obtain ⟨i, hi, rfl⟩ := List.getElem_of_mem hp
      simp only [List.getElem_zip]
      exact k2 _ (List.getElem_mem _) n
    · rw [ha] at ha'; cases ha'
  · rcases hy with ⟨ha', _⟩ | ⟨_, hy⟩
    · rw [ha] at ha'; cases ha'
    · obtain ⟨k1, k2⟩ := beqD_eq T he x y [rx] [ry] hb hx hy
      simp only [List.cons.injEq, and_true] at k1
      subst k1
      exact k2 rx (by simp) _
theorem mapUpdate_sound (hT : TtOk P tt) {σ : St} {t i : Nat} {kt vt : Ty} (htt : tt t = .map kt vt) (hk : eqTy kt = true) {es : List (kt.D × vt.D)} (ho : σ.objs[i]? = some (.map true kt vt es)) {k : kt.D} {x : vt.D} {g : Gh} {w : World} (hst : RelSt g σ w) {rm rk rx : Value}
    (hm : RelV g (Imm g w) (.mp i) rm) (hrk : RelVal (Imm g w) kt k rk) (hrx : RelVal (Imm g w) vt x rx) :
    SO P (do Instr.mapUpdate t rm rk rx; pure .skip) g w void ⟨σ.objs.set i (.map true kt vt (mput kt k x es)), σ.toks⟩ := by
  have ht := hT t; rw [htt] at ht
  obtain ⟨_, kk, kv, bk, bv, h2, h3, h4⟩ := ht
  have hk' : eqTy0 kt = true ∧ tySz kt ≤ 1000 := by simpa [eqTy] using hk
  cases hm with
  | mp _ b f hb =>
    obtain ⟨b2, ents, clock, k1, k2, k3, k4⟩ := hst.obj _ _ ho
    obtain ⟨rfl, rfl⟩ : b2 = b ∧ f = true := by rw [hb] at k1; simp at k1; exact ⟨k1.1.symm, k1.2⟩
    have hck := (checkKey_sound (P := P) hT false kt hk'.1).1 kk bk 10000 _ k rk w h3 (by have := hk'.2; omega) hrk
    have hrel : ∀ (j : Nat) (e : kt.D × vt.D) (m : MapEntry), es[j]? = some e → ents.toList[j]? = some m → RelVal (Imm g w) kt e.1 m.key := fun j e m hj hm => relVal_dat (k4 j e m hj (by simpa using hm)).1
    have hfk := findKey_sound (P := P) hT hk h3 hrk w es ents.toList (by simpa using k3) hrel
    have hobj : (getObj b2).run P w = .ok (.map ents clock) w := by simp [getObj, Sem.run, k2]
    have hset : ∀ o : Obj, (∀ c e f, o ≠ .cells c e f) → (setObj b2 o).run P w = .ok () { w with heap := w.heap.setIfInBounds b2 o } := fun o _ => by simp [setObj, Sem.run, k2]
    have hbs := hst.bsz i b2 true hb
    have turn : ∀ (ents' : Array MapEntry) (clock' : Nat) (es' : List (kt.D × vt.D)), ents'.size = es'.length →
        (∀ (j : Nat) (e : kt.D × vt.D) (m : MapEntry), es'[j]? = some e → ents'[j]? = some m → RelVal (Imm g w) kt e.1 m.key ∧ RelVal (Imm g w) vt e.2 m.val) →
        Up g w g { w with heap := w.heap.setIfInBounds b2 (.map ents' clock') } ∧ RelSt g ⟨σ.objs.set i (.map true kt vt es'), σ.toks⟩ { w with heap := w.heap.setIfInBounds b2 (.map ents' clock') } := by
      intro ents' clock' es' h5 h6
      have hkk : ∀ q, q ≠ b2 → ({ w with heap := w.heap.setIfInBounds b2 (.map ents' clock') } : World).heap[q]? = w.heap[q]? := fun q hq => by simp [Array.getElem?_setIfInBounds_ne (Ne.symm hq)]
      have hu := up_turn hst hb (w' := { w with heap := w.heap.setIfInBounds b2 (.map ents' clock') }) rfl rfl rfl (by simp) hkk
      exact ⟨hu, st_turn hst hb (w' := { w with heap := w.heap.setIfInBounds b2 (.map ents' clock') }) rfl rfl rfl (by simp) hkk ⟨b2, ents', clock', hb, by simp [hbs], h5, fun j e m hj hm => by
        obtain ⟨h7, h8⟩ := h6 j e m hj hm
        exact ⟨relV_mkDat (h7.mono hu.cells), relV_dv (h8.mono hu.cells)⟩⟩⟩
    have hold : ∀ (j : Nat) (e : kt.D × vt.D) (m : MapEntry), es[j]? = some e → ents[j]? = some m → RelVal (Imm g w) kt e.1 m.key ∧ RelVal (Imm g w) vt e.2 m.val := fun j e m hj hm => by
      obtain ⟨h5, h6⟩ := k4 j e m hj hm
      exact ⟨relVal_dat h5, relVal_of_dv h6⟩
    rw [mput_find kt k x es 0]
    cases hmf : mfind kt k es 0 with
    | none =>
      rw [hmf] at hfk
      obtain ⟨h5, h6⟩ := turn (ents.push { key := rk, val := rx, born := clock }) (clock + 1) (es ++ [(k, x)]) (by simp [k3]) (fun j e m hj hm => by
        rcases Nat.lt_or_ge j es.length with hlt | hge
        · rw [List.getElem?_append_left hlt] at hj
          rw [Array.getElem?_push, if_neg (by omega)] at hm
          exact hold j e m hj hm
        · rw [List.getElem?_append_right hge] at hj
          have h0 : j - es.length = 0 := by have := getElem?_lt hj; simp at this; omega
          rw [h0] at hj
          simp only [List.getElem?_cons_zero, Option.some.injEq] at hj
          rw [Array.getElem?_push, if_pos (by omega)] at hm
          simp only [Option.some.injEq] at hm
          subst hj; subst hm; exact ⟨hrk, hrx⟩)
      refine ⟨_, _, _, g, ?_, .inr ⟨rfl, rfl⟩, h5, void_rel, h6⟩
      simp only [Instr.mapUpdate, Sem.run_bind, run_underlying h2, Result.andThen_ok, hobj, hck, hfk, Option.map_none]
      rw [hset _ (by intro c e f; simp)]; rfl
    | some j =>
      rw [hmf] at hfk
      obtain ⟨_, e, h10, hbeq⟩ := mfind_lt kt k es 0 j hmf
      rw [Nat.sub_zero] at h10
      simp only [Nat.sub_zero]
      have hjl : j < ents.size := by rw [k3]; exact getElem?_lt h10
      have hme : ents[j]? = some ents[j] := Array.getElem?_eq_getElem hjl
      obtain ⟨h11, h12⟩ := hold j e ents[j] h10 hme
      have hsb := sameBits_refl kt hk'.1 (Imm g w) k e.1 rk ents[j].key 9999 hbeq hrk h11
      obtain ⟨h5, h6⟩ := turn (ents.modify j fun e => { e with key := rk, val := rx }) clock (es.set j (k, x)) (by simp [k3]) (fun q e' m hj hm => by
        by_cases hqj : j = q
        · subst hqj
          rw [List.getElem?_set_self (getElem?_lt h10)] at hj
          simp only [Option.some.injEq] at hj; subst hj
          simp only [Array.getElem?_modify, if_true, hme, Option.map_some, Option.some.injEq] at hm
          subst hm; exact ⟨hrk, hrx⟩
        · rw [List.getElem?_set_ne hqj] at hj
          simp only [Array.getElem?_modify, if_neg hqj] at hm
          exact hold q e' m hj hm)
      refine ⟨_, _, _, g, ?_, .inr ⟨rfl, rfl⟩, h5, void_rel, h6⟩
      simp only [Instr.mapUpdate, Sem.run_bind, run_underlying h2, Result.andThen_ok, hobj, hck, hfk, Option.map_some]
      have hstay : (Instr.keyThatStays (((ents[j]?).map (·.key)).getD rk) rk).run P w = .ok rk w := by
        rw [hme]; simp only [Option.map_some, Option.getD_some, Instr.keyThatStays, hsb]; rfl
      rw [hstay, Result.andThen_ok, hset _ (by intro c e f; simp)]; rfl
end
end Go.Proofs.Yticelgnmcjkknaa.Vm
