/-
A machine of values, nineteenth part: append, make, maps turned, copy; all operations but calls.
-/
import Derived.Test.YtepfhidiahleiaaVm18
set_option linter.unusedVariables false
set_option linter.unusedSimpArgs false
namespace Go.Proofs.Ytepfhidiahleiaa.Vm
open Go.RowKit (Below)
section
variable {P : Program} {tt : Nat → TI} {R : Type}

theorem SO.of {s : Sem Value} {g g' : Gh} {w w' : World} {v : V} {rv : Value} {σ' : St} (h : s.run P w = .ok rv w') (hu : Up g w g' w') (hv : RelV g' (Imm g' w') v rv) (hs : RelSt g' σ' w') : SO P (do pure (.value (← s))) g w v σ' :=
  ⟨_, rv, w', g', by simp [h], .inl rfl, hu, hv, hs⟩
theorem appendV_sound (hT : TtOk P tt) {σ : St} {t tx : Nat} {sv xv : V} {K : V → St → Option R} {r : R} (h : appendV tt σ t tx sv xv K = some r) :
    ∃ u σ', K u σ' = some r ∧ σ'.objs = σ.objs ∧ ∀ g w rs rx (ty : TypeId), RelSt g σ w → RelV g (Imm g w) sv rs → RelV g (Imm g w) xv rx → SO P (do pure (.value (← Builtin.append_ #[t, tx] ty #[rs, rx]))) g w u σ' := by
  unfold appendV at h
  split at h
  · rename_i T eb htt
    split at h
    · rename_i hc
      obtain ⟨hseq, heb⟩ := hc
      obtain ⟨e, b', i, h1, h2, h3, h4⟩ : ∃ e b' i, P.underlying t = some (.slice e) ∧ tt e = .dat T b' ∧ P.info? e = some i ∧ i.bytes = eb := by
        have := hT t; rw [htt] at this; exact this.2.1
      have h5 := hT e; rw [h2] at h5
      obtain ⟨⟨i', z, h6, h7, h8, h9⟩, _⟩ := h5
      obtain rfl : i = i' := by rw [h3] at h6; exact Option.some.inj h6
      have hzs : z.cells.size = wd T := by have := ((h9 (fun _ _ => True)).cells).len; simpa using this
      obtain ⟨ys, k1, k2⟩ := asRow_sound h
      split at k1
      · obtain ⟨hr, k1⟩ := cond_some k1
        refine ⟨_, _, k1, rfl, fun g w rs rx ty hst hs hx => ?_⟩
        cases hs
        obtain ⟨csy, k3, k4, k5⟩ := src_of (P := P) hT hseq (k2 g w rx hst.obj hx)
        obtain ⟨rv, w', R', k6, k7, k8, k9⟩ := append_core h1 h3 h8 h7 hzs (by omega) hst (xs := []) (ys := ys) (rd_nil _ _ none 0) k3 k4 k5 (by rw [h4]; simpa [room] using hr) (fun R => g.tkNew R) σ.toks.length 0 (σ.toks ++ [0]) (fun _ => rfl) (fun _ => rfl)
          (fun R => by show (g.tk ++ [(0, R)])[σ.toks.length]? = _; rw [← hst.lt, List.length_map, List.getElem?_append_right (Nat.le_refl _)]; simp)
          (fun R k hk => by
            show (g.tk ++ [(0, R)])[k]? = g.tk[k]?
            have hl : g.tk.length = σ.toks.length := by rw [← hst.lt, List.length_map]
            rcases Nat.lt_or_ge k g.tk.length with hlt | hge
            · rw [List.getElem?_append_left hlt]
            · rw [List.getElem?_append_right hge, List.getElem?_eq_none hge, List.getElem?_eq_none (by simp; omega)])
          (fun R => by show (g.tk ++ [(0, R)]).map Prod.fst = _; rw [List.map_append, show g.tk.map Prod.fst = σ.toks from hst.lt]; rfl)
          (fun ver R0 hk => by have := getElem?_lt hk; rw [← hst.lt, List.length_map] at this; omega) (fun hlt => absurd hlt (Nat.lt_irrefl _)) ty
        exact .of k6 k7 (by simpa using k8) k9
      · rename_i u xs tag
        split at k1
        · rename_i e1; subst e1
          split at k1
          · obtain ⟨hr, k1⟩ := cond_some k1
            refine ⟨_, _, k1, rfl, fun g w rs rx ty hst hs hx => ?_⟩
            cases hs with
            | row _ _ _ A n0 c0 hx1 hx2 =>
              obtain ⟨csy, k3, k4, k5⟩ := src_of (P := P) hT hseq (k2 g w rx hst.obj hx)
              have hnc : n0 = c0 := hx2
              obtain ⟨rv, w', R', k6, k7, k8, k9⟩ := append_core h1 h3 h8 h7 hzs (by omega) hst (xs := xs) (ys := ys) hx1 k3 k4 k5 (by rw [h4]; exact hr) (fun R => g.tkNew R) σ.toks.length 0 (σ.toks ++ [0]) (fun _ => rfl) (fun _ => rfl)
                (fun R => by show (g.tk ++ [(0, R)])[σ.toks.length]? = _; rw [← hst.lt, List.length_map, List.getElem?_append_right (Nat.le_refl _)]; simp)
                (fun R k hk => by
                  show (g.tk ++ [(0, R)])[k]? = g.tk[k]?
                  have hl : g.tk.length = σ.toks.length := by rw [← hst.lt, List.length_map]
                  rcases Nat.lt_or_ge k g.tk.length with hlt | hge
                  · rw [List.getElem?_append_left hlt]
                  · rw [List.getElem?_append_right hge, List.getElem?_eq_none hge, List.getElem?_eq_none (by simp; omega)])
                (fun R => by show (g.tk ++ [(0, R)]).map Prod.fst = _; rw [List.map_append, show g.tk.map Prod.fst = σ.toks from hst.lt]; rfl)
                (fun ver R0 hk => by have := getElem?_lt hk; rw [← hst.lt, List.length_map] at this; omega) (fun hlt => by omega) ty
              exact .of k6 k7 k8 k9
          · rename_i j ver
            split at k1
            · rename_i hver
              obtain ⟨hr, k1⟩ := cond_some k1
              refine ⟨_, _, k1, rfl, fun g w rs rx ty hst hs hx => ?_⟩
              cases hs with
              | row _ _ _ A n0 c0 hx1 hx2 =>
                obtain ⟨csy, k3, k4, k5⟩ := src_of (P := P) hT hseq (k2 g w rx hst.obj hx)
                obtain ⟨ver0, R0, q1, q2, q3⟩ := hx2
                have hv0 : ver0 = ver := by
                  have := congrArg (fun l : List Nat => l[j]?) hst.lt
                  simp only [List.getElem?_map, q1, Option.map_some, hver, Option.some.injEq] at this
                  exact this
                subst hv0
                have hjl : j < g.tk.length := getElem?_lt q1
                obtain ⟨rv, w', R', k6, k7, k8, k9⟩ := append_core h1 h3 h8 h7 hzs (by omega) hst (xs := xs) (ys := ys) hx1 k3 k4 k5 (by rw [h4]; exact hr) (fun R => g.tkSet j (ver0 + 1) R) j (ver0 + 1) (σ.toks.set j (ver0 + 1)) (fun _ => rfl) (fun _ => rfl)
                  (fun R => by show (g.tk.set j (ver0 + 1, R))[j]? = _; rw [List.getElem?_set_self hjl])
                  (fun R k hk => by show (g.tk.set j (ver0 + 1, R))[k]? = _; rw [List.getElem?_set_ne (by omega)])
                  (fun R => by show (g.tk.set j (ver0 + 1, R)).map Prod.fst = _; rw [List.map_set, show g.tk.map Prod.fst = σ.toks from hst.lt])
                  (fun ver R1 hk => by rw [q1] at hk; simp only [Option.some.injEq, Prod.mk.injEq] at hk; omega) (fun _ => ⟨ver0, R0, q1, q3 rfl⟩) ty
                exact .of k6 k7 k8 k9
            · cases k1
          · cases k1
        · cases k1
      · cases k1
    · cases h
  · cases h

/-! ### make -/
theorem makeSlice_sound (hT : TtOk P tt) {σ : St} {t : Nat} {T : Ty} {eb : Nat} (htt : tt t = .dat (.slice T) eb) (heb : 0 < eb) {kl kc : IntKind} {n m : Int} (h0 : 0 ≤ n) (hnm : n ≤ m) (hr : m.toNat * eb ≤ room) {g : Gh} {w : World} (hst : RelSt g σ w) :
    SO P (do pure (.value (← Instr.makeSlice t (.int kl n) (.int kc m)))) g w (.msl σ.objs.length T 0 n.toNat) ⟨σ.objs ++ [.arr true none T (List.replicate n.toNat (zeroD T))], σ.toks⟩ := by
  obtain ⟨e, b', i, h1, h2, h3, h4⟩ : ∃ e b' i, P.underlying t = some (.slice e) ∧ tt e = .dat T b' ∧ P.info? e = some i ∧ i.bytes = eb := by
    have := hT t; rw [htt] at this; exact this.2.1
  have h5 := hT e; rw [h2] at h5
  obtain ⟨⟨i', z, h6, h7, h8, h9⟩, _⟩ := h5
  obtain rfl : i = i' := by rw [h3] at h6; exact Option.some.inj h6
  have hz := (h9 (Imm g w)).cells
  have hzs : z.cells.size = wd T := by have := hz.len; simpa using this
  have hm63 : m.toNat ≤ 140737488355328 := by
    have : m.toNat * 1 ≤ m.toNat * eb := Nat.mul_le_mul_left _ heb
    unfold room at hr; omega
  have hbytes : (i.bytes : Int) * m ≤ 281474976710656 := by
    rw [h4]
    have h10 : ((m.toNat * eb : Nat) : Int) ≤ 140737488355328 := by unfold room at hr; omega
    rw [Int.natCast_mul, Int.toNat_of_nonneg (by omega), Int.mul_comm] at h10
    omega
  have hrun := run_make (P := P) w t e i z h1 h3 h8 kl kc n m h0 hnm hbytes (by omega)
  rw [h7] at hrun
  have hb : Below w.heap.size w (w.alloc (.cells (madeCells z.cells (m.toNat * wd T)) e)) := (Below.refl _ w).alloc (Nat.le_refl _) _
  have hu := up_new hst hb
  have hRd := rd_zeros hz m.toNat
  rw [hzs] at hRd
  obtain ⟨q1, css, q2, q3, q4⟩ := hRd.inv
  have hl : ∀ cs ∈ css, cs.length = wd T := by
    intro cs hcs
    obtain ⟨k, hk, rfl⟩ := List.getElem_of_mem hcs
    have hx : k < (List.replicate m.toNat (zeroD T)).length := by simp; omega
    exact (q4 k _ _ (List.getElem?_eq_getElem hx) (List.getElem?_eq_getElem hk)).len
  have hle : n.toNat ≤ m.toNat := by omega
  refine .of hrun hu (.msl _ _ _ _ w.heap.size true _ _ (blk_last hst _) hle (fun _ => by rw [Nat.zero_mul]) (fun h => by cases h)) (st_new hst hb (by simp) ⟨w.heap.size, _, e, blk_last hst _, heap_alloc_new' _ _, ?_, (fun q hq => by cases hq), fun j x hj => ?_⟩)
  · rw [size_madeCells, List.length_replicate]; exact Nat.mul_le_mul_right _ hle
  · rw [List.getElem?_replicate] at hj
    split at hj
    · rename_i hjn
      simp only [Option.some.injEq] at hj; subst hj
      have hjc : j < css.length := by omega
      have hjm : (List.replicate m.toNat (zeroD T))[j]? = some (zeroD T) := by rw [List.getElem?_replicate, if_pos (by omega)]
      refine ⟨css[j], (q4 j _ _ hjm (List.getElem?_eq_getElem hjc)).mono hu.cells, fun k v hk => ?_⟩
      have := flatten_at css (wd T) hl j k _ v (List.getElem?_eq_getElem hjc) hk
      rw [← q2] at this
      rw [← Array.getElem?_toList]
      unfold madeCells
      rw [hzs]
      exact this
    · cases hj
theorem makeMap_sound {σ : St} {t : Nat} {kt vt : Ty} {g : Gh} {w : World} (hst : RelSt g σ w) :
    SO P (do pure (.value (← Instr.makeMap t none))) g w (.mp σ.objs.length) ⟨σ.objs ++ [.map true kt vt []], σ.toks⟩ := by
  have hb : Below w.heap.size w (w.alloc (.map #[] 0)) := (Below.refl _ w).alloc (Nat.le_refl _) _
  have hu := up_new hst hb
  exact .of (by simp [Instr.makeMap]) hu (.mp _ w.heap.size true (blk_last hst _)) (st_new hst hb (by simp) ⟨w.heap.size, #[], 0, blk_last hst _, heap_alloc_new' _ _, rfl, fun j e m hj => by simp at hj⟩)

/-! ### maps turned -/
theorem mput_find {A : Type} (kt : Ty) (k : kt.D) (x : A) : ∀ (es : List (kt.D × A)) (n : Nat), mput kt k x es = match mfind kt k es n with
    | some i => es.set (i - n) (k, x)
    | none => es ++ [(k, x)]
  | [], n => rfl
  | e :: es, n => by
    simp only [mput, mfind]
    cases hb : beqD kt k e.1
    · rw [cond_false, cond_false, mput_find kt k x es (n + 1)]
      cases hm : mfind kt k es (n + 1) with
      | none => rfl
      | some i =>
        obtain ⟨h1, _⟩ := mfind_lt kt k es (n + 1) i hm
        simp only
        rw [show i - n = (i - (n + 1)) + 1 by omega]; rfl
    · simp
theorem sb_int (k : IntKind) (m : Int) (n : Nat) : Instr.sameBits n (.int k m) (.int k m) = true := by cases n <;> simp [Instr.sameBits]
theorem sb_bool (b : Bool) (n : Nat) : Instr.sameBits n (.bool b) (.bool b) = true := by cases n <;> simp [Instr.sameBits]
theorem beq_bytes {a b : ByteArray} (h : beqD .str a b = true) : a = b := by
  have h1 : (a == b) = true := h
  have h2 := beq_toListBytes a b
  rw [h1] at h2
  have h3 : a.toList = b.toList := eq_of_beq h2.symm
  rw [ByteArray.toList_eq, ByteArray.toList_eq] at h3
  obtain ⟨a⟩ := a
  obtain ⟨b⟩ := b
  congr 1
  exact Array.ext' h3
theorem sb_str (s : ByteArray) (n : Nat) : Instr.sameBits n (.string s) (.string s) = true := by
  have : (s == s) = true := by rw [beq_toListBytes]; exact beq_self_eq_true _
  cases n <;> simpa [Instr.sameBits] using this
theorem beqD_eq {I : Addr → Value → Prop} : ∀ (T : Ty), eqTy0 T = true → ∀ (x y : T.D) (cx cy : List Value), beqD T x y = true → Rd I T x cx → Rd I T y cy → cx = cy ∧ ∀ v ∈ cx, ∀ n, Instr.sameBits n v v = true := by
  intro T
  induction T with
  | int k =>
    intro _ x y cx cy h hx hy
    have h1 : cx = [.int k x] := hx.inv
    have h2 : cy = [.int k y] := hy.inv
    have h3 : x = y := eq_of_beq (α := Int) h
    subst h1; subst h2
    refine ⟨by rw [h3], fun v hv n => ?_⟩
    simp only [List.mem_singleton] at hv; subst hv
    exact sb_int k x n
  | bool =>
    intro _ x y cx cy h hx hy
    have h1 : cx = [.bool x] := hx.inv
    have h2 : cy = [.bool y] := hy.inv
    have h3 : x = y := eq_of_beq (α := Bool) h
    subst h1; subst h2
    refine ⟨by rw [h3], fun v hv n => ?_⟩
    simp only [List.mem_singleton] at hv; subst hv
    exact sb_bool x n
  | str =>
    intro _ x y cx cy h hx hy
    have h1 : cx = [.string x] := hx.inv
    have h2 : cy = [.string y] := hy.inv
    have h3 : x = y := beq_bytes h
    subst h1; subst h2
    refine ⟨by rw [h3], fun v hv n => ?_⟩
    simp only [List.mem_singleton] at hv; subst hv
    exact sb_str x n
  | unit =>
    intro _ x y cx cy h hx hy
    have h1 : cx = [] := hx.inv
    have h2 : cy = [] := hy.inv
    subst h1; subst h2
    exact ⟨rfl, fun v hv => by simp at hv⟩
  | slice t _ => intro h; simp [eqTy0] at h
  | arr n t _ => intro h; simp [eqTy0] at h
  | rc i => intro h; simp [eqTy0] at h
  | pair a b iha ihb =>
    intro he x y cx cy h hx hy
    have hea : (eqTy0 a = true ∧ eqTy0 b = true) ∧ isChain b = true := by simpa [eqTy0] using he
    obtain ⟨x1, x2⟩ := x
    obtain ⟨y1, y2⟩ := y
    obtain ⟨c1, c2, rfl, h1, h2⟩ := hx.inv
    obtain ⟨d1, d2, rfl, h3, h4⟩ := hy.inv
    have h : cond (beqD a x1 y1) (beqD b x2 y2) false = true := h
    cases h5 : beqD a x1 y1
    · rw [h5] at h; cases h
    · rw [h5, cond_true] at h
      obtain ⟨k1, k2⟩ := iha hea.1.1 x1 y1 c1 d1 h5 h1 h3
      obtain ⟨k3, k4⟩ := ihb hea.1.2 x2 y2 c2 d2 h h2 h4
      refine ⟨by rw [k1, k3], fun v hv => ?_⟩
      rcases List.mem_append.1 hv with hv | hv
      · exact k2 v hv
      · exact k4 v hv
theorem sameBits_refl (T : Ty) (he : eqTy0 T = true) (I : Addr → Value → Prop) (x y : T.D) (rx ry : Value) (n : Nat) (hb : beqD T x y = true) (hx : RelVal I T x rx) (hy : RelVal I T y ry) : Instr.sameBits (n + 1) ry rx = true := by
  rcases hx with ⟨ha, cx, rfl, hx⟩ | ⟨ha, hx⟩
  · rcases hy with ⟨_, cy, rfl, hy⟩ | ⟨ha', _⟩
    · obtain ⟨k1, k2⟩ := beqD_eq T he x y cx cy hb hx hy
      subst k1
      simp only [Instr.sameBits, beq_self_eq_true, Bool.true_and, List.all_eq_true]
      intro p hp
      obtain ⟨i, hi, rfl⟩ := List.getElem_of_mem hp
      simp only [List.getElem_zip]
      exact k2 _ (List.getElem_mem _) n
    · rw [ha] at ha'; cases ha'
  · rcases hy with ⟨ha', _⟩ | ⟨_, hy⟩
    · rw [ha] at ha'; cases ha'
    · obtain ⟨k1, k2⟩ := beqD_eq T he x y [rx] [ry] hb hx hy
      simp only [List.cons.injEq, and_true] at k1
      subst k1
      exact k2 rx (by simp) _
theorem mapUpdate_sound (hT : TtOk P tt) {σ : St} {t i : Nat} {kt vt : Ty} (htt : tt t = .map kt vt) (hk : eqTy kt = true) {es : List (kt.D × vt.D)} (ho : σ.objs[i]? = some (.map true kt vt es)) {k : kt.D} {x : vt.D} {g : Gh} {w : World} (hst : RelSt g σ w) {rm rk rx : Value}
    (hm : RelV g (Imm g w) (.mp i) rm) (hrk : RelVal (Imm g w) kt k rk) (hrx : RelVal (Imm g w) vt x rx) :
    SO P (do Instr.mapUpdate t rm rk rx; pure .skip) g w void ⟨σ.objs.set i (.map true kt vt (mput kt k x es)), σ.toks⟩ := by
  have ht := hT t; rw [htt] at ht
  obtain ⟨_, kk, kv, bk, bv, h2, h3, h4⟩ := ht
  have hk' : eqTy0 kt = true ∧ tySz kt ≤ 1000 := by simpa [eqTy] using hk
  cases hm with
  | mp _ b f hb =>
    obtain ⟨b2, ents, clock, k1, k2, k3, k4⟩ := hst.obj _ _ ho
    obtain ⟨rfl, rfl⟩ : b2 = b ∧ f = true := by rw [hb] at k1; simp at k1; exact ⟨k1.1.symm, k1.2⟩
    have hck := (checkKey_sound (P := P) hT false kt hk'.1).1 kk bk 10000 _ k rk w h3 (by have := hk'.2; omega) hrk
    have hrel : ∀ (j : Nat) (e : kt.D × vt.D) (m : MapEntry), es[j]? = some e → ents.toList[j]? = some m → RelVal (Imm g w) kt e.1 m.key := fun j e m hj hm => relVal_dat (k4 j e m hj (by simpa using hm)).1
    have hfk := findKey_sound (P := P) hT hk h3 hrk w es ents.toList (by simpa using k3) hrel
    have hobj : (getObj b2).run P w = .ok (.map ents clock) w := by simp [getObj, Sem.run, k2]
    have hset : ∀ o : Obj, (∀ c e f, o ≠ .cells c e f) → (setObj b2 o).run P w = .ok () { w with heap := w.heap.setIfInBounds b2 o } := fun o _ => by simp [setObj, Sem.run, k2]
    have hbs := hst.bsz i b2 true hb
    have turn : ∀ (ents' : Array MapEntry) (clock' : Nat) (es' : List (kt.D × vt.D)), ents'.size = es'.length →
        (∀ (j : Nat) (e : kt.D × vt.D) (m : MapEntry), es'[j]? = some e → ents'[j]? = some m → RelVal (Imm g w) kt e.1 m.key ∧ RelVal (Imm g w) vt e.2 m.val) →
        Up g w g { w with heap := w.heap.setIfInBounds b2 (.map ents' clock') } ∧ RelSt g ⟨σ.objs.set i (.map true kt vt es'), σ.toks⟩ { w with heap := w.heap.setIfInBounds b2 (.map ents' clock') } := by
      intro ents' clock' es' h5 h6
      have hkk : ∀ q, q ≠ b2 → ({ w with heap := w.heap.setIfInBounds b2 (.map ents' clock') } : World).heap[q]? = w.heap[q]? := fun q hq => by simp [Array.getElem?_setIfInBounds_ne (Ne.symm hq)]
      have hu := up_turn hst hb (w' := { w with heap := w.heap.setIfInBounds b2 (.map ents' clock') }) rfl rfl rfl (by simp) hkk
      exact ⟨hu, st_turn hst hb (w' := { w with heap := w.heap.setIfInBounds b2 (.map ents' clock') }) rfl rfl rfl (by simp) hkk ⟨b2, ents', clock', hb, by simp [hbs], h5, fun j e m hj hm => by
        obtain ⟨h7, h8⟩ := h6 j e m hj hm
        exact ⟨relV_mkDat (h7.mono hu.cells), relV_dv (h8.mono hu.cells)⟩⟩⟩
    have hold : ∀ (j : Nat) (e : kt.D × vt.D) (m : MapEntry), es[j]? = some e → ents[j]? = some m → RelVal (Imm g w) kt e.1 m.key ∧ RelVal (Imm g w) vt e.2 m.val := fun j e m hj hm => by
      obtain ⟨h5, h6⟩ := k4 j e m hj hm
      exact ⟨relVal_dat h5, relVal_of_dv h6⟩
    rw [mput_find kt k x es 0]
    cases hmf : mfind kt k es 0 with
    | none =>
      rw [hmf] at hfk
      obtain ⟨h5, h6⟩ := turn (ents.push { key := rk, val := rx, born := clock }) (clock + 1) (es ++ [(k, x)]) (by simp [k3]) (fun j e m hj hm => by
        rcases Nat.lt_or_ge j es.length with hlt | hge
        · rw [List.getElem?_append_left hlt] at hj
          rw [Array.getElem?_push, if_neg (by omega)] at hm
          exact hold j e m hj hm
        · rw [List.getElem?_append_right hge] at hj
          have h0 : j - es.length = 0 := by have := getElem?_lt hj; simp at this; omega
          rw [h0] at hj
          simp only [List.getElem?_cons_zero, Option.some.injEq] at hj
          rw [Array.getElem?_push, if_pos (by omega)] at hm
          simp only [Option.some.injEq] at hm
          subst hj; subst hm; exact ⟨hrk, hrx⟩)
      refine ⟨_, _, _, g, ?_, .inr ⟨rfl, rfl⟩, h5, void_rel, h6⟩
      simp only [Instr.mapUpdate, Sem.run_bind, run_underlying h2, Result.andThen_ok, hobj, hck, hfk, Option.map_none]
      rw [hset _ (by intro c e f; simp)]; rfl
    | some j =>
      rw [hmf] at hfk
      obtain ⟨_, e, h10, hbeq⟩ := mfind_lt kt k es 0 j hmf
      rw [Nat.sub_zero] at h10
      simp only [Nat.sub_zero]
      have hjl : j < ents.size := by rw [k3]; exact getElem?_lt h10
      have hme : ents[j]? = some ents[j] := Array.getElem?_eq_getElem hjl
      obtain ⟨h11, h12⟩ := hold j e ents[j] h10 hme
      have hsb := sameBits_refl kt hk'.1 (Imm g w) k e.1 rk ents[j].key 9999 hbeq hrk h11
      obtain ⟨h5, h6⟩ := turn (ents.modify j fun e => { e with key := rk, val := rx }) clock (es.set j (k, x)) (by simp [k3]) (fun q e' m hj hm => by
        by_cases hqj : j = q
        · subst hqj
          rw [List.getElem?_set_self (getElem?_lt h10)] at hj
          simp only [Option.some.injEq] at hj; subst hj
          simp only [Array.getElem?_modify, if_true, hme, Option.map_some, Option.some.injEq] at hm
          subst hm; exact ⟨hrk, hrx⟩
        · rw [List.getElem?_set_ne hqj] at hj
          simp only [Array.getElem?_modify, if_neg hqj] at hm
          exact hold q e' m hj hm)
      refine ⟨_, _, _, g, ?_, .inr ⟨rfl, rfl⟩, h5, void_rel, h6⟩
      simp only [Instr.mapUpdate, Sem.run_bind, run_underlying h2, Result.andThen_ok, hobj, hck, hfk, Option.map_some]
      have hstay : (Instr.keyThatStays (((ents[j]?).map (·.key)).getD rk) rk).run P w = .ok rk w := by
        rw [hme]; simp only [Option.map_some, Option.getD_some, Instr.keyThatStays, hsb]; rfl
      rw [hstay, Result.andThen_ok, hset _ (by intro c e f; simp)]; rfl
end
end Go.Proofs.Ytepfhidiahleiaa.Vm
