/-
A machine of values, part twenty-four: all operations.
-/
import Derived.Test.YticelgnmcjkknaaVm23
set_option linter.unusedVariables false
set_option linter.unusedSimpArgs false
namespace Go.Proofs.Yticelgnmcjkknaa.Vm
open Go.RowKit (Below)
section
variable {P : Program} {C : Nat → Fun} {tt : Nat → TI} {R : Type}

/-- What an operation comes to. -/
def After (g : Gh) (w : World) (v : V) (σ' : St) (rv : Value) (w' : World) : Prop := ∃ g', Up g w g' w' ∧ RelV g' (Imm g' w') v rv ∧ RelSt g' σ' w'
def OO (P : Program) (s : Sem Next) (g : Gh) (w : World) (v : V) (σ' : St) : Prop :=
  (∃ rv w', (s.run P w = .ok (.value rv) w' ∨ (s.run P w = .ok .skip w' ∧ rv = undef)) ∧ After g w v σ' rv w') ∨
  (∃ f args, s.run P w = .ok (.enter f args) w ∧ Calls P f args w fun e w' => ∃ rv, e = .returned rv ∧ After g w v σ' rv w')
theorem OO.of_so {s : Sem Next} {g : Gh} {w : World} {v : V} {σ' : St} (h : SO P s g w v σ') : OO P s g w v σ' := by
  obtain ⟨res, rv, w', g', h1, h2, h3, h4, h5⟩ := h
  rcases h2 with rfl | ⟨rfl, rfl⟩
  · exact .inl ⟨rv, w', .inl h1, g', h3, h4, h5⟩
  · exact .inl ⟨undef, w', .inr ⟨h1, rfl⟩, g', h3, h4, h5⟩
theorem OO.of_qo {s : Sem Next} {g : Gh} {w : World} {v : V} {σ : St} (h : QO P s g w v) (hst : RelSt g σ w) : OO P s g w v σ := by
  obtain ⟨rv, w', h1, h2, h3⟩ := h
  exact .inl ⟨rv, w', .inl h1, g, .of_below h2, h3, hst.below h2⟩
theorem call_run {P : Program} {ev : Operand → Value} {dst : Option Tmp} {f : Operand} {xs ats : Array _} {ty : TypeId} {pos : String} {after : Array Edge} {guard : Option (Nat × Bool)} {g : Nat} {bnds caps : List Value} (hf : ev f = .func (.func g) bnds.toArray caps.toArray) (he : Entry P g) (w : World) :
    (execOp ev { dst, op := .call { callee := .value f, args := xs, argTypes := ats }, type := ty, pos, after, guard }).run P w = .ok (.enter g (bnds.toArray ++ xs.map ev ++ caps.toArray)) w := by
  simp only [execOp, resolve, hf, Deferred.ofValue, invoke, Sem.run_bind]
  simpa using he (bnds.toArray ++ xs.map ev ++ caps.toArray) w
/-- The same, where nothing of what is held turns. -/
def OQ (P : Program) (s : Sem Next) (g : Gh) (w : World) (v : V) (σ' : St) : Prop :=
  (∃ rv w', (s.run P w = .ok (.value rv) w' ∨ (s.run P w = .ok .skip w' ∧ rv = undef)) ∧ Up g w g w' ∧ RelV g (Imm g w') v rv ∧ RelSt g σ' w') ∨
  (∃ f args, s.run P w = .ok (.enter f args) w ∧ Calls P f args w fun e w' => ∃ rv, e = .returned rv ∧ Up g w g w' ∧ RelV g (Imm g w') v rv ∧ RelSt g σ' w')
theorem OQ.oo {s : Sem Next} {g : Gh} {w : World} {v : V} {σ : St} (h : OQ P s g w v σ) : OO P s g w v σ := by
  rcases h with ⟨rv, w', h1, h2, h3, h4⟩ | ⟨f, args, h1, h2⟩
  · exact .inl ⟨rv, w', h1, g, h2, h3, h4⟩
  · exact .inr ⟨f, args, h1, h2.mono fun e w' ⟨rv, k1, k2, k3, k4⟩ => ⟨rv, k1, g, k2, k3, k4⟩⟩
theorem OQ.of_qo {s : Sem Next} {g : Gh} {w : World} {v : V} {σ : St} (h : QO P s g w v) (hst : RelSt g σ w) : OQ P s g w v σ := by
  obtain ⟨rv, w', h1, h2, h3⟩ := h
  exact .inl ⟨rv, w', .inl h1, .of_below h2, h3, hst.below h2⟩
/-- What is read comes from one object alone. -/
def LookOk (P : Program) (o : Oper) (env : List V) (σ : St) (v : V) (x : Operand) : Prop :=
  ∀ g w (a : Act) τ, (∀ m, addrOb (ev env x) = some m → τ.objs[m]? = σ.objs[m]?) → RelSt g τ w → (∀ x, x ∈ o.op.operands → RelV g (Imm g w) (ev env x) (a.eval x)) → OQ P (execOp a.eval o) g w v τ
/-- What an operation leaves as it is, and what a load looks at. -/
def Extra (P : Program) (C : Nat → Fun) (o : Oper) (env : List V) (σ : St) (v : V) (σ' : St) : Prop := match o.op with
  | .load _ x => LookOk P o env σ v x
  | .indexAddr _ x _ => LookOk P o env σ v x
  | .call ⟨.value (.func f), ⟨xs⟩, _⟩ => (C f).ro = true → (∀ x ∈ xs, noIds (ev env x) = true) → ∀ g w (a : Act) τ, RelSt g τ w → (∀ x, x ∈ o.op.operands → RelV g (Imm g w) (ev env x) (a.eval x)) → OQ P (execOp a.eval o) g w v τ
  | .store _ a _ => ∀ m, addrOb (ev env a) ≠ some m → σ'.objs[m]? = σ.objs[m]?
  | .alloc _ => ∀ m, addrOb v ≠ some m → σ'.objs[m]? = σ.objs[m]?
  | .box _ _ => ∀ m, addrOb v ≠ some m → σ'.objs[m]? = σ.objs[m]?
  | _ => True
def Plain : Op → Prop
  | .call ⟨.value _, _, _⟩ => False
  | .load _ _ => False
  | .indexAddr _ _ _ => False
  | .store _ _ _ => False
  | .alloc _ => False
  | .box _ _ => False
  | _ => True
theorem extra_plain {o : Oper} (h : Plain o.op) {env : List V} {σ σ' : St} {v : V} : Extra P C o env σ v σ' := by
  obtain ⟨dst, op, type, pos, after, guard⟩ := o
  cases op with
  | call c =>
    obtain ⟨f, xs, ats⟩ := c
    cases f <;> first | exact True.intro | exact h.elim
  | _ => first | exact True.intro | exact h.elim
/-- What an operation of a class comes to, in states that look alike to it. -/
def Pkg (P : Program) (C : Nat → Fun) (c : Nat) (o : Oper) (env : List V) (σ : St) (v : V) (σ' : St) : Prop :=
  (c ≤ 1 → σ' = σ ∧ ∀ g w (a : Act) τ, (c = 1 → τ.objs = σ.objs) → RelSt g τ w → (∀ x, x ∈ o.op.operands → RelV g (Imm g w) (ev env x) (a.eval x)) → OQ P (execOp a.eval o) g w v τ) ∧ (c = 2 → σ'.objs = σ.objs) ∧ Extra P C o env σ v σ' ∧
  ∀ g w (a : Act) τ, (c = 1 → τ.objs = σ.objs) → (1 < c → τ = σ) → RelSt g τ w → (∀ x, x ∈ o.op.operands → RelV g (Imm g w) (ev env x) (a.eval x)) → OO P (execOp a.eval o) g w v (if c ≤ 1 then τ else σ')
theorem Pkg.turns {c : Nat} (hc : 1 < c) {o : Oper} {env : List V} {σ σ' : St} {v : V} (hobj : c = 2 → σ'.objs = σ.objs)
    (h : ∀ g w (a : Act), RelSt g σ w → (∀ x, x ∈ o.op.operands → RelV g (Imm g w) (ev env x) (a.eval x)) → OO P (execOp a.eval o) g w v σ') (hx : Extra P C o env σ v σ' := by exact True.intro) : Pkg P C c o env σ v σ' :=
  ⟨fun h => by omega, hobj, hx, fun g w a τ _ h2 hst ho => by rw [if_neg (by omega)]; have := h2 hc; subst this; exact h g w a hst ho⟩
theorem Pkg.reads {c : Nat} (hc : c ≤ 1) {o : Oper} {env : List V} {σ : St} {v : V}
    (h : ∀ g w (a : Act) τ, (c = 1 → τ.objs = σ.objs) → RelSt g τ w → (∀ x, x ∈ o.op.operands → RelV g (Imm g w) (ev env x) (a.eval x)) → OQ P (execOp a.eval o) g w v τ) (hx : Extra P C o env σ v σ := by exact True.intro) : Pkg P C c o env σ v σ :=
  ⟨fun _ => ⟨rfl, h⟩, fun _ => rfl, hx, fun g w a τ h1 _ hst ho => by rw [if_pos hc]; exact (h g w a τ h1 hst ho).oo⟩
theorem app_other {l : List Ob} {o : Ob} {m : Nat} (h : some l.length ≠ some m) : (l ++ [o])[m]? = l[m]? := by
  have h : l.length ≠ m := fun e => h (by rw [e])
  rcases Nat.lt_or_ge m l.length with h' | h'
  · rw [List.getElem?_append_left h']
  · rw [List.getElem?_append_right h', List.getElem?_eq_none (by simp; omega), List.getElem?_eq_none h']
/-- The objects, but for one. -/
def onlyOb (a : Option Nat) (objs : List Ob) : List Ob := match a with
  | some m => objs.mapIdx fun i o => if i = m then o else .dead
  | none => []
theorem onlyOb_get {m : Nat} (objs : List Ob) : (onlyOb (some m) objs)[m]? = objs[m]? := by
  unfold onlyOb
  rw [List.getElem?_mapIdx]
  cases objs[m]? <;> simp
theorem onlyOb_rel {g : Gh} {w : World} {a : Option Nat} {objs objs' : List Ob} (h : RelObs g w objs') (he : ∀ m, a = some m → objs'[m]? = objs[m]?) : RelObs g w (onlyOb a objs) := by
  intro i o hi
  cases a with
  | none => simp [onlyOb] at hi
  | some m =>
    by_cases him : i = m
    · subst him
      rw [onlyOb_get, ← he i rfl] at hi
      exact h i o hi
    · unfold onlyOb at hi
      rw [List.getElem?_mapIdx] at hi
      obtain ⟨x, _, rfl⟩ := Option.map_eq_some_iff.1 hi
      rw [if_neg him]; trivial
theorem look_only {objs : List Ob} {env : List V} {op : Op} {x : Operand} (hl : look op = some x) {K : V → Option R} : qop tt (onlyOb (addrOb (ev env x)) objs) env op K = qop tt objs env op K := by
  cases op with
  | load t y =>
    have e : y = x := Option.some.inj hl
    subst e
    show loadV tt (onlyOb (addrOb (ev env y)) objs) t (ev env y) K = loadV tt objs t (ev env y) K
    cases hv : ev env y <;> first | rfl | (simp only [loadV, addrOb, onlyOb_get])
  | indexAddr t y i =>
    have e : y = x := Option.some.inj hl
    subst e
    show indexAddrV tt (onlyOb (addrOb (ev env y)) objs) t (ev env y) (ev env i) K = indexAddrV tt objs t (ev env y) (ev env i) K
    unfold indexAddrV
    congr 1
    funext k n
    cases hv : ev env y with
    | ptr a b => simp only [indexAddrN, addrOb, onlyOb_get]
    | pel a b c => cases b <;> rfl
    | prd a b => cases a <;> rfl
    | _ => rfl
  | _ => cases hl
theorem look_pkg (hT : TtOk P tt) {o : Oper} {x : Operand} (hl : look o.op = some x) (hc : cls C o.op ≤ 1) {env : List V} {σ : St} {K : V → Option R} {r : R} (h : qop tt σ.objs env o.op K = some r) :
    ∃ v, K v = some r ∧ LookOk P o env σ v x := by
  rw [← look_only hl] at h
  obtain ⟨v, h1, h2⟩ := qop_sound (P := P) hT h
  exact ⟨v, h1, fun g w a τ hτ hst ho => .of_qo (h2 g w a (onlyOb_rel hst.obj hτ) hst.bad_lt ho) hst⟩
theorem qop_class0 {objs : List Ob} {env : List V} {op : Op} {K : V → Option R} (hl : ∀ t a, op ≠ .load t a) (h : cls C op = 0) : qop tt objs env op K = qop tt [] env op K := by
  cases op with
  | call c =>
    obtain ⟨f, ⟨xs⟩, ⟨ts⟩⟩ := c
    cases f with
    | builtin b =>
      cases b <;> first | rfl | (exfalso; simp [cls] at h; done) | (match xs with
        | [] => rfl
        | [x] => rfl
        | [x, y] => rfl
        | x :: y :: z :: l => rfl)
    | invoke r m => rfl
    | value f => rfl
  | load t a => exact absurd rfl (hl t a)
  | lookup => simp [cls] at h
  | indexAddr => simp [cls] at h
  | makeFunc f xs ys =>
    obtain ⟨xs⟩ := xs
    obtain ⟨ys⟩ := ys
    cases f <;> cases xs <;> first | rfl | (cases ys <;> rfl)
  | _ => rfl
/-- A new block of data that nobody may turn. -/
theorem newD_sound {g : Gh} {σ : St} {w : World} (h : RelSt g σ w) {T : Ty} {x : T.D} {rv : Value} (hv : RelV g (Imm g w) (.dat T x) rv) (hT : aggT T = true) (e : TypeId) :
    RelSt g σ (w.alloc (.cells rv.cells e)) ∧ Up g w g (w.alloc (.cells rv.cells e)) ∧ RelV g (Imm g (w.alloc (.cells rv.cells e))) (.prd T x) (.pointer (some ⟨w.heap.size, 0, none⟩)) := by
  have hb : Below w.heap.size w (w.alloc (.cells rv.cells e)) := (Below.refl _ w).alloc (Nat.le_refl _) _
  have hu : Up g w g (w.alloc (.cells rv.cells e)) := .of_below hb
  refine ⟨h.below hb, hu, ?_⟩
  have hv' := hv.up hu
  rcases relVal_dat hv' with ⟨_, cs, rfl, h1⟩ | ⟨h1, _⟩
  · have ea : ∀ j : Nat, (⟨w.heap.size, 0, none⟩ : Addr).add j = ⟨w.heap.size, j, none⟩ := fun j => by
      unfold Addr.add
      split
      · rename_i h; subst h; rfl
      · simp
    refine .prd T x _ cs h1 fun j v hj => ?_
    rw [ea j]
    refine ⟨cell_mk (heap_alloc_new' _ _) (by show cs.toArray[j]? = some v; simpa using hj), ?_⟩
    rintro ((⟨i, hi⟩ | ⟨i, ver, lo, hi', ht, _⟩) | hf)
    · have := h.bsz _ _ _ hi; dsimp only at this; omega
    · obtain ⟨⟨c, e', h2, _⟩, _⟩ := h.tok _ _ _ _ _ ht
      simp at h2
    · have := h.fresh _ hf; dsimp only at this; omega
  · rw [hT] at h1; cases h1
theorem fldP_le : ∀ (T : Ty) (j o : Nat) (u : Ty), fldP T j = some (o, u) → o + wd u ≤ wd T
  | .pair a b, 0, o, u, h => by
    simp only [fldP, Option.some.injEq, Prod.mk.injEq] at h
    obtain ⟨rfl, rfl⟩ := h
    rw [wd_pair]; omega
  | .pair a b, j + 1, o, u, h => by
    simp only [fldP] at h
    obtain ⟨⟨o', u'⟩, h1, h2⟩ := Option.map_eq_some_iff.1 h
    simp only [Prod.mk.injEq] at h2
    obtain ⟨rfl, rfl⟩ := h2
    have := fldP_le b j o' u' h1
    rw [wd_pair]; omega
  | .int _, j, o, u, h => by cases j <;> cases h
  | .bool, j, o, u, h => by cases j <;> cases h
  | .str, j, o, u, h => by cases j <;> cases h
  | .unit, j, o, u, h => by cases j <;> cases h
  | .slice _, j, o, u, h => by cases j <;> cases h
  | .arr _ _, j, o, u, h => by cases j <;> cases h
  | .rc _, j, o, u, h => by cases j <;> cases h
theorem fld_le {T : Ty} {j o : Nat} {u : Ty} (h : fld T j = some (o, u)) : o + wd u ≤ wd T := by
  cases T with
  | rc i =>
    have h1 := fldP_le (rcTy i) j o u h
    have h2 : wd (rcTy i) = wd (.rc i) := by cases i <;> rfl
    omega
  | _ => exact fldP_le _ j o u h
theorem setZ_sound {T : Ty} : ∀ (ps : List (Nat × V)) (cs ds : List V), setZ T ps cs = some ds →
    ∀ g I qs (place : Nat → Option (Nat × Nat)) (cells : Array Value), PartsRel g I ps qs → (∀ j o u, fld T j = some (o, u) → place j = some (o, wd u) ∧ o + wd u ≤ cells.size) → MixOk g I cs cells.toList →
      ∃ cells' : Array Value, Instr.fill place cells qs = some cells' ∧ cells'.size = cells.size ∧ MixOk g I ds cells'.toList
  | [], cs, ds, h => by
    intro g I qs place cells hq _ hm
    simp only [setZ, Option.some.injEq] at h
    subst h
    cases qs with
    | nil => exact ⟨cells, rfl, rfl, hm⟩
    | cons q qs => exact hq.elim
  | (j, v) :: ps, cs, ds, h => by
    intro g I qs place cells hq hp hm
    simp only [setZ] at h
    cases hf : fld T j with
    | none => rw [hf] at h; cases h
    | some ot =>
      obtain ⟨o, u⟩ := ot
      rw [hf] at h
      simp only at h
      split at h
      · rename_i hc
        obtain ⟨hc1, hc2⟩ := hc
        cases qs with
        | nil => exact hq.elim
        | cons q qs =>
          obtain ⟨q1, q2⟩ := q
          obtain ⟨e, hq2, hq3⟩ := hq
          simp only at e hq2; subst e
          obtain ⟨h1, h2⟩ := hp j o u hf
          obtain ⟨h3, h4⟩ := flat_sound hq2 hc1
          have h5 : q2.cells.size = wd u := by rw [← hc2, h3.1]; simp
          obtain ⟨cells', h9, h10, h11⟩ := fill_one (place := place) (cells := cells) (rest := qs) h1 h5 h2
          have hlen : o + (flat v).length ≤ cs.length := by rw [hc2, hm.1]; simpa using h2
          obtain ⟨c2, k1, k2, k3⟩ := setZ_sound ps _ ds h g I qs place cells' hq3 (fun j o t hj => by rw [h10]; exact hp j o t hj)
            ⟨by rw [splice_len hlen, h9, lay_len (by rw [← h3.1, ← hm.1]; exact hlen), hm.1], by rw [h9]; exact hm.2.1.lay hm.1 h3 hlen, fun u hu => by
              rw [h9] at hu
              unfold lay at hu
              rcases List.mem_append.1 hu with hu | hu
              · rcases List.mem_append.1 hu with hu | hu
                · exact hm.2.2 u (List.mem_of_mem_take hu)
                · exact h4 u hu
              · exact hm.2.2 u (List.mem_of_mem_drop hu)⟩
          exact ⟨c2, by rw [h11]; exact k1, by rw [k2, h10], k3⟩
      · cases h
/-- A struct, cell by cell: its zero, some parts of it told. -/
theorem buildZ_sound (hT : TtOk P tt) {t : Nat} {T : Ty} {b : Nat} (htt : tt t = .dat T b) (hs : isStr T = true) {ps : List (Nat × V)} {cs : List V} (hcs : setZ T ps (zflat T) = some cs) (g : Gh) (w : World) (parts : Array (Nat × Value)) (hp : PartsRel g (Imm g w) ps parts.toList) :
    ∃ rv, (Instr.build t parts).run P w = .ok rv w ∧ RelV g (Imm g w) (.mix cs) rv := by
  have h3 := hT t; rw [htt] at h3
  obtain ⟨⟨i, z, h4, h5, h6, h7⟩, h8, _, hz⟩ := h3
  have hz := hz i z h4 h6
  have hcells := (h7 (fun _ _ => False)).cells
  have hone := hcells.one
  have hwd := hcells.len
  have ha : aggT T = true := by cases T <;> first | rfl | (simp [isStr] at hs)
  have hn : ∀ n u, T ≠ .arr n u := fun n u e => by subst e; simp [isStr] at hs
  have hfs : ∃ fs, P.underlying t = some (.struct fs) ∧ FieldsOk tt T fs := by
    cases T <;> first | (simp [isStr] at hs; done) | exact h8
  obtain ⟨fs, h9, h10⟩ := hfs
  have hinfo : ∀ f ∈ fs.toList, ∃ i, P.info? f.type = some i := by
    intro f hf
    obtain ⟨j, hj, rfl⟩ := List.getElem_of_mem hf
    have hj' : j < fs.size := by simpa using hj
    cases hfl : fld T j with
    | none => have := (h10 j).2 hfl; rw [Array.getElem?_eq_getElem hj'] at this; cases this
    | some ou =>
      obtain ⟨f, b', k1, k2, k3, _⟩ := (h10 j).1 ou.1 ou.2 hfl
      rw [Array.getElem?_eq_getElem hj'] at k1
      simp only [Option.some.injEq] at k1
      have k4 := hT f.type; rw [k3] at k4
      obtain ⟨⟨i, _, k5, _⟩, _⟩ := k4
      exact ⟨i, by simpa [k1] using k5⟩
  obtain ⟨places, h11, h12⟩ := mapM_places (P := P) fs.toList hinfo
  obtain ⟨k1, k2⟩ := zflat_rel (g := g) (I := Imm g w) T
  rw [← hz] at k1 k2
  obtain ⟨cells', h15, _, h16⟩ := setZ_sound ps _ cs hcs g (Imm g w) parts.toList (places.toArray[·]?) z.cells hp (fun j o u hj => by
    obtain ⟨f, b', j1, j2, j3, _⟩ := (h10 j).1 o u hj
    have j4 := hT f.type; rw [j3] at j4
    obtain ⟨⟨i, _, j5, j6, _⟩, _⟩ := j4
    have := h12 j f i (by simpa using j1) j5
    rw [j2, j6] at this
    refine ⟨by simpa using this, ?_⟩
    have hle := fld_le hj
    have : z.cells.size = wd T := by rw [← Array.length_toList]; exact hwd
    omega) ⟨k1, k2, hone⟩
  exact ⟨.agg cells', run_build w t parts cells' (by simp only [Program.built, h4, h9, h6, h11]; exact h15), mix_rel h16⟩
theorem noIds_all {env : List V} : ∀ xs : List Operand, (∀ x ∈ xs, noIds (ev env x) = true) → (xs.map (ev env)).any isMsl = false ∧ V.idsL (xs.map (ev env)) = []
  | [], _ => ⟨rfl, rfl⟩
  | x :: xs, hn => by
    obtain ⟨i1, i2⟩ := noIds_all xs fun y hy => hn y (List.mem_cons_of_mem _ hy)
    have hx : noIds (ev env x) = true := hn x (List.mem_cons_self ..)
    obtain ⟨n1, n2⟩ := Bool.and_eq_true_iff.1 hx
    refine ⟨?_, ?_⟩
    · rw [List.map_cons, List.any_cons, i1, Bool.or_false]
      cases hm : isMsl (ev env x) with
      | false => rfl
      | true => rw [hm] at n2; cases n2
    · rw [List.map_cons]
      show (ev env x).ids ++ V.idsL _ = []
      rw [i2, List.append_nil]
      exact List.isEmpty_iff.1 n1
theorem vop_pkg (hC : ∀ f, SoundFn P f (C f)) (hT : TtOk P tt) {env : List V} {σ : St} {o : Oper} {K : V → St → Option R} {r : R} (h : vop C tt env σ o.op K = some r) :
    ∃ v σ', K v σ' = some r ∧ Pkg P C (cls C o.op) o env σ v σ' := by
  have quiet : Plain o.op → (qop tt σ.objs env o.op fun v => K v σ) = some r → ∃ v σ', K v σ' = some r ∧ Pkg P C (cls C o.op) o env σ v σ' := by
    intro hp h
    have hl : ∀ t a, o.op ≠ .load t a := fun t a e => by rw [e] at hp; exact hp
    by_cases hc : cls C o.op = 0
    · rw [qop_class0 hl hc] at h
      obtain ⟨v, h1, h2⟩ := qop_sound (P := P) hT h
      refine ⟨v, σ, h1, .reads (by omega) (fun g w a τ _ hst ho => .of_qo (h2 g w a (fun i o hi => by simp at hi) hst.bad_lt ho) hst) (extra_plain hp)⟩
    · obtain ⟨v, h1, h2⟩ := qop_sound (P := P) hT h
      by_cases h3 : cls C o.op ≤ 1
      · exact ⟨v, σ, h1, .reads h3 (fun g w a τ hτ hst ho => .of_qo (h2 g w a (by rw [← hτ (by omega)]; exact hst.obj) hst.bad_lt ho) hst) (extra_plain hp)⟩
      · exact ⟨v, σ, h1, .turns (by omega) (fun _ => rfl) (fun g w a hst ho => .of_qo (h2 g w a hst.obj hst.bad_lt ho) hst) (extra_plain hp)⟩
  obtain ⟨dst, op, type, pos, after, guard⟩ := o
  simp only at h quiet ⊢
  unfold vop at h
  split at h
  · rename_i t
    split at h
    · rename_i T b htt
      exact ⟨_, _, h, .turns (by simp [cls]) (fun h => by simp [cls] at h) (fun g w a hst ho => .of_so (alloc_sound hT htt hst)) (fun m hm => app_other hm)⟩
    · cases h
    · rename_i hd hn
      exact ⟨_, _, h, .turns (by simp [cls]) (fun h => by simp [cls] at h) (fun g w a hst ho => .of_so (allocRef_sound hT hd hn hst)) (fun m hm => app_other hm)⟩
  · rename_i t x
    cases hro : (C 2000001).ro with
    | true =>
      rw [hro, cond_true] at h
      split at h
      · rename_i hs
        refine ⟨_, _, h, .turns (by simp [cls]) (fun h => by simp [cls] at h) (fun g w a hst ho => ?_) (fun m hm => app_other hm)⟩
        obtain ⟨k1, k2, k3⟩ := new_sound hst (ho x (by simp [Op.operands])) hs t
        exact .of_so ⟨_, _, _, _, by simp [execOp, Instr.box, newVar, newRow], .inl rfl, k2, k3, k1⟩
      · cases h
    | false =>
      rw [hro, cond_false] at h
      split at h
      · rename_i T y hx
        split at h
        · rename_i hT'
          refine ⟨_, _, h, .turns (by simp [cls]) (fun h => by simp [cls] at h) (fun g w a hst ho => ?_) (fun m hm => rfl)⟩
          have hx' := ho x (by simp [Op.operands])
          rw [hx] at hx'
          obtain ⟨k1, k2, k3⟩ := newD_sound hst hx' hT' t
          exact .of_so ⟨_, _, _, _, by simp [execOp, Instr.box, newVar, newRow], .inl rfl, k2, k3, k1⟩
        · cases h
      · cases h
  · rename_i t ps
    cases hro : (C 2000002).ro with
    | true =>
      rw [hro, cond_true] at h
      exact quiet True.intro h
    | false =>
      rw [hro, cond_false] at h
      split at h
      · rename_i T b htt
        split at h
        · rename_i hs
          split at h
          · rename_i cs hcs
            refine ⟨_, σ, h, .reads (by simp [cls]) fun g w a τ _ hst ho => ?_⟩
            · obtain ⟨rv, h1, h2⟩ := buildZ_sound (P := P) hT htt hs hcs g w (ps.map fun (i, x) => (i, a.eval x)) (by
                rw [Array.toList_map]
                exact PartsRel.map fun p hp => ho p.2 (by simp [Op.operands]; exact ⟨p.1, by simpa using hp⟩))
              exact .inl ⟨rv, w, .inl (by simp [execOp, h1]), .refl _ _, h2, hst⟩
          · cases h
        · cases h
      · exact quiet True.intro h
  · rename_i t x
    cases hro : (C 2000001).ro with
    | true =>
      rw [hro, cond_true] at h
      obtain ⟨v, h1, key⟩ := look_pkg (P := P) (C := C) hT (o := { dst, op := .load t x, type, pos, after, guard }) (x := x) rfl (by simp [cls, hro]) h
      exact ⟨v, σ, h1, .reads (by simp [cls, hro]) (fun g w a τ hτ hst ho => key g w a τ (fun m _ => by rw [hτ (by simp [cls, hro])]) hst ho) key⟩
    | false =>
      rw [hro, cond_false] at h
      obtain ⟨v, h1, h2⟩ := qop_sound (P := P) hT (o := { dst, op := .load t x, type, pos, after, guard }) h
      exact ⟨v, σ, h1, .reads (by simp [cls, hro]) (fun g w a τ _ hst ho => .of_qo (h2 g w a (fun i o hi => by simp at hi) hst.bad_lt ho) hst) (fun g w a τ _ hst ho => .of_qo (h2 g w a (fun i o hi => by simp at hi) hst.bad_lt ho) hst)⟩
  · rename_i t x y
    obtain ⟨u, σ', h1, ⟨i, ob, hi, hob⟩, h2⟩ := storeV_sound (P := P) hT h
    exact ⟨u, σ', h1, .turns (by simp [cls]) (fun h => by simp [cls] at h) (fun g w a hst ho => .of_so (h2 g w _ _ hst (ho x (by simp [Op.operands])) (ho y (by simp [Op.operands])))) (fun m hm => by
      have hne : i ≠ m := fun e => hm (by subst e; exact hi)
      rw [hob, List.getElem?_set_ne hne])⟩
  · rename_i t l c
    split at h
    · rename_i T eb htt
      split at h
      · rename_i heb
        obtain ⟨kl, n, hl, h⟩ := asInt_some h
        obtain ⟨kc, m, hc, h⟩ := asInt_some h
        cases h0 : decide (0 ≤ n) with
        | false => rw [h0] at h; cases h
        | true =>
          rw [h0] at h
          cases h1 : decide (n ≤ m) with
          | false => rw [h1] at h; cases h
          | true =>
            rw [h1] at h
            cases h2 : decide (m.toNat * eb ≤ room) with
            | false => rw [h2] at h; cases h
            | true =>
              rw [h2] at h
              refine ⟨_, _, h, .turns (by simp [cls]) (fun h => by simp [cls] at h) fun g w a hst ho => ?_⟩
              have hl' := ho l (by simp [Op.operands]); rw [hl] at hl'
              have hc' := ho c (by simp [Op.operands]); rw [hc] at hc'
              have := makeSlice_sound (P := P) hT htt heb (kl := kl) (kc := kc) (of_decide_eq_true h0) (of_decide_eq_true h1) (of_decide_eq_true h2) hst
              simp only [execOp, relV_int hl', relV_int hc']
              exact .of_so this
      · cases h
    · cases h
  · rename_i t
    split at h
    · exact ⟨_, _, h, .turns (by simp [cls]) (fun h => by simp [cls] at h) fun g w a hst ho => .of_so (makeMap_sound hst)⟩
    · cases h
  · rename_i t m k x
    split at h
    · rename_i kt vt i htt hm
      split at h
      · rename_i kt' vt' es hobj
        split at h
        · rename_i hk
          split at h
          · rename_i e1; subst e1
            split at h
            · rename_i e2; subst e2
              obtain ⟨kk, h, h1⟩ := asD_sound h
              obtain ⟨xx, h, h2⟩ := asD_sound h
              refine ⟨_, _, h, .turns (by simp [cls]) (fun h => by simp [cls] at h) fun g w a hst ho => .of_so ?_⟩
              have hm' := ho m (by simp [Op.operands]); rw [hm] at hm'
              exact mapUpdate_sound hT htt hk hobj hst hm' (h1 _ _ _ (ho k (by simp [Op.operands]))) (h2 _ _ _ (ho x (by simp [Op.operands])))
            · cases h
          · cases h
        · cases h
      · cases h
    · cases h
  · rename_i s x t tx
    cases hro : (C 2000000).ro with
    | true =>
      rw [hro, cond_true] at h
      obtain ⟨u, σ', h1, hob, h2⟩ := appendV_sound (P := P) hT h
      refine ⟨u, σ', h1, .turns (by simp [cls, hro]) (fun _ => hob) fun g w a hst ho => .of_so ?_⟩
      have := h2 g w _ _ type hst (ho s (by simp [Op.operands, Call.operands])) (ho x (by simp [Op.operands, Call.operands]))
      simpa [execOp, resolve, invoke, builtin] using this
    | false =>
      rw [hro, cond_false] at h
      obtain ⟨u, σ', h1, h2⟩ := appendO_sound (P := P) hT h
      refine ⟨u, σ', h1, .turns (by simp [cls, hro]) (fun h => by simp [cls, hro] at h) fun g w a hst ho => .of_so ?_⟩
      have := h2 g w _ _ type hst (ho s (by simp [Op.operands, Call.operands])) (ho x (by simp [Op.operands, Call.operands]))
      simpa [execOp, resolve, invoke, builtin] using this
  · rename_i d s td ts
    obtain ⟨u, σ', h1, h2⟩ := copyV_sound (P := P) hT h
    refine ⟨u, σ', h1, .turns (by simp [cls]) (fun h => by simp [cls] at h) fun g w a hst ho => .of_so ?_⟩
    have := h2 g w _ _ type hst (ho d (by simp [Op.operands, Call.operands])) (ho s (by simp [Op.operands, Call.operands]))
    simpa [execOp, resolve, invoke, builtin] using this
  · rename_i f xs ats
    split at h
    · rename_i g0 vargs hf
      have args : ∀ (g : Gh) (w : World) (a : Act), (∀ x, x ∈ (Op.call ⟨.value f, ⟨xs⟩, ats⟩).operands → RelV g (Imm g w) (ev env x) (a.eval x)) →
          ∃ (bnds caps : List Value), a.eval f = .func (.func g0) bnds.toArray caps.toArray ∧ RelL g (Imm g w) vargs (bnds.toArray ++ (⟨xs⟩ : Array Operand).map a.eval ++ caps.toArray).toList := by
        intro g w a ho
        have h1 := ho f (by simp [Op.operands, Call.operands])
        have hxs : RelL g (Imm g w) (xs.map (ev env)) (xs.map a.eval) := ⟨by simp, fun i v rv hv hrv => by
          rw [List.getElem?_map] at hv hrv
          cases hx : xs[i]? with
          | none => rw [hx] at hv; cases hv
          | some x =>
            rw [hx] at hv hrv
            simp only [Option.map_some, Option.some.injEq] at hv hrv
            subst hv; subst hrv
            exact ho _ (by simp [Op.operands, Call.operands]; exact .inr (List.mem_of_getElem? hx))⟩
        generalize hev : ev env f = vf at h1 hf
        generalize hr : a.eval f = rv at h1
        have app : ∀ {vs us : List V} {rs ss : List Value}, RelL g (Imm g w) vs rs → RelL g (Imm g w) us ss → RelL g (Imm g w) (vs ++ us) (rs ++ ss) := by
          intro vs us rs ss h2 h3
          refine ⟨by rw [List.length_append, List.length_append, h2.1, h3.1], fun i v rv hv hrv => ?_⟩
          rcases Nat.lt_or_ge i vs.length with hlt | hge
          · rw [List.getElem?_append_left hlt] at hv
            rw [List.getElem?_append_left (by rw [h2.1]; exact hlt)] at hrv
            exact h2.2 i v rv hv hrv
          · rw [List.getElem?_append_right hge] at hv
            rw [List.getElem?_append_right (by rw [h2.1]; exact hge), h2.1] at hrv
            exact h3.2 _ v rv hv hrv
        cases h1 with
        | fn f' cap caps h2 h3 =>
          simp only [fnArgs, Option.some.injEq, Prod.mk.injEq] at hf
          obtain ⟨rfl, rfl⟩ := hf
          refine ⟨[], caps, rfl, ?_⟩
          simpa using app hxs ⟨h2, h3⟩
        | bfn f' bnd bnds h2 h3 =>
          simp only [fnArgs, Option.some.injEq, Prod.mk.injEq] at hf
          obtain ⟨rfl, rfl⟩ := hf
          refine ⟨bnds, [], rfl, ?_⟩
          simpa using app ⟨h2, h3⟩ hxs
        | _ => simp [fnArgs] at hf
      split at h
      · rename_i hro
        by_cases hfree : (vargs.any isMsl = false ∧ V.idsL vargs = [])
        · obtain ⟨v, h1, he, h2⟩ := vcallR_free (hC g0) h hfree.1 hfree.2
          have key : ∀ g w (a : Act) τ, RelSt g τ w → (∀ x, x ∈ (Op.call ⟨.value f, ⟨xs⟩, ats⟩).operands → RelV g (Imm g w) (ev env x) (a.eval x)) → OQ P (execOp a.eval { dst, op := .call { callee := .value f, args := ⟨xs⟩, argTypes := ats }, type, pos, after, guard }) g w v τ := by
            intro g w a τ hst ho
            obtain ⟨bnds, caps, h3, h4⟩ := args g w a ho
            exact .inr ⟨g0, _, call_run h3 he w, (h2 τ g w _ hst h4).mono fun e w' ⟨rv, k1, k2, k3, k4⟩ => ⟨rv, k1, k2, k3, k4⟩⟩
          have hx : Extra P C { dst, op := .call { callee := .value f, args := ⟨xs⟩, argTypes := ats }, type, pos, after, guard } env σ v σ := by
            cases f <;> first | exact True.intro | exact fun _ _ => key
          by_cases hcl : cls C (.call { callee := .value f, args := ⟨xs⟩, argTypes := ats }) = 1
          · exact ⟨v, σ, h1, by rw [hcl]; exact .reads (Nat.le_refl _) (fun g w a τ hτ hst ho => key g w a τ hst ho) hx⟩
          · have h3 : cls C (.call { callee := .value f, args := ⟨xs⟩, argTypes := ats }) = 3 := by
              cases f <;> simp only [cls] at hcl ⊢
              split at hcl
              · exact absurd rfl hcl
              · rename_i hn; simp [hn]
            exact ⟨v, σ, h1, by rw [h3]; exact .turns (by omega) (fun h => by omega) (fun g w a hst ho => (key g w a σ hst ho).oo) hx⟩
        · obtain ⟨v, h1, he, h2⟩ := vcallR_sound (hC g0) h
          have key : ∀ g w (a : Act) τ, τ.objs = σ.objs → RelSt g τ w → (∀ x, x ∈ (Op.call ⟨.value f, ⟨xs⟩, ats⟩).operands → RelV g (Imm g w) (ev env x) (a.eval x)) → OQ P (execOp a.eval { dst, op := .call { callee := .value f, args := ⟨xs⟩, argTypes := ats }, type, pos, after, guard }) g w v τ := by
            intro g w a τ hτ hst ho
            obtain ⟨bnds, caps, h3, h4⟩ := args g w a ho
            exact .inr ⟨g0, _, call_run h3 he w, (h2 τ g w _ hτ hst h4).mono fun e w' ⟨rv, k1, k2, k3, k4⟩ => ⟨rv, k1, k2, k3, k4⟩⟩
          have hx : Extra P C { dst, op := .call { callee := .value f, args := ⟨xs⟩, argTypes := ats }, type, pos, after, guard } env σ v σ := by
            cases f with
            | func f0 =>
              intro _ hn
              exfalso
              refine hfree ?_
              have e : vargs = xs.map (ev env) ++ [] := by
                have := hf
                simp only [ev, fnArgs, Option.some.injEq, Prod.mk.injEq] at this
                exact this.2.symm
              rw [List.append_nil] at e
              subst e
              exact noIds_all xs hn
            | _ => exact True.intro
          by_cases hcl : cls C (.call { callee := .value f, args := ⟨xs⟩, argTypes := ats }) = 1
          · exact ⟨v, σ, h1, by rw [hcl]; exact .reads (Nat.le_refl _) (fun g w a τ hτ hst ho => key g w a τ (hτ rfl) hst ho) hx⟩
          · have h3 : cls C (.call { callee := .value f, args := ⟨xs⟩, argTypes := ats }) = 3 := by
              cases f <;> simp only [cls] at hcl ⊢
              split at hcl
              · exact absurd rfl hcl
              · rename_i hn; simp [hn]
            exact ⟨v, σ, h1, by rw [h3]; exact .turns (by omega) (fun h => by omega) (fun g w a hst ho => (key g w a σ rfl hst ho).oo) hx⟩
      · rename_i hro
        obtain ⟨v, σ', h1, he, h2⟩ := vcallW_sound (hC g0) (by simpa using hro) h
        have h3 : cls C (.call { callee := .value f, args := ⟨xs⟩, argTypes := ats }) = 3 := by
          cases f <;> simp only [cls]
          rename_i g1
          have : g1 = g0 := by simp only [ev, fnArgs, Option.some.injEq, Prod.mk.injEq] at hf; exact hf.1
          subst this
          simp [hro]
        refine ⟨v, σ', h1, ?_⟩
        rw [h3]
        refine .turns (by omega) (fun h => by omega) (fun g w a hst ho => ?_) (by
          cases f with
          | func g1 =>
            have : g1 = g0 := by simp only [ev, fnArgs, Option.some.injEq, Prod.mk.injEq] at hf; exact hf.1
            subst this
            exact fun hr => absurd hr (by simpa using hro)
          | _ => exact True.intro)
        obtain ⟨bnds, caps, h4, h5⟩ := args g w a ho
        exact .inr ⟨g0, _, call_run h4 he w, (h2 g w _ hst h5).mono fun e w' ⟨rv, g', k1, k2, k3, k4⟩ => ⟨rv, k1, g', k2, k3, k4⟩⟩
    · cases h
  · by_cases hl : ∃ t x i, op = .indexAddr t x i
    · obtain ⟨t, x, i, rfl⟩ := hl
      obtain ⟨v, h1, key⟩ := look_pkg (P := P) (C := C) hT (o := { dst, op := .indexAddr t x i, type, pos, after, guard }) (x := x) rfl (by simp [cls]) h
      exact ⟨v, σ, h1, .reads (by simp [cls]) (fun g w a τ hτ hst ho => key g w a τ (fun m _ => by rw [hτ (by simp [cls])]) hst ho) key⟩
    · refine quiet ?_ h
      cases op with
      | call c =>
        obtain ⟨f, ⟨xs⟩, ats⟩ := c
        cases f with
        | value f0 => exfalso; rename_i hn; exact hn f0 xs ats rfl
        | _ => exact True.intro
      | indexAddr t x i => exact absurd ⟨_, _, _, rfl⟩ hl
      | _ => first | exact True.intro | (exfalso; rename_i hn; first | exact hn _ rfl | exact hn _ _ rfl | exact hn _ _ _ rfl) | simp_all [Plain]
theorem vop_sound (hC : ∀ f, SoundFn P f (C f)) (hT : TtOk P tt) {env : List V} {σ : St} {o : Oper} {K : V → St → Option R} {r : R} (h : vop C tt env σ o.op K = some r) :
    ∃ v σ', K v σ' = some r ∧ ∀ g w (a : Act), RelSt g σ w → (∀ x, x ∈ o.op.operands → RelV g (Imm g w) (ev env x) (a.eval x)) → OO P (execOp a.eval o) g w v σ' := by
  obtain ⟨v, σ', h1, h2, _, _, h3⟩ := vop_pkg hC hT h
  refine ⟨v, σ', h1, fun g w a hst ho => ?_⟩
  have := h3 g w a σ (fun _ => rfl) (fun _ => rfl) hst ho
  split at this
  · rename_i hc; rw [(h2 hc).1]; exact this
  · exact this
end
end Go.Proofs.Yticelgnmcjkknaa.Vm
