/-
Programs as trees: any program without places. The plain law.
-/
import Derived.Test.YticelgnmcjkknaaTbF
set_option linter.unusedVariables false
set_option linter.unusedSimpArgs false
set_option maxRecDepth 100000
namespace Go.Proofs.Yticelgnmcjkknaa.M
open Go Go.Proofs.Yticelgnmcjkknaa.Vm Go.Proofs.Yticelgnmcjkknaa.Pl
namespace Tree
open Lex
theorem both71ok {p : D_Prog} (hf : Fit T_Prog p) : E fun k => ∃ s x, ∃ ok : Bool, f71 k p = some (((), ok, ()), ((s, x, ()), ())) ∧ f32 k p = some ((cond ok s (-1), cond ok x 0, ()), ()) ∧ (ok = true → 0 ≤ s) ∧ ok = okP p := by
  obtain ⟨w, ds, ps, u⟩ := p
  have hd : Fit (.slice T_Decl) ds := hf.inv.2.inv.1
  have hp : Fit (.slice T_Proc) ps := hf.inv.2.inv.2.inv.1
  obtain ⟨_, hds⟩ := fit_list hd
  obtain ⟨_, hps⟩ := fit_list hp
  have key1 : ∀ d ∈ ds, E fun k => f19 k d.2.1 = some ((nameS (L d.2.1), ()), ()) ∧ f20 k d.2.1 = some ((nameS (L d.2.1), ()), ()) := fun d hm => by
    have : d.2.1.size ≤ mx := (hds d hm).inv.2.inv.1.inv
    exact nameE d.2.1 this
  have key2 : ∀ q ∈ ps, E fun k => PrFact k q := fun q hq => by
    have h1 : q.1.size ≤ mx := (hps q hq).inv.1.inv
    have h2 : Fit (.slice (.rc 1)) q.2.1 := (hps q hq).inv.2.inv.1
    exact ((nameE q.1 h1).and ((all107 12 (Nat.le_refl _) q.2.1 h2).and (ref72 12 (Nat.le_refl _) q.2.1 h2))).mono fun k ⟨⟨a, b⟩, c, d⟩ => ⟨a, b, c, d⟩
  refine ((E_list ds key1).and ((E_list ps key2).and (E.ge 100))).mono fun k ⟨h1, h2, h3⟩ => ?_
  unfold f71 f32
  dsimp only
  cases c1 : decide (w < 0) with
  | true => exact ⟨_, _, false, rfl, rfl, (fun h => by cases h), by unfold okP; dsimp only; rw [c1]; rfl⟩
  | false =>
  cases c2 : decide (w > 65535) with
  | true => exact ⟨_, _, false, rfl, rfl, (fun h => by cases h), by unfold okP; dsimp only; rw [c1, c2]; rfl⟩
  | false =>
  cases c3 : decide ((ds.length : Int) > 12) with
  | true => exact ⟨_, _, false, rfl, rfl, (fun h => by cases h), by unfold okP; dsimp only; rw [c1, c2, c3]; rfl⟩
  | false =>
  cases c4 : decide ((ps.length : Int) < 1) with
  | true => exact ⟨_, _, false, rfl, rfl, (fun h => by cases h), by unfold okP; dsimp only; rw [c1, c2, c3, c4]; rfl⟩
  | false =>
  cases c5 : decide ((ps.length : Int) > 6) with
  | true => exact ⟨_, _, false, rfl, rfl, (fun h => by cases h), by unfold okP; dsimp only; rw [c1, c2, c3, c4, c5]; rfl⟩
  | false =>
  have hdl := of_decide_eq_false c3
  have hpl := of_decide_eq_false c5
  rw [decl104 k (by omega) (by omega) fun d hm => (h1 d hm).1]
  have hrd := rdecl_loop k (by omega) (fun d hm => (h1 d hm).2) (w := w) (ps := ps) ds.length 0 (by omega) k (by omega)
  rw [show ((0 : Nat) : Int) = 0 from rfl, List.drop_zero] at hrd
  rw [hrd]
  simp only [Option.bind_some, cond_false]
  cases hda : ds.all declB with
  | false => exact ⟨_, _, false, rfl, rfl, (fun h => by cases h), by unfold okP; dsimp only; rw [c1, c2, c3, c4, c5, hda]; rfl⟩
  | true =>
  simp only [Bool.not_true, cond_false, cond_true, Option.bind_some]
  obtain ⟨s', x', hA⟩ := procs_loop k (by omega) h2 ps.length 0 0 0 (by omega) (by omega) (by omega) k (by omega)
  have hB := rprocs_loop k (by omega) h2 (w := w) (ds := ds) ps.length 0 0 0 (by omega) (by omega) (by omega) k (by omega)
  rw [show ((0 : Nat) : Int) = 0 from rfl, List.drop_zero] at hA hB
  rcases hB with ⟨a, e1, e2⟩ | ⟨e1, e2⟩
  · rw [e2]
    rw [e1] at hA
    unfold Res2 at hA
    dsimp only at hA
    simp only [Option.bind_some]
    by_cases hin : a.1 ≤ 200 ∧ a.2 ≤ 8192
    · rw [if_pos (by omega), if_pos (by omega)] at hA
      rcases hA with ⟨g1, _, rfl, rfl⟩ | ⟨_, g2, _⟩
      · rw [g1]
        rw [decide_eq_false (by omega : ¬ ((0 + a.1 : Nat) : Int) > 200), decide_eq_false (by omega : ¬ ((0 + a.2 : Nat) : Int) > 8192)]
        exact ⟨_, _, true, rfl, rfl, fun _ => show (0 : Int) ≤ ((0 + a.1 : Nat) : Int) by omega, by unfold okP; dsimp only; rw [c1, c2, c3, c4, c5, hda, e1]; dsimp only; rw [decide_eq_true hin.1, decide_eq_true hin.2]; rfl⟩
      · cases g2
    · have hno : false = okP (w, ds, ps, u) := by
        unfold okP; dsimp only; rw [c1, c2, c3, c4, c5, hda, e1]; dsimp only
        by_cases h200 : a.1 ≤ 200
        · rw [decide_eq_false (by omega : ¬ a.2 ≤ 8192), decide_eq_true h200]; rfl
        · rw [decide_eq_false h200]; rfl
      rw [if_neg (by omega), if_neg (by omega)] at hA
      rcases hA with ⟨_, g2⟩ | ⟨g1, _⟩
      · cases g2
      · rw [g1]
        refine ⟨_, _, false, rfl, ?_, (fun h => by cases h), hno⟩
        by_cases h200 : a.1 ≤ 200
        · rw [decide_eq_false (by omega : ¬ ((0 + a.1 : Nat) : Int) > 200), decide_eq_true (by omega : ((0 + a.2 : Nat) : Int) > 8192)]; rfl
        · rw [decide_eq_true (by omega : ((0 + a.1 : Nat) : Int) > 200)]; rfl
  · rw [e2]
    rcases hA with ⟨g1, g2⟩ | ⟨g1, _⟩
    · exfalso
      cases hS : sumP ps with
      | none => rw [hS] at g2; cases g2
      | some a =>
        have := e1 a hS
        rw [hS] at g2
        unfold Res2 at g2
        dsimp only at g2
        rw [if_neg (by omega)] at g2
        cases g2
    · rw [g1]
      refine ⟨_, _, false, rfl, rfl, (fun h => by cases h), ?_⟩
      unfold okP; dsimp only; rw [c1, c2, c3, c4, c5, hda]
      cases hS : sumP ps with
      | none => rfl
      | some a =>
        have := e1 a hS
        dsimp only
        by_cases h200 : a.1 ≤ 200
        · rw [decide_eq_false (by omega : ¬ a.2 ≤ 8192), decide_eq_true h200]; rfl
        · rw [decide_eq_false h200]; rfl
/-! ### alike, by the program -/
theorem same70o : ∀ (n : Nat) (a : PExpr), SizeOf.sizeOf a ≤ n → Fit (.rc 0) a → ∀ b : PExpr, E fun k => f70 k a b = some ((sameE n a b, ()), ())
  | 0, a, h, _, _ => by cases a; simp at h
  | n + 1, a, h, hf, b => by
    obtain ⟨_, hl, hk⟩ := fit_expr hf
    have hs : ∀ x ∈ eKids a, SizeOf.sizeOf x ≤ n := by
      intro x hx
      have h1 := List.sizeOf_lt_of_mem hx
      have h2 : SizeOf.sizeOf (eKids a) < SizeOf.sizeOf a := by
        cases a with
        | mk a b c d kids f =>
          show SizeOf.sizeOf kids < SizeOf.sizeOf (PExpr.mk a b c d kids f)
          simp
          omega
      omega
    obtain ⟨K, hK⟩ := E_list (eKids a) fun x hx => E_list (eKids b) fun y _ => same70o n x (hs x hx) (hk x hx) y
    refine ⟨K + (eKids a).length + 5, fun k hk2 => ?_⟩
    obtain ⟨k, rfl⟩ : ∃ q, k = q + 2 := ⟨k - 2, by omega⟩
    rw [f70_succ]
    unfold b70
    rw [list101 k hl (by omega) fun x hx y hy => hK k (by omega) x hx y hy]
    simp only [Option.bind_some]
    unfold sameE
    cases (eKind a == eKind b) <;> cases ((eOp a).toList == (eOp b).toList) <;> cases (eNum a == eNum b) <;> cases ((eName a).toList == (eName b).toList) <;> rfl
structure SoFact (k n : Nat) (s t : PStmt) : Prop where
  ex : ∀ x ∈ sExprs s, ∀ y ∈ sExprs t, f70 k x y = some ((sameE n x y, ()), ())
  lx : (sExprs s).length ≤ mx ∧ (sExprs s).length < k
  bd : f66 k (sBody s) (sBody t) = some ((all2 (sameS n) (sBody s) (sBody t), ()), ())
  el : f66 k (sEls s) (sEls t) = some ((all2 (sameS n) (sEls s) (sEls t), ()), ())
theorem stmt67o (k n : Nat) {s t : PStmt} (h : SoFact k n s t) (h' : SoFact (k + 1) n s t) : f67 (k + 2) s t = some ((sameS (n + 1) s t, ()), ()) := by
  rw [f67_succ]
  unfold b67
  rw [list101 k h.lx.1 h.lx.2 fun x hx y hy => h.ex x hx y hy, h'.bd, h'.el]
  simp only [Option.bind_some]
  unfold sameS
  cases (sKind s == sKind t) <;> cases ((sName s).toList == (sName t).toList) <;> cases ((sLoc s).toList == (sLoc t).toList) <;> cases all2 (sameE n) (sExprs s) (sExprs t) <;> cases all2 (sameS n) (sBody s) (sBody t) <;> rfl
theorem same66o : ∀ (n : Nat) (l : List PStmt), SizeOf.sizeOf l ≤ n → Fit (.slice (.rc 1)) l → ∀ m : List PStmt, E fun k => f66 k l m = some ((all2 (sameS n) l m, ()), ())
  | 0, l, h, _, _ => by cases l <;> simp at h
  | n + 1, l, h, hf, m => by
    obtain ⟨hl, hs⟩ := fit_list hf
    have key : ∀ s ∈ l, ∀ t ∈ m, E fun k => SoFact k n s t := by
      intro s hsm t htm
      have h1 := List.sizeOf_lt_of_mem hsm
      obtain ⟨h2, h3⟩ := stmt_sizes s
      have h4 : SizeOf.sizeOf (sExprs s) < SizeOf.sizeOf s := by
        cases s with
        | mk a b c d x y f =>
          show SizeOf.sizeOf d < SizeOf.sizeOf (PStmt.mk a b c d x y f)
          simp
          omega
      obtain ⟨_, _, ⟨f1, f2⟩, f3, f4⟩ := fit_stmt (hs s hsm)
      have e1 := same66o n (sBody s) (by omega) f3 (sBody t)
      have e2 := same66o n (sEls s) (by omega) f4 (sEls t)
      have e3 := E_list (sExprs s) fun x hx => E_list (sExprs t) fun y _ => same70o n x (by have := List.sizeOf_lt_of_mem hx; omega) (f2 x hx) y
      exact (e1.and (e2.and (e3.and (E.ge ((sExprs s).length + 1))))).mono fun k ⟨a1, a2, a3, a4⟩ => ⟨a3, ⟨f1, by omega⟩, a1, a2⟩
    obtain ⟨K, hK⟩ := E_list l fun s hsm => E_list m fun t htm => key s hsm t htm
    refine ⟨K + l.length + 5, fun k hk => ?_⟩
    obtain ⟨k, rfl⟩ : ∃ q, k = q + 3 := ⟨k - 3, by omega⟩
    exact list66 (k + 2) hl (by omega) fun x hx y hy => stmt67o k n (hK k (by omega) x hx y hy) (hK (k + 1) (by omega) x hx y hy)

theorem both33ok {p : D_Prog} (hf : Fit T_Prog p) : E fun k => f33 k p = some ((cond (okP p) 0 1, ()), ()) ∧ f37 k p = some ((okP p, ()), ()) := by
  refine (both71ok hf).mono fun k ⟨s, x, ok, h71, h32, hpos, e⟩ => ?_
  rw [← e]
  refine ⟨?_, ?_⟩
  · unfold f33
    rw [h71]
    cases ok <;> rfl
  · unfold f37
    rw [h32]
    cases ok with
    | false => rfl
    | true =>
      have := hpos rfl
      simp only [Option.bind_some, cond_true]
      rw [decide_eq_true (by omega : s ≥ 0)]
theorem sumP_map : ∀ l : List D_Proc, sumP (l.map bP) = sumP l
  | [] => rfl
  | p :: l => by
    have h : oneP (bP p) = oneP p := by
      show (if nameS (L p.1) = true then cntS 12 (p.2.1.map (bS 12)) else none) = _
      rw [cntS_b]; rfl
    show (oneP (bP p)).bind _ = (oneP p).bind _
    rw [h, sumP_map l]
theorem okP_bare (p : D_Prog) : okP (bare p) = okP p := by
  have h1 : (p.2.1.map bD).all declB = p.2.1.all declB := by rw [List.all_map]; rfl
  unfold okP bare
  dsimp only
  rw [List.length_map, List.length_map, h1, sumP_map]
theorem okP_true {p : D_Prog} (h : okP p = true) : p.2.1.length ≤ 12 ∧ 1 ≤ p.2.2.1.length ∧ p.2.2.1.length ≤ 6 ∧ ∃ a, sumP p.2.2.1 = some a ∧ a.1 ≤ 200 := by
  unfold okP at h
  simp only [Bool.and_eq_true, Bool.not_eq_true', decide_eq_false_iff_not] at h
  obtain ⟨_, _, h1, h2, h3, _, h4⟩ := h
  refine ⟨by omega, by omega, by omega, ?_⟩
  cases hs : sumP p.2.2.1 with
  | none => rw [hs] at h4; cases h4
  | some a =>
    rw [hs] at h4
    simp only [Bool.and_eq_true, decide_eq_true_eq] at h4
    exact ⟨a, rfl, h4.1⟩
theorem sumP_mem : ∀ {l : List D_Proc} {n : Nat × Nat}, sumP l = some n → ∀ p ∈ l, ∃ a, cntS 12 p.2.1 = some a ∧ a.1 ≤ n.1
  | [], _, _, p, hp => by cases hp
  | q :: l, n, h, p, hp => by
    obtain ⟨a, h1, h2⟩ := Option.bind_eq_some_iff.1 (show (oneP q).bind _ = some n from h)
    obtain ⟨b, h3, rfl⟩ := Option.map_eq_some_iff.1 h2
    rcases List.mem_cons.1 hp with rfl | hp
    · unfold oneP at h1
      split at h1
      · exact ⟨a, h1, by show a.1 ≤ a.1 + b.1; omega⟩
      · cases h1
    · obtain ⟨c, h4, h5⟩ := sumP_mem h3 p hp
      exact ⟨c, h4, by show c.1 ≤ a.1 + b.1; omega⟩
/-! ### data that may come in stays so -/
theorem fit_zero : Fit i64 (0 : Int) := .int .i64 0 (by decide)
theorem fit_map {T : Ty} {g : T.D → T.D} {l : List T.D} (h : Fit (.slice T) l) (hg : ∀ x, Fit T x → Fit T (g x)) : Fit (.slice T) (l.map g) := by
  obtain ⟨h1, h2⟩ := fit_list h
  refine .slice T _ (by rw [List.length_map]; exact h1) fun x hx => ?_
  obtain ⟨y, hy, rfl⟩ := List.mem_map.1 hx
  exact hg y (h2 y hy)
theorem fit_bE : ∀ (m : Nat) (e : PExpr), Fit (.rc 0) e → Fit (.rc 0) (bE m e)
  | 0, e, h => h
  | m + 1, e, h => by
    cases e with
    | mk a b c d kids f =>
      have h1 : Fit exprTy (un 0 (.mk a b c d kids f)) := h.inv
      have h2 := h1.inv.2
      have h3 := h2.inv.2
      have h4 := h3.inv.2
      have h5 := h4.inv.2
      refine .rc 0 _ ?_
      exact .pair i64 _ a _ h1.inv.1 (.pair .str _ b _ h2.inv.1 (.pair i64 _ c _ h3.inv.1 (.pair .str _ d _ h4.inv.1 (.pair (.slice (.rc 0)) _ (kids.map (bE m)) _ (show Fit (.slice (.rc 0)) (kids.map (bE m)) from fit_map (T := (.rc 0)) (g := bE m) h5.inv.1 (fit_bE m)) (.pair i64 .unit (0 : Int) () fit_zero (.unit ()))))))
theorem fit_bS : ∀ (m : Nat) (s : PStmt), Fit (.rc 1) s → Fit (.rc 1) (bS m s)
  | 0, s, h => h
  | m + 1, s, h => by
    cases s with
    | mk a b c d x y f =>
      have h1 : Fit stmtTy (un 1 (.mk a b c d x y f)) := h.inv
      have h2 := h1.inv.2
      have h3 := h2.inv.2
      have h4 := h3.inv.2
      have h5 := h4.inv.2
      have h6 := h5.inv.2
      refine .rc 1 _ ?_
      exact .pair i64 _ a _ h1.inv.1 (.pair .str _ b _ h2.inv.1 (.pair .str _ c _ h3.inv.1 (.pair (.slice (.rc 0)) _ (d.map (bE 12)) _ (show Fit (.slice (.rc 0)) (d.map (bE 12)) from fit_map (T := (.rc 0)) (g := bE 12) h4.inv.1 (fit_bE 12)) (.pair (.slice (.rc 1)) _ (x.map (bS m)) _ (show Fit (.slice (.rc 1)) (x.map (bS m)) from fit_map (T := (.rc 1)) (g := bS m) h5.inv.1 (fit_bS m)) (.pair (.slice (.rc 1)) _ (y.map (bS m)) _ (show Fit (.slice (.rc 1)) (y.map (bS m)) from fit_map (T := (.rc 1)) (g := bS m) h6.inv.1 (fit_bS m)) (.pair i64 .unit (0 : Int) () fit_zero (.unit ())))))))
theorem fit_bD (d : D_Decl) (h : Fit T_Decl d) : Fit T_Decl (bD d) := by
  obtain ⟨a, b, c, d, v⟩ := d
  exact .pair i64 _ a _ h.inv.1 (.pair .str _ b _ h.inv.2.inv.1 (.pair i64 _ c _ h.inv.2.inv.2.inv.1 (.pair i64 .unit (0 : Int) () fit_zero (.unit ()))))
theorem fit_bP (p : D_Proc) (h : Fit T_Proc p) : Fit T_Proc (bP p) := by
  obtain ⟨a, b, c, v⟩ := p
  exact .pair .str _ a _ h.inv.1 (.pair (.slice (.rc 1)) _ (b.map (bS 12)) _ (show Fit (.slice (.rc 1)) (b.map (bS 12)) from fit_map (T := .rc 1) (g := bS 12) h.inv.2.inv.1 (fit_bS 12)) (.pair i64 .unit (0 : Int) () fit_zero (.unit ())))
theorem fit_bare {p : D_Prog} (h : Fit T_Prog p) : Fit T_Prog (bare p) := by
  obtain ⟨w, ds, ps, u⟩ := p
  exact .pair i64 _ w _ h.inv.1 (.pair (.slice T_Decl) _ (ds.map bD) _ (show Fit (.slice T_Decl) (ds.map bD) from fit_map (T := T_Decl) (g := bD) h.inv.2.inv.1 fit_bD) (.pair (.slice T_Proc) _ (ps.map bP) _ (show Fit (.slice T_Proc) (ps.map bP) from fit_map (T := T_Proc) (g := bP) h.inv.2.inv.2.inv.1 fit_bP) (.unit ())))
theorem all2_refl {A : Type} {f : A → A → Bool} : ∀ l : List A, (∀ x ∈ l, f x x = true) → all2 f l l = true
  | [], _ => rfl
  | x :: l, h => by
    show (f x x && all2 f l l) = true
    rw [h x (List.mem_cons_self ..), all2_refl l fun y hy => h y (List.mem_cons_of_mem _ hy)]; rfl
theorem sameD_bD (d : D_Decl) : sameD d (bD d) = true := by unfold sameD bD; simp
theorem sameD_self (d : D_Decl) : sameD d d = true := by unfold sameD; simp
theorem body_same (n m : Nat) (l : List PStmt) (h : SizeOf.sizeOf l ≤ n) : all2 (sameS n) l (l.map (bS m)) = true := all2_map l fun x hx => sameS_b n m x (by have := List.sizeOf_lt_of_mem hx; omega)
theorem sameP_bP (n : Nat) (p : D_Proc) (h : SizeOf.sizeOf p.2.1 ≤ n) : sameP n p (bP p) = true := by
  show ((p.1.toList == p.1.toList) && all2 (sameS n) p.2.1 (p.2.1.map (bS 12))) = true
  rw [body_same n 12 _ h]; simp
theorem sameP_self (n : Nat) (p : D_Proc) (h : SizeOf.sizeOf p.2.1 ≤ n) : sameP n p p = true := by
  have := body_same n 0 _ h
  rw [bS_zero] at this
  show ((p.1.toList == p.1.toList) && all2 (sameS n) p.2.1 p.2.1) = true
  rw [this]; simp
end Tree
open Tree
/-- The plain law. -/
theorem Pure.TreeBares (p : D_Prog) (hp : Fit T_Prog p) (at1 : Int) (hat : Fit i64 at1) : ∃ k, f8 k p at1 = some ((true, ()), ()) := by
  obtain ⟨w, ds, ps, u⟩ := p
  have hd := fit_list (show Fit (.slice T_Decl) ds from hp.inv.2.inv.1)
  have hq := fit_list (show Fit (.slice T_Proc) ps from hp.inv.2.inv.2.inv.1)
  have hb : ∀ x ∈ ps, Fit (.slice (.rc 1)) x.2.1 := fun x hx => (hq.2 x hx).inv.2.inv.1
  have eD : E fun k => ∀ x ∈ ps, ∃ v : Int, f34 k x.2.1 = some ((v, ()), ()) ∧ f35 k x.2.1 13 = some ((v, ()), ()) := E_list ps fun x hx => (depE 13 (Nat.le_refl _) x.2.1 (hb x hx)).mono fun k ⟨a, b⟩ => ⟨_, by
    unfold f34
    rw [show ((13 : Nat) : Int) = 13 from rfl] at a
    rw [a]; rfl, b⟩
  have base := (light24 hp).and (awake21E.and ((both33ok hp).and (eD.and (E.ge (ds.length + ps.length + 2)))))
  cases hok : okP (w, ds, ps, u) with
  | false =>
    obtain ⟨k, ⟨b, h24⟩, h21, ⟨h33, h37⟩, h34, hk⟩ := base.ex
    refine ⟨k, ?_⟩
    have h8 := procs8 k hq.1 h34 (w := w) (ds := ds) ps.length 0 (by omega) k (by omega)
    rw [show ((0 : Nat) : Int) = 0 from rfl] at h8
    unfold f8
    rw [h24, h21]
    rw [hok] at h33 h37
    cases b with
    | false => rfl
    | true =>
      simp only [Option.bind_some, Bool.not_true, cond_false]
      rw [h8]
      have h36 : f36 k (w, ds, ps, ()) = some (((0, [], [], ()), ()), ()) := by unfold f36; rw [h33]; rfl
      have h27 : f27 k (w, ds, ps, ()) (w, ds, ps, ()) = some ((false, ()), ()) := by unfold f27; rw [h33]; rfl
      simp only [Option.bind_some]
      rw [h36, h37, h27]; rfl
  | true =>
    obtain ⟨o1, o2, o3, a, o4, o5⟩ := okP_true hok
    have o1 : ds.length ≤ 12 := o1
    have o3 : ps.length ≤ 6 := o3
    have o4 : sumP ps = some a := o4
    obtain ⟨p0, rest, rfl⟩ : ∃ p0 rest, ps = p0 :: rest := by
      cases ps with
      | nil => exact absurd o2 (by simp)
      | cons p0 rest => exact ⟨_, _, rfl⟩
    have hsz : ∀ x ∈ p0 :: rest, SizeOf.sizeOf x.2.1 ≤ SizeOf.sizeOf (p0 :: rest) := fun x hx => proc_size hx
    generalize hn : SizeOf.sizeOf (p0 :: rest) = n at hsz
    have e66 := E_list (p0 :: rest) fun x hx => E_list (p0 :: rest) fun y _ => (same66o n x.2.1 (hsz x hx) (hb x hx) y.2.1).and (same66o n x.2.1 (hsz x hx) (hb x hx) (y.2.1.map (bS 12)))
    have eB := E_list (p0 :: rest) fun x hx => by
      obtain ⟨c, hc1, hc2⟩ := sumP_mem o4 x hx
      exact stmtsB 12 x.2.1 c hc1 (by omega)
    have hfz : Fit T_Prog (w, ds, (p0.1, p0.2.1, at1, ()) :: rest, ()) := by
      refine .pair i64 _ w _ hp.inv.1 (.pair (.slice T_Decl) _ ds _ hp.inv.2.inv.1 (.pair (.slice T_Proc) _ _ _ (.slice T_Proc _ hq.1 (fun x hx => ?_)) (.unit ())))
      rcases List.mem_cons.1 hx with rfl | hx
      · have g := hq.2 p0 (List.mem_cons_self ..)
        exact .pair .str _ p0.1 _ g.inv.1 (.pair (.slice (.rc 1)) _ p0.2.1 _ g.inv.2.inv.1 (.pair i64 .unit at1 () hat (.unit ())))
      · exact hq.2 x (List.mem_cons_of_mem _ hx)
    obtain ⟨k, ⟨⟨b, h24⟩, h21, ⟨h33, h37⟩, h34, hk⟩, h66, hB, ⟨h33b, _⟩, h33z, _⟩ := (base.and (e66.and (eB.and ((both33ok (fit_bare hp)).and (both33ok hfz))))).ex
    refine ⟨k, ?_⟩
    have h8 := procs8 k hq.1 h34 (w := w) (ds := ds) (p0 :: rest).length 0 (by omega) k (by omega)
    rw [show ((0 : Nat) : Int) = 0 from rfl] at h8
    rw [okP_bare, hok] at h33b
    have h33z : f33 k ((w, ds, (p0.1, p0.2.1, at1, ()) :: rest, ()) : D_Prog) = some ((cond (okP (w, ds, p0 :: rest, u)) 0 1, ()), ()) := h33z
    rw [hok] at h33z
    rw [hok] at h33 h37
    have h36 : f36 k (w, ds, p0 :: rest, ()) = some ((bare (w, ds, p0 :: rest, u), ()), ()) := by
      unfold f36
      rw [h33]
      have g1 := decls36 k (l := ds) (by omega) (w := w) (ps := []) ds.length 0 [] (by omega) (by simp) k (by omega)
      have g2 := procs36 k (l := p0 :: rest) (by omega) (fun x hx => (hB x hx).1) (w := w) (ds := ds.map bD) (p0 :: rest).length 0 [] (by omega) (by simp) k (by omega)
      rw [show ((0 : Nat) : Int) = 0 from rfl, List.drop_zero, List.nil_append] at g1 g2
      simp only [Option.bind_some, cond_true]
      rw [show ((0 : Int) != 0) = false from rfl, cond_false, g1]
      simp only [Option.bind_some]
      rw [g2]; rfl
    have h38 : f38 k (bare (w, ds, p0 :: rest, u)) = some ((true, ()), ()) := by
      unfold f38 bare
      dsimp only
      have g1 := decls38 k (l := ds.map bD) (by rw [List.length_map]; omega) (fun d hd => by obtain ⟨y, _, rfl⟩ := List.mem_map.1 hd; rfl) (w := w) (ps := (p0 :: rest).map bP) (ds.map bD).length 0 (by omega) k (by rw [List.length_map]; omega)
      have g2 := procs38 k (l := (p0 :: rest).map bP) (by rw [List.length_map]; omega) (fun q hq => by
        obtain ⟨y, hy, rfl⟩ := List.mem_map.1 hq
        exact ⟨rfl, (hB y hy).2⟩) (w := w) (ds := ds.map bD) ((p0 :: rest).map bP).length 0 (by omega) k (by rw [List.length_map]; omega)
      rw [show ((0 : Nat) : Int) = 0 from rfl] at g1 g2
      rw [g1]
      simp only [Option.bind_some]
      rw [g2]; rfl
    have hlk : (p0 :: rest).length ≤ mx ∧ (p0 :: rest).length < k := ⟨hq.1, by omega⟩
    have hdk : ds.length ≤ mx ∧ ds.length < k := ⟨hd.1, by omega⟩
    have h27a : f27 k (w, ds, p0 :: rest, ()) (w, ds, p0 :: rest, ()) = some ((true, ()), ()) := by
      rw [alike27 k n (p := (w, ds, p0 :: rest, ())) (q := (w, ds, p0 :: rest, ())) h33 h33 hdk hlk fun x hx y hy => (h66 x hx y hy).1]
      unfold alike
      rw [all2_refl _ fun d _ => sameD_self d, all2_refl _ fun q hq => sameP_self n q (hsz q hq)]; simp
    have h27b : f27 k (w, ds, p0 :: rest, ()) (bare (w, ds, p0 :: rest, u)) = some ((true, ()), ()) := by
      rw [alike27 k n (p := (w, ds, p0 :: rest, ())) (q := bare (w, ds, p0 :: rest, u)) h33 h33b hdk hlk fun x hx y hy => by
        obtain ⟨z, hz, rfl⟩ := List.mem_map.1 hy
        exact (h66 x hx z hz).2]
      unfold alike bare
      dsimp only
      rw [all2_map _ fun d _ => sameD_bD d, all2_map _ fun q hq => sameP_bP n q (hsz q hq)]; simp
    have h27c : f27 k (w, ds, (p0.1, p0.2.1, at1, ()) :: rest, ()) (bare (w, ds, p0 :: rest, u)) = some ((true, ()), ()) := by
      rw [alike27 k n (p := (w, ds, (p0.1, p0.2.1, at1, ()) :: rest, ())) (q := bare (w, ds, p0 :: rest, u)) h33z h33b hdk hlk fun x hx y hy => by
        obtain ⟨z, hz, rfl⟩ := List.mem_map.1 hy
        rcases List.mem_cons.1 hx with rfl | hx
        · exact (h66 p0 (List.mem_cons_self ..) z hz).2
        · exact (h66 x (List.mem_cons_of_mem _ hx) z hz).2]
      have g := all2_map (f := sameP n) (g := bP) (p0 :: rest) fun q hq => sameP_bP n q (hsz q hq)
      have g : all2 (sameP n) ((p0.1, p0.2.1, at1, ()) :: rest) ((p0 :: rest).map bP) = true := g
      unfold alike bare
      dsimp only
      rw [all2_map _ fun d _ => sameD_bD d, g]; simp
    unfold f8
    rw [h24, h21]
    cases b with
    | false => rfl
    | true =>
      simp only [Option.bind_some, Bool.not_true, cond_false]
      rw [h8]
      simp only [Option.bind_some]
      rw [h36, h37]
      simp only [Option.bind_some, Bool.not_true, cond_false]
      rw [h27a, h27b, h38]
      simp only [Option.bind_some, Bool.not_true, cond_false]
      have i1 : (p0 :: rest).isEmpty = false := rfl
      have i2 : decide ((0 + (p0 :: rest).length) * 48 ≤ room) = true := decide_eq_true (by unfold room; omega)
      have i3 : decide (0 < (0 + (p0 :: rest).length)) = true := decide_eq_true (by simp)
      have i4 : (([] : List D_Proc) ++ (p0 :: rest))[(0 + 0)]? = some p0 := rfl
      have i5 : (([] : List D_Proc) ++ (p0 :: rest)).set (0 + 0) (p0.1, p0.2.1, at1, ()) = (p0.1, p0.2.1, at1, ()) :: rest := rfl
      have i6 : ((p0.1, p0.2.1, at1, ()) :: rest : List D_Proc).length = (p0 :: rest).length := rfl
      have i7 : decide (0 + (0 + (p0 :: rest).length) ≤ (p0 :: rest).length) = true := decide_eq_true (by omega)
      have i8 : (((p0.1, p0.2.1, at1, ()) :: rest : List D_Proc).drop 0).take (0 + (p0 :: rest).length) = (p0.1, p0.2.1, at1, ()) :: rest := by
        rw [List.drop_zero, List.take_of_length_le (by simp)]
      rw [i1, i2, i3, i4]
      simp only [Option.bind_some, cond_false]
      rw [i5, i6, i7, i8, h27c]; rfl
end Go.Proofs.Yticelgnmcjkknaa.M
