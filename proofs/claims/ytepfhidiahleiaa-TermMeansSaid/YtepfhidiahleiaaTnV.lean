/-
Terms: what each is worth; what may stand where; by the program.
-/
import Derived.Test.YtepfhidiahleiaaTnE
set_option linter.unusedVariables false
set_option linter.unusedSimpArgs false
set_option maxRecDepth 100000
namespace Go.Proofs.Ytepfhidiahleiaa.M
open Go Go.Proofs.Ytepfhidiahleiaa.Vm Go.Proofs.Ytepfhidiahleiaa.Pl
namespace Term
/-! ### signs -/
def cmps : List ByteArray := [ByteArray.mk #[61, 61], ByteArray.mk #[33, 61], ByteArray.mk #[60], ByteArray.mk #[60, 61], ByteArray.mk #[62], ByteArray.mk #[62, 61], ByteArray.mk #[38, 38], ByteArray.mk #[124, 124]]
theorem ne_txt (k : Nat) (w a b : Int) : f24 k w (ByteArray.mk #[33, 61]) a b = some ((cond (a != b) 1 0, ()), ()) := by
  unfold f24
  cases hz : (a != b) with
  | true => kernel_rfl
  | false => kernel_rfl
theorem and_txt (k : Nat) (w a b : Int) : f24 k w (ByteArray.mk #[38, 38]) a b = some ((cond (a != 0 && b != 0) 1 0, ()), ()) := by
  unfold f24
  cases hz : (a != 0) with
  | true => cases hz2 : (b != 0) with
    | true => kernel_rfl
    | false => kernel_rfl
  | false => kernel_rfl
theorem or_txt (k : Nat) (w a b : Int) : f24 k w (ByteArray.mk #[124, 124]) a b = some ((cond (a != 0 || b != 0) 1 0, ()), ()) := by
  unfold f24
  cases hz : (a != 0) with
  | true => kernel_rfl
  | false => cases hz2 : (b != 0) with
    | true => kernel_rfl
    | false => kernel_rfl
theorem not_txt (k : Nat) (w a : Int) : f23 k w (ByteArray.mk #[33]) a = some ((cond (a == 0) 1 0, ()), ()) := by
  unfold f23
  cases hz : (a == 0) with
  | true => kernel_rfl
  | false => kernel_rfl
theorem cmp_txt (k : Nat) (w a b : Int) : ∀ op ∈ cmps, ∃ r : Bool, f24 k w op a b = some ((cond r 1 0, ()), ()) := by
  intro op hop
  simp only [cmps, List.mem_cons, List.not_mem_nil, or_false] at hop
  rcases hop with rfl | rfl | rfl | rfl | rfl | rfl | rfl | rfl
  · refine ⟨a == b, ?_⟩
    unfold f24
    cases hz : (a == b) with
    | true => kernel_rfl
    | false => kernel_rfl
  · exact ⟨_, ne_txt k w a b⟩
  · refine ⟨decide (a < b), ?_⟩
    unfold f24
    cases hz : decide (a < b) with
    | true => kernel_rfl
    | false => kernel_rfl
  · refine ⟨decide (a ≤ b), ?_⟩
    unfold f24
    cases hz : decide (a ≤ b) with
    | true => kernel_rfl
    | false => kernel_rfl
  · refine ⟨decide (a > b), ?_⟩
    unfold f24
    cases hz : decide (a > b) with
    | true => kernel_rfl
    | false => kernel_rfl
  · refine ⟨decide (a ≥ b), ?_⟩
    unfold f24
    cases hz : decide (a ≥ b) with
    | true => kernel_rfl
    | false => kernel_rfl
  · exact ⟨_, and_txt k w a b⟩
  · exact ⟨_, or_txt k w a b⟩
/-- How strongly a sign binds; the weak ones tell truths. -/
theorem sign_all (k : Nat) (hk : 200 ≤ k) (op : ByteArray) : ∃ n : Int, f82 k op = some ((n, ()), ()) ∧ f26 k op = some ((n, ()), ()) ∧ 0 ≤ n ∧ (n ≠ 0 → n ≤ 3 → op ∈ cmps) := by
  by_cases hm : op.toList ∈ signs
  · obtain ⟨j, rfl⟩ : ∃ j, k = j + 200 := ⟨k - 200, by omega⟩
    simp only [signs, List.mem_cons, List.not_mem_nil, or_false] at hm
    rcases hm with h | h | h | h | h | h | h | h | h | h | h | h | h | h | h | h | h | h <;> have := of_list h <;> subst this
    · exact ⟨5, by kernel_rfl, by kernel_rfl, by decide, fun _ h => absurd h (by decide)⟩
    · exact ⟨5, by kernel_rfl, by kernel_rfl, by decide, fun _ h => absurd h (by decide)⟩
    · exact ⟨5, by kernel_rfl, by kernel_rfl, by decide, fun _ h => absurd h (by decide)⟩
    · exact ⟨5, by kernel_rfl, by kernel_rfl, by decide, fun _ h => absurd h (by decide)⟩
    · exact ⟨5, by kernel_rfl, by kernel_rfl, by decide, fun _ h => absurd h (by decide)⟩
    · exact ⟨5, by kernel_rfl, by kernel_rfl, by decide, fun _ h => absurd h (by decide)⟩
    · exact ⟨4, by kernel_rfl, by kernel_rfl, by decide, fun _ h => absurd h (by decide)⟩
    · exact ⟨4, by kernel_rfl, by kernel_rfl, by decide, fun _ h => absurd h (by decide)⟩
    · exact ⟨4, by kernel_rfl, by kernel_rfl, by decide, fun _ h => absurd h (by decide)⟩
    · exact ⟨4, by kernel_rfl, by kernel_rfl, by decide, fun _ h => absurd h (by decide)⟩
    · exact ⟨3, by kernel_rfl, by kernel_rfl, by decide, fun _ _ => List.mem_of_getElem? (i := 0) rfl⟩
    · exact ⟨3, by kernel_rfl, by kernel_rfl, by decide, fun _ _ => List.mem_of_getElem? (i := 1) rfl⟩
    · exact ⟨3, by kernel_rfl, by kernel_rfl, by decide, fun _ _ => List.mem_of_getElem? (i := 2) rfl⟩
    · exact ⟨3, by kernel_rfl, by kernel_rfl, by decide, fun _ _ => List.mem_of_getElem? (i := 3) rfl⟩
    · exact ⟨3, by kernel_rfl, by kernel_rfl, by decide, fun _ _ => List.mem_of_getElem? (i := 4) rfl⟩
    · exact ⟨3, by kernel_rfl, by kernel_rfl, by decide, fun _ _ => List.mem_of_getElem? (i := 5) rfl⟩
    · exact ⟨2, by kernel_rfl, by kernel_rfl, by decide, fun _ _ => List.mem_of_getElem? (i := 6) rfl⟩
    · exact ⟨1, by kernel_rfl, by kernel_rfl, by decide, fun _ _ => List.mem_of_getElem? (i := 7) rfl⟩
  · obtain ⟨n, h1, h2, h3⟩ := sign_eq k hk op
    have := h3 hm
    subst this
    exact ⟨0, h1, h2, by decide, fun h => absurd rfl h⟩
/-! ### worth -/
noncomputable def on (k w : Nat) (op : ByteArray) (a : Int) : Int := match f23 k w op a with
  | some r => r.1.1
  | none => 0
noncomputable def ap (k w : Nat) (op : ByteArray) (a b : Int) : Int := match f24 k w op a b with
  | some r => r.1.1
  | none => 0
theorem on_eq (k : Nat) {w : Nat} (h : Wd w) {a : Int} (ha : Nm w a) (op : ByteArray) : Nm w (on k w op a) ∧ f38 k w op a = some ((on k w op a, ()), ()) ∧ f23 k w op a = some ((on k w op a, ()), ()) := by
  obtain ⟨n, h1, h2, h3⟩ := one_eq k h ha op
  have e : on k w op a = n := by unfold on; rw [h3]
  rw [e]; exact ⟨h1, h2, h3⟩
theorem ap_eq (k : Nat) (hk : 200 ≤ k) {w : Nat} (h : Wd w) {a b : Int} (ha : Nm w a) (hb : Nm w b) (op : ByteArray) : Nm w (ap k w op a b) ∧ f25 k w op a b = some ((ap k w op a b, ()), ()) ∧ f24 k w op a b = some ((ap k w op a b, ()), ()) := by
  obtain ⟨n, h1, h2, h3⟩ := apply_eq k hk h ha hb op
  have e : ap k w op a b = n := by unfold ap; rw [h3]
  rw [e]; exact ⟨h1, h2, h3⟩
theorem on_not (k w : Nat) (a : Int) : on k w (ByteArray.mk #[33]) a = cond (a == 0) 1 0 := by unfold on; rw [not_txt]
theorem ap_ne (k w : Nat) (a b : Int) : ap k w (ByteArray.mk #[33, 61]) a b = cond (a != b) 1 0 := by unfold ap; rw [ne_txt]
theorem ap_and (k w : Nat) (a b : Int) : ap k w (ByteArray.mk #[38, 38]) a b = cond (a != 0 && b != 0) 1 0 := by unfold ap; rw [and_txt]
theorem ap_or (k w : Nat) (a b : Int) : ap k w (ByteArray.mk #[124, 124]) a b = cond (a != 0 || b != 0) 1 0 := by unfold ap; rw [or_txt]
theorem ap_cmp (k w : Nat) (a b : Int) {op : ByteArray} (h : op ∈ cmps) : ap k w op a b = 0 ∨ ap k w op a b = 1 := by
  obtain ⟨r, hr⟩ := cmp_txt k w a b op h
  unfold ap
  rw [hr]
  cases r
  · exact .inl rfl
  · exact .inr rfl
/-- What is worth the place `i`. -/
def va (v : List Int) (i : Int) : Int := (v[i.toNat]?).getD 0
noncomputable def vx (k w : Nat) (reads v : List Int) (x : D_Term) : Int :=
  if x.1 = 1 then x.2.2.1 else if x.1 = 2 then (if x.2.2.1 < reads.length then va reads x.2.2.1 % 2 ^ w else 0)
  else if x.1 = 3 then on k w x.2.1 (va v x.2.2.2.1) else if x.1 = 4 then ap k w x.2.1 (va v x.2.2.2.1) (va v x.2.2.2.2.1)
  else if va v x.2.2.2.1 = 0 then va v x.2.2.2.2.2.1 else va v x.2.2.2.2.1
noncomputable def valsF (k w : Nat) (reads : List Int) (v : List Int) (l : List D_Term) : List Int := l.foldl (fun v x => v ++ [vx k w reads v x]) v
noncomputable def vals (k w : Nat) (reads : List Int) (l : List D_Term) : List Int := valsF k w reads [] l
theorem valsF_pre (k w : Nat) (reads : List Int) : ∀ (l : List D_Term) (v : List Int), ∃ u, valsF k w reads v l = v ++ u ∧ u.length = l.length
  | [], v => ⟨[], by simp [valsF], rfl⟩
  | x :: l, v => by
    obtain ⟨u, h1, h2⟩ := valsF_pre k w reads l (v ++ [vx k w reads v x])
    refine ⟨vx k w reads v x :: u, ?_, by simp [h2]⟩
    show valsF k w reads (v ++ [vx k w reads v x]) l = _
    rw [h1]; simp
theorem vals_app (k w : Nat) (reads : List Int) (l t : List D_Term) : vals k w reads (l ++ t) = valsF k w reads (vals k w reads l) t := by
  unfold vals valsF
  rw [List.foldl_append]
theorem vals_snoc (k w : Nat) (reads : List Int) (l : List D_Term) (x : D_Term) : vals k w reads (l ++ [x]) = vals k w reads l ++ [vx k w reads (vals k w reads l) x] := vals_app k w reads l [x]
theorem vals_len (k w : Nat) (reads : List Int) (l : List D_Term) : (vals k w reads l).length = l.length := by
  obtain ⟨u, h1, h2⟩ := valsF_pre k w reads l []
  unfold vals
  rw [h1, List.nil_append, h2]
theorem va_pre {v u : List Int} {i : Int} (h : i.toNat < v.length) : va (v ++ u) i = va v i := by
  unfold va
  rw [List.getElem?_append_left h]
theorem va_app (k w : Nat) (reads : List Int) {l t : List D_Term} {i : Int} (h : i.toNat < l.length) : va (vals k w reads (l ++ t)) i = va (vals k w reads l) i := by
  obtain ⟨u, h1, _⟩ := valsF_pre k w reads t (vals k w reads l)
  rw [vals_app, h1]
  exact va_pre (by rw [vals_len]; exact h)
/-! ### what may stand where -/
inductive Exact (k w : Nat) (p : Int) : D_Term → Prop where
  | num {n} : Nm w n → Exact k w p (1, ByteArray.empty, n, 0, 0, 0, ())
  | read {n} : 0 ≤ n → n < 64 → Exact k w p (2, ByteArray.empty, n, 0, 0, 0, ())
  | un {op a} : f88 k op = some ((true, ()), ()) → pl a p = true → Exact k w p (3, op, 0, a, 0, 0, ())
  | bin {op n a b} : f82 k op = some ((n, ()), ()) → n ≠ 0 → pl a p = true → pl b p = true → Exact k w p (4, op, 0, a, b, 0, ())
  | ite {a b c} : pl a p = true → pl b p = true → pl c p = true → Exact k w p (5, ByteArray.empty, 0, a, b, c, ())
def AllEx (k w : Nat) (l : List D_Term) : Prop := ∀ (t : Nat) (x : D_Term), l[t]? = some x → Exact k w t x
theorem exact_fits {k w : Nat} (hk : 10000 ≤ k) (h : Wd w) {p : Int} {x : D_Term} (hx : Exact k w p x) : f41 k w p x = some ((true, ()), ()) ∧ f39 k w p x = some ((true, ()), ()) := by
  obtain ⟨t, e1, e2, _⟩ := fits_eq (k := k) hk h p x
  suffices ht : f39 k w p x = some ((true, ()), ()) by
    rw [e2] at ht
    cases ht
    exact ⟨e1, e2⟩
  have eemp : (ByteArray.empty.toList == ByteArray.empty.toList) = true := beq_self_eq_true _
  clear e1 e2
  cases hx with
  | @num n hn =>
    unfold f39
    dsimp only
    rw [g6 k h, Option.bind_some]
    dsimp only
    rw [g14, Option.bind_some]
    dsimp only
    rw [g30, Option.bind_some]
    dsimp only
    obtain ⟨n', _, s2, _⟩ := sign_all k (by omega) ByteArray.empty
    rw [g62 k p 1 ByteArray.empty s2, Option.bind_some]
    dsimp only
    rw [g126, Option.bind_some, eemp, decide_eq_true hn.1, decide_eq_true hn.2]
    rfl
  | @read n h0 h1 =>
    unfold f39
    dsimp only
    rw [g6 k h, Option.bind_some]
    dsimp only
    rw [g14, Option.bind_some]
    dsimp only
    rw [g30, Option.bind_some]
    dsimp only
    obtain ⟨n', _, s2, _⟩ := sign_all k (by omega) ByteArray.empty
    rw [g62 k p 2 ByteArray.empty s2, Option.bind_some]
    dsimp only
    rw [g126, Option.bind_some, eemp, decide_eq_true (show n ≥ 0 from h0), decide_eq_true h1]
    rfl
  | @un op a hop hp =>
    unfold f39
    dsimp only
    rw [g6 k h, Option.bind_some]
    dsimp only
    rw [g14, Option.bind_some]
    dsimp only
    rw [g30, Option.bind_some]
    dsimp only
    obtain ⟨n', _, s2, _⟩ := sign_all k (by omega) op
    rw [g62 k p 3 op s2, Option.bind_some]
    dsimp only
    rw [g126, Option.bind_some, hp]
    unfold f88 at hop
    cases c1 : op.toList == (ByteArray.mk #[45]).toList with
    | true => cases op.toList == (ByteArray.mk #[126]).toList <;> cases op.toList == (ByteArray.mk #[33]).toList <;> rfl
    | false =>
      rw [c1] at hop
      cases c2 : op.toList == (ByteArray.mk #[126]).toList with
      | true => cases op.toList == (ByteArray.mk #[33]).toList <;> rfl
      | false =>
        rw [c2] at hop
        cases c3 : op.toList == (ByteArray.mk #[33]).toList with
        | true => rfl
        | false => rw [c3] at hop; cases hop
  | @bin op n a b hop hn hp hp2 =>
    unfold f39
    dsimp only
    rw [g6 k h, Option.bind_some]
    dsimp only
    rw [g14, Option.bind_some]
    dsimp only
    rw [g30, Option.bind_some]
    dsimp only
    obtain ⟨n', s1, s2, s3, _⟩ := sign_all k (by omega) op
    rw [hop] at s1
    cases s1
    rw [g62 k p 4 op s2, Option.bind_some]
    dsimp only
    rw [g126, Option.bind_some, hp, hp2, decide_eq_true (by omega : n > 0)]
    rfl
  | @ite a b c hp hp2 hp3 =>
    unfold f39
    dsimp only
    rw [g6 k h, Option.bind_some]
    dsimp only
    rw [g14, Option.bind_some]
    dsimp only
    rw [g30, Option.bind_some]
    dsimp only
    obtain ⟨n', _, s2, _⟩ := sign_all k (by omega) ByteArray.empty
    rw [g62 k p 5 ByteArray.empty s2, Option.bind_some]
    dsimp only
    rw [g126, Option.bind_some, eemp, hp, hp2, hp3]
    rfl
theorem check_run {k w : Nat} (hk : 10000 ≤ k) (h : Wd w) {l : List D_Term} (hl : l.length ≤ 1000) (he : AllEx k w l) : ∀ (d i : Nat), l.length - i = d → ∀ j, d < j →
    l11_58 k j w l l.length i = some (.inl ((), ())) ∧ l10_58 k j w l i = some (.inl ((), ())) := by
  intro d
  induction d with
  | zero =>
    intro i hi j hj
    obtain ⟨j, rfl, _⟩ := succ_of (n := 0) (by omega : 0 + 1 ≤ j)
    show b11_58 k (l11_58 k j) w l l.length i = _ ∧ b10_58 k (l10_58 k j) w l i = _
    unfold b11_58 b10_58
    rw [decide_eq_false (by omega : ¬ (i : Int) < l.length)]
    exact ⟨rfl, rfl⟩
  | succ d ih =>
    intro i hi j hj
    obtain ⟨j, rfl, hj2⟩ := succ_of (by omega : d + 1 + 1 ≤ j)
    have hx : l[i]? = some l[i] := List.getElem?_eq_getElem (by omega)
    have hw : w64 ((i : Int) + 1) = ((i + 1 : Nat) : Int) := by rw [w64_id (by omega) (by omega)]; omega
    obtain ⟨e1, e2⟩ := exact_fits (k := k) hk h (he i _ hx)
    obtain ⟨r1, r2⟩ := ih (i + 1) (by omega) j hj2
    show b11_58 k (l11_58 k j) w l l.length i = _ ∧ b10_58 k (l10_58 k j) w l i = _
    unfold b11_58 b10_58
    rw [decide_eq_true (by omega : (i : Int) < l.length), cond_true, cond_true, ix_nat hx, ix_nat hx, e1, e2, hw]
    simp only [Option.bind_some]
    rw [r1, r2]
    exact ⟨rfl, rfl⟩
theorem may10 {k w : Nat} (hk : 10000 ≤ k) (h : Wd w) {l : List D_Term} (hl : l.length ≤ 1000) (he : AllEx k w l) : f10 k w l = some ((true, ()), ()) ∧ f11 k w l = some ((0, ()), ()) := by
  obtain ⟨r1, r2⟩ := check_run (k := k) hk h hl he l.length 0 rfl k (by omega)
  rw [show ((0 : Nat) : Int) = 0 from rfl] at r1 r2
  have h1 := h.lo
  have h2 := h.hi
  constructor
  · unfold f10
    rw [decide_eq_false (by omega : ¬ (w : Int) < 1), decide_eq_false (by omega : ¬ (w : Int) > 8), decide_eq_false (by omega : ¬ (l.length : Int) > 8192), r2]
    rfl
  · unfold f11
    rw [wide40 k h, r1, decide_eq_false (by omega : ¬ (l.length : Int) > 8192)]
    rfl
theorem at_pl' {v : List Int} {a : Int} {p : Nat} (hp : pl a p = true) (hv : v.length = p) : ∃ n, v[a.toNat]? = some n ∧ 0 ≤ a ∧ n ∈ v ∧ va v a = n := by
  have h := pl_iff.1 hp
  have hlt : a.toNat < v.length := by omega
  refine ⟨v[a.toNat], List.getElem?_eq_getElem hlt, h.1, List.getElem_mem _, ?_⟩
  unfold va
  rw [List.getElem?_eq_getElem hlt]; rfl
theorem value_run {k w : Nat} (hk : 10000 ≤ k) (h : Wd w) {reads v : List Int} {p : Nat} {x : D_Term} (hx : Exact k w p x) (hv : v.length = p) (hn : ∀ n ∈ v, Nm w n) :
    Nm w (vx k w reads v x) ∧ l9_31334 k w reads v 0 x.1 x.2.1 x.2.2.1 x.2.2.2.1 x.2.2.2.2.1 x.2.2.2.2.2.1 = some ((v, vx k w reads v x, ()), (x, ())) := by
  have n0 : Nm w 0 := (nm_bool h).1
  cases hx with
  | @num n hn => exact ⟨hn, rfl⟩
  | @read n h0 h1 =>
    unfold vx l9_31334
    dsimp only
    rw [if_neg (by decide), if_pos rfl]
    by_cases hr : n < (reads.length : Int)
    · have hx : reads[n.toNat]? = some reads[n.toNat] := List.getElem?_eq_getElem (by omega)
      rw [if_pos hr, decide_eq_true hr]
      refine ⟨nm_mod _, ?_⟩
      have e : va reads n = reads[n.toNat] := by unfold va; rw [hx]; rfl
      refine Eq.trans (b := ix reads n fun e1 => cond (decide ((w : Int) < 0)) none (some ((v, (ibits .and .i64 e1 (w64 ((w64 (1 * 2 ^ (min (w : Int).toNat 64))) - 1))), ()), ((2, ByteArray.empty, n, 0, 0, 0, ()), ())))) rfl ?_
      rw [ix_get h0 hx, decide_eq_false (by omega : ¬ (w : Int) < 0), cond_false, mask_txt h, and_mask h, e]
    · rw [if_neg hr, decide_eq_false hr]
      exact ⟨n0, rfl⟩
  | @un op a hop hp =>
    obtain ⟨n, g1, g2, g3, g4⟩ := at_pl' hp hv
    obtain ⟨o1, o2, o3⟩ := on_eq k h (hn n g3) op
    have e : vx k w reads v (3, op, 0, a, 0, 0, ()) = on k w op n := by
      show on k w op (va v a) = _
      rw [g4]
    rw [e]
    refine ⟨o1, ?_⟩
    refine Eq.trans (b := ix v a fun e2 => (f38 k w op e2).bind fun y3 => some ((v, y3.1.1, ()), ((3, op, 0, a, 0, 0, ()), ()))) (by kernel_rfl) ?_
    rw [ix_get g2 g1, o2]; rfl
  | @bin op s a b hop hs hp hp2 =>
    obtain ⟨n, g1, g2, g3, g4⟩ := at_pl' hp hv
    obtain ⟨n', g1', g2', g3', g4'⟩ := at_pl' hp2 hv
    obtain ⟨o1, o2, o3⟩ := ap_eq k (by omega) h (hn n g3) (hn n' g3') op
    have e : vx k w reads v (4, op, 0, a, b, 0, ()) = ap k w op n n' := by
      show ap k w op (va v a) (va v b) = _
      rw [g4, g4']
    rw [e]
    refine ⟨o1, ?_⟩
    refine Eq.trans (b := ix v a fun e4 => ix v b fun e5 => (f25 k w op e4 e5).bind fun y6 => some ((v, y6.1.1, ()), ((4, op, 0, a, b, 0, ()), ()))) (by kernel_rfl) ?_
    rw [ix_get g2 g1, ix_get g2' g1', o2]; rfl
  | @ite a b c hp hp2 hp3 =>
    obtain ⟨n, g1, g2, g3, g4⟩ := at_pl' hp hv
    obtain ⟨n1, h1, h2, h3, h4⟩ := at_pl' hp2 hv
    obtain ⟨n2, i1, i2, i3, i4⟩ := at_pl' hp3 hv
    have e : vx k w reads v (5, ByteArray.empty, 0, a, b, c, ()) = if n = 0 then n2 else n1 := by
      show (if va v a = 0 then va v c else va v b) = _
      rw [g4, h4, i4]
    rw [e]
    refine ⟨by split; exact hn _ i3; exact hn _ h3, ?_⟩
    refine Eq.trans (b := ix v c fun e7 => ix v a fun e8 => cond (e8 != 0) (ix v b fun e9 => some ((v, e9, ()), ((5, ByteArray.empty, 0, a, b, c, ()), ()))) (some ((v, e7, ()), ((5, ByteArray.empty, 0, a, b, c, ()), ())))) (by kernel_rfl) ?_
    rw [ix_get i2 i1, ix_get g2 g1, ix_get h2 h1]
    by_cases hz : n = 0
    · rw [if_pos hz, hz]; rfl
    · rw [if_neg hz, bne, beq_int, decide_eq_false hz]; rfl
theorem take_snoc {A : Type} {l : List A} {i : Nat} (h : i < l.length) : l.take (i + 1) = l.take i ++ [l[i]] := by
  rw [List.take_add_one, List.getElem?_eq_getElem h]; rfl
theorem vals_nm {k w : Nat} (hk : 10000 ≤ k) (h : Wd w) {reads : List Int} {l : List D_Term} (he : AllEx k w l) : ∀ i, i ≤ l.length → ∀ n ∈ vals k w reads (l.take i), Nm w n
  | 0, _, n, hn => by rw [List.take_zero] at hn; cases hn
  | i + 1, hi, n, hn => by
    have ih := vals_nm hk h (reads := reads) he i (by omega)
    rw [take_snoc (by omega), vals_snoc] at hn
    rcases List.mem_append.1 hn with hn | hn
    · exact ih n hn
    · have : n = vx k w reads (vals k w reads (l.take i)) l[i] := by simpa using hn
      subst this
      exact (value_run hk h (he i _ (List.getElem?_eq_getElem (by omega))) (by rw [vals_len, List.length_take]; omega) ih).1
theorem vals_loop {k w : Nat} (hk : 10000 ≤ k) (h : Wd w) {reads : List Int} {l : List D_Term} (hl : l.length ≤ 1000) (he : AllEx k w l) : ∀ (d i : Nat), l.length - i = d → i ≤ l.length → ∀ j, d < j →
    l9_122 k j w reads (vals k w reads (l.take i)) l l.length i = some ((vals k w reads l, ()), ()) := by
  intro d
  induction d with
  | zero =>
    intro i hi hil j hj
    obtain ⟨j, rfl, _⟩ := succ_of (n := 0) (by omega : 0 + 1 ≤ j)
    show b9_122 k (l9_122 k j) w reads (vals k w reads (l.take i)) l l.length i = _
    unfold b9_122
    rw [decide_eq_false (by omega : ¬ (i : Int) < l.length), List.take_of_length_le (by omega)]
    rfl
  | succ d ih =>
    intro i hi hil j hj
    obtain ⟨j, rfl, hj2⟩ := succ_of (by omega : d + 1 + 1 ≤ j)
    have hx : l[i]? = some l[i] := List.getElem?_eq_getElem (by omega)
    have hw : w64 ((i : Int) + 1) = ((i + 1 : Nat) : Int) := by rw [w64_id (by omega) (by omega)]; omega
    have hvl : (vals k w reads (l.take i)).length = i := by rw [vals_len, List.length_take]; omega
    have s1 := (value_run (reads := reads) hk h (he i _ hx) hvl (vals_nm hk h he i (by omega))).2
    have r := ih (i + 1) (by omega) (by omega) j hj2
    rw [take_snoc (by omega), vals_snoc] at r
    show b9_122 k (l9_122 k j) w reads (vals k w reads (l.take i)) l l.length i = _
    unfold b9_122
    rw [decide_eq_true (by omega : (i : Int) < l.length), cond_true, ix_nat hx, s1, Option.bind_some]
    dsimp only
    rw [gd_dec (by unfold room; omega), hw, r]
    rfl
theorem eval9 {k w : Nat} (hk : 10000 ≤ k) (h : Wd w) {reads : List Int} {l : List D_Term} (hl : l.length ≤ 1000) (he : AllEx k w l) : f9 k w l reads = some ((vals k w reads l, ()), ()) := by
  have := vals_loop (k := k) (reads := reads) hk h hl he l.length 0 rfl (by omega) k (by omega)
  rw [show ((0 : Nat) : Int) = 0 from rfl, List.take_zero] at this
  unfold f9
  rw [(may10 hk h hl he).2, Option.bind_some]
  dsimp only
  rw [bne_self_eq_false, cond_false, show ([] : List Int) = vals k w reads [] from rfl, this]
  rfl
/-- A thing's worth is told by its makings. -/
theorem va_at {k w : Nat} {reads : List Int} {l : List D_Term} (he : AllEx k w l) {r : Int} (h0 : 0 ≤ r) {x : D_Term} (hx : l[r.toNat]? = some x) : va (vals k w reads l) r = vx k w reads (vals k w reads l) x := by
  obtain ⟨hlt, hx'⟩ := List.getElem?_eq_some_iff.1 hx
  have hsplit : l = l.take r.toNat ++ (x :: l.drop (r.toNat + 1)) := by
    rw [← hx', ← List.drop_eq_getElem_cons hlt, List.take_append_drop]
  have hlen : (l.take r.toNat).length = r.toNat := by rw [List.length_take]; omega
  have hv : ∃ u, vals k w reads l = (vals k w reads (l.take r.toNat) ++ [vx k w reads (vals k w reads (l.take r.toNat)) x]) ++ u := by
    obtain ⟨u, h1, _⟩ := valsF_pre k w reads (l.drop (r.toNat + 1)) (vals k w reads (l.take r.toNat ++ [x]))
    refine ⟨u, ?_⟩
    rw [← vals_snoc, ← h1, ← vals_app, List.append_assoc, List.singleton_append, ← hsplit]
  obtain ⟨u, hv⟩ := hv
  have hvl : (vals k w reads (l.take r.toNat)).length = r.toNat := by rw [vals_len, hlen]
  have pre : ∀ {a : Int}, pl a (r.toNat : Int) = true → va (vals k w reads l) a = va (vals k w reads (l.take r.toNat)) a := fun {a} hp => by
    have := pl_iff.1 hp
    rw [hv, List.append_assoc]
    exact va_pre (by rw [hvl]; omega)
  have e : va (vals k w reads l) r = vx k w reads (vals k w reads (l.take r.toNat)) x := by
    rw [hv]
    unfold va
    rw [List.getElem?_append_left (by rw [List.length_append, hvl]; simp), List.getElem?_append_right (by rw [hvl]; omega), hvl, Nat.sub_self]
    rfl
  rw [e]
  have hE := he _ _ hx
  cases hE with
  | num => rfl
  | read => rfl
  | @un op a hop hp =>
    show on k w op (va _ a) = on k w op (va _ a)
    rw [pre hp]
  | @bin op n a b _ _ hp hp2 =>
    show ap k w op (va _ a) (va _ b) = ap k w op (va _ a) (va _ b)
    rw [pre hp, pre hp2]
  | @ite a b c hp hp2 hp3 =>
    show (if va _ a = 0 then va _ c else va _ b) = (if va _ a = 0 then va _ c else va _ b)
    rw [pre hp, pre hp2, pre hp3]
end Term
end Go.Proofs.Ytepfhidiahleiaa.M
