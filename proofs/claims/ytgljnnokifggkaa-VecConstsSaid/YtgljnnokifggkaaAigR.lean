/-
Graphs of "and": the reference makes the same.
-/
import Derived.Test.YtgljnnokifggkaaAigP
set_option linter.unusedVariables false
set_option linter.unusedSimpArgs false
set_option maxRecDepth 100000
namespace Go.Proofs.Ytgljnnokifggkaa.M
open Go Go.Proofs.Ytgljnnokifggkaa.Vm Go.Proofs.Ytgljnnokifggkaa.Pl
namespace Aig
variable {g : List D_Gate} {m : Mp}
theorem nt_i64 {l : Int} (h : -9223372036854775808 ≤ l) (h' : l ≤ 9223372036854775807) : -9223372036854775808 ≤ nt l ∧ nt l ≤ 9223372036854775807 := by
  unfold nt; split
  · omega
  · split <;> omega
theorem not90 (k : Nat) {l : Int} (h : -9223372036854775808 ≤ l) (h' : l ≤ 9223372036854775807) : f90 k l = some ((nt l, ()), ()) := by
  unfold f90 nt
  rw [Bool.cond_decide]
  by_cases h0 : l < 0
  · rw [if_pos h0, if_pos h0]
  · rw [if_neg h0, if_neg h0, beq_int, mod2 (by omega), Bool.cond_decide]
    by_cases h1 : l % 2 = 0
    · rw [if_pos h1, if_pos h1, w_id (by omega) (by omega)]
    · rw [if_neg h1, if_neg h1, w_id (by omega) (by omega)]
theorem not89 (k : Nat) {l : Int} (h' : l ≤ 9223372036854775807) : f89 k l = some ((nt l, ()), ()) := by
  unfold f89
  rw [Bool.cond_decide]
  by_cases h0 : l < 0
  · rw [if_pos h0]; unfold nt; rw [if_pos h0]
  · rw [if_neg h0, ibits_xor1 (by omega) h', nt_pos (by omega)]
theorem kids91 (k : Nat) (hv : Valid g) (hg : g.length ≤ 1048576) {l : Int} (hl : isL g l = true) (neg : Bool) :
    f91 k g l neg = some ((match kid g l with | some (c, d) => (if decide (l % 2 = 1) = neg then (c, d, true, ()) else (0, 0, false, ())) | none => (0, 0, false, ())), ()) := by
  have hl := isL_iff.1 hl
  unfold f91
  by_cases h : l < 2
  · rw [decide_eq_true h, cond_true]
    have : kid g l = none := by unfold kid; rw [if_pos h]
    rw [this]
  · rw [decide_eq_false h, cond_false, mod2 (by omega), beq_int, half (by omega) (by omega)]
    have hlt : (l / 2 - 1).toNat < g.length := by omega
    have hx : g[(l / 2 - 1).toNat]? = some g[(l / 2 - 1).toNat] := List.getElem?_eq_getElem hlt
    simp only [ix_get (show 0 ≤ l / 2 - 1 by omega) hx]
    generalize hgl : g[(l / 2 - 1).toNat] = e at hx
    have hkid : kid g l = if e.1 < 0 then none else some (e.1, e.2.1) := by unfold kid; rw [if_neg h, hx]; rfl
    rw [hkid]
    by_cases hn : decide (l % 2 = 1) = neg
    · have e1 : (decide (l % 2 = 1) == neg) = true := by rw [hn]; simp
      rw [e1]
      simp only [Bool.not_true, cond_false, Bool.cond_decide]
      by_cases he : e.1 < 0
      · rw [if_pos he, if_pos he]
      · rw [if_neg he, if_neg he]; simp only [if_pos hn]
    · have e1 : (decide (l % 2 = 1) == neg) = false := by simpa using hn
      rw [e1]
      simp only [Bool.not_false, cond_true]
      by_cases he : e.1 < 0
      · rw [if_pos he]
      · rw [if_neg he]; simp only [if_neg hn]
/-- The search for a node. -/
theorem find_loop (k : Nat) (r : T36) (a b : Int) (hg : g.length ≤ 1048576) : ∀ (d i : Nat), g.length - i = d → ∀ j, d < j → l36_4090 k r j g a b i =
    (match (g.drop i).findIdx? (fun x => decide (x = (a, b, ()))) with | some q => some (.inr ((g, 2 * ((i + q : Nat) : Int) + 2, ()), ())) | none => some (.inl ((), ()))) := by
  intro d
  induction d with
  | zero =>
    intro i hi j hj
    obtain ⟨j, rfl, _⟩ := succ_of (n := 0) (by omega : 0 + 1 ≤ j)
    show b36_4090 k r (l36_4090 k r j) g a b i = _
    unfold b36_4090
    rw [decide_eq_false (by omega : ¬ (i : Int) < g.length), cond_false, List.drop_eq_nil_of_le (by omega)]
    rfl
  | succ d ih =>
    intro i hi j hj
    obtain ⟨j, rfl, hj2⟩ := succ_of (by omega : d + 1 + 1 ≤ j)
    show b36_4090 k r (l36_4090 k r j) g a b i = _
    have hlt : i < g.length := by omega
    have hx : g[i]? = some g[i] := List.getElem?_eq_getElem hlt
    unfold b36_4090
    rw [decide_eq_true (by omega : (i : Int) < g.length), cond_true]
    simp only [ix_nat hx, beq_int, Bool.cond_decide]
    have hi1 : w64 ((i : Int) + 1) = ((i + 1 : Nat) : Int) := by rw [w_id (by omega) (by omega)]; omega
    have hrec := ih (i + 1) (by omega) j hj2
    rw [hi1, hrec, w_id (n := 2 * (i : Int)) (by omega) (by omega), w_id (by omega) (by omega), List.drop_eq_getElem_cons hlt, List.findIdx?_cons]
    by_cases he : g[i] = (a, b, ())
    · rw [he]; simp
    · have hne : ¬ (g[i].1 = a ∧ g[i].2.1 = b) := by
        intro hh; apply he
        rw [← hh.1, ← hh.2]
      rw [decide_eq_false he]
      have hd : ∀ (o : Option Nat), (match o with | some q => some (Sum.inr ((g, 2 * ((i + 1 + q : Nat) : Int) + 2, ()), ())) | none => some (Sum.inl ((), ())) : Option R36_4090) = (match o.map (· + 1) with | some q => some (.inr ((g, 2 * ((i + q : Nat) : Int) + 2, ()), ())) | none => some (.inl ((), ()))) := by
        intro o; cases o with
        | none => rfl
        | some q => simp only [Option.map_some]; rw [show i + 1 + q = i + (q + 1) by omega]
      have hw : ∀ (o : Option R36_4090), (o.bind fun y3 => match y3 with | .inl y3_0 => some (.inl ((), ())) | .inr y3_1 => some (.inr ((y3_1.1.1, y3_1.1.2.1, ()), ()))) = o := by
        intro o; cases o with
        | none => rfl
        | some y => cases y <;> rfl
      simp only [Bool.false_eq_true, if_false, hw]
      rw [hd]
      by_cases h1 : g[i].1 = a
      · have h2 : ¬ g[i].2.1 = b := fun h2 => hne ⟨h1, h2⟩
        simp only [if_pos h1, if_neg h2]
        exact hw _
      · simp only [if_neg h1]
        exact hw _
/-- The first loop of two rounds. -/
theorem round1018 (k : Nat) (r : T36) (rec : T36_1018) (hv : Valid g) (hg : g.length ≤ 1048576) {x y : Int} (hx : isL g x = true) (hy : isL g y = true) (i : Int) (hi : i = 0 ∨ i = 1) (o : List (List Int)) (ho : o[i.toNat]? = some [x, y]) :
    b36_1018 k r rec g i o = (match plS g x y with | some r => some (.inr ((g, r, ()), (o, ()))) | none => rec g (i + 1) o) := by
  have hx' := isL_iff.1 hx
  have hw : ∀ (o : Option R36_1018), (o.bind fun y7 => match y7 with | .inl y7_0 => some (.inl ((), (y7_0.2.1, ()))) | .inr y7_1 => some (.inr ((y7_1.1.1, y7_1.1.2.1, ()), (y7_1.2.1, ())))) = o := by
    intro o; cases o with
    | none => rfl
    | some y => cases y <;> rfl
  unfold b36_1018
  rw [decide_eq_true (by omega : i < 2), cond_true, gd_dec (by omega : 0 ≤ i), gd_dec (by omega : i.toNat < 2)]
  simp only [ho, Option.bind_some, List.getElem?_cons_zero, List.getElem?_cons_succ, gd_dec (by omega : 0 ≤ i), gd_dec (by omega : i.toNat < 2), kids91 k hv hg hy, hw, beq_int, Bool.cond_decide]
  rw [w_id (by omega) (by omega)]
  unfold plS
  cases hk : kid g y with
  | none => exact hw _
  | some p =>
    obtain ⟨c, d⟩ := p
    have h260 : l36_260686 k r x c d true = some ((decide (nt x = c ∨ nt x = d), ()), ()) := by
      unfold l36_260686
      rw [cond_true, not90 k (by omega) (by omega)]
      simp only [Option.bind_some, beq_int, Bool.cond_decide]
      by_cases h : nt x = c
      · rw [if_pos h]; simp [h]
      · rw [if_neg h]; simp [h]
    by_cases h1 : y % 2 = 1
    · simp only [h1, decide_true, Bool.true_eq_false, if_false, if_true]
      exact hw _
    · simp only [h1, decide_false, if_true, if_false, cond_true]
      by_cases h2 : x = c
      · simp [h2]
      · by_cases h3 : x = d
        · simp [h2, h3]
        · simp only [h2, h3, if_false, or_self, h260, Option.bind_some, Bool.cond_decide]
          by_cases h4 : nt x = c ∨ nt x = d
          · simp only [if_pos h4]
          · simp only [if_neg h4]
            exact hw _
theorem loop1018 (k : Nat) (r : T36) (hv : Valid g) (hg : g.length ≤ 1048576) {a b : Int} (ha : isL g a = true) (hb : isL g b = true) (j : Nat) : l36_1018 k r (j + 3) g 0 [[a, b], [b, a]] =
    (match plS g a b with | some r => some (.inr ((g, r, ()), ([[a, b], [b, a]], ()))) | none => match plS g b a with | some r => some (.inr ((g, r, ()), ([[a, b], [b, a]], ()))) | none => some (.inl ((), ([[a, b], [b, a]], ())))) := by
  show b36_1018 k r (b36_1018 k r (b36_1018 k r (l36_1018 k r j))) g 0 [[a, b], [b, a]] = _
  rw [round1018 k r _ hv hg ha hb 0 (.inl rfl) _ rfl]
  cases plS g a b with
  | some r => rfl
  | none =>
    dsimp only
    rw [show (0 : Int) + 1 = 1 from rfl, round1018 k r _ hv hg hb ha 1 (.inr rfl) _ rfl]
    cases plS g b a with
    | some r => rfl
    | none => rfl
theorem round2042 (k : Nat) (r : T36) (rec : T36_2042) (hv : Valid g) (hg : g.length ≤ 1048576) {x y : Int} (hx : isL g x = true) (hy : isL g y = true) (i : Int) (hi : i = 0 ∨ i = 1) (o : List (List Int)) (ho : o[i.toNat]? = some [x, y]) :
    b36_2042 k r rec g i o = (match tuS g x y with | some (.inl r) => some (.inr ((g, r, ()), (o, ()))) | some (.inr z) => (r g x z).bind (fun y9 => some (.inr ((y9.1.1, y9.1.2.1, ()), (o, ())))) | none => rec g (i + 1) o) := by
  have hx' := isL_iff.1 hx
  have hw : ∀ (o : Option R36_2042), (o.bind fun y7 => match y7 with | .inl y7_0 => some (.inl ((), (y7_0.2.1, ()))) | .inr y7_1 => some (.inr ((y7_1.1.1, y7_1.1.2.1, ()), (y7_1.2.1, ())))) = o := by
    intro o; cases o with
    | none => rfl
    | some y => cases y <;> rfl
  unfold b36_2042
  rw [decide_eq_true (by omega : i < 2), cond_true, gd_dec (by omega : 0 ≤ i), gd_dec (by omega : i.toNat < 2)]
  simp only [ho, Option.bind_some, List.getElem?_cons_zero, List.getElem?_cons_succ, gd_dec (by omega : 0 ≤ i), gd_dec (by omega : i.toNat < 2), kids91 k hv hg hy, hw, beq_int, Bool.cond_decide]
  rw [w_id (by omega) (by omega)]
  unfold tuS
  cases hk : kid g y with
  | none => exact hw _
  | some p =>
    obtain ⟨c, d⟩ := p
    obtain ⟨q, hq, hgq, hc0, hc1, hd0, hd1⟩ := kid_valid hv hk
    have hql := getElem?_lt hgq
    have h522 : l36_522828 k r x c d true = some ((decide (nt x = c ∨ nt x = d), ()), ()) := by
      unfold l36_522828
      rw [cond_true, not90 k (by omega) (by omega)]
      simp only [Option.bind_some, beq_int, Bool.cond_decide]
      by_cases h : nt x = c
      · rw [if_pos h]; simp [h]
      · rw [if_neg h]; simp [h]
    have h660 : l36_1045660 k r x c true = some ((decide (x = c), ()), ()) := by unfold l36_1045660; rw [cond_true, beq_int]
    have h662 : l36_1045662 k r x d true = some ((decide (x = d), ()), ()) := by unfold l36_1045662; rw [cond_true, beq_int]
    by_cases h1 : y % 2 = 1
    · have h1' : ¬ y % 2 = 0 := by omega
      simp only [h1, decide_true, if_true, h522, h660, h662, not90 k (show -9223372036854775808 ≤ d by omega) (show d ≤ 9223372036854775807 by omega), not90 k (show -9223372036854775808 ≤ c by omega) (show c ≤ 9223372036854775807 by omega), Option.bind_some, Bool.cond_decide]
      by_cases h4 : nt x = c ∨ nt x = d
      · simp [h4]
      · by_cases h2 : x = c
        · subst h2; simp [h4]
        · by_cases h3 : x = d
          · subst h3; simp [h4, h2]
          · simp only [h4, h2, h3, if_false]
            exact hw _
    · have h1' : y % 2 = 0 := by omega
      simp only [h1, decide_false, Bool.false_eq_true, if_false]
      simp only [h1', if_true]
      exact hw _
theorem loop2042 (k : Nat) (r : T36) (hv : Valid g) (hg : g.length ≤ 1048576) {a b : Int} (ha : isL g a = true) (hb : isL g b = true) (j : Nat) : l36_2042 k r (j + 3) g 0 [[a, b], [b, a]] =
    (match tuS g a b with | some (.inl r) => some (.inr ((g, r, ()), ([[a, b], [b, a]], ()))) | some (.inr z) => (r g a z).bind (fun y9 => some (.inr ((y9.1.1, y9.1.2.1, ()), ([[a, b], [b, a]], ())))) | none => (match tuS g b a with | some (.inl r) => some (.inr ((g, r, ()), ([[a, b], [b, a]], ()))) | some (.inr z) => (r g b z).bind (fun y9 => some (.inr ((y9.1.1, y9.1.2.1, ()), ([[a, b], [b, a]], ())))) | none => some (.inl ((), ([[a, b], [b, a]], ()))))) := by
  show b36_2042 k r (b36_2042 k r (b36_2042 k r (l36_2042 k r j))) g 0 [[a, b], [b, a]] = _
  rw [round2042 k r _ hv hg ha hb 0 (.inl rfl) _ rfl]
  cases tuS g a b with
  | some p => cases p <;> rfl
  | none =>
    dsimp only
    rw [show (0 : Int) + 1 = 1 from rfl, round2042 k r _ hv hg hb ha 1 (.inr rfl) _ rfl]
    cases tuS g b a with
    | some p => cases p <;> rfl
    | none => rfl
/-- The reference's "and". -/
theorem and36 : ∀ (n : Nat) (g : List D_Gate) (a b : Int), Valid g → g.length ≤ 1048576 → (isL g a = true → isL g b = true → (a + b).toNat < n) → 0 < n →
    ∀ k, 2 * n + g.length + 5 ≤ k → f36 k g a b = some (((andS n g a b).1, (andS n g a b).2, ()), ()) := by
  intro n
  induction n with
  | zero => intro g a b _ _ _ h; omega
  | succ n ih =>
    intro g a b hv hg hn _ k hk
    -- in order
    have main : ∀ (a b : Int), a ≤ b → (isL g a = true → isL g b = true → (a + b).toNat < n + 1) → ∀ k, 2 * n + g.length + 6 ≤ k → f36 k g a b = some (((andS (n + 1) g a b).1, (andS (n + 1) g a b).2, ()), ()) := by
      intro a b hab hn k hk
      obtain ⟨k, rfl, hk'⟩ := succ_of (n := 2 * n + g.length + 5) (by omega : _ ≤ k)
      rw [f36_succ]; unfold b36
      rw [is67 k hg, is67 k hg]
      simp only [Option.bind_some]
      cases ha : isL g a with
      | false => simp [andS, ha]
      | true =>
        cases hb : isL g b with
        | false => simp [andS, ha, hb]
        | true =>
          have hn := hn ha hb
          have ha' := isL_iff.1 ha
          have hb' := isL_iff.1 hb
          have emin : min a b = a := by omega
          have emax : max a b = b := by omega
          have spec : andS (n + 1) g a b = (match stS g a b with
            | .ret r => (g, r)
            | .again x y => andS n g x y
            | .new => match fnd g (a, b, ()) with
              | some i => (g, 2 * i + 2)
              | none => if 1048576 ≤ g.length then (g, -1) else (g ++ [(a, b, ())], 2 * g.length + 2)) := by
            rw [andS, ha, hb, emin, emax]; rfl
          rw [spec]
          simp only [Bool.not_true, cond_false, decide_eq_false (show ¬ a > b by omega), not90 k (show -9223372036854775808 ≤ a by omega) (show a ≤ 9223372036854775807 by omega), Option.bind_some, beq_int, Bool.cond_decide]
          by_cases c1 : a = 0
          · have e : stS g a b = .ret 0 := by unfold stS; rw [if_pos (.inl c1)]
            rw [if_pos c1, e]
          rw [if_neg c1]
          by_cases c2 : nt a = b
          · have e : stS g a b = .ret 0 := by unfold stS; rw [if_pos (.inr c2)]
            rw [if_pos c2.symm, e]
          rw [if_neg (fun h => c2 h.symm)]
          by_cases c3 : a = 1
          · have e : stS g a b = .ret b := by unfold stS; rw [if_neg (by simp [c1, c2]), if_pos (.inl c3)]
            rw [if_pos c3, e]
          rw [if_neg c3]
          by_cases c4 : a = b
          · have e : stS g a b = .ret b := by unfold stS; rw [if_neg (by simp [c1, c2]), if_pos (.inr c4)]
            rw [if_pos c4, e]
          rw [if_neg c4]
          have hst : stS g a b = (match plS g a b with
            | some r => .ret r
            | none => match plS g b a with
              | some r => .ret r
              | none => match tuS g a b with
                | some (.inl r) => .ret r
                | some (.inr y) => .again a y
                | none => match tuS g b a with
                  | some (.inl r) => .ret r
                  | some (.inr y) => .again b y
                  | none => .new) := by
            unfold stS; rw [if_neg (by simp [c1, c2]), if_neg (by simp [c3, c4])]
            all_goals rfl
          obtain ⟨k3, rfl⟩ : ∃ k3, k = k3 + 3 := ⟨k - 3, by omega⟩
          rw [loop1018 (k3 + 3) (f36 (k3 + 3)) hv hg ha hb k3]
          cases e1 : plS g a b with
          | some r => rw [hst, e1]; rfl
          | none =>
          cases e2 : plS g b a with
          | some r => rw [hst, e1, e2]; rfl
          | none =>
          simp only [Option.bind_some]
          rw [loop2042 (k3 + 3) (f36 (k3 + 3)) hv hg ha hb k3]
          have again : ∀ x y, stS g a b = .again x y → f36 (k3 + 3) g x y = some (((andS n g x y).1, (andS n g x y).2, ()), ()) := by
            intro x y hr
            obtain ⟨hxx, hy0, hlt, _⟩ := stS_again hv hr
            have hx0 : 0 ≤ x := by rcases hxx with rfl | rfl <;> omega
            exact ih g x y hv hg (fun _ _ => by omega) (by omega) _ (by omega)
          cases e3 : tuS g a b with
          | some p =>
            cases p with
            | inl r => rw [hst, e1, e2, e3]; rfl
            | inr y =>
              have hr : stS g a b = .again a y := by rw [hst, e1, e2, e3]
              rw [hr]
              dsimp only
              rw [again a y hr]; rfl
          | none =>
          cases e4 : tuS g b a with
          | some p =>
            cases p with
            | inl r => rw [hst, e1, e2, e3, e4]; rfl
            | inr y =>
              have hr : stS g a b = .again b y := by rw [hst, e1, e2, e3, e4]
              rw [hr]
              dsimp only
              rw [again b y hr]; rfl
          | none =>
          have hnew : stS g a b = .new := by rw [hst, e1, e2, e3, e4]
          rw [hnew]
          simp only [Option.bind_some]
          have hfl := find_loop (k3 + 3) (f36 (k3 + 3)) a b hg g.length 0 (by omega) (k3 + 3) (by omega)
          rw [show ((0 : Nat) : Int) = 0 from rfl] at hfl
          rw [hfl]
          have hfd : (g.drop 0).findIdx? (fun x => decide (x = (a, b, ()))) = fnd g (a, b, ()) := by rw [List.drop_zero]; rfl
          rw [hfd]
          cases hf : fnd g (a, b, ()) with
          | some i =>
            simp only [Nat.zero_add]; rfl
          | none =>
            simp only [Option.bind_some]
            by_cases hbig : 1048576 ≤ g.length
            · rw [if_pos (show (g.length : Int) ≥ 1048576 by omega), if_pos hbig]
              all_goals rfl
            · rw [if_neg (show ¬ (g.length : Int) ≥ 1048576 by omega), if_neg hbig, gd_dec (by unfold room; omega), gd_dec (by simp only [List.nil_append]; unfold room; omega), w_id (n := 2 * (g.length : Int)) (by omega) (by omega), w_id (by omega) (by omega)]
              rfl
    rcases Int.lt_or_le b a with h | h
    · -- turned round first
      have hcomm : andS (n + 1) g a b = andS (n + 1) g b a := by
        rw [andS, andS, Int.min_comm, Int.max_comm, Bool.and_comm]
      obtain ⟨k, rfl, hk'⟩ := succ_of (n := 2 * n + g.length + 6) (by omega : _ ≤ k)
      have h1 := main b a (by omega) (fun h1 h2 => by have := hn h2 h1; omega) k hk'
      rw [f36_succ]; unfold b36
      rw [is67 k hg, is67 k hg]
      simp only [Option.bind_some]
      cases ha : isL g a with
      | false => simp [andS, ha]
      | true =>
        cases hb : isL g b with
        | false => simp [andS, ha, hb]
        | true =>
          simp only [Bool.not_true, cond_false, decide_eq_true (show a > b by omega), cond_true]
          rw [h1, hcomm]; rfl
    · exact main a b h hn k (by omega)
end Aig
end Go.Proofs.Ytgljnnokifggkaa.M
