/-
Graphs of "and" (the program's side alone): what is made, what each literal is by inputs.
-/
import Derived.Test.YtgljnnokifggkaaMC
import Derived.Test.YtgljnnokifggkaaPl
import Derived.Test.YtgljnnokifggkaaVm40
set_option linter.unusedVariables false
set_option linter.unusedSimpArgs false
set_option maxRecDepth 100000
namespace Go.Proofs.Ytgljnnokifggkaa.M
open Go Go.Proofs.Ytgljnnokifggkaa.Vm Go.Proofs.Ytgljnnokifggkaa.Pl
namespace Aig
section
abbrev Mp := List (D_Gate × Int)
def nt (l : Int) : Int := if l < 0 then -1 else if l % 2 = 0 then l + 1 else l - 1
def isL (g : List D_Gate) (l : Int) : Bool := decide (0 ≤ l ∧ l ≤ 2 * g.length + 1)
def inp : D_Gate := (-1, -1, ())
/-- The literals that a literal's node is the "and" of. -/
def kid (g : List D_Gate) (l : Int) : Option (Int × Int) := if l < 2 then none else (g[(l / 2 - 1).toNat]?).bind fun e => if e.1 < 0 then none else some (e.1, e.2.1)
def Valid (g : List D_Gate) : Prop := ∀ (i : Nat) (e : D_Gate), g[i]? = some e → e = inp ∨ (0 ≤ e.1 ∧ 0 ≤ e.2.1 ∧ e.1 ≤ 2 * i + 1 ∧ e.2.1 ≤ 2 * i + 1)
def plS (g : List D_Gate) (a b : Int) : Option Int := match kid g b with
  | none => none
  | some (c, d) => if b % 2 = 1 then none else if a = c ∨ a = d then some b else if nt a = c ∨ nt a = d then some 0 else none
def tuS (g : List D_Gate) (a b : Int) : Option (Int ⊕ Int) := match kid g b with
  | none => none
  | some (c, d) => if b % 2 = 0 then none else if nt a = c ∨ nt a = d then some (.inl a) else if a = c then some (.inr (nt d)) else if a = d then some (.inr (nt c)) else none
inductive Stp where
  | ret (r : Int) | again (x y : Int) | new
def stS (g : List D_Gate) (a b : Int) : Stp :=
  if a = 0 ∨ nt a = b then .ret 0 else if a = 1 ∨ a = b then .ret b else
  match plS g a b with
  | some r => .ret r
  | none => match plS g b a with
    | some r => .ret r
    | none => match tuS g a b with
      | some (.inl r) => .ret r
      | some (.inr y) => .again a y
      | none => match tuS g b a with
        | some (.inl r) => .ret r
        | some (.inr y) => .again b y
        | none => .new
/-- Where a node stands. -/
def fnd (g : List D_Gate) (e : D_Gate) : Option Nat := g.findIdx? (fun x => decide (x = e))
def andS : Nat → List D_Gate → Int → Int → List D_Gate × Int
  | 0, g, _, _ => (g, -1)
  | n + 1, g, a, b => if isL g a && isL g b then
      (match stS g (min a b) (max a b) with
      | .ret r => (g, r)
      | .again x y => andS n g x y
      | .new => match fnd g (min a b, max a b, ()) with
        | some i => (g, 2 * i + 2)
        | none => if 1048576 ≤ g.length then (g, -1) else (g ++ [(min a b, max a b, ())], 2 * g.length + 2))
    else (g, -1)
/-! ### small facts -/
theorem isL_iff {g : List D_Gate} {l : Int} : isL g l = true ↔ 0 ≤ l ∧ l ≤ 2 * g.length + 1 := by unfold isL; exact decide_eq_true_iff
theorem nt_pos {l : Int} (h : 0 ≤ l) : nt l = if l % 2 = 0 then l + 1 else l - 1 := by unfold nt; rw [if_neg (by omega)]
theorem nt_nt {l : Int} (h : 0 ≤ l) : nt (nt l) = l := by
  have e := nt_pos h
  have h2 : 0 ≤ nt l := by rw [e]; split <;> omega
  rw [nt_pos h2, e]; split <;> split <;> omega
theorem nt_lt {l : Int} {i : Nat} (h : 0 ≤ l) (h' : l ≤ 2 * i + 1) : 0 ≤ nt l ∧ nt l ≤ 2 * i + 1 := by
  rw [nt_pos h]; split <;> omega
theorem nt_ne {l : Int} (h : 0 ≤ l) : nt l ≠ l := by rw [nt_pos h]; split <;> omega
theorem xor1 {l : Int} (h : 0 ≤ l) (h' : l ≤ 2097153) : ibits .xor .i64 l 1 = nt l := by rw [ibits_xor1 h (by omega), nt_pos h]
theorem kid_some {g : List D_Gate} {l c d : Int} (h : kid g l = some (c, d)) : 2 ≤ l ∧ ∃ i : Nat, l / 2 - 1 = i ∧ g[i]? = some (c, d, ()) ∧ 0 ≤ c := by
  unfold kid at h
  split at h
  · cases h
  · rename_i hl
    obtain ⟨e, h1, h2⟩ := Option.bind_eq_some_iff.1 h
    split at h2
    · cases h2
    · rename_i he
      simp only [Option.some.injEq, Prod.mk.injEq] at h2
      refine ⟨by omega, (l / 2 - 1).toNat, by omega, ?_, by omega⟩
      rw [h1]; obtain ⟨e1, e2, e3⟩ := e; simp at h2; rw [h2.1, h2.2]
theorem getElem?_lt {A : Type} {l : List A} {i : Nat} {x : A} (h : l[i]? = some x) : i < l.length := Vm.getElem?_lt h
theorem kid_valid {g : List D_Gate} (hv : Valid g) {l c d : Int} (h : kid g l = some (c, d)) : ∃ i : Nat, (l = 2 * i + 2 ∨ l = 2 * i + 3) ∧ g[i]? = some (c, d, ()) ∧ 0 ≤ c ∧ c ≤ 2 * i + 1 ∧ 0 ≤ d ∧ d ≤ 2 * i + 1 := by
  obtain ⟨h1, i, h2, h3, h4⟩ := kid_some h
  rcases hv i _ h3 with he | he
  · have : c = -1 := congrArg (fun x : D_Gate => x.1) he
    omega
  · exact ⟨i, by omega, h3, h4, he.2.2.1, he.2.1, he.2.2.2⟩
theorem tuS_lt {g : List D_Gate} (hv : Valid g) {a b y : Int} (h : tuS g a b = some (.inr y)) : 0 ≤ y ∧ y < b - 1 := by
  unfold tuS at h
  cases hk : kid g b with
  | none => rw [hk] at h; cases h
  | some p =>
    obtain ⟨c, d⟩ := p
    rw [hk] at h
    obtain ⟨i, h1, h2, h3, h4, h5, h6⟩ := kid_valid hv hk
    dsimp only at h
    split at h
    · cases h
    · split at h
      · cases h
      · have := nt_lt h3 h4
        have := nt_lt h5 h6
        split at h
        · simp only [Option.some.injEq, Sum.inr.injEq] at h; omega
        · split at h
          · simp only [Option.some.injEq, Sum.inr.injEq] at h; omega
          · cases h
theorem stS_again {g : List D_Gate} (hv : Valid g) {a b x y : Int} (h : stS g a b = .again x y) : (x = a ∨ x = b) ∧ 0 ≤ y ∧ x + y < a + b ∧ (y < a ∨ y < b) := by
  unfold stS at h
  split at h
  · cases h
  · split at h
    · cases h
    · split at h
      · cases h
      · split at h
        · cases h
        · split at h
          · cases h
          · rename_i hy
            simp only [Stp.again.injEq] at h
            obtain ⟨rfl, rfl⟩ := h
            have := tuS_lt hv hy
            exact ⟨.inl rfl, by omega, by omega, .inr (by omega)⟩
          · split at h
            · cases h
            · rename_i hy
              simp only [Stp.again.injEq] at h
              obtain ⟨rfl, rfl⟩ := h
              have := tuS_lt hv hy
              exact ⟨.inr rfl, by omega, by omega, .inl (by omega)⟩
            · cases h
/-! ### the program's steps -/
/-- The map tells where the nodes stand. -/
def MapOk (g : List D_Gate) (m : Mp) : Prop := ∀ e : D_Gate, 0 ≤ e.1 → mget T_Gate e m = (fnd g e).map fun i => (2 * i + 2 : Int)
theorem w_id {n : Int} (h : -9223372036854775808 ≤ n) (h' : n ≤ 9223372036854775807) : w64 n = n := w64_id h h'
variable {g : List D_Gate} {m : Mp}
theorem is24 (k : Nat) (hg : g.length ≤ 1048576) (l : Int) : f24 k l g m = some ((isL g l, ()), ()) := by
  unfold f24
  rw [w_id (n := 2 * (g.length : Int)) (by omega) (by omega), w_id (by omega) (by omega)]
  by_cases h : 0 ≤ l
  · rw [decide_eq_true (show l ≥ 0 from h), cond_true]
    have : isL g l = decide (l ≤ 2 * (g.length : Int) + 1) := by
      unfold isL; simp [h]
    rw [this]
  · rw [decide_eq_false (show ¬ l ≥ 0 from h), cond_false]
    have : isL g l = false := by unfold isL; simp [h]
    rw [this]
theorem beq_inp (e : D_Gate) : beqD T_Gate e inp = decide (e = inp) := by
  have := beqD_iff T_Gate rfl e inp
  by_cases h : e = inp
  · rw [decide_eq_true h]; exact this.2 h
  · rw [decide_eq_false h]
    cases hb : beqD T_Gate e inp with
    | true => exact absurd (this.1 hb) h
    | false => rfl
theorem half {l : Int} (h : 2 ≤ l) (h' : l ≤ 2097153) : w64 (w64 (Int.tdiv l 2) - 1) = l / 2 - 1 := by
  rw [tdiv_pos (by omega), w_id (n := l / 2) (by omega) (by omega), w_id (by omega) (by omega)]
/-- The kids, as the program tells them. -/
theorem kids111 (k : Nat) (hv : Valid g) (hg : g.length ≤ 1048576) {l : Int} (hl : isL g l = true) :
    (∀ c d, kid g l = some (c, d) → f111 k l g m = some ((c, d, true, ()), ())) ∧ (kid g l = none → ∃ c d, f111 k l g m = some ((c, d, false, ()), ())) := by
  have hl := isL_iff.1 hl
  unfold f111
  by_cases h : l < 2
  · rw [decide_eq_true h, cond_true]
    refine ⟨fun c d hk => ?_, fun _ => ⟨0, 0, rfl⟩⟩
    have := (kid_some hk).1; omega
  · rw [decide_eq_false h, cond_false, half (by omega) (by omega)]
    have hlt : (l / 2 - 1).toNat < g.length := by omega
    have hx : g[(l / 2 - 1).toNat]? = some g[(l / 2 - 1).toNat] := List.getElem?_eq_getElem hlt
    rw [ix_get (by omega) hx]
    have hf : f88 k () = some ((inp, ()), ()) := rfl
    rw [hf]
    simp only [Option.bind_some, beq_inp]
    generalize hgl : g[(l / 2 - 1).toNat] = e at hx
    have hkid : kid g l = if e.1 < 0 then none else some (e.1, e.2.1) := by unfold kid; rw [if_neg h, hx]; rfl
    rcases hv _ _ hx with he | he
    · subst he
      refine ⟨fun c d hk => ?_, fun _ => ⟨_, _, rfl⟩⟩
      rw [hkid, if_pos (by decide)] at hk; cases hk
    · have hne : e ≠ inp := by intro e1; rw [e1] at he; exact absurd he.1 (by decide)
      rw [hkid, if_neg (by omega)]
      refine ⟨fun c d hk => ?_, fun hk => by cases hk⟩
      simp only [Option.some.injEq, Prod.mk.injEq] at hk
      rw [decide_eq_false hne, hk.1, hk.2]; rfl
theorem beq_int (a b : Int) : (a == b) = decide (a = b) := by
  by_cases h : a = b
  · rw [decide_eq_true h, h]; simp
  · rw [decide_eq_false h]; simp [h]
theorem mod2 {b : Int} (h : 0 ≤ b) : Int.tmod b 2 = b % 2 := tmod_pos h
theorem plain84 (k : Nat) (hv : Valid g) (hg : g.length ≤ 1048576) {a b : Int} (ha : isL g a = true) (hb : isL g b = true) :
    (∀ r, plS g a b = some r → f84 k a b g m = some ((r, true, ()), ())) ∧ (plS g a b = none → f84 k a b g m = some ((0, false, ()), ())) := by
  have ha' := isL_iff.1 ha
  have hb' := isL_iff.1 hb
  have hk := kids111 (m := m) k hv hg hb
  unfold f84 plS
  cases hkid : kid g b with
  | none =>
    obtain ⟨c, d, e⟩ := hk.2 hkid
    rw [e]; exact ⟨fun r h => (by cases h), fun _ => rfl⟩
  | some p =>
    obtain ⟨c, d⟩ := p
    rw [hk.1 c d hkid]
    simp only [Option.bind_some, mod2 hb'.1, beq_int, xor1 ha'.1 (show a ≤ 2097153 by omega), Bool.not_true, cond_false, Bool.cond_decide]
    by_cases h1 : b % 2 = 1
    · simp only [if_pos h1]; exact ⟨fun r h => (by cases h), fun _ => trivial⟩
    · simp only [if_neg h1]
      by_cases h2 : a = c
      · simp only [if_pos h2, if_pos (show a = c ∨ a = d from .inl h2)]; exact ⟨fun r h => (by cases h; rfl), fun h => by cases h⟩
      · by_cases h3 : a = d
        · simp only [if_neg h2, if_pos h3, if_pos (show a = c ∨ a = d from .inr h3)]; exact ⟨fun r h => (by cases h; rfl), fun h => by cases h⟩
        · simp only [if_neg h2, if_neg h3, if_neg (show ¬ (a = c ∨ a = d) by simp [h2, h3])]
          by_cases h4 : nt a = c
          · simp only [if_pos h4, if_pos (show nt a = c ∨ nt a = d from .inl h4)]; exact ⟨fun r h => (by cases h; rfl), fun h => by cases h⟩
          · by_cases h5 : nt a = d
            · simp only [if_neg h4, if_pos h5, if_pos (show nt a = c ∨ nt a = d from .inr h5)]; exact ⟨fun r h => (by cases h; rfl), fun h => by cases h⟩
            · simp only [if_neg h4, if_neg h5, if_neg (show ¬ (nt a = c ∨ nt a = d) by simp [h4, h5])]; exact ⟨fun r h => (by cases h), fun _ => trivial⟩
/-- What 'turned' tells; 'again' where it makes another "and". -/
theorem turned85 (k : Nat) (hv : Valid g) (hg : g.length ≤ 1048576) {a b : Int} (ha : isL g a = true) (hb : isL g b = true) :
    (tuS g a b = none → f85 (k + 1) a b g m = some ((0, false, ()), ((g, (), ()), m, ()))) ∧ (∀ r, tuS g a b = some (.inl r) → f85 (k + 1) a b g m = some ((r, true, ()), ((g, (), ()), m, ()))) ∧
    (∀ y, tuS g a b = some (.inr y) → ∀ r g' m', f19 k a y g m = some ((r, ()), ((g', (), ()), m', ())) → f85 (k + 1) a b g m = some ((r, true, ()), ((g', (), ()), m', ()))) := by
  have ha' := isL_iff.1 ha
  have hb' := isL_iff.1 hb
  have hk := kids111 (m := m) k hv hg hb
  rw [f85_succ]
  unfold b85 tuS
  cases hkid : kid g b with
  | none =>
    obtain ⟨c, d, e⟩ := hk.2 hkid
    rw [e]; exact ⟨fun _ => rfl, fun r h => (by cases h), fun y h => by cases h⟩
  | some p =>
    obtain ⟨c, d⟩ := p
    obtain ⟨i, hi, hgi, hc0, hc1, hd0, hd1⟩ := kid_valid hv hkid
    have hil := getElem?_lt hgi
    rw [hk.1 c d hkid]
    simp only [Option.bind_some, mod2 hb'.1, beq_int, xor1 ha'.1 (show a ≤ 2097153 by omega), xor1 hc0 (show c ≤ 2097153 by omega), xor1 hd0 (show d ≤ 2097153 by omega), Bool.not_true, cond_false, Bool.cond_decide]
    by_cases h1 : b % 2 = 0
    · simp only [if_pos h1]; exact ⟨fun _ => trivial, fun r h => (by cases h), fun y h => by cases h⟩
    · simp only [if_neg h1]
      by_cases h4 : nt a = c
      · simp only [if_pos h4, if_pos (show nt a = c ∨ nt a = d from .inl h4)]; exact ⟨fun h => (by cases h), fun r h => (by cases h; rfl), fun y h => by cases h⟩
      · by_cases h5 : nt a = d
        · simp only [if_neg h4, if_pos h5, if_pos (show nt a = c ∨ nt a = d from .inr h5)]; exact ⟨fun h => (by cases h), fun r h => (by cases h; rfl), fun y h => by cases h⟩
        · simp only [if_neg h4, if_neg h5, if_neg (show ¬ (nt a = c ∨ nt a = d) by simp [h4, h5])]
          by_cases h2 : a = c
          · simp only [if_pos h2]
            exact ⟨fun h => (by cases h), fun r h => (by cases h), fun y h r g' m' hf => by cases h; rw [hf]; rfl⟩
          · by_cases h3 : a = d
            · simp only [if_neg h2, if_pos h3]
              exact ⟨fun h => (by cases h), fun r h => (by cases h), fun y h r g' m' hf => by cases h; rw [hf]; rfl⟩
            · simp only [if_neg h2, if_neg h3]; exact ⟨fun _ => trivial, fun r h => (by cases h), fun y h => by cases h⟩
/-! ### "and" -/
theorem minmax_min (a b : Int) : minmax false a b = min a b := by unfold minmax; simp only [Bool.false_eq_true, if_false]; split <;> omega
theorem minmax_max (a b : Int) : minmax true a b = max a b := by unfold minmax; simp only [if_true]; split <;> omega
theorem add86 (k : Nat) (hg : g.length ≤ 1048576) (e : D_Gate) : f86 k e g m = if 1048576 ≤ g.length then some (((-1 : Int), ()), ((g, (), ()), m, ())) else some (((2 * g.length + 2 : Int), ()), ((g ++ [e], (), ()), m, ())) := by
  unfold f86
  rw [Bool.cond_decide]
  by_cases h : 1048576 ≤ g.length
  · rw [if_pos (show (g.length : Int) ≥ 1048576 by omega), if_pos h]
  · rw [if_neg (show ¬ (g.length : Int) ≥ 1048576 by omega), if_neg h, gd_dec (by unfold room; omega)]
    have e1 : (((g ++ ([e] : List D_Gate)).length : Nat) : Int) = g.length + 1 := by simp
    rw [e1, w_id (by omega) (by omega)]
    have e2 : (2 * ((g.length : Int) + 1)) = 2 * g.length + 2 := by omega
    rw [e2]
theorem fnd_append {e e' : D_Gate} (h : fnd g e = none) : fnd (g ++ [e]) e' = if e' = e then some g.length else fnd g e' := by
  unfold fnd at h ⊢
  rw [List.findIdx?_append]
  by_cases he : e' = e
  · subst he
    rw [if_pos rfl, h]
    simp
  · rw [if_neg he]
    cases hf : g.findIdx? fun x => decide (x = e') with
    | some i => simp
    | none => simp [Ne.symm he]
theorem map_add {e : D_Gate} (hm : MapOk g m) (h : fnd g e = none) : MapOk (g ++ [e]) (mput T_Gate e (2 * g.length + 2) m) := by
  intro e' h'
  have h1 := mget_mput (kt := T_Gate) rfl (k := e) (k' := e') (x := (2 * g.length + 2 : Int)) m
  rw [fnd_append h]
  by_cases he : e' = e
  · rw [if_pos he]; exact h1.1 he
  · rw [if_neg he]; exact (h1.2 he).trans (hm e' h')
theorem fnd_inp {e : D_Gate} (h : 0 ≤ e.1) : fnd (g ++ [inp]) e = fnd g e := by
  unfold fnd
  rw [List.findIdx?_append]
  have hne : ¬ inp = e := by intro he; rw [← he] at h; exact absurd h (by decide)
  cases hf : g.findIdx? fun x => decide (x = e) with
  | some i => simp
  | none => simp [hne]
theorem map_inp (hm : MapOk g m) : MapOk (g ++ [inp]) m := by
  intro e h; rw [fnd_inp h]; exact hm e h
theorem isL_mm {a b : Int} (ha : isL g a = true) (hb : isL g b = true) : isL g (min a b) = true ∧ isL g (max a b) = true := by
  have h1 := isL_iff.1 ha
  have h2 := isL_iff.1 hb
  exact ⟨isL_iff.2 (by omega), isL_iff.2 (by omega)⟩
theorem and19 : ∀ (n : Nat) (g : List D_Gate) (m : Mp) (a b : Int), Valid g → MapOk g m → g.length ≤ 1048576 → (isL g a = true → isL g b = true → (a + b).toNat < n) → 0 < n →
    ∃ m', MapOk (andS n g a b).1 m' ∧ ∀ k, 2 * n ≤ k → f19 k a b g m = some (((andS n g a b).2, ()), (((andS n g a b).1, (), ()), m', ())) := by
  intro n
  induction n with
  | zero => intro g m a b _ _ _ _ h; omega
  | succ n ih =>
    intro g m a b hv hm hg hn _
    have two : ∀ k, 2 * (n + 1) ≤ k → ∃ j, k = j + 2 ∧ 2 * n ≤ j := fun k hk => ⟨k - 2, by omega, by omega⟩
    cases ha : isL g a with
    | false =>
      refine ⟨m, by simpa [andS, ha] using hm, fun k hk => ?_⟩
      obtain ⟨j, rfl, _⟩ := two k hk
      rw [f19_succ]; unfold b19
      rw [is24 _ hg, ha]
      simp [andS, ha]
    | true =>
      cases hb : isL g b with
      | false =>
        refine ⟨m, by simpa [andS, ha, hb] using hm, fun k hk => ?_⟩
        obtain ⟨j, rfl, _⟩ := two k hk
        rw [f19_succ]; unfold b19
        rw [is24 _ hg, is24 _ hg, ha, hb]
        simp [andS, ha, hb]
      | true =>
        have hn := hn ha hb
        obtain ⟨ha', hb'⟩ := isL_mm ha hb
        have hsum : min a b + max a b = a + b := by omega
        have hle : min a b ≤ max a b := by omega
        have spec : andS (n + 1) g a b = (match stS g (min a b) (max a b) with
          | .ret r => (g, r)
          | .again x y => andS n g x y
          | .new => match fnd g (min a b, max a b, ()) with
            | some i => (g, 2 * i + 2)
            | none => if 1048576 ≤ g.length then (g, -1) else (g ++ [(min a b, max a b, ())], 2 * g.length + 2)) := by
          rw [andS, ha, hb]; rfl
        have prog : ∀ j, f19 (j + 2) a b g m = (cond (decide (min a b = 0)) (some ((0, ()), ((g, (), ()), m, ()))) (cond (decide (nt (min a b) = max a b)) (some ((0, ()), ((g, (), ()), m, ())))
            (cond (decide (min a b = 1)) (some ((max a b, ()), ((g, (), ()), m, ()))) (cond (decide (min a b = max a b)) (some ((max a b, ()), ((g, (), ()), m, ())))
            ((f84 (j + 1) (min a b) (max a b) g m).bind fun y3 =>
              cond y3.1.2.1
                (some ((y3.1.1, ()), ((g, (), ()), m, ())))
                ((f84 (j + 1) (max a b) (min a b) g m).bind fun y4 =>
                cond y4.1.2.1
                  (some ((y4.1.1, ()), ((g, (), ()), m, ())))
                  ((f85 (j + 1) (min a b) (max a b) g m).bind fun y5 =>
                  cond y5.1.2.1
                    (some ((y5.1.1, ()), ((y5.2.1.1, (), ()), y5.2.2.1, ())))
                    ((f85 (j + 1) (max a b) (min a b) y5.2.1.1 y5.2.2.1).bind fun y6 =>
                    cond y6.1.2.1
                      (some ((y6.1.1, ()), ((y6.2.1.1, (), ()), y6.2.2.1, ())))
                      (cond (mget T_Gate ((min a b, max a b, ()) : D_Gate) y6.2.2.1).isSome
                        (some ((((mget T_Gate ((min a b, max a b, ()) : D_Gate) y6.2.2.1).getD 0), ()), ((y6.2.1.1, (), ()), y6.2.2.1, ())))
                        ((f86 (j + 1) ((min a b, max a b, ()) : D_Gate) y6.2.1.1 y6.2.2.1).bind fun y8 =>
                        cond (!decide (y8.1.1 = (-1)))
                          (some ((y8.1.1, ()), ((y8.2.1.1, (), ()), (mput T_Gate ((min a b, max a b, ()) : D_Gate) y8.1.1 y8.2.2.1), ())))
                          (some ((y8.1.1, ()), ((y8.2.1.1, (), ()), y8.2.2.1, ()))))))))))))) := by
          intro j
          rw [f19_succ]; unfold b19
          rw [is24 _ hg, is24 _ hg, ha, hb]
          have hx : ibits .xor .i64 (min a b) 1 = nt (min a b) := xor1 (isL_iff.1 ha').1 (by have := (isL_iff.1 ha').2; omega)
          simp only [Option.bind_some, Bool.not_true, cond_false, minmax_min, minmax_max, beq_int, hx, bne, decide_not]
          rfl
        generalize min a b = a' at ha' hsum hle spec prog
        generalize max a b = b' at hb' hsum hle spec prog
        rw [spec]
        have hpl := fun k => plain84 (m := m) k hv hg ha' hb'
        have hpl2 := fun k => plain84 (m := m) k hv hg hb' ha'
        have htu := fun k => turned85 (m := m) k hv hg ha' hb'
        have htu2 := fun k => turned85 (m := m) k hv hg hb' ha'
        have hret : ∀ r, stS g a' b' = .ret r → (∀ j, f19 (j + 2) a b g m = some ((r, ()), ((g, (), ()), m, ()))) → ∃ m', MapOk (match stS g a' b' with
          | .ret r => (g, r)
          | .again x y => andS n g x y
          | .new => match fnd g (a', b', ()) with
            | some i => (g, 2 * i + 2)
            | none => if 1048576 ≤ g.length then (g, -1) else (g ++ [(a', b', ())], 2 * g.length + 2)).1 m' ∧ ∀ k, 2 * (n + 1) ≤ k → f19 k a b g m = some (((match stS g a' b' with
          | .ret r => (g, r)
          | .again x y => andS n g x y
          | .new => match fnd g (a', b', ()) with
            | some i => (g, 2 * i + 2)
            | none => if 1048576 ≤ g.length then (g, -1) else (g ++ [(a', b', ())], 2 * g.length + 2)).2, ()), (((match stS g a' b' with
          | .ret r => (g, r)
          | .again x y => andS n g x y
          | .new => match fnd g (a', b', ()) with
            | some i => (g, 2 * i + 2)
            | none => if 1048576 ≤ g.length then (g, -1) else (g ++ [(a', b', ())], 2 * g.length + 2)).1, (), ()), m', ())) := by
          intro r hr hf
          rw [hr]
          refine ⟨m, hm, fun k hk => ?_⟩
          obtain ⟨j, rfl, _⟩ := two k hk
          exact hf j
        have hag : ∀ x y, stS g a' b' = .again x y → (∀ j r g' m', f19 j x y g m = some ((r, ()), ((g', (), ()), m', ())) → f19 (j + 2) a b g m = some ((r, ()), ((g', (), ()), m', ()))) → ∃ m', MapOk (match stS g a' b' with
          | .ret r => (g, r)
          | .again x y => andS n g x y
          | .new => match fnd g (a', b', ()) with
            | some i => (g, 2 * i + 2)
            | none => if 1048576 ≤ g.length then (g, -1) else (g ++ [(a', b', ())], 2 * g.length + 2)).1 m' ∧ ∀ k, 2 * (n + 1) ≤ k → f19 k a b g m = some (((match stS g a' b' with
          | .ret r => (g, r)
          | .again x y => andS n g x y
          | .new => match fnd g (a', b', ()) with
            | some i => (g, 2 * i + 2)
            | none => if 1048576 ≤ g.length then (g, -1) else (g ++ [(a', b', ())], 2 * g.length + 2)).2, ()), (((match stS g a' b' with
          | .ret r => (g, r)
          | .again x y => andS n g x y
          | .new => match fnd g (a', b', ()) with
            | some i => (g, 2 * i + 2)
            | none => if 1048576 ≤ g.length then (g, -1) else (g ++ [(a', b', ())], 2 * g.length + 2)).1, (), ()), m', ())) := by
          intro x y hr hf
          obtain ⟨hxx, hy0, hlt, _⟩ := stS_again hv hr
          rw [hr]
          have hx0 : 0 ≤ x := by
            have h1 := (isL_iff.1 ha').1; have h2 := (isL_iff.1 hb').1
            rcases hxx with rfl | rfl <;> assumption
          obtain ⟨m', h1, h2⟩ := ih g m x y hv hm hg (fun _ _ => by omega) (by omega)
          refine ⟨m', h1, fun k hk => ?_⟩
          obtain ⟨j, rfl, hj⟩ := two k hk
          exact hf j _ _ _ (h2 j hj)
        by_cases c1 : a' = 0
        · exact hret 0 (by unfold stS; rw [if_pos (.inl c1)]) fun j => by rw [prog, decide_eq_true c1]; rfl
        by_cases c2 : nt a' = b'
        · exact hret 0 (by unfold stS; rw [if_pos (.inr c2)]) fun j => by rw [prog, decide_eq_false c1, decide_eq_true c2]; rfl
        by_cases c3 : a' = 1
        · exact hret b' (by unfold stS; rw [if_neg (by simp [c1, c2]), if_pos (.inl c3)]) fun j => by rw [prog, decide_eq_false c1, decide_eq_false c2, decide_eq_true c3]; rfl
        by_cases c4 : a' = b'
        · exact hret b' (by unfold stS; rw [if_neg (by simp [c1, c2]), if_pos (.inr c4)]) fun j => by rw [prog, decide_eq_false c1, decide_eq_false c2, decide_eq_false c3, decide_eq_true c4]; rfl
        have hst : stS g a' b' = (match plS g a' b' with
          | some r => .ret r
          | none => match plS g b' a' with
            | some r => .ret r
            | none => match tuS g a' b' with
              | some (.inl r) => .ret r
              | some (.inr y) => .again a' y
              | none => match tuS g b' a' with
                | some (.inl r) => .ret r
                | some (.inr y) => .again b' y
                | none => .new) := by unfold stS; rw [if_neg (by simp [c1, c2]), if_neg (by simp [c3, c4])]
        simp only [decide_eq_false c1, decide_eq_false c2, decide_eq_false c3, decide_eq_false c4, cond_false] at prog
        cases e1 : plS g a' b' with
        | some r => exact hret r (by rw [hst, e1]) fun j => by rw [prog, (hpl (j + 1)).1 r e1]; rfl
        | none =>
        cases e2 : plS g b' a' with
        | some r => exact hret r (by rw [hst, e1, e2]) fun j => by rw [prog, (hpl (j + 1)).2 e1, Option.bind_some, (hpl2 (j + 1)).1 r e2]; rfl
        | none =>
        have prog2 : ∀ j, f19 (j + 2) a b g m = _ := fun j => by
          rw [prog, (hpl (j + 1)).2 e1, Option.bind_some, (hpl2 (j + 1)).2 e2, Option.bind_some]
        simp only [cond_false] at prog2
        cases e3 : tuS g a' b' with
        | some p =>
          cases p with
          | inl r => exact hret r (by rw [hst, e1, e2, e3]) fun j => by rw [prog2, (htu j).2.1 r e3]; rfl
          | inr y => exact hag a' y (by rw [hst, e1, e2, e3]) fun j r g' m' hf => by rw [prog2, (htu j).2.2 y e3 r g' m' hf]; rfl
        | none =>
        cases e4 : tuS g b' a' with
        | some p =>
          cases p with
          | inl r => exact hret r (by rw [hst, e1, e2, e3, e4]) fun j => by rw [prog2, (htu j).1 e3, Option.bind_some, (htu2 j).2.1 r e4]; rfl
          | inr y => exact hag b' y (by rw [hst, e1, e2, e3, e4]) fun j r g' m' hf => by rw [prog2, (htu j).1 e3, Option.bind_some, (htu2 j).2.2 y e4 r g' m' hf]; rfl
        | none =>
        have hnew : stS g a' b' = .new := by rw [hst, e1, e2, e3, e4]
        have prog3 : ∀ j, f19 (j + 2) a b g m = _ := fun j => by
          rw [prog2, (htu j).1 e3, Option.bind_some, (htu2 j).1 e4, Option.bind_some]
        simp only [cond_false] at prog3
        rw [hnew]
        have hmg := hm (a', b', ()) (isL_iff.1 ha').1
        cases hf : fnd g (a', b', ()) with
        | some i =>
          rw [hf] at hmg
          refine ⟨m, hm, fun k hk => ?_⟩
          obtain ⟨j, rfl, _⟩ := two k hk
          rw [prog3, hmg]; rfl
        | none =>
          rw [hf] at hmg
          by_cases hbig : 1048576 ≤ g.length
          · refine ⟨m, by simpa [hbig] using hm, fun k hk => ?_⟩
            obtain ⟨j, rfl, _⟩ := two k hk
            rw [prog3, hmg, add86 _ hg, if_pos hbig]
            simp [hbig]
          · refine ⟨mput T_Gate (a', b', ()) (2 * g.length + 2) m, (by dsimp only; rw [if_neg hbig]; exact map_add hm hf), fun k hk => ?_⟩
            obtain ⟨j, rfl, _⟩ := two k hk
            rw [prog3, hmg, add86 _ hg, if_neg hbig]
            have hne : ¬ (2 * (g.length : Int) + 2 = -1) := by omega
            dsimp only [Option.map_none, Option.isSome_none, cond_false, Option.bind_some]
            rw [decide_eq_false hne, if_neg hbig]
            rfl
end
section
variable {g : List D_Gate} {m : Mp}
theorem nt_i64 {l : Int} (h : -9223372036854775808 ≤ l) (h' : l ≤ 9223372036854775807) : -9223372036854775808 ≤ nt l ∧ nt l ≤ 9223372036854775807 := by
  unfold nt; split
  · omega
  · split <;> omega
theorem not89 (k : Nat) {l : Int} (h' : l ≤ 9223372036854775807) : f89 k l = some ((nt l, ()), ()) := by
  unfold f89
  rw [Bool.cond_decide]
  by_cases h0 : l < 0
  · rw [if_pos h0]; unfold nt; rw [if_pos h0]
  · rw [if_neg h0, ibits_xor1 (by omega) h', nt_pos (by omega)]
end
section
variable {g : List D_Gate} {m : Mp}
/-! ### kids of longer graphs -/
theorem kid_append {h : List D_Gate} {l : Int} (hl : l ≤ 2 * g.length + 1) : kid (g ++ h) l = kid g l := by
  unfold kid
  by_cases h2 : l < 2
  · rw [if_pos h2, if_pos h2]
  · rw [if_neg h2, if_neg h2, List.getElem?_append_left (by omega)]
theorem kid_take {i : Nat} {l : Int} (hi : i ≤ g.length) (hl : l ≤ 2 * i + 1) : kid (g.take i) l = kid g l := by
  have := kid_append (g := g.take i) (h := g.drop i) (l := l) (by rw [List.length_take]; omega)
  rw [List.take_append_drop] at this; exact this.symm
theorem plS_congr {h : List D_Gate} {a b : Int} (e : kid g b = kid h b) : plS g a b = plS h a b := by unfold plS; rw [e]
theorem tuS_congr {h : List D_Gate} {a b : Int} (e : kid g b = kid h b) : tuS g a b = tuS h a b := by unfold tuS; rw [e]
/-! ### what "and" makes -/
/-- A new node of x and y. -/
structure New (g : List D_Gate) (x y : Int) : Prop where
  lx : isL g x = true
  ly : isL g y = true
  lt : x < y
  two : 2 ≤ x
  ne : nt x ≠ y
  p1 : plS g x y = none
  p2 : plS g y x = none
  t1 : tuS g x y = none
  t2 : tuS g y x = none
  fn : fnd g (x, y, ()) = none
  len : g.length < 1048576
theorem stS_ret {a b r : Int} (ha : isL g a = true) (hb : isL g b = true) (h : stS g a b = .ret r) : isL g r = true := by
  have ha' := isL_iff.1 ha
  have hb' := isL_iff.1 hb
  have pl : ∀ a b r, isL g b = true → plS g a b = some r → isL g r = true := by
    intro a b r hb h
    unfold plS at h
    split at h
    · cases h
    · split at h
      · cases h
      · split at h
        · cases h; exact hb
        · split at h
          · cases h; rw [isL_iff]; omega
          · cases h
  have tu : ∀ a b r, isL g a = true → tuS g a b = some (.inl r) → isL g r = true := by
    intro a b r ha h
    unfold tuS at h
    split at h
    · cases h
    · split at h
      · cases h
      · split at h
        · cases h; exact ha
        · split at h
          · cases h
          · split at h <;> cases h
  unfold stS at h
  split at h
  · cases h; rw [isL_iff]; omega
  · split at h
    · cases h; exact hb
    · split at h
      · rename_i e; cases h; exact pl _ _ _ hb e
      · split at h
        · rename_i e; cases h; exact pl _ _ _ ha e
        · split at h
          · rename_i e; cases h; exact tu _ _ _ ha e
          · cases h
          · split at h
            · rename_i e; cases h; exact tu _ _ _ hb e
            · cases h
            · cases h
theorem stS_new {a b : Int} (ha : isL g a = true) (hb : isL g b = true) (hab : a ≤ b) (h : stS g a b = .new) : 2 ≤ a ∧ a < b ∧ nt a ≠ b ∧ plS g a b = none ∧ plS g b a = none ∧ tuS g a b = none ∧ tuS g b a = none := by
  have ha' := isL_iff.1 ha
  unfold stS at h
  split at h
  · cases h
  · rename_i c1
    split at h
    · cases h
    · rename_i c2
      split at h
      · cases h
      · rename_i e1
        split at h
        · cases h
        · rename_i e2
          split at h
          · cases h
          · cases h
          · rename_i e3
            split at h
            · cases h
            · cases h
            · rename_i e4
              have h1 : a ≠ 0 := fun e => c1 (.inl e)
              have h2 : a ≠ 1 := fun e => c2 (.inl e)
              have h3 : a ≠ b := fun e => c2 (.inr e)
              exact ⟨by omega, by omega, fun e => c1 (.inr e), e1, e2, e3, e4⟩
theorem stS_againL {a b x y : Int} (hv : Valid g) (ha : isL g a = true) (hb : isL g b = true) (h : stS g a b = .again x y) : isL g x = true ∧ isL g y = true := by
  have ha' := isL_iff.1 ha
  have hb' := isL_iff.1 hb
  obtain ⟨h1, h2, h3, h4⟩ := stS_again hv h
  refine ⟨by rcases h1 with rfl | rfl <;> assumption, isL_iff.2 (by omega)⟩
/-- What is told of "and" is a literal, or none if there is no room; at most one node is new. -/
theorem andS_spec : ∀ (n : Nat) (a b : Int), Valid g → (isL g a = true → isL g b = true → (a + b).toNat < n) → 0 < n →
    ((andS n g a b).1 = g ∧ (isL g (andS n g a b).2 = true ∨ (andS n g a b).2 = -1 ∧ (isL g a = true → isL g b = true → 1048576 ≤ g.length))) ∨ ∃ x y, New g x y ∧ (andS n g a b).1 = g ++ [(x, y, ())] ∧ (andS n g a b).2 = 2 * g.length + 2 := by
  intro n
  induction n with
  | zero => intro a b _ _ h; omega
  | succ n ih =>
    intro a b hv hn _
    rw [andS]
    cases ha : isL g a with
    | false => exact .inl ⟨rfl, .inr ⟨rfl, fun h => by cases h⟩⟩
    | true =>
      cases hb : isL g b with
      | false => exact .inl ⟨rfl, .inr ⟨rfl, fun _ h => by cases h⟩⟩
      | true =>
        have hn := hn ha hb
        obtain ⟨h1, h2⟩ := isL_mm ha hb
        have hle : min a b ≤ max a b := by omega
        have hsum : min a b + max a b = a + b := by omega
        generalize min a b = a' at h1 hle hsum
        generalize max a b = b' at h2 hle hsum
        simp only [Bool.and_self, if_true]
        cases hst : stS g a' b' with
        | ret r => exact .inl ⟨rfl, .inl (stS_ret h1 h2 hst)⟩
        | again x y =>
          obtain ⟨_, hy0, hlt, _⟩ := stS_again hv hst
          obtain ⟨k1, k2⟩ := stS_againL hv h1 h2 hst
          have hx0 := (isL_iff.1 k1).1
          rcases ih x y hv (fun _ _ => by omega) (by omega) with ⟨e1, e2⟩ | e
          · refine .inl ⟨e1, ?_⟩
            rcases e2 with e2 | ⟨e2, e3⟩
            · exact .inl e2
            · exact .inr ⟨e2, fun _ _ => e3 k1 k2⟩
          · exact .inr e
        | new =>
          obtain ⟨c1, c2, c3, c4, c5, c6, c7⟩ := stS_new h1 h2 hle hst
          dsimp only
          cases hf : fnd g (a', b', ()) with
          | some i =>
            refine .inl ⟨rfl, .inl ?_⟩
            have hi : i < g.length := by
              have := (List.findIdx?_eq_some_iff_getElem.1 hf).1; exact this
            rw [isL_iff]; dsimp only; omega
          | none =>
            dsimp only
            by_cases hbig : 1048576 ≤ g.length
            · rw [if_pos hbig]; exact .inl ⟨rfl, .inr ⟨rfl, fun _ _ => hbig⟩⟩
            · rw [if_neg hbig]; exact .inr ⟨a', b', ⟨h1, h2, c2, c1, c3, c4, c5, c6, c7, hf, by omega⟩, rfl, rfl⟩
theorem valid_new {x y : Int} (hv : Valid g) (h : New g x y) : Valid (g ++ [(x, y, ())]) := by
  intro i e he
  rcases Nat.lt_or_ge i g.length with hlt | hge
  · rw [List.getElem?_append_left hlt] at he; exact hv i e he
  · rw [List.getElem?_append_right hge] at he
    have h0 : i - g.length = 0 := by
      rcases Nat.eq_zero_or_pos (i - g.length) with q | q
      · exact q
      · rw [List.getElem?_eq_none (by simp; omega)] at he; cases he
    rw [h0] at he
    simp only [List.getElem?_cons_zero, Option.some.injEq] at he
    subst he
    have h1 := isL_iff.1 h.lx
    have h2 := isL_iff.1 h.ly
    right; dsimp only; omega
theorem valid_inp (hv : Valid g) : Valid (g ++ [inp]) := by
  intro i e he
  rcases Nat.lt_or_ge i g.length with hlt | hge
  · rw [List.getElem?_append_left hlt] at he; exact hv i e he
  · rw [List.getElem?_append_right hge] at he
    have h0 : i - g.length = 0 := by
      rcases Nat.eq_zero_or_pos (i - g.length) with q | q
      · exact q
      · rw [List.getElem?_eq_none (by simp; omega)] at he; cases he
    rw [h0] at he
    simp only [List.getElem?_cons_zero, Option.some.injEq] at he
    exact .inl he.symm
/-! ### with enough fuel -/
def And (g : List D_Gate) (a b : Int) : List D_Gate × Int := andS (4 * g.length + 4) g a b
def Or (g : List D_Gate) (a b : Int) : List D_Gate × Int := ((And g (nt a) (nt b)).1, nt (And g (nt a) (nt b)).2)
def Xor (g : List D_Gate) (a b : Int) : List D_Gate × Int := Or (And (And g a (nt b)).1 (nt a) b).1 (And g a (nt b)).2 (And (And g a (nt b)).1 (nt a) b).2
def Ite (g : List D_Gate) (c a b : Int) : List D_Gate × Int := Or (And (And g c a).1 (nt c) b).1 (And g c a).2 (And (And g c a).1 (nt c) b).2
theorem enough {a b : Int} (ha : isL g a = true) (hb : isL g b = true) : (a + b).toNat < 4 * g.length + 4 := by
  have := isL_iff.1 ha; have := isL_iff.1 hb; omega
theorem And_spec (a b : Int) (hv : Valid g) : ((And g a b).1 = g ∧ (isL g (And g a b).2 = true ∨ (And g a b).2 = -1 ∧ (isL g a = true → isL g b = true → 1048576 ≤ g.length))) ∨ ∃ x y, New g x y ∧ (And g a b).1 = g ++ [(x, y, ())] ∧ (And g a b).2 = 2 * g.length + 2 :=
  andS_spec _ a b hv enough (by omega)
/-- An order that is kept by all that is made. -/
structure Keeps (J : List D_Gate → Prop) : Prop where
  inp : ∀ g, J g → g.length < 1048576 → J (g ++ [inp])
  new : ∀ g x y, J g → New g x y → J (g ++ [(x, y, ())])
  valid : ∀ g, J g → Valid g
theorem keeps_valid : Keeps Valid := ⟨fun g h _ => valid_inp h, fun g x y h hn => valid_new h hn, fun g h => h⟩
variable {J : List D_Gate → Prop} (hJ : Keeps J)
include hJ
theorem And_keeps (a b : Int) (h : J g) : J (And g a b).1 ∧ g.length ≤ (And g a b).1.length ∧ (And g a b).1.length ≤ g.length + 1 ∧ -1 ≤ (And g a b).2 ∧ (And g a b).2 ≤ 2 * (And g a b).1.length + 1 := by
  rcases And_spec a b (hJ.valid g h) with ⟨e, h2⟩ | ⟨x, y, hn, e1, e2⟩
  · rw [e]
    refine ⟨h, Nat.le_refl _, by omega, ?_⟩
    rcases h2 with h2 | ⟨h2, _⟩
    · have := isL_iff.1 h2; omega
    · omega
  · rw [e1, e2]
    refine ⟨hJ.new g x y h hn, by simp, by simp, by omega, by simp; omega⟩
omit hJ in
theorem nt_small {r : Int} {n : Nat} (h : -1 ≤ r ∧ r ≤ 2 * n + 1) : -1 ≤ nt r ∧ nt r ≤ 2 * n + 1 := by
  unfold nt; split
  · omega
  · split <;> omega
theorem Or_keeps (a b : Int) (h : J g) : J (Or g a b).1 ∧ g.length ≤ (Or g a b).1.length ∧ (Or g a b).1.length ≤ g.length + 1 ∧ -1 ≤ (Or g a b).2 ∧ (Or g a b).2 ≤ 2 * (Or g a b).1.length + 1 := by
  obtain ⟨h1, h2, h3, h4, h5⟩ := And_keeps hJ (nt a) (nt b) h
  obtain ⟨h6, h7⟩ := nt_small ⟨h4, h5⟩
  exact ⟨h1, h2, h3, h6, h7⟩
theorem Xor_keeps (a b : Int) (h : J g) : J (Xor g a b).1 ∧ g.length ≤ (Xor g a b).1.length ∧ (Xor g a b).1.length ≤ g.length + 3 ∧ -1 ≤ (Xor g a b).2 ∧ (Xor g a b).2 ≤ 2 * (Xor g a b).1.length + 1 := by
  obtain ⟨h1, h2, h3, _⟩ := And_keeps hJ a (nt b) h
  obtain ⟨k1, k2, k3, _⟩ := And_keeps hJ (nt a) b h1
  obtain ⟨j1, j2, j3, j4, j5⟩ := Or_keeps hJ (And g a (nt b)).2 (And (And g a (nt b)).1 (nt a) b).2 k1
  exact ⟨j1, by unfold Xor; omega, by unfold Xor; omega, j4, j5⟩
theorem Ite_keeps (c a b : Int) (h : J g) : J (Ite g c a b).1 ∧ g.length ≤ (Ite g c a b).1.length ∧ (Ite g c a b).1.length ≤ g.length + 3 ∧ -1 ≤ (Ite g c a b).2 ∧ (Ite g c a b).2 ≤ 2 * (Ite g c a b).1.length + 1 := by
  obtain ⟨h1, h2, h3, _⟩ := And_keeps hJ c a h
  obtain ⟨k1, k2, k3, _⟩ := And_keeps hJ (nt c) b h1
  obtain ⟨j1, j2, j3, j4, j5⟩ := Or_keeps hJ (And g c a).2 (And (And g c a).1 (nt c) b).2 k1
  exact ⟨j1, by unfold Ite; omega, by unfold Ite; omega, j4, j5⟩
omit hJ
/-! ### the program, the reference -/
def I64 (a : Int) : Prop := -9223372036854775808 ≤ a ∧ a ≤ 9223372036854775807
theorem I64.nt {a : Int} (h : I64 a) : I64 (nt a) := nt_i64 h.1 h.2
theorem i64_small {r : Int} {n : Nat} (h : -1 ≤ r ∧ r ≤ 2 * n + 1) (hn : n ≤ 1048577) : I64 r := ⟨by omega, by omega⟩
/-- Both the program and the reference make that, and the map stays right. -/
abbrev ProgE (f : Nat → Option R19) (p : List D_Gate × Int) : Prop := ∃ m', MapOk p.1 m' ∧ E fun k => f k = some ((p.2, ()), ((p.1, (), ()), m', ()))
theorem and19E (hv : Valid g) (hm : MapOk g m) (hg : g.length ≤ 1048576) (a b : Int) : ProgE (fun k => f19 k a b g m) (And g a b) := by
  obtain ⟨m', h1, h2⟩ := and19 (4 * g.length + 4) g m a b hv hm hg enough (by omega)
  exact ⟨m', h1, ⟨_, h2⟩⟩
theorem or26E (hv : Valid g) (hm : MapOk g m) (hg : g.length ≤ 1048576) {a b : Int} (ha : I64 a) (hb : I64 b) : ProgE (fun k => f26 k a b g m) (Or g a b) := by
  obtain ⟨m', h1, h2⟩ := and19E hv hm hg (nt a) (nt b)
  obtain ⟨_, _, _, h3⟩ := And_keeps keeps_valid (nt a) (nt b) hv
  refine ⟨m', h1, h2.mono fun k hk => ?_⟩
  dsimp only at *
  unfold f26
  rw [not89 k ha.2, not89 k hb.2]
  simp only [Option.bind_some]
  rw [hk, Option.bind_some, not89 k (l := (And g (nt a) (nt b)).2) (by omega)]
  rfl
theorem xor27E (hv : Valid g) (hm : MapOk g m) (hg : g.length ≤ 1048574) {a b : Int} (ha : I64 a) (hb : I64 b) : ProgE (fun k => f27 k a b g m) (Xor g a b) := by
  obtain ⟨m1, h1, h2⟩ := and19E hv hm (by omega) a (nt b)
  obtain ⟨k1, k2, k3, k4⟩ := And_keeps keeps_valid a (nt b) hv
  obtain ⟨m2, h3, h4⟩ := and19E k1 h1 (by omega) (nt a) b
  obtain ⟨j1, j2, j3, j4⟩ := And_keeps keeps_valid (nt a) b k1
  obtain ⟨m3, h5, h6⟩ := or26E j1 h3 (by omega) (i64_small k4 (by omega)) (i64_small j4 (by omega))
  refine ⟨m3, h5, h2.mono3 h4 h6 fun k e1 e2 e3 => ?_⟩
  dsimp only at *
  unfold f27
  rw [not89 k hb.2]
  simp only [Option.bind_some]
  rw [e1]
  simp only [Option.bind_some]
  rw [not89 k ha.2]
  simp only [Option.bind_some]
  rw [e2]
  simp only [Option.bind_some]
  rw [e3]
  rfl
theorem ite28E (hv : Valid g) (hm : MapOk g m) (hg : g.length ≤ 1048574) {c a b : Int} (hc : I64 c) (ha : I64 a) (hb : I64 b) : ProgE (fun k => f28 k c a b g m) (Ite g c a b) := by
  obtain ⟨m1, h1, h2⟩ := and19E hv hm (by omega) c a
  obtain ⟨k1, k2, k3, k4⟩ := And_keeps keeps_valid c a hv
  obtain ⟨m2, h3, h4⟩ := and19E k1 h1 (by omega) (nt c) b
  obtain ⟨j1, j2, j3, j4⟩ := And_keeps keeps_valid (nt c) b k1
  obtain ⟨m3, h5, h6⟩ := or26E j1 h3 (by omega) (i64_small k4 (by omega)) (i64_small j4 (by omega))
  refine ⟨m3, h5, h2.mono3 h4 h6 fun k e1 e2 e3 => ?_⟩
  dsimp only at *
  unfold f28
  rw [e1]
  simp only [Option.bind_some]
  rw [not89 k hc.2]
  simp only [Option.bind_some]
  rw [e2]
  simp only [Option.bind_some]
  rw [e3]
  rfl
/-! ### acts -/
theorem in25 (k : Nat) (hg : g.length < 1048576) : f25 k g m = some (((2 * g.length + 2 : Int), ()), ((g ++ [inp], (), ()), m, ())) := by
  unfold f25
  have hf : f88 k () = some ((inp, ()), ()) := rfl
  rw [hf]
  simp only [Option.bind_some]
  rw [add86 k (by omega), if_neg (by omega)]
  rfl
end
section
variable {g : List D_Gate} {m : Mp} {ins : List Bool}
def value (v : List Bool) (l : Int) : Bool := if l < 0 ∨ (v.length : Int) < l / 2 then false else if l < 2 then decide (l = 1) else !(v.getD (l / 2 - 1).toNat false == decide (l % 2 = 1))
/-- Of each node whether it is true. -/
def evL (ins : List Bool) : List D_Gate → List Bool → Nat → List Bool
  | [], v, _ => v
  | e :: r, v, q => if e = inp then evL ins r (v ++ [ins.getD q false]) (q + 1) else evL ins r (v ++ [value v e.1 && value v e.2.1]) q
def cnt (g : List D_Gate) : Nat := (g.filter fun e => decide (e = inp)).length
def Ev (g : List D_Gate) (ins : List Bool) : List Bool := evL ins g [] 0
def val (ins : List Bool) (g : List D_Gate) (l : Int) : Bool := value (Ev g ins) l
theorem evL_append : ∀ (r s : List D_Gate) (v : List Bool) (q : Nat), evL ins (r ++ s) v q = evL ins s (evL ins r v q) (q + cnt r)
  | [], s, v, q => by simp [evL, cnt]
  | e :: r, s, v, q => by
    by_cases h : e = inp
    · have hc : cnt (e :: r) = cnt r + 1 := by simp [cnt, h]
      rw [List.cons_append, evL, if_pos h, evL_append r s, evL, if_pos h, hc]
      congr 1; omega
    · have hc : cnt (e :: r) = cnt r := by simp [cnt, h]
      rw [List.cons_append, evL, if_neg h, evL_append r s, evL, if_neg h, hc]
theorem evL_len : ∀ (r : List D_Gate) (v : List Bool) (q : Nat), (evL ins r v q).length = v.length + r.length
  | [], v, q => by simp [evL]
  | e :: r, v, q => by
    rw [evL]; split
    · rw [evL_len r]; simp; omega
    · rw [evL_len r]; simp; omega
theorem evL_pre : ∀ (r : List D_Gate) (v : List Bool) (q : Nat), ∃ t, evL ins r v q = v ++ t
  | [], v, q => ⟨[], by simp [evL]⟩
  | e :: r, v, q => by
    rw [evL]; split
    · obtain ⟨t, h⟩ := evL_pre r (v ++ [ins.getD q false]) (q + 1); exact ⟨_, by rw [h, List.append_assoc]⟩
    · obtain ⟨t, h⟩ := evL_pre r (v ++ [value v e.1 && value v e.2.1]) q; exact ⟨_, by rw [h, List.append_assoc]⟩
theorem Ev_len : (Ev g ins).length = g.length := by unfold Ev; rw [evL_len]; simp
theorem value_pre {v t : List Bool} {l : Int} (h : l ≤ 2 * v.length + 1) : value (v ++ t) l = value v l := by
  unfold value
  by_cases h0 : l < 0
  · rw [if_pos (.inl h0), if_pos (.inl h0)]
  · have c1 : ¬ (l < 0 ∨ (((v ++ t).length : Nat) : Int) < l / 2) := by rw [List.length_append]; omega
    have c2 : ¬ (l < 0 ∨ (v.length : Int) < l / 2) := by omega
    rw [if_neg c1, if_neg c2]
    by_cases h2 : l < 2
    · rw [if_pos h2, if_pos h2]
    · rw [if_neg h2, if_neg h2, List.getD_eq_getElem?_getD, List.getD_eq_getElem?_getD, List.getElem?_append_left (by omega)]
theorem val_ext (h : List D_Gate) {l : Int} (hl : l ≤ 2 * g.length + 1) : val ins (g ++ h) l = val ins g l := by
  unfold val Ev
  rw [evL_append]
  obtain ⟨t, ht⟩ := evL_pre (ins := ins) h (evL ins g [] 0) (0 + cnt g)
  rw [ht, value_pre]
  have := Ev_len (g := g) (ins := ins)
  unfold Ev at this; omega
theorem Ev_snoc (e : D_Gate) : Ev (g ++ [e]) ins = Ev g ins ++ [if e = inp then ins.getD (cnt g) false else val ins g e.1 && val ins g e.2.1] := by
  unfold Ev val
  rw [evL_append, evL, evL, evL]
  split <;> simp [Ev]
theorem value_lit {v : List Bool} {l : Int} (h : 2 ≤ l) (hl : l ≤ 2 * v.length + 1) : value v l = !(v.getD (l / 2 - 1).toNat false == decide (l % 2 = 1)) := by
  unfold value; rw [if_neg (by omega), if_neg (by omega)]
theorem val_at {i : Nat} {e : D_Gate} (hi : g[i]? = some e) : (Ev g ins).getD i false = if e = inp then ins.getD (cnt (g.take i)) false else val ins (g.take i) e.1 && val ins (g.take i) e.2.1 := by
  have hlt := getElem?_lt hi
  have hge : g[i] = e := by rw [List.getElem?_eq_getElem hlt] at hi; simpa using hi
  have hg : g = (g.take i ++ [e]) ++ g.drop (i + 1) := by
    rw [List.append_assoc, ← hge]
    have := List.take_append_drop i g
    rw [List.drop_eq_getElem_cons hlt] at this
    simp
  have hlen : (g.take i).length = i := by rw [List.length_take]; omega
  have : Ev g ins = Ev ((g.take i ++ [e]) ++ g.drop (i + 1)) ins := by rw [← hg]
  rw [this]
  unfold Ev
  rw [evL_append]
  obtain ⟨t, ht⟩ := evL_pre (ins := ins) (g.drop (i + 1)) (evL ins (g.take i ++ [e]) [] 0) (0 + cnt (g.take i ++ [e]))
  rw [ht]
  have h2 := Ev_snoc (g := g.take i) (ins := ins) e
  have h3 := Ev_len (g := g.take i) (ins := ins)
  unfold Ev at h2 h3
  rw [h2, List.getD_eq_getElem?_getD, List.getElem?_append_left (by simp; omega), List.getElem?_append_right (by omega), h3, hlen]
  simp
theorem val_nt {l : Int} (h : 0 ≤ l) (hl : l ≤ 2 * g.length + 1) : val ins g (nt l) = !val ins g l := by
  have hE := Ev_len (g := g) (ins := ins)
  rw [nt_pos h]
  unfold val
  by_cases h2 : l < 2
  · unfold value
    rw [hE]
    rcases (by omega : l = 0 ∨ l = 1) with rfl | rfl
    · have e1 : ¬ ((0 : Int) + 1 < 0 ∨ (g.length : Int) < (0 + 1) / 2) := by omega
      have e2 : ¬ ((0 : Int) < 0 ∨ (g.length : Int) < 0 / 2) := by omega
      simp [e1, e2]
    · have e2 : ¬ ((1 : Int) < 0 ∨ (g.length : Int) < 1 / 2) := by omega
      have e1 : ¬ ((1 : Int) - 1 < 0 ∨ (g.length : Int) < (1 - 1) / 2) := by omega
      simp [e1, e2]
  · split
    · rename_i hm
      rw [value_lit (by omega) (by omega), value_lit (by omega) (by omega)]
      have e1 : (l + 1) / 2 - 1 = l / 2 - 1 := by omega
      have e2 : (l + 1) % 2 = 1 := by omega
      have e3 : ¬ l % 2 = 1 := by omega
      rw [e1]
      simp [e2, e3]
    · rename_i hm
      rw [value_lit (by omega) (by omega), value_lit (by omega) (by omega)]
      have e1 : (l - 1) / 2 - 1 = l / 2 - 1 := by omega
      have e2 : ¬ (l - 1) % 2 = 1 := by omega
      have e3 : l % 2 = 1 := by omega
      rw [e1]
      simp [e2, e3]
theorem val_kid (hv : Valid g) {l c d : Int} (hl : isL g l = true) (h : kid g l = some (c, d)) : val ins g l = !((val ins g c && val ins g d) == decide (l % 2 = 1)) := by
  obtain ⟨i, hi, hgi, hc0, hc1, hd0, hd1⟩ := kid_valid hv h
  have hlt := getElem?_lt hgi
  have hl' := isL_iff.1 hl
  have hE := Ev_len (g := g) (ins := ins)
  have hlen : (g.take i).length = i := by rw [List.length_take]; omega
  unfold val
  rw [value_lit (by omega) (by omega), show (l / 2 - 1).toNat = i by omega, val_at hgi]
  have hne : ¬ ((c, d, ()) : D_Gate) = inp := by
    intro e; have : c = -1 := congrArg (fun x : D_Gate => x.1) e; omega
  rw [if_neg hne]
  dsimp only
  have e1 := val_ext (g := g.take i) (ins := ins) (g.drop i) (l := c) (by omega)
  have e2 := val_ext (g := g.take i) (ins := ins) (g.drop i) (l := d) (by omega)
  rw [List.take_append_drop] at e1 e2
  rw [← e1, ← e2]
  rfl
theorem val_zero : val ins g 0 = false := by
  unfold val value; rw [if_neg (by omega)]; rfl
theorem val_one : val ins g 1 = true := by
  unfold val value; rw [if_neg (by omega)]; rfl
/-! ### what "and" means -/
theorem plS_val (hv : Valid g) {a b r : Int} (ha : isL g a = true) (hb : isL g b = true) (h : plS g a b = some r) : val ins g r = (val ins g a && val ins g b) := by
  have ha' := isL_iff.1 ha
  unfold plS at h
  cases hk : kid g b with
  | none => rw [hk] at h; cases h
  | some p =>
    obtain ⟨c, d⟩ := p
    rw [hk] at h
    have hb2 := val_kid (ins := ins) hv hb hk
    dsimp only at h
    split at h
    · cases h
    · rename_i hodd
      rw [decide_eq_false hodd] at hb2
      split at h
      · rename_i he
        cases h
        rcases he with rfl | rfl
        · rw [hb2]; cases val ins g a <;> cases val ins g d <;> rfl
        · rw [hb2]; cases val ins g a <;> cases val ins g c <;> rfl
      · split at h
        · rename_i he
          cases h
          have hn := val_nt (ins := ins) ha'.1 ha'.2
          rw [val_zero, hb2]
          rcases he with he | he
          · rw [he] at hn; rw [hn]; cases val ins g a <;> cases val ins g d <;> rfl
          · rw [he] at hn; rw [hn]; cases val ins g a <;> cases val ins g c <;> rfl
        · cases h
theorem tuS_val (hv : Valid g) {a b : Int} {p : Int ⊕ Int} (ha : isL g a = true) (hb : isL g b = true) (h : tuS g a b = some p) :
    (∀ r, p = .inl r → val ins g r = (val ins g a && val ins g b)) ∧ (∀ y, p = .inr y → (val ins g a && val ins g y) = (val ins g a && val ins g b)) := by
  have ha' := isL_iff.1 ha
  unfold tuS at h
  cases hk : kid g b with
  | none => rw [hk] at h; cases h
  | some q =>
    obtain ⟨c, d⟩ := q
    obtain ⟨i, hi, hgi, hc0, hc1, hd0, hd1⟩ := kid_valid hv hk
    have hil := getElem?_lt hgi
    rw [hk] at h
    have hb2 := val_kid (ins := ins) hv hb hk
    dsimp only at h
    split at h
    · cases h
    · rename_i hodd
      rw [decide_eq_true (by omega : b % 2 = 1)] at hb2
      split at h
      · rename_i he
        cases h
        refine ⟨fun r hr => ?_, fun y hy => by cases hy⟩
        cases hr
        have hn := val_nt (ins := ins) ha'.1 ha'.2
        rw [hb2]
        rcases he with he | he
        · rw [he] at hn; rw [hn]; cases val ins g a <;> cases val ins g d <;> rfl
        · rw [he] at hn; rw [hn]; cases val ins g a <;> cases val ins g c <;> rfl
      · split at h
        · rename_i he
          cases h
          refine ⟨fun r hr => (by cases hr), fun y hy => ?_⟩
          cases hy
          rw [hb2, val_nt hd0 (by omega), ← he]
          cases val ins g a <;> cases val ins g d <;> rfl
        · split at h
          · rename_i he
            cases h
            refine ⟨fun r hr => (by cases hr), fun y hy => ?_⟩
            cases hy
            rw [hb2, val_nt hc0 (by omega), ← he]
            cases val ins g a <;> cases val ins g c <;> rfl
          · cases h
theorem stS_val (hv : Valid g) {a b : Int} (ha : isL g a = true) (hb : isL g b = true) : (∀ r, stS g a b = .ret r → val ins g r = (val ins g a && val ins g b)) ∧ (∀ x y, stS g a b = .again x y → (val ins g x && val ins g y) = (val ins g a && val ins g b)) := by
  have ha' := isL_iff.1 ha
  unfold stS
  split
  · rename_i h
    refine ⟨fun r hr => ?_, fun x y hr => by cases hr⟩
    cases hr
    rw [val_zero]
    rcases h with h | h
    · rw [h, val_zero]; rfl
    · rw [← h, val_nt ha'.1 ha'.2]; cases val ins g a <;> rfl
  · split
    · rename_i h
      refine ⟨fun r hr => ?_, fun x y hr => by cases hr⟩
      cases hr
      rcases h with h | h
      · rw [h, val_one]; rfl
      · rw [h]; cases val ins g b <;> rfl
    · split
      · rename_i e
        refine ⟨fun r hr => ?_, fun x y hr => by cases hr⟩
        cases hr; exact plS_val hv ha hb e
      · split
        · rename_i e
          refine ⟨fun r hr => ?_, fun x y hr => by cases hr⟩
          cases hr; rw [plS_val hv hb ha e, Bool.and_comm]
        · split
          · rename_i e
            refine ⟨fun r hr => ?_, fun x y hr => by cases hr⟩
            cases hr; exact (tuS_val hv ha hb e).1 _ rfl
          · rename_i e
            refine ⟨fun r hr => (by cases hr), fun x y hr => ?_⟩
            cases hr; exact (tuS_val hv ha hb e).2 _ rfl
          · split
            · rename_i e
              refine ⟨fun r hr => ?_, fun x y hr => by cases hr⟩
              cases hr; rw [(tuS_val hv hb ha e).1 _ rfl, Bool.and_comm]
            · rename_i e
              refine ⟨fun r hr => (by cases hr), fun x y hr => ?_⟩
              cases hr; rw [(tuS_val hv hb ha e).2 _ rfl, Bool.and_comm]
            · exact ⟨fun r hr => (by cases hr), fun x y hr => by cases hr⟩
/-- The graph is longer, and what is told means that. -/
structure Told (ins : List Bool) (g : List D_Gate) (p : List D_Gate × Int) (w : Bool) : Prop where
  ext : ∃ h, p.1 = g ++ h
  ok : Valid p.1
  lit : isL p.1 p.2 = true
  val : val ins p.1 p.2 = w
theorem mm_val {a b : Int} : (val ins g (min a b) && val ins g (max a b)) = (val ins g a && val ins g b) := by
  rcases Int.le_total a b with h | h
  · rw [Int.min_eq_left h, Int.max_eq_right h]
  · rw [Int.min_eq_right h, Int.max_eq_left h, Bool.and_comm]
theorem andS_told : ∀ (n : Nat) (a b : Int), Valid g → isL g a = true → isL g b = true → (a + b).toNat < n → g.length < 1048576 → Told ins g (andS n g a b) (val ins g a && val ins g b) := by
  intro n
  induction n with
  | zero => intro a b _ _ _ h; omega
  | succ n ih =>
    intro a b hv ha hb hn hg
    obtain ⟨h1, h2⟩ := isL_mm ha hb
    have hle : min a b ≤ max a b := by omega
    have hsum : min a b + max a b = a + b := by omega
    rw [andS, ha, hb, ← mm_val]
    generalize min a b = a' at h1 hle hsum
    generalize max a b = b' at h2 hle hsum
    simp only [Bool.and_self, if_true]
    have hval := stS_val (ins := ins) hv h1 h2
    cases hst : stS g a' b' with
    | ret r => exact ⟨⟨[], by simp⟩, hv, stS_ret h1 h2 hst, hval.1 r hst⟩
    | again x y =>
      obtain ⟨_, hy0, hlt, _⟩ := stS_again hv hst
      obtain ⟨k1, k2⟩ := stS_againL hv h1 h2 hst
      have hx0 := (isL_iff.1 k1).1
      have := ih x y hv k1 k2 (by omega) hg
      rw [hval.2 x y hst] at this
      exact this
    | new =>
      obtain ⟨c1, c2, c3, c4, c5, c6, c7⟩ := stS_new h1 h2 hle hst
      dsimp only
      cases hf : fnd g (a', b', ()) with
      | some i =>
        obtain ⟨hi, hp, _⟩ := List.findIdx?_eq_some_iff_getElem.1 hf
        have hgi : g[i]? = some (a', b', ()) := by rw [List.getElem?_eq_getElem hi]; simpa using hp
        have hl : isL g (2 * (i : Int) + 2) = true := isL_iff.2 (by omega)
        have hk : kid g (2 * (i : Int) + 2) = some (a', b') := by
          unfold kid
          rw [if_neg (by omega), show ((2 * (i : Int) + 2) / 2 - 1).toNat = i by omega, hgi]
          simp only [Option.bind_some]
          rw [if_neg (by omega)]
        refine ⟨⟨[], by simp⟩, hv, hl, ?_⟩
        dsimp only
        rw [val_kid hv hl hk, decide_eq_false (by omega)]
        cases (val ins g a' && val ins g b') <;> rfl
      | none =>
        dsimp only
        rw [if_neg (by omega)]
        have hnew : New g a' b' := ⟨h1, h2, c2, c1, c3, c4, c5, c6, c7, hf, hg⟩
        have hv2 := valid_new hv hnew
        have hl : isL (g ++ [(a', b', ())]) (2 * (g.length : Int) + 2) = true := isL_iff.2 (by simp; omega)
        have hgi : (g ++ [(a', b', ())])[g.length]? = some (a', b', ()) := by simp
        have hk : kid (g ++ [(a', b', ())]) (2 * (g.length : Int) + 2) = some (a', b') := by
          unfold kid
          rw [if_neg (by omega), show ((2 * (g.length : Int) + 2) / 2 - 1).toNat = g.length by omega, hgi]
          simp only [Option.bind_some]
          rw [if_neg (by omega)]
        refine ⟨⟨_, rfl⟩, hv2, hl, ?_⟩
        dsimp only
        have l1 := isL_iff.1 h1
        have l2 := isL_iff.1 h2
        rw [val_kid hv2 hl hk, decide_eq_false (by omega), val_ext _ l1.2, val_ext _ l2.2]
        cases (val ins g a' && val ins g b') <;> rfl
theorem And_told (hv : Valid g) {a b : Int} (ha : isL g a = true) (hb : isL g b = true) (hg : g.length < 1048576) : Told ins g (And g a b) (val ins g a && val ins g b) := andS_told _ a b hv ha hb (enough ha hb) hg
theorem isL_nt {l : Int} (h : isL g l = true) : isL g (nt l) = true := by
  have h' := isL_iff.1 h
  have := nt_lt (i := g.length) h'.1 h'.2
  exact isL_iff.2 this
theorem isL_ext {h : List D_Gate} {l : Int} (hl : isL g l = true) : isL (g ++ h) l = true := by
  have h' := isL_iff.1 hl
  exact isL_iff.2 ⟨h'.1, by simp; omega⟩
theorem Told.keep {p : List D_Gate × Int} {w : Bool} (h : Told ins g p w) {l : Int} (hl : isL g l = true) : isL p.1 l = true ∧ Aig.val ins p.1 l = Aig.val ins g l := by
  obtain ⟨e, he⟩ := h.ext
  rw [he]
  exact ⟨isL_ext hl, val_ext e (isL_iff.1 hl).2⟩
theorem Told.trans {p q : List D_Gate × Int} {w w' : Bool} (h : Told ins g p w) (k : Told ins p.1 q w') : Told ins g q w' := by
  obtain ⟨e, he⟩ := h.ext
  obtain ⟨e', he'⟩ := k.ext
  exact ⟨⟨e ++ e', by rw [he', he, List.append_assoc]⟩, k.ok, k.lit, k.val⟩
theorem vnt {l : Int} (h : isL g l = true) : val ins g (nt l) = !val ins g l := val_nt (isL_iff.1 h).1 (isL_iff.1 h).2
theorem Or_told (hv : Valid g) {a b : Int} (ha : isL g a = true) (hb : isL g b = true) (hg : g.length < 1048576) : Told ins g (Or g a b) (val ins g a || val ins g b) := by
  have h := And_told (ins := ins) hv (isL_nt ha) (isL_nt hb) hg
  refine ⟨h.ext, h.ok, isL_nt h.lit, ?_⟩
  show val ins (And g (nt a) (nt b)).1 (nt (And g (nt a) (nt b)).2) = _
  rw [vnt h.lit, h.val, vnt ha, vnt hb]
  cases val ins g a <;> cases val ins g b <;> rfl
theorem Told.len {p : List D_Gate × Int} {w : Bool} (h : Told ins g p w) : g.length ≤ p.1.length := by
  obtain ⟨e, he⟩ := h.ext
  rw [he]; simp
theorem And_len (hv : Valid g) (a b : Int) : (And g a b).1.length ≤ g.length + 1 := (And_keeps keeps_valid a b hv).2.2.1
theorem Xor_told (hv : Valid g) {a b : Int} (ha : isL g a = true) (hb : isL g b = true) (hg : g.length < 1048574) : Told ins g (Xor g a b) (!(val ins g a == val ins g b)) := by
  have h1 := And_told (ins := ins) hv ha (isL_nt hb) (by omega)
  have l1 := And_len hv a (nt b)
  have a1 := h1.keep (isL_nt ha)
  have b1 := h1.keep hb
  have h2 := And_told (ins := ins) h1.ok a1.1 b1.1 (by omega)
  have l2 := And_len h1.ok (nt a) b
  have p2 := h2.keep h1.lit
  have h3 := Or_told (ins := ins) h2.ok p2.1 h2.lit (by omega)
  have h4 := h1.trans (h2.trans h3)
  refine ⟨h4.ext, h4.ok, h4.lit, ?_⟩
  have e : val ins (Xor g a b).1 (Xor g a b).2 = _ := h3.val
  rw [e, p2.2, h1.val, h2.val, a1.2, b1.2, vnt ha, vnt hb]
  cases val ins g a <;> cases val ins g b <;> rfl
theorem Ite_told (hv : Valid g) {c a b : Int} (hc : isL g c = true) (ha : isL g a = true) (hb : isL g b = true) (hg : g.length < 1048574) : Told ins g (Ite g c a b) (cond (val ins g c) (val ins g a) (val ins g b)) := by
  have h1 := And_told (ins := ins) hv hc ha (by omega)
  have l1 := And_len hv c a
  have a1 := h1.keep (isL_nt hc)
  have b1 := h1.keep hb
  have h2 := And_told (ins := ins) h1.ok a1.1 b1.1 (by omega)
  have l2 := And_len h1.ok (nt c) b
  have p2 := h2.keep h1.lit
  have h3 := Or_told (ins := ins) h2.ok p2.1 h2.lit (by omega)
  have h4 := h1.trans (h2.trans h3)
  refine ⟨h4.ext, h4.ok, h4.lit, ?_⟩
  have e : val ins (Ite g c a b).1 (Ite g c a b).2 = _ := h3.val
  rw [e, p2.2, h1.val, h2.val, a1.2, b1.2, vnt hc]
  cases val ins g a <;> cases val ins g b <;> cases val ins g c <;> rfl
def AllS (g : List D_Gate) : List Int → Int → List D_Gate × Int
  | [], o => (g, o)
  | x :: l, o => AllS (And g o x).1 l (And g o x).2
theorem All_told : ∀ (l : List Int) (g : List D_Gate) (o : Int), Valid g → isL g o = true → (∀ x ∈ l, isL g x = true) → g.length + l.length < 1048576 → Told ins g (AllS g l o) (val ins g o && l.all (val ins g)) := by
  intro l
  induction l with
  | nil => intro g o hv ho _ _; exact ⟨⟨[], by simp [AllS]⟩, hv, ho, by simp [AllS]⟩
  | cons x l ih =>
    intro g o hv ho hl hg
    have hx := hl x (List.mem_cons_self ..)
    have h1 := And_told (ins := ins) hv ho hx (by omega)
    have l1 := And_len hv o x
    have hl2 : ∀ y ∈ l, isL (And g o x).1 y = true := fun y hy => (h1.keep (hl y (List.mem_cons_of_mem _ hy))).1
    have h2 := ih (And g o x).1 (And g o x).2 h1.ok h1.lit hl2 (by simp at hg; omega)
    have h3 := h1.trans h2
    refine ⟨h3.ext, h3.ok, h3.lit, ?_⟩
    have e : val ins (AllS g (x :: l) o).1 (AllS g (x :: l) o).2 = _ := h2.val
    rw [e, h1.val, List.all_cons, Bool.and_assoc]
    congr 2
    have : ∀ y ∈ l, val ins (And g o x).1 y = val ins g y := fun y hy => (h1.keep (hl y (List.mem_cons_of_mem _ hy))).2
    clear ih h2 h3 e hl2 hl hg
    induction l with
    | nil => rfl
    | cons y l ih2 =>
      rw [List.all_cons, List.all_cons, this y (List.mem_cons_self ..), ih2 fun z hz => this z (List.mem_cons_of_mem _ hz)]
end
section
variable {g : List D_Gate} {m : Mp} {ins : List Bool}
theorem value34 (k : Nat) {v : List Bool} {l : Int} (h : I64 l) : f34 k v l = some ((value v l, ()), ()) := by
  unfold f34 value
  rw [Bool.cond_decide]
  by_cases h0 : l < 0
  · rw [if_pos h0, if_pos (.inl h0)]
  · rw [if_neg h0, tdiv_pos (by omega), w_id (n := l / 2) (by have := h.2; omega) (by have := h.2; omega), Bool.cond_decide]
    by_cases h1 : (v.length : Int) < l / 2
    · rw [if_pos (show l / 2 > (v.length : Int) from h1), if_pos (.inr h1)]
    · rw [if_neg (show ¬ l / 2 > (v.length : Int) from h1), if_neg (by simp [h0, h1]), Bool.cond_decide]
      by_cases h2 : l < 2
      · rw [if_pos h2, if_pos h2, beq_int]
      · rw [if_neg h2, if_neg h2, w_id (by have := h.2; omega) (by have := h.2; omega), mod2 (by omega), beq_int]
        have hx : v[(l / 2 - 1).toNat]? = some (v.getD (l / 2 - 1).toNat false) := by
          rw [List.getD_eq_getElem?_getD, List.getElem?_eq_getElem (by omega)]; rfl
        rw [ix_get (by omega) hx]
/-- Are the nodes in order? -/
theorem check_loop (k : Nat) (hv : Valid g) (hg : g.length ≤ 1048576) : ∀ (d i : Nat), g.length - i = d → ∀ j, d < j → l33_58 k j g g.length i = some (.inl ((), ())) := by
  intro d
  induction d with
  | zero =>
    intro i hi j hj
    obtain ⟨j, rfl, _⟩ := succ_of (n := 0) (by omega : 0 + 1 ≤ j)
    show b33_58 k (l33_58 k j) g g.length i = _
    unfold b33_58
    rw [decide_eq_false (by omega : ¬ (i : Int) < g.length)]
    rfl
  | succ d ih =>
    intro i hi j hj
    obtain ⟨j, rfl, hj2⟩ := succ_of (by omega : d + 1 + 1 ≤ j)
    show b33_58 k (l33_58 k j) g g.length i = _
    have hlt : i < g.length := by omega
    have hx : g[i]? = some g[i] := List.getElem?_eq_getElem hlt
    have hw : w64 ((i : Int) + 1) = ((i + 1 : Nat) : Int) := by rw [w_id (by omega) (by omega)]; omega
    have hrec := ih (i + 1) (by omega) j hj2
    unfold b33_58
    rw [decide_eq_true (by omega : (i : Int) < g.length)]
    have hf : f88 k () = some ((inp, ()), ()) := rfl
    simp only [cond_true, ix_nat hx, hf, Option.bind_some]
    rw [w_id (n := 2 * (i : Int)) (by omega) (by omega), w_id (n := 2 * (i : Int) + 1) (by omega) (by omega), hw, hrec, beq_inp]
    rcases hv i _ hx with he | he
    · rw [decide_eq_true he]; rfl
    · by_cases hq : g[i] = inp
      · rw [decide_eq_true hq]; rfl
      · rw [decide_eq_false hq, decide_eq_false (by omega : ¬ g[i].1 < 0), decide_eq_false (by omega : ¬ g[i].2.1 < 0), decide_eq_false (by omega : ¬ g[i].1 > 2 * (i : Int) + 1), decide_eq_false (by omega : ¬ g[i].2.1 > 2 * (i : Int) + 1)]; rfl
theorem check33 (k : Nat) (hv : Valid g) (hg : g.length ≤ 1048576) (hk : g.length < k) : f33 k g = some ((0, ()), ()) := by
  unfold f33
  have := check_loop k hv hg g.length 0 (by omega) k hk
  rw [show ((0 : Nat) : Int) = 0 from rfl] at this
  rw [decide_eq_false (by omega : ¬ (g.length : Int) > 1048576), cond_false, this]
  rfl
theorem eval_loop (k : Nat) (hv : Valid g) (hg : g.length ≤ 1048576) : ∀ (d i : Nat) (v : List Bool) (q : Nat), g.length - i = d → v.length ≤ i → q ≤ i → ∀ j, d < j → l31_250 k j ins v q g g.length i = some ((evL ins (g.drop i) v q, ()), ()) := by
  intro d
  induction d with
  | zero =>
    intro i v q hi hvl hq j hj
    obtain ⟨j, rfl, _⟩ := succ_of (n := 0) (by omega : 0 + 1 ≤ j)
    show b31_250 k (l31_250 k j) ins v q g g.length i = _
    unfold b31_250
    rw [decide_eq_false (by omega : ¬ (i : Int) < g.length), List.drop_eq_nil_of_le (by omega)]
    rfl
  | succ d ih =>
    intro i v q hi hvl hq j hj
    obtain ⟨j, rfl, hj2⟩ := succ_of (by omega : d + 1 + 1 ≤ j)
    show b31_250 k (l31_250 k j) ins v q g g.length i = _
    have hlt : i < g.length := by omega
    have hx : g[i]? = some g[i] := List.getElem?_eq_getElem hlt
    have hw : w64 ((i : Int) + 1) = ((i + 1 : Nat) : Int) := by rw [w_id (by omega) (by omega)]; omega
    have hwq : w64 ((q : Int) + 1) = ((q + 1 : Nat) : Int) := by rw [w_id (by omega) (by omega)]; omega
    have hroom : (v.length + 1) * 1 ≤ room := by unfold room; omega
    unfold b31_250
    rw [decide_eq_true (by omega : (i : Int) < g.length)]
    have hf : f88 k () = some ((inp, ()), ()) := rfl
    simp only [cond_true, ix_nat hx, hf, Option.bind_some]
    rw [beq_inp, List.drop_eq_getElem_cons hlt, evL]
    have hr : ∀ b q', q' ≤ i + 1 → l31_250 k j ins (v ++ [b]) (q' : Nat) g g.length ((i + 1 : Nat) : Int) = some ((evL ins (g.drop (i + 1)) (v ++ [b]) q', ()), ()) := fun b q' hq' => ih (i + 1) (v ++ [b]) q' (by omega) (by simp; omega) hq' j hj2
    by_cases he : g[i] = inp
    · rw [decide_eq_true he, if_pos he, cond_true, hw, hwq]
      by_cases hqi : q < ins.length
      · have hy : ins[q]? = some ins[q] := List.getElem?_eq_getElem hqi
        rw [decide_eq_true (by omega : (q : Int) < ins.length), cond_true, ix_nat hy, gd_dec hroom, hr _ _ (by omega), List.getD_eq_getElem?_getD, hy]
        rfl
      · rw [decide_eq_false (by omega : ¬ (q : Int) < ins.length), cond_false, gd_dec hroom, hr _ _ (by omega), List.getD_eq_getElem?_getD, List.getElem?_eq_none (by omega)]
        rfl
    · rw [decide_eq_false he, if_neg he, cond_false, hw]
      have hg2 : I64 g[i].1 ∧ I64 g[i].2.1 := by
        rcases hv i _ hx with h | h
        · exact absurd h he
        · exact ⟨⟨by omega, by omega⟩, ⟨by omega, by omega⟩⟩
      rw [value34 k hg2.1]
      simp only [Option.bind_some]
      cases hval : value v g[i].1 with
      | true =>
        rw [cond_true, value34 k hg2.2]
        simp only [Option.bind_some]
        rw [gd_dec hroom, hr _ _ (by omega)]
        rfl
      | false =>
        rw [cond_false, gd_dec hroom, hr _ _ (by omega)]
        rfl
theorem eval31 (k : Nat) (hv : Valid g) (hg : g.length ≤ 1048576) (hk : g.length < k) : f31 k g ins = some ((Ev g ins, ()), ()) := by
  unfold f31
  have := eval_loop (ins := ins) k hv hg g.length 0 [] 0 (by omega) (by simp) (by omega) k hk
  rw [show ((0 : Nat) : Int) = 0 from rfl] at this
  rw [check33 k hv hg hk]
  simp only [Option.bind_some, bne_self_eq_false, cond_false]
  rw [this]
  rfl
/-- All, by the program. -/
theorem all_prog {q : List Int} (hq : q.length ≤ 20) : ∀ (d i : Nat) (o : Int) (g : List D_Gate) (m : Mp), q.length - i = d → Valid g → MapOk g m → g.length + d ≤ 1048576 → ∃ m', MapOk (AllS g (q.drop i) o).1 m' ∧ E fun k => ∀ j, d < j → l29_122 k j o q q.length i g m = some (((AllS g (q.drop i) o).2, ()), (((AllS g (q.drop i) o).1, (), ()), m', ())) := by
  intro d
  induction d with
  | zero =>
    intro i o g m hi hv hm hg
    rw [List.drop_eq_nil_of_le (by omega)]
    refine ⟨m, hm, E.all fun k j hj => ?_⟩
    obtain ⟨j, rfl, _⟩ := succ_of (n := 0) (by omega : 0 + 1 ≤ j)
    show b29_122 k (l29_122 k j) o q q.length i g m = _
    unfold b29_122
    rw [decide_eq_false (by omega : ¬ (i : Int) < q.length)]
    rfl
  | succ d ih =>
    intro i o g m hi hv hm hg
    have hil : i < q.length := by omega
    have h1 : q[i]? = some q[i] := List.getElem?_eq_getElem hil
    rw [List.drop_eq_getElem_cons hil]
    obtain ⟨m1, k1, k2⟩ := and19E hv hm (by omega) o q[i]
    obtain ⟨v1, v2, v3, _⟩ := And_keeps keeps_valid o q[i] hv
    obtain ⟨m2, k3, k4⟩ := ih (i + 1) (And g o q[i]).2 (And g o q[i]).1 m1 (by omega) v1 k1 (by omega)
    refine ⟨m2, k3, k2.mono2 k4 fun k e1 e2 j hj => ?_⟩
    dsimp only at *
    obtain ⟨j, rfl, hj2⟩ := succ_of (by omega : d + 1 + 1 ≤ j)
    show b29_122 k (l29_122 k j) o q q.length i g m = _
    have hw : w64 ((i : Int) + 1) = ((i + 1 : Nat) : Int) := by rw [w_id (by omega) (by omega)]; omega
    unfold b29_122
    rw [decide_eq_true (by omega : (i : Int) < q.length)]
    simp only [cond_true, ix_nat h1, e1, Option.bind_some, hw, e2 j (by omega)]
    rfl
theorem all29E {q : List Int} (hq : q.length ≤ 20) (hv : Valid g) (hm : MapOk g m) (hg : g.length + 20 ≤ 1048576) : ProgE (fun k => f29 k q g m) (AllS g q 1) := by
  obtain ⟨m', h1, h2⟩ := all_prog hq q.length 0 1 g m (by omega) hv hm (by omega)
  rw [List.drop_zero] at h1 h2
  refine ⟨m', h1, (h2.and (E.ge 21)).mono fun k ⟨e, hk⟩ => ?_⟩
  have e := e k (by omega)
  rw [show ((0 : Nat) : Int) = 0 from rfl] at e
  show f29 k q g m = _
  unfold f29
  rw [e]
  rfl
end
section
variable {g : List D_Gate} {m : Mp}
theorem nodes23 (k : Nat) (hg : g.length ≤ 1048576) : f23 k g m = some ((g, ()), ()) := by
  unfold f23 f87 f87v3
  rw [gd_dec (by unfold room; omega)]
  rfl
end
end Aig
end Go.Proofs.Ytgljnnokifggkaa.M
/-
Words of bits: what words are by inputs; numbers; sums; the law's own words.
-/
set_option linter.unusedVariables false
set_option linter.unusedSimpArgs false
set_option maxRecDepth 100000
namespace Go.Proofs.Ytgljnnokifggkaa.M
open Go Go.Proofs.Ytgljnnokifggkaa.Vm Go.Proofs.Ytgljnnokifggkaa.Pl
namespace Vec
open Aig
variable {g : List D_Gate} {m : Mp} {ins : List Bool}

/-! ### plain bits -/
def num : List Bool → Int
  | [] => 0
  | b :: r => (if b then 1 else 0) + 2 * num r
def bitsB : Nat → Int → List Bool
  | 0, _ => []
  | w + 1, n => decide (n % 2 = 1) :: bitsB w (n / 2)
theorem bitsB_len : ∀ (w : Nat) (n : Int), (bitsB w n).length = w
  | 0, _ => rfl
  | w + 1, n => by rw [bitsB, List.length_cons, bitsB_len w]
theorem num_bits : ∀ (w : Nat) (n : Int), num (bitsB w n) = n % 2 ^ w
  | 0, n => by simp [bitsB, num, Int.emod_one]
  | w + 1, n => by
    rw [bitsB, num, num_bits w]
    have hp : (0 : Int) < 2 ^ w := Int.pow_pos (by decide)
    have e1 := Int.mul_ediv_add_emod (n / 2) (2 ^ w)
    have e2 := Int.mul_ediv_add_emod n 2
    have h0 := Int.emod_nonneg (n / 2) (Int.ne_of_gt hp)
    have h1 := Int.emod_lt_of_pos (n / 2) hp
    have hb : (if decide (n % 2 = 1) = true then (1 : Int) else 0) = n % 2 := by
      by_cases h : n % 2 = 1
      · rw [decide_eq_true h, if_pos rfl, h]
      · rw [decide_eq_false h, if_neg (by simp)]; omega
    rw [hb]
    have key : n = (n % 2 + 2 * (n / 2 % 2 ^ w)) + 2 ^ (w + 1) * (n / 2 / 2 ^ w) := by
      have e4 : (2 : Int) ^ (w + 1) * (n / 2 / 2 ^ w) = 2 * (2 ^ w * (n / 2 / 2 ^ w)) := by rw [Int.pow_succ, Int.mul_comm (2 ^ w) 2, Int.mul_assoc]
      rw [e4]
      generalize 2 ^ w * (n / 2 / 2 ^ w) = q at e1
      omega
    conv => rhs; rw [key]
    rw [Int.add_mul_emod_self_left]
    symm
    apply Int.emod_eq_of_lt
    · omega
    · rw [Int.pow_succ]; omega
theorem num_nonneg : ∀ b : List Bool, 0 ≤ num b
  | [] => Int.le_refl _
  | b :: r => by have := num_nonneg r; rw [num]; split <;> omega
theorem num_lt : ∀ b : List Bool, num b < 2 ^ b.length
  | [] => by simp [num]
  | b :: r => by
    have := num_lt r
    rw [num, List.length_cons, Int.pow_succ]
    split <;> omega
theorem num_inj : ∀ a b : List Bool, a.length = b.length → num a = num b → a = b
  | [], [], _, _ => rfl
  | [], _ :: _, h, _ => by simp at h
  | _ :: _, [], h, _ => by simp at h
  | x :: a, y :: b, h, hn => by
    rw [num, num] at hn
    have hx : (if x = true then (1 : Int) else 0) = 0 ∨ (if x = true then (1 : Int) else 0) = 1 := by split <;> simp
    have hy : (if y = true then (1 : Int) else 0) = 0 ∨ (if y = true then (1 : Int) else 0) = 1 := by split <;> simp
    have h1 : (if x = true then (1 : Int) else 0) = (if y = true then (1 : Int) else 0) := by omega
    have h2 : num a = num b := by omega
    rw [num_inj a b (by simpa using h) h2]
    have : x = y := by cases x <;> cases y <;> simp at h1 <;> rfl
    rw [this]
theorem num_append : ∀ a b : List Bool, num (a ++ b) = num a + 2 ^ a.length * num b
  | [], b => by simp [num]
  | x :: a, b => by
    rw [List.cons_append, num, num, num_append a b, List.length_cons, Int.pow_succ, Int.mul_add, Int.mul_comm (2 ^ a.length) 2, Int.mul_assoc]
    omega
/-- A sum, and what is carried out of it. -/
def addS : List Bool → List Bool → Bool → List Bool × Bool
  | x :: xs, y :: ys, c => ((!((!(x == y)) == c)) :: (addS xs ys ((x && y) || ((!(x == y)) && c))).1, (addS xs ys ((x && y) || ((!(x == y)) && c))).2)
  | _, _, c => ([], c)
theorem addS_len : ∀ (a b : List Bool) (c : Bool), a.length = b.length → (addS a b c).1.length = a.length
  | [], [], c, _ => rfl
  | [], _ :: _, c, h => by simp at h
  | _ :: _, [], c, h => by simp at h
  | x :: a, y :: b, c, h => by rw [addS, List.length_cons, List.length_cons, addS_len a b _ (by simpa using h)]
theorem addS_num : ∀ (a b : List Bool) (c : Bool), a.length = b.length → num (addS a b c).1 + 2 ^ a.length * (if (addS a b c).2 then 1 else 0) = num a + num b + (if c then 1 else 0)
  | [], [], c, _ => by cases c <;> simp [addS, num]
  | [], _ :: _, c, h => by simp at h
  | _ :: _, [], c, h => by simp at h
  | x :: a, y :: b, c, h => by
    have ih := addS_num a b ((x && y) || ((!(x == y)) && c)) (by simpa using h)
    rw [addS, num, num, num, List.length_cons, Int.pow_succ, Int.mul_comm (2 ^ a.length) 2, Int.mul_assoc]
    generalize 2 ^ a.length * (if (addS a b ((x && y) || ((!(x == y)) && c))).2 = true then (1 : Int) else 0) = q at ih ⊢
    generalize num (addS a b ((x && y) || ((!(x == y)) && c))).1 = p at ih ⊢
    cases x <;> cases y <;> cases c <;> simp at ih ⊢ <;> omega
def notS (b : List Bool) : List Bool := b.map (!·)
theorem num_not : ∀ b : List Bool, num (notS b) = 2 ^ b.length - 1 - num b
  | [] => by simp [notS, num]
  | x :: b => by
    have ih := num_not b
    unfold notS at ih ⊢
    rw [List.map_cons, num, num, ih, List.length_cons, Int.pow_succ]
    cases x <;> simp <;> omega
theorem less_carry {a b : List Bool} (h : a.length = b.length) : (addS a (notS b) true).2 = decide (num b ≤ num a) := by
  have h1 := addS_num a (notS b) true (by unfold notS; simpa using h)
  rw [num_not, ← h] at h1
  have h2 := addS_len a (notS b) true (by unfold notS; simpa using h)
  have h3 := num_lt (addS a (notS b) true).1
  have h4 := num_nonneg (addS a (notS b) true).1
  have h5 := num_lt a
  have h6 := num_lt b
  rw [h2] at h3
  rw [← h] at h6
  generalize (2 : Int) ^ a.length = q at h1 h3 h5 h6
  generalize num (addS a (notS b) true).1 = p at h1 h3 h4
  cases hc : (addS a (notS b) true).2 with
  | true =>
    rw [hc] at h1
    symm; apply decide_eq_true
    simp at h1; omega
  | false =>
    rw [hc] at h1
    symm; apply decide_eq_false
    simp at h1; omega

/-! ### words in a graph -/
structure Word (ins : List Bool) (g : List D_Gate) (a : List Int) (bs : List Bool) : Prop where
  lit : ∀ x ∈ a, isL g x = true
  val : a.map (Aig.val ins g) = bs
theorem Word.len {a : List Int} {bs : List Bool} (h : Word ins g a bs) : a.length = bs.length := by rw [← h.val, List.length_map]
theorem Word.ext {a : List Int} {bs : List Bool} (h : Word ins g a bs) (e : List D_Gate) : Word ins (g ++ e) a bs :=
  ⟨fun x hx => isL_ext (h.lit x hx), by
    rw [← h.val]
    exact List.map_congr_left fun x hx => val_ext e (isL_iff.1 (h.lit x hx)).2⟩
theorem Word.nil : Word ins g [] [] := ⟨fun x hx => (by cases hx), rfl⟩
theorem Word.snoc {a : List Int} {bs : List Bool} (h : Word ins g a bs) {x : Int} {b : Bool} (hx : isL g x = true) (hv : Aig.val ins g x = b) : Word ins g (a ++ [x]) (bs ++ [b]) :=
  ⟨fun y hy => by
    rcases List.mem_append.1 hy with hy | hy
    · exact h.lit y hy
    · rw [List.mem_singleton.1 hy]; exact hx, by rw [List.map_append, h.val, List.map_cons, hv]; rfl⟩
theorem Word.get {a : List Int} {bs : List Bool} (h : Word ins g a bs) {i : Nat} (hi : i < a.length) : ∃ x b, a[i]? = some x ∧ bs[i]? = some b ∧ isL g x = true ∧ Aig.val ins g x = b := by
  have hb : i < bs.length := by rw [← h.len]; exact hi
  refine ⟨a[i], bs[i], List.getElem?_eq_getElem hi, List.getElem?_eq_getElem hb, h.lit _ (List.getElem_mem _), ?_⟩
  have := h.val
  have e : (a.map (Aig.val ins g))[i]? = bs[i]? := by rw [this]
  rw [List.getElem?_map, List.getElem?_eq_getElem hi, List.getElem?_eq_getElem hb] at e
  simpa using e
theorem Word.nots {a : List Int} {bs : List Bool} (h : Word ins g a bs) : Word ins g (a.map nt) (notS bs) :=
  ⟨fun y hy => by obtain ⟨x, hx, rfl⟩ := List.mem_map.1 hy; exact isL_nt (h.lit x hx), by
    unfold notS
    rw [← h.val, List.map_map, List.map_map]
    exact List.map_congr_left fun x hx => vnt (h.lit x hx)⟩
theorem lit_i64 (hg : g.length ≤ 1048576) {x : Int} (h : isL g x = true) : I64 x := by
  have := isL_iff.1 h
  exact ⟨by omega, by omega⟩
end Vec
end Go.Proofs.Ytgljnnokifggkaa.M
/-
Words of bits: the program's words: what each function makes.
-/
set_option linter.unusedVariables false
set_option linter.unusedSimpArgs false
set_option maxRecDepth 100000
namespace Go.Proofs.Ytgljnnokifggkaa.M
open Go Go.Proofs.Ytgljnnokifggkaa.Vm Go.Proofs.Ytgljnnokifggkaa.Pl
namespace Vec
open Aig
variable {g : List D_Gate} {m : Mp} {ins : List Bool}

/-! ### what is checked -/
theorem chk107 (k : Nat) (hg : g.length ≤ 1048576) (l : Int) : f107 k l g m = some ((!isL g l, ()), ()) := by
  unfold f107; rw [is24 k hg]; rfl
theorem chk_loop (k : Nat) (hg : g.length ≤ 1048576) {a : List Int} (ha : a.length ≤ 1000) (h : ∀ x ∈ a, isL g x = true) : ∀ (d i : Nat), a.length - i = d → ∀ j, d < j → l113_26 k j a a.length i g m = some (.inl ((), ((), (), (), ()))) := by
  intro d
  induction d with
  | zero =>
    intro i hi j hj
    obtain ⟨j, rfl, _⟩ := succ_of (n := 0) (by omega : 0 + 1 ≤ j)
    show b113_26 k (l113_26 k j) a a.length i g m = _
    unfold b113_26
    rw [decide_eq_false (by omega : ¬ (i : Int) < a.length)]; rfl
  | succ d ih =>
    intro i hi j hj
    obtain ⟨j, rfl, hj2⟩ := succ_of (by omega : d + 1 + 1 ≤ j)
    show b113_26 k (l113_26 k j) a a.length i g m = _
    have hw1 : w64 ((i : Int) + 1) = ((i + 1 : Nat) : Int) := by rw [w_id (by omega) (by omega)]; omega
    have hx : a[i]? = some a[i] := List.getElem?_eq_getElem (by omega)
    unfold b113_26
    rw [decide_eq_true (by omega : (i : Int) < a.length), cond_true, ix_nat hx, chk107 k hg, h _ (List.getElem_mem _)]
    simp only [Option.bind_some, Bool.not_true, cond_false]
    rw [hw1, ih (i + 1) (by omega) j hj2]; rfl
theorem check68 (k : Nat) (hk : 20 < k) (hg : g.length ≤ 1048576) {a : List Int} (h1 : 1 ≤ a.length) (h2 : a.length ≤ 16) (h : ∀ x ∈ a, isL g x = true) : f68 k a g m = some ((0, ()), ()) := by
  unfold f68 f106 f113
  have := chk_loop (m := m) k hg (by omega) h a.length 0 (by omega) k (by omega)
  rw [show ((0 : Nat) : Int) = 0 from rfl] at this
  rw [decide_eq_false (by omega : ¬ (a.length : Int) < 1), decide_eq_false (by omega : ¬ (a.length : Int) > 16), cond_false, cond_false, this]
  rfl
theorem pair95 (k : Nat) (hk : 20 < k) (hg : g.length ≤ 1048576) {a b : List Int} (he : a.length = b.length) (h1 : 1 ≤ a.length) (h2 : a.length ≤ 16) (ha : ∀ x ∈ a, isL g x = true) (hb : ∀ x ∈ b, isL g x = true) : f95 k a b g m = some ((true, ()), ()) := by
  unfold f95
  rw [he, beq_self_eq_true, cond_true, check68 k hk hg h1 h2 ha, check68 k hk hg (by omega) (by omega) hb]
  rfl
theorem index_loop (k : Nat) {a : List Int} (ha : a.length ≤ 16) (h : ∀ x ∈ a, x ≠ -1) : ∀ (d i : Nat), a.length - i = d → ∀ j, d < j → l118_26 k j a (-1) a.length i = some (.inl ((), ())) := by
  intro d
  induction d with
  | zero =>
    intro i hi j hj
    obtain ⟨j, rfl, _⟩ := succ_of (n := 0) (by omega : 0 + 1 ≤ j)
    show b118_26 k (l118_26 k j) a (-1) a.length i = _
    unfold b118_26
    rw [decide_eq_false (by omega : ¬ (i : Int) < a.length)]
    rfl
  | succ d ih =>
    intro i hi j hj
    obtain ⟨j, rfl, hj2⟩ := succ_of (by omega : d + 1 + 1 ≤ j)
    show b118_26 k (l118_26 k j) a (-1) a.length i = _
    have hw1 : w64 ((i : Int) + 1) = ((i + 1 : Nat) : Int) := by rw [w_id (by omega) (by omega)]; omega
    have hx : a[i]? = some a[i] := List.getElem?_eq_getElem (by omega)
    have hne := h a[i] (List.getElem_mem _)
    unfold b118_26
    rw [decide_eq_true (by omega : (i : Int) < a.length), cond_true, ix_nat hx, beq_int, decide_eq_false (by omega : ¬ (-1 : Int) = a[i]), cond_false, hw1, ih (i + 1) (by omega) j hj2]
    rfl
theorem whole92 (k : Nat) {a : List Int} (ha : a.length ≤ 16) (h : ∀ x ∈ a, isL g x = true) (hk : 16 < k) : f92 k a = some (.inr ((a, ()), ())) := by
  unfold f92 f112 f118
  have := index_loop k ha (fun x hx => by have := (isL_iff.1 (h x hx)).1; omega) a.length 0 (by omega) k (by omega)
  rw [show ((0 : Nat) : Int) = 0 from rfl] at this
  rw [this]
  rfl

/-! ### what a word's number is -/
theorem two_pow16 {i : Nat} (h : i ≤ 16) : (0 : Int) < 2 ^ i ∧ (2 : Int) ^ i ≤ 65536 := by
  refine ⟨Int.pow_pos (by decide), ?_⟩
  have := Nat.pow_le_pow_right (show 0 < 2 by omega) h
  have e2 : ((2 : Int) ^ i) = ((2 ^ i : Nat) : Int) := by simp
  rw [e2]; omega
theorem ibits_or_pow {a : Int} {i : Nat} (h0 : 0 ≤ a) (h : a < 2 ^ i) (hi : i ≤ 16) : ibits .or .i64 a (2 ^ i) = a + 2 ^ i := by
  obtain ⟨n, rfl⟩ := Int.eq_ofNat_of_zero_le h0
  have hn : n < 2 ^ i := by exact_mod_cast h
  have hp : 2 ^ i ≤ 65536 := by
    have := Nat.pow_le_pow_right (show 0 < 2 by omega) hi
    simpa using this
  have e2 : ((2 : Int) ^ i) = ((2 ^ i : Nat) : Int) := by simp
  rw [e2]
  have e1 : (BitVec.ofInt 64 (n : Int) ||| BitVec.ofInt 64 ((2 ^ i : Nat) : Int)).toNat = n + 2 ^ i := by
    rw [BitVec.toNat_or, BitVec.toNat_ofInt, BitVec.toNat_ofInt]
    have h1 : ((n : Int) % 2 ^ 64).toNat = n := by omega
    have h2 : ((((2 ^ i : Nat) : Int)) % 2 ^ 64).toNat = 2 ^ i := by
      generalize 2 ^ i = q at hp hn; omega
    have c1 : (((2 ^ 64 : Nat)) : Int) = 2 ^ 64 := rfl
    rw [c1, h1, h2, Nat.or_comm, Nat.add_comm]
    have h3 := Nat.two_pow_add_eq_or_of_lt hn 1
    rw [Nat.mul_one] at h3
    exact h3.symm
  show IntKind.i64.wrap ((BitVec.ofInt 64 (n : Int) ||| BitVec.ofInt 64 ((2 ^ i : Nat) : Int)).toNat : Int) = _
  rw [e1]
  have := w64_id (n := ((n + 2 ^ i : Nat) : Int)) (by omega) (by generalize 2 ^ i = q at hp hn; omega)
  unfold w64 at this
  rw [this]; simp
theorem number_loop (k : Nat) {v : List Bool} {a : List Int} (ha : a.length ≤ 16) (h : ∀ x ∈ a, I64 x) : ∀ (d i : Nat), a.length - i = d → i ≤ a.length → ∀ j, d < j → l43_122 k j v (num ((a.take i).map (value v))) a a.length i = some ((num (a.map (value v)), ()), ()) := by
  intro d
  induction d with
  | zero =>
    intro i hi hia j hj
    obtain ⟨j, rfl, _⟩ := succ_of (n := 0) (by omega : 0 + 1 ≤ j)
    show b43_122 k (l43_122 k j) v _ a a.length i = _
    unfold b43_122
    rw [decide_eq_false (by omega : ¬ (i : Int) < a.length), List.take_of_length_le (by omega)]; rfl
  | succ d ih =>
    intro i hi hia j hj
    obtain ⟨j, rfl, hj2⟩ := succ_of (by omega : d + 1 + 1 ≤ j)
    show b43_122 k (l43_122 k j) v _ a a.length i = _
    have hw1 : w64 ((i : Int) + 1) = ((i + 1 : Nat) : Int) := by rw [w_id (by omega) (by omega)]; omega
    have hlt : i < a.length := by omega
    have hx : a[i]? = some a[i] := List.getElem?_eq_getElem hlt
    have hrec := ih (i + 1) (by omega) (by omega) j hj2
    have hl : ((a.take i).map (value v)).length = i := by rw [List.length_map, List.length_take]; omega
    have hs : num ((a.take (i + 1)).map (value v)) = num ((a.take i).map (value v)) + 2 ^ i * (if value v a[i] then 1 else 0) := by
      rw [List.take_succ_eq_append_getElem hlt, List.map_append, num_append, hl]
      simp [num]
    have hp := two_pow16 (i := i) (by omega)
    have hmin : min ((i : Int).toNat) 64 = i := by omega
    have hn0 := num_nonneg ((a.take i).map (value v))
    have hn1 := num_lt ((a.take i).map (value v))
    rw [hl] at hn1
    rw [hs] at hrec
    unfold b43_122
    rw [decide_eq_true (by omega : (i : Int) < a.length), cond_true, ix_nat hx, value34 k (h _ (List.getElem_mem _))]
    simp only [Option.bind_some]
    cases hv : value v a[i] with
    | true =>
      rw [hv] at hrec
      simp only [if_true, Int.mul_one] at hrec
      rw [cond_true, decide_eq_false (by omega : ¬ (i : Int) < 0), cond_false, hmin, Int.one_mul, w_id (n := 2 ^ i) (by omega) (by omega), ibits_or_pow hn0 hn1 (by omega), hw1, hrec]; rfl
    | false =>
      rw [hv] at hrec
      simp only [Bool.false_eq_true, if_false, Int.mul_zero, Int.add_zero] at hrec
      rw [cond_false, hw1, hrec]; rfl
theorem number43 (k : Nat) (hk : 20 < k) {v : List Bool} {a : List Int} (ha : a.length ≤ 16) (h : ∀ x ∈ a, I64 x) : f43 k v a = some ((num (a.map (value v)), ()), ()) := by
  unfold f43
  have := number_loop k (v := v) ha h a.length 0 (by omega) (by omega) k (by omega)
  rw [show ((0 : Nat) : Int) = 0 from rfl, List.take_zero] at this
  have e : num ([].map (value v)) = 0 := rfl
  rw [e] at this
  rw [decide_eq_false (by omega : ¬ (a.length : Int) > 16), cond_false, this]; rfl
/-- A word has this number. -/
theorem is45 (k : Nat) (hk : g.length + 20 < k) (hv : Valid g) (hg : g.length ≤ 1000000) {a : List Int} {bs : List Bool} (h : Word ins g a bs) {w : Nat} (hw1 : 1 ≤ w) (hw2 : w ≤ 16) (hl : bs.length = w) {n : Int} (hn : n = num bs) : f45 k ins a w n g m = some ((true, ()), ()) := by
  have hal : a.length = w := by rw [h.len, hl]
  unfold f45
  rw [hal, beq_self_eq_true, cond_true, check68 k (by omega) (by omega) (by omega) (by omega) h.lit]
  simp only [Option.bind_some, beq_self_eq_true, cond_true]
  rw [nodes23 k (by omega)]
  simp only [Option.bind_some]
  rw [eval31 (ins := ins) k hv (by omega) (by omega)]
  simp only [Option.bind_some]
  rw [number43 k (by omega) (by omega) (fun x hx => lit_i64 (by omega) (h.lit x hx))]
  have e : a.map (value (Ev g ins)) = bs := h.val
  rw [e, hn]
  simp
end Vec
end Go.Proofs.Ytgljnnokifggkaa.M
/-
Words of bits: what each of the program's functions makes of words.
-/
set_option linter.unusedVariables false
set_option linter.unusedSimpArgs false
set_option maxRecDepth 100000
namespace Go.Proofs.Ytgljnnokifggkaa.M
open Go Go.Proofs.Ytgljnnokifggkaa.Vm Go.Proofs.Ytgljnnokifggkaa.Pl
namespace Vec
open Aig
variable {g : List D_Gate} {m : Mp} {ins : List Bool}

/-! ### one literal is made -/
/-- A literal is made that is so by inputs; the graph is longer by so many nodes at most. -/
def Op (ins : List Bool) (g : List D_Gate) (N : Nat) (f : Nat → Option R19) (w : Bool) : Prop :=
  ∃ (g' : List D_Gate) (m' : Mp) (r : Int), (∃ e, g' = g ++ e) ∧ Valid g' ∧ MapOk g' m' ∧ g'.length ≤ g.length + N ∧ isL g' r = true ∧ Aig.val ins g' r = w ∧ E fun k => f k = some ((r, ()), ((g', (), ()), m', ()))
theorem op_of {f : Nat → Option R19} {p : List D_Gate × Int} {w : Bool} {N : Nat} (h : ProgE f p) (ht : Aig.Told ins g p w) (hl : p.1.length ≤ g.length + N) : Op ins g N f w := by
  obtain ⟨m', h1, h2⟩ := h
  exact ⟨p.1, m', p.2, ht.ext, ht.ok, h1, hl, ht.lit, ht.val, h2⟩
theorem and_op (hv : Valid g) (hm : MapOk g m) (hg : g.length ≤ 1000000) {a b : Int} (ha : isL g a = true) (hb : isL g b = true) : Op ins g 1 (fun k => f19 k a b g m) (Aig.val ins g a && Aig.val ins g b) :=
  op_of (and19E hv hm (by omega) a b) (And_told hv ha hb (by omega)) (And_keeps keeps_valid a b hv).2.2.1
theorem or_op (hv : Valid g) (hm : MapOk g m) (hg : g.length ≤ 1000000) {a b : Int} (ha : isL g a = true) (hb : isL g b = true) : Op ins g 1 (fun k => f26 k a b g m) (Aig.val ins g a || Aig.val ins g b) :=
  op_of (or26E hv hm (by omega) (lit_i64 (by omega) ha) (lit_i64 (by omega) hb)) (Or_told hv ha hb (by omega)) (Or_keeps keeps_valid a b hv).2.2.1
theorem xor_op (hv : Valid g) (hm : MapOk g m) (hg : g.length ≤ 1000000) {a b : Int} (ha : isL g a = true) (hb : isL g b = true) : Op ins g 3 (fun k => f27 k a b g m) (!(Aig.val ins g a == Aig.val ins g b)) :=
  op_of (xor27E hv hm (by omega) (lit_i64 (by omega) ha) (lit_i64 (by omega) hb)) (Xor_told hv ha hb (by omega)) (Xor_keeps keeps_valid a b hv).2.2.1
theorem ite_op (hv : Valid g) (hm : MapOk g m) (hg : g.length ≤ 1000000) {c a b : Int} (hc : isL g c = true) (ha : isL g a = true) (hb : isL g b = true) : Op ins g 3 (fun k => f28 k c a b g m) (cond (Aig.val ins g c) (Aig.val ins g a) (Aig.val ins g b)) :=
  op_of (ite28E hv hm (by omega) (lit_i64 (by omega) hc) (lit_i64 (by omega) ha) (lit_i64 (by omega) hb)) (Ite_told hv hc ha hb (by omega)) (Ite_keeps keeps_valid c a b hv).2.2.1
/-- What was a literal is one, and is as it was. -/
theorem old_lit {g' : List D_Gate} (h : ∃ e, g' = g ++ e) {l : Int} (hl : isL g l = true) : isL g' l = true ∧ Aig.val ins g' l = Aig.val ins g l := by
  obtain ⟨e, rfl⟩ := h
  exact ⟨isL_ext hl, val_ext e (isL_iff.1 hl).2⟩
theorem old_word {g' : List D_Gate} (h : ∃ e, g' = g ++ e) {a : List Int} {bs : List Bool} (hl : Word ins g a bs) : Word ins g' a bs := by
  obtain ⟨e, rfl⟩ := h; exact hl.ext e
theorem ext_trans {g' g'' : List D_Gate} (h : ∃ e, g' = g ++ e) (h' : ∃ e, g'' = g' ++ e) : ∃ e, g'' = g ++ e := by
  obtain ⟨e, rfl⟩ := h
  obtain ⟨e', rfl⟩ := h'
  exact ⟨e ++ e', by rw [List.append_assoc]⟩

/-! ### bit by bit -/
def OpW (ins : List Bool) (g : List D_Gate) (N : Nat) (f : Nat → Option R50) (bs : List Bool) : Prop :=
  ∃ (g' : List D_Gate) (m' : Mp) (out : List Int), (∃ e, g' = g ++ e) ∧ Valid g' ∧ MapOk g' m' ∧ g'.length ≤ g.length + N ∧ Word ins g' out bs ∧ E fun k => f k = some ((out, ()), ((g', (), ()), m', ()))
def OpI (ins : List Bool) (g : List D_Gate) (N : Nat) (f : Nat → Option R53) (bs : List Bool) : Prop :=
  ∃ (g' : List D_Gate) (m' : Mp) (out : List Int), (∃ e, g' = g ++ e) ∧ Valid g' ∧ MapOk g' m' ∧ g'.length ≤ g.length + N ∧ Word ins g' out bs ∧ E fun k => f k = some (.inr ((out, ()), ((g', (), ()), m', ())))
def zipB (f : Bool → Bool → Bool) : List Bool → List Bool → List Bool
  | x :: xs, y :: ys => f x y :: zipB f xs ys
  | _, _ => []
theorem zipB_len (f : Bool → Bool → Bool) : ∀ a b : List Bool, a.length = b.length → (zipB f a b).length = a.length
  | [], [], _ => rfl
  | [], _ :: _, h => by simp at h
  | _ :: _, [], h => by simp at h
  | x :: a, y :: b, h => by rw [zipB, List.length_cons, List.length_cons, zipB_len f a b (by simpa using h)]
theorem zipB_drop (f : Bool → Bool → Bool) {xs ys : List Bool} {i : Nat} {x y : Bool} (hx : xs[i]? = some x) (hy : ys[i]? = some y) : zipB f (xs.drop i) (ys.drop i) = f x y :: zipB f (xs.drop (i + 1)) (ys.drop (i + 1)) := by
  have h1 := Vm.getElem?_lt hx
  have h2 := Vm.getElem?_lt hy
  rw [List.drop_eq_getElem_cons h1, List.drop_eq_getElem_cons h2, zipB]
  rw [List.getElem?_eq_getElem h1] at hx
  rw [List.getElem?_eq_getElem h2] at hy
  simp only [Option.some.injEq] at hx hy
  rw [hx, hy]
theorem xor_loop {a b : List Int} {xs ys : List Bool} (hab : a.length = b.length) (ha : a.length ≤ 16) : ∀ (d i : Nat) (g : List D_Gate) (m : Mp) (out : List Int) (bs : List Bool), a.length - i = d → i ≤ a.length → Valid g → MapOk g m → g.length + 3 * d ≤ 1000000 →
    Word ins g a xs → Word ins g b ys → Word ins g out bs → out.length = i →
    ∃ (g' : List D_Gate) (m' : Mp) (out' : List Int), (∃ e, g' = g ++ e) ∧ Valid g' ∧ MapOk g' m' ∧ g'.length ≤ g.length + 3 * d ∧ Word ins g' out' (bs ++ zipB (fun x y => !(x == y)) (xs.drop i) (ys.drop i)) ∧
      E fun k => ∀ j, d < j → l97v2_122 k j a b out a.length i g m = some ((out', ()), ((g', (), ()), m', ())) := by
  intro d
  induction d with
  | zero =>
    intro i g m out bs hi hia hv hm hg hwa hwb hwo ho
    refine ⟨g, m, out, ⟨[], by simp⟩, hv, hm, by omega, ?_, .all fun k j hj => ?_⟩
    · have e1 : xs.drop i = [] := List.drop_of_length_le (by have := hwa.len; omega)
      rw [e1]; simpa [zipB] using hwo
    · obtain ⟨j, rfl, _⟩ := succ_of (n := 0) (by omega : 0 + 1 ≤ j)
      show b97v2_122 k (l97v2_122 k j) a b out a.length i g m = _
      unfold b97v2_122
      rw [decide_eq_false (by omega : ¬ (i : Int) < a.length)]; rfl
  | succ d ih =>
    intro i g m out bs hi hia hv hm hg hwa hwb hwo ho
    have hw1 : w64 ((i : Int) + 1) = ((i + 1 : Nat) : Int) := by rw [w_id (by omega) (by omega)]; omega
    obtain ⟨x, bx, hx, hbx, lx, vx⟩ := hwa.get (i := i) (by omega)
    obtain ⟨y, by_, hy, hby, ly, vy⟩ := hwb.get (i := i) (by omega)
    obtain ⟨g1, m1, r, he1, hv1, hm1, hl1, lr, vr, hE1⟩ := xor_op (ins := ins) hv hm (by omega) lx ly
    obtain ⟨g2, m2, out2, he2, hv2, hm2, hl2, hw2, hE2⟩ := ih (i + 1) g1 m1 (out ++ [r]) (bs ++ [!(bx == by_)]) (by omega) (by omega) hv1 hm1 (by omega) (old_word he1 hwa) (old_word he1 hwb) ((old_word he1 hwo).snoc lr (by rw [vr, vx, vy])) (by rw [List.length_append, ho]; rfl)
    refine ⟨g2, m2, out2, ext_trans he1 he2, hv2, hm2, by omega, ?_, hE1.mono2 hE2 fun k e1 e2 j hj => ?_⟩
    · rw [zipB_drop _ hbx hby]
      rw [List.append_assoc] at hw2; exact hw2
    · obtain ⟨j, rfl, hj2⟩ := succ_of (by omega : d + 1 + 1 ≤ j)
      show b97v2_122 k (l97v2_122 k j) a b out a.length i g m = _
      dsimp only at e1
      unfold b97v2_122
      rw [decide_eq_true (by omega : (i : Int) < a.length), cond_true, ix_nat hx, ix_nat hy, e1]
      simp only [Option.bind_some]
      rw [gd_dec (by unfold room; omega), hw1, e2 j hj2]; rfl
theorem xor53 (hv : Valid g) (hm : MapOk g m) (hg : g.length + 48 ≤ 1000000) {a b : List Int} {xs ys : List Bool} (hwa : Word ins g a xs) (hwb : Word ins g b ys) (hab : a.length = b.length) (h1 : 1 ≤ a.length) (h2 : a.length ≤ 16) :
    OpI ins g 48 (fun k => f53 k a b g m) (zipB (fun x y => !(x == y)) xs ys) := by
  obtain ⟨g', m', out, he, hv', hm', hl, hw, hE⟩ := xor_loop (ins := ins) hab h2 a.length 0 g m [] [] (by omega) (by omega) hv hm (by omega) hwa hwb Word.nil rfl
  rw [List.drop_zero, List.drop_zero, List.nil_append] at hw
  refine ⟨g', m', out, he, hv', hm', by omega, hw, hE.mono2 (E.ge 30) fun k e hk => ?_⟩
  have hol : out.length = a.length := by rw [hw.len, zipB_len _ _ _ (by rw [← hwa.len, ← hwb.len]; exact hab), hwa.len]
  have e := e k (by omega)
  rw [show ((0 : Nat) : Int) = 0 from rfl] at e
  show f53 k a b g m = _
  unfold f53 f97v2
  rw [pair95 k (by omega) (by omega) hab h1 h2 hwa.lit hwb.lit]
  simp only [Option.bind_some, Bool.not_true, cond_false]
  rw [e]
  simp only [Option.bind_some]
  rw [whole92 (g := g') k (by omega) hw.lit (by omega)]
  rfl

/-! ### negations -/
theorem xor1w {l : Int} (hg : g.length ≤ 1000000) (h : isL g l = true) : ibits .xor .i64 l 1 = nt l := by
  have := isL_iff.1 h
  exact xor1 this.1 (by omega)
theorem not_loop (k : Nat) (hg : g.length ≤ 1000000) {a : List Int} (ha : a.length ≤ 16) (h : ∀ x ∈ a, isL g x = true) : ∀ (d i : Nat) (out : List Int), a.length - i = d → i ≤ a.length → out.length = i → ∀ j, d < j → l97v3_122 k j a a out a.length i = some ((out ++ (a.drop i).map nt, ()), ()) := by
  intro d
  induction d with
  | zero =>
    intro i out hi hia ho j hj
    obtain ⟨j, rfl, _⟩ := succ_of (n := 0) (by omega : 0 + 1 ≤ j)
    show b97v3_122 k (l97v3_122 k j) a a out a.length i = _
    unfold b97v3_122
    rw [decide_eq_false (by omega : ¬ (i : Int) < a.length), List.drop_of_length_le (by omega)]
    simp
  | succ d ih =>
    intro i out hi hia ho j hj
    obtain ⟨j, rfl, hj2⟩ := succ_of (by omega : d + 1 + 1 ≤ j)
    show b97v3_122 k (l97v3_122 k j) a a out a.length i = _
    have hw1 : w64 ((i : Int) + 1) = ((i + 1 : Nat) : Int) := by rw [w_id (by omega) (by omega)]; omega
    have hlt : i < a.length := by omega
    have hx : a[i]? = some a[i] := List.getElem?_eq_getElem hlt
    unfold b97v3_122 f98
    rw [decide_eq_true (by omega : (i : Int) < a.length), cond_true, ix_nat hx, ix_nat hx]
    simp only [Option.bind_some]
    rw [gd_dec (by unfold room; omega), xor1w hg (h _ (List.getElem_mem _)), hw1, ih (i + 1) (out ++ [nt a[i]]) (by omega) (by omega) (by rw [List.length_append, ho]; rfl) j hj2, List.drop_eq_getElem_cons hlt, List.map_cons]
    simp
theorem not54 (k : Nat) (hk : 30 < k) (hg : g.length ≤ 1000000) {a : List Int} (h1 : 1 ≤ a.length) (h2 : a.length ≤ 16) (h : ∀ x ∈ a, isL g x = true) : f54 k a g m = some ((a.map nt, ()), ()) := by
  unfold f54 f97v3
  have e := not_loop k hg h2 h a.length 0 [] (by omega) (by omega) rfl k (by omega)
  rw [show ((0 : Nat) : Int) = 0 from rfl, List.nil_append, List.drop_zero] at e
  rw [pair95 k (by omega) (by omega) rfl h1 h2 h h]
  simp only [Option.bind_some, Bool.not_true, cond_false]
  rw [e]
  simp only [Option.bind_some]
  rw [whole92 (g := g) k (by rw [List.length_map]; omega) (fun y hy => by obtain ⟨x, hx, rfl⟩ := List.mem_map.1 hy; exact isL_nt (h x hx)) (by omega)]
  rfl
theorem turned_loop (k : Nat) (hg : g.length ≤ 1000000) {a : List Int} (ha : a.length ≤ 17) (h : ∀ x ∈ a, isL g x = true) : ∀ (d i : Nat) (out : List Int), a.length - i = d → i ≤ a.length → out.length = i → ∀ j, d < j → l104_58 k j out a a.length i = some ((out ++ (a.drop i).map nt, ()), ()) := by
  intro d
  induction d with
  | zero =>
    intro i out hi hia ho j hj
    obtain ⟨j, rfl, _⟩ := succ_of (n := 0) (by omega : 0 + 1 ≤ j)
    show b104_58 k (l104_58 k j) out a a.length i = _
    unfold b104_58
    rw [decide_eq_false (by omega : ¬ (i : Int) < a.length), List.drop_of_length_le (by omega)]
    simp
  | succ d ih =>
    intro i out hi hia ho j hj
    obtain ⟨j, rfl, hj2⟩ := succ_of (by omega : d + 1 + 1 ≤ j)
    show b104_58 k (l104_58 k j) out a a.length i = _
    have hw1 : w64 ((i : Int) + 1) = ((i + 1 : Nat) : Int) := by rw [w_id (by omega) (by omega)]; omega
    have hlt : i < a.length := by omega
    have hx : a[i]? = some a[i] := List.getElem?_eq_getElem hlt
    unfold b104_58
    rw [decide_eq_true (by omega : (i : Int) < a.length), cond_true, ix_nat hx, gd_dec (by unfold room; omega), xor1w hg (h _ (List.getElem_mem _)), hw1, ih (i + 1) (out ++ [nt a[i]]) (by omega) (by omega) (by rw [List.length_append, ho]; rfl) j hj2, List.drop_eq_getElem_cons hlt, List.map_cons]
    simp
theorem turned104 (k : Nat) (hk : 30 < k) (hg : g.length ≤ 1000000) {a : List Int} (h2 : a.length ≤ 17) (h : ∀ x ∈ a, isL g x = true) : f104 k a = some ((a.map nt, ()), ()) := by
  unfold f104
  have e := turned_loop k hg h2 h a.length 0 [] (by omega) (by omega) rfl k (by omega)
  rw [show ((0 : Nat) : Int) = 0 from rfl, List.nil_append, List.drop_zero] at e
  rw [e]; rfl

/-! ### sums -/
theorem addS_drop {xs ys : List Bool} {i : Nat} {x y : Bool} (hx : xs[i]? = some x) (hy : ys[i]? = some y) (c : Bool) : addS (xs.drop i) (ys.drop i) c = ((!((!(x == y)) == c)) :: (addS (xs.drop (i + 1)) (ys.drop (i + 1)) ((x && y) || ((!(x == y)) && c))).1, (addS (xs.drop (i + 1)) (ys.drop (i + 1)) ((x && y) || ((!(x == y)) && c))).2) := by
  have h1 := Vm.getElem?_lt hx
  have h2 := Vm.getElem?_lt hy
  rw [List.drop_eq_getElem_cons h1, List.drop_eq_getElem_cons h2, addS]
  rw [List.getElem?_eq_getElem h1] at hx
  rw [List.getElem?_eq_getElem h2] at hy
  simp only [Option.some.injEq] at hx hy
  rw [hx, hy]
theorem sum_loop {a b : List Int} {xs ys : List Bool} (hab : a.length = b.length) (ha : a.length ≤ 17) : ∀ (d i : Nat) (g : List D_Gate) (m : Mp) (c : Int) (cb : Bool) (out : List Int) (bs : List Bool), a.length - i = d → i ≤ a.length → Valid g → MapOk g m → g.length + 9 * d ≤ 1000000 →
    Word ins g a xs → Word ins g b ys → isL g c = true → Aig.val ins g c = cb → Word ins g out bs → out.length = i →
    ∃ (g' : List D_Gate) (m' : Mp) (c' : Int) (out' : List Int), (∃ e, g' = g ++ e) ∧ Valid g' ∧ MapOk g' m' ∧ g'.length ≤ g.length + 9 * d ∧ isL g' c' = true ∧ Aig.val ins g' c' = (addS (xs.drop i) (ys.drop i) cb).2 ∧ Word ins g' out' (bs ++ (addS (xs.drop i) (ys.drop i) cb).1) ∧
      E fun k => ∀ j, d < j → l96_58 k j a b c out a.length i g m = some ((c', out', ()), ((g', (), ()), m', ())) := by
  intro d
  induction d with
  | zero =>
    intro i g m c cb out bs hi hia hv hm hg hwa hwb lc vc hwo ho
    have e1 : xs.drop i = [] := List.drop_of_length_le (by have := hwa.len; omega)
    refine ⟨g, m, c, out, ⟨[], by simp⟩, hv, hm, by omega, lc, by rw [e1]; simpa [addS] using vc, by rw [e1]; simpa [addS] using hwo, .all fun k j hj => ?_⟩
    obtain ⟨j, rfl, _⟩ := succ_of (n := 0) (by omega : 0 + 1 ≤ j)
    show b96_58 k (l96_58 k j) a b c out a.length i g m = _
    unfold b96_58
    rw [decide_eq_false (by omega : ¬ (i : Int) < a.length)]; rfl
  | succ d ih =>
    intro i g m c cb out bs hi hia hv hm hg hwa hwb lc vc hwo ho
    have hw1 : w64 ((i : Int) + 1) = ((i + 1 : Nat) : Int) := by rw [w_id (by omega) (by omega)]; omega
    obtain ⟨x, bx, hx, hbx, lx, vx⟩ := hwa.get (i := i) (by omega)
    obtain ⟨y, by_, hy, hby, ly, vy⟩ := hwb.get (i := i) (by omega)
    obtain ⟨g1, m1, h, he1, hv1, hm1, hl1, lh, vh, hE1⟩ := xor_op (ins := ins) hv hm (by omega) lx ly
    have lc1 := old_lit (ins := ins) he1 lc
    obtain ⟨g2, m2, s, he2, hv2, hm2, hl2, ls, vs, hE2⟩ := xor_op (ins := ins) hv1 hm1 (by omega) lh lc1.1
    have lx2 := old_lit (ins := ins) (ext_trans he1 he2) lx
    have ly2 := old_lit (ins := ins) (ext_trans he1 he2) ly
    obtain ⟨g3, m3, p, he3, hv3, hm3, hl3, lp, vp, hE3⟩ := and_op (ins := ins) hv2 hm2 (by omega) lx2.1 ly2.1
    have lh3 := old_lit (ins := ins) (ext_trans he2 he3) lh
    have lc3 := old_lit (ins := ins) (ext_trans (ext_trans he1 he2) he3) lc
    obtain ⟨g4, m4, q, he4, hv4, hm4, hl4, lq, vq, hE4⟩ := and_op (ins := ins) hv3 hm3 (by omega) lh3.1 lc3.1
    have lp4 := old_lit (ins := ins) he4 lp
    obtain ⟨g5, m5, r, he5, hv5, hm5, hl5, lr, vr, hE5⟩ := or_op (ins := ins) hv4 hm4 (by omega) lp4.1 lq
    have he := ext_trans (ext_trans (ext_trans (ext_trans he1 he2) he3) he4) he5
    have ls5 := old_lit (ins := ins) (ext_trans (ext_trans he3 he4) he5) ls
    have hr : Aig.val ins g5 r = ((bx && by_) || ((!(bx == by_)) && cb)) := by rw [vr, lp4.2, vp, lx2.2, ly2.2, vq, lh3.2, vh, lc3.2, vx, vy, vc]
    have hs : Aig.val ins g5 s = (!((!(bx == by_)) == cb)) := by rw [ls5.2, vs, vh, lc1.2, vx, vy, vc]
    obtain ⟨g6, m6, c', out', he6, hv6, hm6, hl6, lc6, vc6, hw6, hE6⟩ := ih (i + 1) g5 m5 r _ (out ++ [s]) (bs ++ [(!((!(bx == by_)) == cb))]) (by omega) (by omega) hv5 hm5 (by omega) (old_word he hwa) (old_word he hwb) lr hr ((old_word he hwo).snoc ls5.1 hs) (by rw [List.length_append, ho]; rfl)
    refine ⟨g6, m6, c', out', ext_trans he he6, hv6, hm6, by omega, lc6, ?_, ?_, ((hE1.and hE2).and (hE3.and hE4)).mono3 hE5 hE6 fun k e e5 e6 j hj => ?_⟩
    · rw [addS_drop hbx hby]; exact vc6
    · rw [addS_drop hbx hby]
      rw [List.append_assoc] at hw6; exact hw6
    · obtain ⟨⟨e1, e2⟩, e3, e4⟩ := e
      dsimp only at e1 e2 e3 e4 e5
      obtain ⟨j, rfl, hj2⟩ := succ_of (by omega : d + 1 + 1 ≤ j)
      show b96_58 k (l96_58 k j) a b c out a.length i g m = _
      unfold b96_58
      rw [decide_eq_true (by omega : (i : Int) < a.length), cond_true, ix_nat hx, ix_nat hy, e1]
      simp only [Option.bind_some]
      rw [e2]
      simp only [Option.bind_some]
      rw [gd_dec (by unfold room; omega), ix_nat hx, ix_nat hy, e3]
      simp only [Option.bind_some]
      rw [e4]
      simp only [Option.bind_some]
      rw [e5]
      simp only [Option.bind_some]
      rw [hw1, e6 j hj2]; rfl
theorem sum96 (hv : Valid g) (hm : MapOk g m) (hg : g.length + 153 ≤ 1000000) {a b : List Int} {xs ys : List Bool} (hwa : Word ins g a xs) (hwb : Word ins g b ys) (hab : a.length = b.length) (h2 : a.length ≤ 17) {c : Int} {cb : Bool} (lc : isL g c = true) (vc : Aig.val ins g c = cb) :
    ∃ (g' : List D_Gate) (m' : Mp) (c' : Int) (out : List Int), (∃ e, g' = g ++ e) ∧ Valid g' ∧ MapOk g' m' ∧ g'.length ≤ g.length + 153 ∧ isL g' c' = true ∧ Aig.val ins g' c' = (addS xs ys cb).2 ∧ Word ins g' out (addS xs ys cb).1 ∧
      E fun k => f96 k a b c g m = some ((out, c', ()), ((g', (), ()), m', ())) := by
  obtain ⟨g', m', c', out, he, hv', hm', hl, lc', vc', hw, hE⟩ := sum_loop (ins := ins) hab h2 a.length 0 g m c cb [] [] (by omega) (by omega) hv hm (by omega) hwa hwb lc vc Word.nil rfl
  rw [List.drop_zero, List.drop_zero] at hw vc'
  rw [List.nil_append] at hw
  refine ⟨g', m', c', out, he, hv', hm', by omega, lc', vc', hw, hE.mono2 (E.ge 30) fun k e hk => ?_⟩
  have e := e k (by omega)
  rw [show ((0 : Nat) : Int) = 0 from rfl] at e
  show f96 k a b c g m = _
  unfold f96
  rw [e]; rfl
end Vec
end Go.Proofs.Ytgljnnokifggkaa.M
/-
Words of bits: questions, one of two words; the law's own words.
-/
set_option linter.unusedVariables false
set_option linter.unusedSimpArgs false
set_option maxRecDepth 100000
namespace Go.Proofs.Ytgljnnokifggkaa.M
open Go Go.Proofs.Ytgljnnokifggkaa.Vm Go.Proofs.Ytgljnnokifggkaa.Pl
namespace Vec
open Aig
variable {g : List D_Gate} {m : Mp} {ins : List Bool}

/-! ### all of some literals -/
theorem AllS_len : ∀ (l : List Int) (g : List D_Gate) (o : Int), Valid g → (AllS g l o).1.length ≤ g.length + l.length ∧ Valid (AllS g l o).1
  | [], g, o, hv => ⟨by simp [AllS], hv⟩
  | x :: l, g, o, hv => by
    have h1 := (And_keeps keeps_valid o x hv)
    have := AllS_len l (And g o x).1 (And g o x).2 h1.1
    rw [AllS, List.length_cons]
    exact ⟨by omega, this.2⟩
theorem all_op (hv : Valid g) (hm : MapOk g m) (hg : g.length + 20 ≤ 1000000) {q : List Int} (hq : q.length ≤ 20) (h : ∀ x ∈ q, isL g x = true) : Op ins g 20 (fun k => f29 k q g m) (q.all (Aig.val ins g)) := by
  have h1 : isL g 1 = true := isL_iff.2 (by omega)
  have := All_told (ins := ins) q g 1 hv h1 h (by omega)
  rw [val_one, Bool.true_and] at this
  exact op_of (all29E hq hv hm (by omega)) this (by have := (AllS_len q g 1 hv).1; omega)
theorem all_word {a : List Int} {bs : List Bool} (h : Word ins g a bs) : a.all (Aig.val ins g) = bs.all id := by
  rw [← h.val, List.all_map]; rfl
theorem eq_bits : ∀ xs ys : List Bool, xs.length = ys.length → (notS (zipB (fun x y => !(x == y)) xs ys)).all id = decide (xs = ys)
  | [], [], _ => by simp [zipB, notS]
  | [], _ :: _, h => by simp at h
  | _ :: _, [], h => by simp at h
  | x :: xs, y :: ys, h => by
    have ih := eq_bits xs ys (by simpa using h)
    unfold notS at ih ⊢
    rw [zipB, List.map_cons, List.all_cons, ih]
    cases x <;> cases y <;> simp
theorem none_bits : ∀ xs : List Bool, (notS xs).all id = decide (num xs = 0)
  | [] => by simp [notS, num]
  | x :: xs => by
    have ih := none_bits xs
    have h0 := num_nonneg xs
    unfold notS at ih ⊢
    rw [List.map_cons, List.all_cons, ih, num]
    cases x
    · by_cases h : num xs = 0
      · simp [h]
      · simp [h]
    · have : ¬ (1 + 2 * num xs = 0) := by omega
      simp [this]
theorem eq64 (hv : Valid g) (hm : MapOk g m) (hg : g.length + 100 ≤ 1000000) {a b : List Int} {xs ys : List Bool} (hwa : Word ins g a xs) (hwb : Word ins g b ys) (hab : a.length = b.length) (h1 : 1 ≤ a.length) (h2 : a.length ≤ 16) :
    Op ins g 68 (fun k => f64 k a b g m) (decide (num xs = num ys)) := by
  have hlen : xs.length = ys.length := by rw [← hwa.len, ← hwb.len]; exact hab
  obtain ⟨g1, m1, out, he1, hv1, hm1, hl1, hw1, hE1⟩ := xor53 (ins := ins) hv hm (by omega) hwa hwb hab h1 h2
  have hol : out.length = a.length := by rw [hw1.len, zipB_len _ _ _ hlen, hwa.len]
  have hwn := hw1.nots
  obtain ⟨g2, m2, r, he2, hv2, hm2, hl2, lr, vr, hE2⟩ := all_op (ins := ins) hv1 hm1 (by omega) (q := out.map nt) (by rw [List.length_map]; omega) hwn.lit
  refine ⟨g2, m2, r, ext_trans he1 he2, hv2, hm2, by omega, lr, ?_, hE1.mono3 hE2 (E.ge 40) fun k e1 e2 hk => ?_⟩
  · rw [vr, all_word hwn, eq_bits _ _ hlen]
    by_cases h : xs = ys
    · rw [decide_eq_true h, h, decide_eq_true rfl]
    · rw [decide_eq_false h, decide_eq_false fun e => h (num_inj _ _ hlen e)]
  · dsimp only at e1 e2
    show f64 k a b g m = _
    unfold f64
    rw [e1]
    simp only [Option.bind_some]
    have hne : out.isEmpty = false := by cases out with
      | nil => simp at hol; omega
      | cons => rfl
    rw [hne, cond_false, not54 k (by omega) (by omega) (by omega) (by omega) hw1.lit]
    simp only [Option.bind_some]
    rw [e2]; rfl
theorem less65 (hv : Valid g) (hm : MapOk g m) (hg : g.length + 200 ≤ 1000000) {a b : List Int} {xs ys : List Bool} (hwa : Word ins g a xs) (hwb : Word ins g b ys) (hab : a.length = b.length) (h1 : 1 ≤ a.length) (h2 : a.length ≤ 16) :
    Op ins g 153 (fun k => f65 k a b g m) (decide (num xs < num ys)) := by
  have hlen : xs.length = ys.length := by rw [← hwa.len, ← hwb.len]; exact hab
  have lo : isL g 1 = true := isL_iff.2 (by omega)
  obtain ⟨g1, m1, c, out, he1, hv1, hm1, hl1, lc, vc, hw1, hE1⟩ := sum96 (ins := ins) hv hm (by omega) hwa hwb.nots (by rw [List.length_map]; exact hab) (by omega) lo (cb := true) val_one
  have hc := isL_iff.1 lc
  refine ⟨g1, m1, nt c, he1, hv1, hm1, by omega, isL_nt lc, ?_, hE1.mono2 (E.ge 40) fun k e1 hk => ?_⟩
  · rw [vnt lc, vc, less_carry hlen]
    by_cases h : num ys ≤ num xs
    · rw [decide_eq_true h, decide_eq_false (by omega)]; rfl
    · rw [decide_eq_false h, decide_eq_true (by omega)]; rfl
  · show f65 k a b g m = _
    unfold f65 f103
    rw [pair95 k (by omega) (by omega) hab h1 h2 hwa.lit hwb.lit]
    simp only [Option.bind_some, Bool.not_true, cond_false]
    rw [turned104 k (by omega) (by omega) (by omega) hwb.lit]
    simp only [Option.bind_some]
    rw [e1]
    simp only [Option.bind_some, beq_int]
    rw [decide_eq_false (by omega : ¬ c = -1), cond_false, xor1w (by omega) lc]
    rfl
/-! ### one of two words -/
theorem ite_loop {a b : List Int} {xs ys : List Bool} (hab : a.length = b.length) (ha : a.length ≤ 16) {c : Int} {cb : Bool} : ∀ (d i : Nat) (g : List D_Gate) (m : Mp) (out : List Int) (bs : List Bool), a.length - i = d → i ≤ a.length → Valid g → MapOk g m → g.length + 3 * d ≤ 1000000 →
    Word ins g a xs → Word ins g b ys → isL g c = true → Aig.val ins g c = cb → Word ins g out bs → out.length = i →
    ∃ (g' : List D_Gate) (m' : Mp) (out' : List Int), (∃ e, g' = g ++ e) ∧ Valid g' ∧ MapOk g' m' ∧ g'.length ≤ g.length + 3 * d ∧ Word ins g' out' (bs ++ zipB (fun x y => cond cb x y) (xs.drop i) (ys.drop i)) ∧
      E fun k => ∀ j, d < j → l97_122 k j a b out a.length i g m c = some ((out', ()), (((), ()), (g', (), ()), m', (c, ()), ())) := by
  intro d
  induction d with
  | zero =>
    intro i g m out bs hi hia hv hm hg hwa hwb lc vc hwo ho
    refine ⟨g, m, out, ⟨[], by simp⟩, hv, hm, by omega, ?_, .all fun k j hj => ?_⟩
    · have e1 : xs.drop i = [] := List.drop_of_length_le (by have := hwa.len; omega)
      rw [e1]; simpa [zipB] using hwo
    · obtain ⟨j, rfl, _⟩ := succ_of (n := 0) (by omega : 0 + 1 ≤ j)
      show b97_122 k (l97_122 k j) a b out a.length i g m c = _
      unfold b97_122
      rw [decide_eq_false (by omega : ¬ (i : Int) < a.length)]; rfl
  | succ d ih =>
    intro i g m out bs hi hia hv hm hg hwa hwb lc vc hwo ho
    have hw1 : w64 ((i : Int) + 1) = ((i + 1 : Nat) : Int) := by rw [w_id (by omega) (by omega)]; omega
    obtain ⟨x, bx, hx, hbx, lx, vx⟩ := hwa.get (i := i) (by omega)
    obtain ⟨y, by_, hy, hby, ly, vy⟩ := hwb.get (i := i) (by omega)
    obtain ⟨g1, m1, r, he1, hv1, hm1, hl1, lr, vr, hE1⟩ := ite_op (ins := ins) hv hm (by omega) lc lx ly
    have lc1 := old_lit (ins := ins) he1 lc
    obtain ⟨g2, m2, out2, he2, hv2, hm2, hl2, hw2, hE2⟩ := ih (i + 1) g1 m1 (out ++ [r]) (bs ++ [cond cb bx by_]) (by omega) (by omega) hv1 hm1 (by omega) (old_word he1 hwa) (old_word he1 hwb) lc1.1 (by rw [lc1.2, vc]) ((old_word he1 hwo).snoc lr (by rw [vr, vc, vx, vy])) (by rw [List.length_append, ho]; rfl)
    refine ⟨g2, m2, out2, ext_trans he1 he2, hv2, hm2, by omega, ?_, hE1.mono2 hE2 fun k e1 e2 j hj => ?_⟩
    · rw [zipB_drop _ hbx hby]
      rw [List.append_assoc] at hw2; exact hw2
    · obtain ⟨j, rfl, hj2⟩ := succ_of (by omega : d + 1 + 1 ≤ j)
      show b97_122 k (l97_122 k j) a b out a.length i g m c = _
      dsimp only at e1
      unfold b97_122 f105
      rw [decide_eq_true (by omega : (i : Int) < a.length), cond_true, ix_nat hx, ix_nat hy, e1]
      simp only [Option.bind_some]
      rw [gd_dec (by unfold room; omega), hw1, e2 j hj2]; rfl
theorem zip_pick (c : Bool) : ∀ xs ys : List Bool, xs.length = ys.length → zipB (fun x y => cond c x y) xs ys = cond c xs ys
  | [], [], _ => by cases c <;> rfl
  | [], _ :: _, h => by simp at h
  | _ :: _, [], h => by simp at h
  | x :: xs, y :: ys, h => by
    rw [zipB, zip_pick c xs ys (by simpa using h)]
    cases c <;> rfl
theorem ite63 (hv : Valid g) (hm : MapOk g m) (hg : g.length + 48 ≤ 1000000) {a b : List Int} {xs ys : List Bool} {c : Int} {cb : Bool} (lc : isL g c = true) (vc : Aig.val ins g c = cb) (hwa : Word ins g a xs) (hwb : Word ins g b ys) (hab : a.length = b.length) (h1 : 1 ≤ a.length) (h2 : a.length ≤ 16) :
    OpW ins g 48 (fun k => f63 k c a b g m) (cond cb xs ys) := by
  have hlen : xs.length = ys.length := by rw [← hwa.len, ← hwb.len]; exact hab
  obtain ⟨g', m', out, he, hv', hm', hl, hw, hE⟩ := ite_loop (ins := ins) hab h2 (c := c) (cb := cb) a.length 0 g m [] [] (by omega) (by omega) hv hm (by omega) hwa hwb lc vc Word.nil rfl
  rw [List.drop_zero, List.drop_zero, List.nil_append, zip_pick _ _ _ hlen] at hw
  refine ⟨g', m', out, he, hv', hm', by omega, hw, hE.mono2 (E.ge 30) fun k e hk => ?_⟩
  have hol : out.length = a.length := by
    rw [hw.len]; cases cb
    · show ys.length = _; rw [← hlen, hwa.len]
    · exact hwa.len.symm
  have e := e k (by omega)
  rw [show ((0 : Nat) : Int) = 0 from rfl] at e
  show f63 k c a b g m = _
  unfold f63 f97
  rw [is24 k (by omega), lc]
  simp only [Option.bind_some, Bool.not_true, cond_false]
  rw [pair95 k (by omega) (by omega) hab h1 h2 hwa.lit hwb.lit]
  simp only [Option.bind_some, Bool.not_true, cond_false]
  rw [e]
  simp only [Option.bind_some]
  rw [whole92 (g := g') k (by omega) hw.lit (by omega)]
  rfl

/-! ### the law's words -/
theorem evL_more (t : List Bool) : ∀ (r : List D_Gate) (v : List Bool) (q : Nat), q + cnt r ≤ ins.length → evL (ins ++ t) r v q = evL ins r v q
  | [], v, q, _ => rfl
  | e :: r, v, q, h => by
    by_cases he : e = inp
    · have hc : cnt (e :: r) = cnt r + 1 := by simp [cnt, he]
      rw [evL, if_pos he, evL, if_pos he, evL_more t r _ (q + 1) (by omega)]
      congr 2
      rw [List.getD_eq_getElem?_getD, List.getD_eq_getElem?_getD, List.getElem?_append_left (by omega)]
    · have hc : cnt (e :: r) = cnt r := by simp [cnt, he]
      rw [evL, if_neg he, evL, if_neg he, evL_more t r _ q (by omega)]
theorem val_more (t : List Bool) (h : cnt g ≤ ins.length) (l : Int) : Aig.val (ins ++ t) g l = Aig.val ins g l := by
  unfold Aig.val Ev
  rw [evL_more t g [] 0 (by omega)]
theorem word_more {a : List Int} {bs : List Bool} (hw : Word ins g a bs) (h : cnt g ≤ ins.length) (t : List Bool) : Word (ins ++ t) g a bs :=
  ⟨hw.lit, by rw [← hw.val]; exact List.map_congr_left fun x _ => val_more t h x⟩
theorem in_val (h : cnt g = ins.length) (b : Bool) : isL (g ++ [inp]) (2 * g.length + 2) = true ∧ Aig.val (ins ++ [b]) (g ++ [inp]) (2 * g.length + 2) = b := by
  refine ⟨isL_iff.2 (by rw [List.length_append]; simp; omega), ?_⟩
  unfold Aig.val
  have hl : (Ev (g ++ [inp]) (ins ++ [b])).length = g.length + 1 := by rw [Ev_len]; simp
  rw [value_lit (by omega) (by rw [hl]; omega), Ev_snoc, if_pos rfl]
  have e1 : ((2 * (g.length : Int) + 2) / 2 - 1).toNat = g.length := by omega
  have e2 : ¬ (2 * (g.length : Int) + 2) % 2 = 1 := by omega
  have hE : (Ev g (ins ++ [b])).length = g.length := Ev_len
  rw [e1, List.getD_eq_getElem?_getD, List.getElem?_append_right (by omega), hE, Nat.sub_self, List.getElem?_cons_zero, decide_eq_false e2, h]
  have : (ins ++ [b]).getD ins.length false = b := by
    rw [List.getD_eq_getElem?_getD, List.getElem?_append_right (Nat.le_refl _)]; simp
  rw [Option.getD_some, this]
  cases b <;> rfl
theorem cnt_inp (g : List D_Gate) : cnt (g ++ [inp]) = cnt g + 1 := by unfold cnt; rw [List.filter_append]; simp
def bit (n : Int) (i : Nat) : Int := n / 2 ^ i % 2
theorem power55 (k : Nat) {w : Nat} (hw : w ≤ 16) : f55 k w = some (((2 ^ w : Int), ()), ()) := by
  unfold f55
  have hp := two_pow16 hw
  have hmin : min ((w : Int).toNat) 64 = w := by omega
  rw [decide_eq_false (by omega : ¬ (w : Int) < 0), cond_false, hmin, Int.one_mul, w_id (by omega) (by omega)]
theorem mod42 (k : Nat) {n : Int} (hn : 0 ≤ n) {w : Nat} (hw : w ≤ 16) : f42 k n w = some ((n % 2 ^ w, ()), ()) := by
  unfold f42
  have hp := two_pow16 hw
  rw [power55 k hw]
  simp only [Option.bind_some]
  generalize (2 : Int) ^ w = q at hp
  have h1 := Int.emod_nonneg n (show q ≠ 0 by omega)
  rw [decide_eq_false (by omega : ¬ q = 0), cond_false, tmod_pos hn, decide_eq_false (by omega : ¬ n % q < 0), cond_false]
theorem bit_loop (k : Nat) {b : Nat} (hb : b ≤ 16) : ∀ (d i : Nat) (n : Int), 0 ≤ n → n ≤ 65536 → b - i = d → ∀ j, d < j → l41_26 k j n b i = some ((n / 2 ^ d, ()), ()) := by
  intro d
  induction d with
  | zero =>
    intro i n h0 h1 hi j hj
    obtain ⟨j, rfl, _⟩ := succ_of (n := 0) (by omega : 0 + 1 ≤ j)
    show b41_26 k (l41_26 k j) n b i = _
    unfold b41_26
    rw [decide_eq_false (by omega : ¬ (i : Int) < b)]
    simp
  | succ d ih =>
    intro i n h0 h1 hi j hj
    obtain ⟨j, rfl, hj2⟩ := succ_of (by omega : d + 1 + 1 ≤ j)
    show b41_26 k (l41_26 k j) n b i = _
    have hw1 : w64 ((i : Int) + 1) = ((i + 1 : Nat) : Int) := by rw [w_id (by omega) (by omega)]; omega
    unfold b41_26
    rw [decide_eq_true (by omega : (i : Int) < b), cond_true, tdiv_pos h0, w_id (n := n / 2) (by omega) (by omega), hw1, ih (i + 1) (n / 2) (by omega) (by omega) (by omega) j hj2, Option.bind_some]
    have : n / 2 / 2 ^ d = n / 2 ^ (d + 1) := by
      rw [Int.ediv_ediv_of_nonneg (by decide), Int.pow_succ, Int.mul_comm]
    rw [this]
theorem bit41 (k : Nat) {n : Int} {i : Nat} (h0 : 0 ≤ n) (h1 : n ≤ 65536) (hi : i ≤ 16) (hk : 16 < k) : f41 k n i = some ((bit n i, ()), ()) := by
  unfold f41
  have := bit_loop k hi i 0 n h0 h1 (by omega) k (by omega)
  rw [show ((0 : Nat) : Int) = 0 from rfl] at this
  rw [this]
  simp only [Option.bind_some]
  rw [tmod_pos (Int.ediv_nonneg h0 (Int.le_of_lt (Int.pow_pos (by decide))))]
  rfl
theorem u64_id {n : Int} (h : 0 ≤ n) (h' : n ≤ 1000) : IntKind.u64.wrap n = n := by
  simp [IntKind.wrap, IntKind.signed, IntKind.bits]; omega
/-- Graph and inputs have grown. -/
structure Grow (ins : List Bool) (g : List D_Gate) (ins' : List Bool) (g' : List D_Gate) : Prop where
  gr : ∃ e, g' = g ++ e
  inr : ∃ t, ins' = ins ++ t
theorem Grow.word {ins' : List Bool} {g' : List D_Gate} (h : Grow ins g ins' g') (hc : cnt g ≤ ins.length) {a : List Int} {bs : List Bool} (hw : Word ins g a bs) : Word ins' g' a bs := by
  obtain ⟨t, rfl⟩ := h.inr
  exact old_word h.gr (word_more hw hc t)
theorem word_loop {n : Int} (hn0 : 0 ≤ n) (hn1 : n ≤ 65536) {w : Nat} (hw : w ≤ 16) {fixed : Int} : ∀ (d i : Nat) (g : List D_Gate) (m : Mp) (ins : List Bool) (out : List Int) (bs : List Bool), w - i = d → i ≤ w → Valid g → MapOk g m → cnt g = ins.length → g.length + d ≤ 1000 → ins.length + d ≤ 1000 →
    Word ins g out bs → out.length = i →
    ∃ (g' : List D_Gate) (m' : Mp) (ins' : List Bool) (out' : List Int), Grow ins g ins' g' ∧ Valid g' ∧ MapOk g' m' ∧ cnt g' = ins'.length ∧ g'.length ≤ g.length + d ∧ ins'.length ≤ ins.length + d ∧ Word ins' g' out' (bs ++ bitsB d (n / 2 ^ i)) ∧
      E fun k => ∀ j, d < j → l94_58 k j n w fixed ins out i g m = some ((ins', out', ()), ((g', (), ()), m', ())) := by
  intro d
  induction d with
  | zero =>
    intro i g m ins out bs hi hia hv hm hc hg hil hwo ho
    refine ⟨g, m, ins, out, ⟨⟨[], by simp⟩, ⟨[], by simp⟩⟩, hv, hm, hc, by omega, by omega, by simpa [bitsB] using hwo, .all fun k j hj => ?_⟩
    obtain ⟨j, rfl, _⟩ := succ_of (n := 0) (by omega : 0 + 1 ≤ j)
    show b94_58 k (l94_58 k j) n w fixed ins out i g m = _
    unfold b94_58
    rw [decide_eq_false (by omega : ¬ (i : Int) < w)]; rfl
  | succ d ih =>
    intro i g m ins out bs hi hia hv hm hc hg hil hwo ho
    have hw1 : w64 ((i : Int) + 1) = ((i + 1 : Nat) : Int) := by rw [w_id (by omega) (by omega)]; omega
    have hu := u64_id (n := (i : Int)) (by omega) (by omega)
    have hbits : bitsB (d + 1) (n / 2 ^ i) = decide (bit n i = 1) :: bitsB d (n / 2 ^ (i + 1)) := by
      rw [bitsB]
      have : n / 2 ^ i / 2 = n / 2 ^ (i + 1) := by rw [Int.ediv_ediv_of_nonneg (Int.le_of_lt (Int.pow_pos (by decide))), Int.pow_succ]
      rw [this]; rfl
    have hb01 : bit n i = 0 ∨ bit n i = 1 := by unfold bit; omega
    by_cases hfx : Int.tmod (Int.fdiv fixed (2 ^ (min ((i : Int)).toNat 32))) 2 = 1
    · -- a constant
      have lb : isL g (bit n i) = true := isL_iff.2 (by omega)
      have vb : Aig.val ins g (bit n i) = decide (bit n i = 1) := by
        rcases hb01 with h | h <;> rw [h]
        · exact val_zero
        · exact val_one
      obtain ⟨g2, m2, ins2, out2, hgr, hv2, hm2, hc2, hl2, hil2, hw2, hE2⟩ := ih (i + 1) g m ins (out ++ [bit n i]) (bs ++ [decide (bit n i = 1)]) (by omega) (by omega) hv hm hc (by omega) (by omega) (hwo.snoc lb vb) (by rw [List.length_append, ho]; rfl)
      refine ⟨g2, m2, ins2, out2, hgr, hv2, hm2, hc2, by omega, by omega, by rw [hbits]; rw [List.append_assoc] at hw2; exact hw2, hE2.mono2 (E.ge 20) fun k e hk j hj => ?_⟩
      obtain ⟨j, rfl, hj2⟩ := succ_of (by omega : d + 1 + 1 ≤ j)
      show b94_58 k (l94_58 k j) n w fixed ins out i g m = _
      unfold b94_58
      rw [decide_eq_true (by omega : (i : Int) < w), cond_true, bit41 k hn0 hn1 (by omega) (by omega)]
      simp only [Option.bind_some]
      rw [hu, decide_eq_false (by omega : ¬ (i : Int) < 0), cond_false]
      rw [beq_int, decide_eq_true hfx, cond_true, gd_dec (by unfold room; omega), hw1, e j hj2]; rfl
    · -- an input
      obtain ⟨ln, vn⟩ := in_val (g := g) hc (decide (bit n i = 1))
      have hgr1 : Grow ins g (ins ++ [decide (bit n i = 1)]) (g ++ [inp]) := ⟨⟨_, rfl⟩, ⟨_, rfl⟩⟩
      obtain ⟨g2, m2, ins2, out2, hgr, hv2, hm2, hc2, hl2, hil2, hw2, hE2⟩ := ih (i + 1) (g ++ [inp]) m (ins ++ [decide (bit n i = 1)]) (out ++ [(2 * g.length + 2 : Int)]) (bs ++ [decide (bit n i = 1)]) (by omega) (by omega) (valid_inp hv) (map_inp hm)
        (by rw [cnt_inp, hc]; simp) (by rw [List.length_append]; simp; omega) (by rw [List.length_append]; simp; omega) ((hgr1.word (by omega) hwo).snoc ln vn) (by rw [List.length_append, ho]; rfl)
      rw [List.length_append] at hl2 hil2
      simp only [List.length_cons, List.length_nil] at hl2 hil2
      refine ⟨g2, m2, ins2, out2, ⟨ext_trans hgr1.gr hgr.gr, by obtain ⟨t, ht⟩ := hgr.inr; exact ⟨[decide (bit n i = 1)] ++ t, by rw [ht, List.append_assoc]⟩⟩, hv2, hm2, hc2, by omega, by omega, by rw [hbits]; rw [List.append_assoc] at hw2; exact hw2, hE2.mono2 (E.ge 20) fun k e hk j hj => ?_⟩
      obtain ⟨j, rfl, hj2⟩ := succ_of (by omega : d + 1 + 1 ≤ j)
      show b94_58 k (l94_58 k j) n w fixed ins out i g m = _
      unfold b94_58
      rw [decide_eq_true (by omega : (i : Int) < w), cond_true, bit41 k hn0 hn1 (by omega) (by omega)]
      simp only [Option.bind_some]
      rw [hu, decide_eq_false (by omega : ¬ (i : Int) < 0), cond_false]
      rw [beq_int, decide_eq_false hfx, cond_false, in25 k (by omega)]
      simp only [Option.bind_some, List.nil_append]
      rw [gd_dec (by unfold room; omega), gd_dec (by unfold room; omega), gd_dec (by unfold room; omega), beq_int, hw1, e j hj2]; rfl
/-- A graph, two words in it, and its inputs. -/
theorem words44 {t : D_Two} (ha0 : 0 ≤ t.1) (ha1 : t.1 ≤ 65535) (hb0 : 0 ≤ t.2.1) (hb1 : t.2.1 ≤ 65535) {w : Nat} (hw1 : 1 ≤ w) (hw : w ≤ 16) :
    ∃ (g : List D_Gate) (m : Mp) (ins : List Bool) (a b : List Int), Valid g ∧ MapOk g m ∧ cnt g = ins.length ∧ g.length ≤ 40 ∧ ins.length ≤ 40 ∧ Word ins g a (bitsB w (t.1 % 2 ^ w)) ∧ Word ins g b (bitsB w (t.2.1 % 2 ^ w)) ∧
      E fun k => f44 k t w = some (((), a, b, ins, ()), ((g, (), ()), m, ())) := by
  have hp := two_pow16 hw
  have hm0 := Int.emod_nonneg t.1 (show (2 : Int) ^ w ≠ 0 by omega)
  have hm1 := Int.emod_lt_of_pos t.1 hp.1
  have hn0 := Int.emod_nonneg t.2.1 (show (2 : Int) ^ w ≠ 0 by omega)
  have hn1 := Int.emod_lt_of_pos t.2.1 hp.1
  obtain ⟨g1, m1, ins1, a, hgr1, hv1, hm1', hc1, hl1, hil1, hw1', hE1⟩ := word_loop (n := t.1 % 2 ^ w) hm0 (by omega) hw (fixed := t.2.2.1) w 0 [] [] [] [] [] (by omega) (by omega) (fun i e he => by simp at he) (fun e _ => rfl) rfl (by simp; omega) (by simp; omega) Word.nil rfl
  obtain ⟨g2, m2, ins2, b, hgr2, hv2, hm2', hc2, hl2, hil2, hw2', hE2⟩ := word_loop (n := t.2.1 % 2 ^ w) hn0 (by omega) hw (fixed := Int.fdiv t.2.2.1 (2 ^ 16)) w 0 g1 m1 ins1 [] [] (by omega) (by omega) hv1 hm1' hc1 (by simp at hl1; omega) (by simp at hil1; omega) Word.nil rfl
  rw [Int.pow_zero, Int.ediv_one, List.nil_append] at hw1' hw2'
  simp only [List.length_nil, Nat.zero_add] at hl1 hil1
  refine ⟨g2, m2, ins2, a, b, hv2, hm2', hc2, by omega, by omega, hgr2.word (by omega) hw1', hw2', hE1.mono3 hE2 (E.ge 40) fun k e1 e2 hk => ?_⟩
  have e1 := e1 k (by omega)
  have e2 := e2 k (by omega)
  rw [show ((0 : Nat) : Int) = 0 from rfl] at e1 e2
  unfold f44 f38 f94
  simp only [Option.bind_some]
  rw [w_id (by omega) (by omega), mod42 k ha0 hw]
  simp only [Option.bind_some]
  rw [e1]
  simp only [Option.bind_some]
  rw [w_id (by omega) (by omega), mod42 k hb0 hw]
  simp only [Option.bind_some]
  rw [e2]
  rfl
theorem awake40 (k : Nat) : f40 (k + 20) () = some ((true, ()), ()) := by kernel_rfl
theorem awake40E : E fun k => f40 k () = some ((true, ()), ()) := ⟨20, fun k hk => by obtain ⟨j, rfl⟩ : ∃ j, k = j + 20 := ⟨k - 20, by omega⟩; exact awake40 j⟩
end Vec
end Go.Proofs.Ytgljnnokifggkaa.M
/-
Words of literals: sums, differences, products.
-/
set_option linter.unusedVariables false
set_option linter.unusedSimpArgs false
set_option maxRecDepth 100000
namespace Go.Proofs.Ytgljnnokifggkaa.M
open Go Go.Proofs.Ytgljnnokifggkaa.Vm Go.Proofs.Ytgljnnokifggkaa.Pl
namespace Vec
open Aig
variable {g : List D_Gate} {m : Mp} {ins : List Bool}
theorem fit_u16 {n : Int} (h : Fit (.int .u16) n) : 0 ≤ n ∧ n ≤ 65535 := by
  have h : (Lit.int .u16 n).wf = true := h.inv
  simpa [Lit.wf, IntKind.min, IntKind.max, IntKind.signed, IntKind.bits] using h
theorem fit_u8 {n : Int} (h : Fit (.int .u8) n) : 0 ≤ n ∧ n ≤ 255 := by
  have h : (Lit.int .u8 n).wf = true := h.inv
  simpa [Lit.wf, IntKind.min, IntKind.max, IntKind.signed, IntKind.bits] using h
theorem fit_two {t : D_Two} (h : Fit T_Two t) : 0 ≤ t.1 ∧ t.1 ≤ 65535 ∧ 0 ≤ t.2.1 ∧ t.2.1 ≤ 65535 := by
  have h1 := h.inv
  have h2 := fit_u16 h1.1
  have h3 := fit_u16 h1.2.inv.1
  exact ⟨h2.1, h2.2, h3.1, h3.2⟩
/-- The law's width. -/
theorem width_of {n : Int} (h : Fit (.int .u8) n) : ∃ w : Nat, 1 ≤ w ∧ w ≤ 8 ∧ w64 (1 + (w64 ((Int.tmod n 8)))) = (w : Int) := by
  have h := fit_u8 h
  refine ⟨1 + (n % 8).toNat, by omega, by omega, ?_⟩
  rw [tmod_pos h.1, w_id (n := n % 8) (by omega) (by omega), w_id (by omega) (by omega)]
  omega
theorem mod_any (k : Nat) {n : Int} {w : Nat} (hw : w ≤ 16) : f42 k n w = some ((n % 2 ^ w, ()), ()) := by
  rcases Int.lt_or_le n 0 with hn | hn
  · unfold f42
    have hp := two_pow16 hw
    rw [power55 k hw]
    simp only [Option.bind_some]
    generalize (2 : Int) ^ w = q at hp
    have h1 := Int.emod_nonneg n (show q ≠ 0 by omega)
    have h2 := Int.emod_lt_of_pos n (show 0 < q by omega)
    rw [decide_eq_false (by omega : ¬ q = 0), cond_false, Int.tmod_eq_emod]
    split
    · rw [show (((0 : Nat) : Int)) = 0 from rfl, Int.sub_zero, decide_eq_false (by omega : ¬ n % q < 0), cond_false]
    · have hq : (q.natAbs : Int) = q := by omega
      rw [hq, decide_eq_true (by omega : n % q - q < 0), cond_true, show n % q - q + q = n % q by omega, w_id (by omega) (by omega)]
  · exact mod42 k hn hw

/-! ### words by their numbers -/
theorem pow_pos2 (w : Nat) : (0 : Int) < 2 ^ w := Int.pow_pos (by omega)
theorem word_bits {bs : List Bool} {w : Nat} {n : Int} (hl : bs.length = w) (h : num bs = n % 2 ^ w) : bs = bitsB w n :=
  num_inj _ _ (by rw [hl, bitsB_len]) (by rw [h, num_bits])
theorem bits_congr {w : Nat} {x y : Int} (h : x % 2 ^ w = y % 2 ^ w) : bitsB w x = bitsB w y := word_bits (bitsB_len _ _) (by rw [num_bits, h])
theorem add_bits (w : Nat) (x y : Int) : (addS (bitsB w x) (bitsB w y) false).1 = bitsB w (x + y) := by
  have hl : (bitsB w x).length = (bitsB w y).length := by rw [bitsB_len, bitsB_len]
  have hs := addS_num (bitsB w x) (bitsB w y) false hl
  have hn := addS_len (bitsB w x) (bitsB w y) false hl
  rw [bitsB_len] at hn hs
  have h0 := num_nonneg (addS (bitsB w x) (bitsB w y) false).1
  have h1 := num_lt (addS (bitsB w x) (bitsB w y) false).1
  rw [hn] at h1
  refine word_bits hn ?_
  rw [num_bits, num_bits] at hs
  have hp := pow_pos2 w
  rw [Int.add_emod]
  generalize (2 : Int) ^ w = q at *
  generalize num (addS (bitsB w x) (bitsB w y) false).1 = s at *
  cases hc : (addS (bitsB w x) (bitsB w y) false).2 with
  | true =>
    rw [hc] at hs
    simp only [if_true, Int.mul_one, Bool.false_eq_true, if_false, Int.add_zero] at hs
    rw [← hs, Int.add_emod_right, Int.emod_eq_of_lt h0 h1]
  | false =>
    rw [hc] at hs
    simp only [Int.mul_zero, Bool.false_eq_true, if_false, Int.add_zero] at hs
    rw [← hs, Int.emod_eq_of_lt h0 h1]
theorem sub_bits (w : Nat) (x y : Int) : (addS (bitsB w x) (notS (bitsB w y)) true).1 = bitsB w (x - y) := by
  have hl : (bitsB w x).length = (notS (bitsB w y)).length := by unfold notS; rw [List.length_map, bitsB_len, bitsB_len]
  have hs := addS_num (bitsB w x) (notS (bitsB w y)) true hl
  have hn := addS_len (bitsB w x) (notS (bitsB w y)) true hl
  rw [bitsB_len] at hn hs
  have h0 := num_nonneg (addS (bitsB w x) (notS (bitsB w y)) true).1
  have h1 := num_lt (addS (bitsB w x) (notS (bitsB w y)) true).1
  rw [hn] at h1
  refine word_bits hn ?_
  rw [num_not, num_bits, num_bits, bitsB_len] at hs
  have hp := pow_pos2 w
  rw [Int.sub_emod]
  generalize (2 : Int) ^ w = q at *
  generalize num (addS (bitsB w x) (notS (bitsB w y)) true).1 = s at *
  cases hc : (addS (bitsB w x) (notS (bitsB w y)) true).2 with
  | true =>
    rw [hc] at hs
    simp only [if_true, Int.mul_one] at hs
    rw [show x % q - y % q = s by omega, Int.emod_eq_of_lt h0 h1]
  | false =>
    rw [hc] at hs
    simp only [if_true, Int.mul_zero, Bool.false_eq_true, if_false] at hs
    rw [show x % q - y % q = s - q by omega, Int.sub_emod, Int.emod_self, Int.sub_zero, Int.emod_emod, Int.emod_eq_of_lt h0 h1]
theorem num_zeros (n : Nat) : num (List.replicate n false) = 0 := by
  induction n with
  | zero => rfl
  | succ n ih => rw [List.replicate_succ, num, ih]; rfl
theorem zero_word (w : Nat) : Word ins g (List.replicate w 0) (bitsB w 0) := by
  rw [← word_bits (bs := List.replicate w false) (n := 0) (by simp) (by rw [num_zeros, Int.zero_emod])]
  exact ⟨fun x hx => by rw [(List.mem_replicate.1 hx).2]; exact isL_iff.2 (by omega), by rw [List.map_replicate, val_zero]⟩
theorem zero_const {w : Nat} (h1 : 1 ≤ w) (h2 : w ≤ 16) (k : Nat) : f37o k 0 w = some ((w, ()), (List.replicate w 0, ())) := by
  unfold f37o
  rw [decide_eq_true (by omega : (1 : Int) ≤ w), decide_eq_true (by omega : (w : Int) ≤ 16)]
  have e : constL 0 ((w : Int).toNat) = List.replicate w 0 := by
    unfold constL
    rw [Int.toNat_natCast]
    apply List.ext_getElem
    · simp
    · intro i h _
      simp only [List.getElem_map, List.getElem_replicate]
      unfold cbit
      rw [Int.zero_ediv]; rfl
  rw [e]; rfl
theorem zero_loop (k : Nat) {w : Nat} (hw : w ≤ 16) : ∀ (d : Nat) (i : Nat), w - i = d → i ≤ w → ∀ j, d < j → l37v2_122 k j 0 (List.replicate i 0) w i = some ((List.replicate w 0, ()), ()) := by
  intro d
  induction d with
  | zero =>
    intro i hi hiw j hj
    obtain ⟨j, rfl, _⟩ := succ_of (n := 0) (by omega : 0 + 1 ≤ j)
    show b37v2_122 k (l37v2_122 k j) 0 _ w i = _
    unfold b37v2_122
    rw [decide_eq_false (by omega : ¬ (i : Int) < w), show i = w by omega]; rfl
  | succ d ih =>
    intro i hi hiw j hj
    obtain ⟨j, rfl, hj2⟩ := succ_of (by omega : d + 1 + 1 ≤ j)
    show b37v2_122 k (l37v2_122 k j) 0 _ w i = _
    have hw1 : w64 ((i : Int) + 1) = ((i + 1 : Nat) : Int) := by rw [w_id (by omega) (by omega)]; omega
    unfold b37v2_122
    rw [decide_eq_true (by omega : (i : Int) < w), cond_true, decide_eq_false (by omega : ¬ (i : Int) < 0), cond_false, gd_dec (by rw [List.length_replicate]; unfold room; omega), Int.zero_fdiv]
    have e : List.replicate i (0 : Int) ++ [ibits .and .i64 0 1] = List.replicate (i + 1) 0 := by rw [List.replicate_succ']; rfl
    rw [hw1, e, ih (i + 1) (by omega) (by omega) j hj2]; rfl
theorem zero37 (k : Nat) (hk : 20 < k) {w : Nat} (h1 : 1 ≤ w) (h2 : w ≤ 16) : f37v2 k 0 w = some ((List.replicate w 0, ()), ()) := by
  unfold f37v2
  rw [decide_eq_false (by omega : ¬ (w : Int) < 1), decide_eq_false (by omega : ¬ (w : Int) > 16)]
  have := zero_loop k h2 w 0 (by omega) (by omega) k (by omega)
  rw [show ((0 : Nat) : Int) = 0 from rfl, List.replicate_zero] at this
  simp only [cond_false]
  rw [this]; rfl

/-! ### sums -/
theorem add46 (hv : Valid g) (hm : MapOk g m) (hg : g.length + 153 ≤ 1000000) {a b : List Int} {w : Nat} {x y : Int} (h1 : 1 ≤ w) (h2 : w ≤ 16) (hwa : Word ins g a (bitsB w x)) (hwb : Word ins g b (bitsB w y)) :
    ∃ (g' : List D_Gate) (m' : Mp) (out : List Int), (∃ e, g' = g ++ e) ∧ Valid g' ∧ MapOk g' m' ∧ g'.length ≤ g.length + 153 ∧ Word ins g' out (bitsB w (x + y)) ∧ E fun k => f46 k a b g m = some (.inr ((out, ()), ((g', (), ()), m', ()))) := by
  have la : a.length = w := by rw [hwa.len, bitsB_len]
  have lb : b.length = w := by rw [hwb.len, bitsB_len]
  have lz : isL g 0 = true := isL_iff.2 (by omega)
  obtain ⟨g', m', c', out, he, hv', hm', hl, lc, vc, hw, hE⟩ := sum96 (ins := ins) hv hm hg hwa hwb (by omega) (by omega) lz (cb := false) val_zero
  rw [add_bits] at hw
  refine ⟨g', m', out, he, hv', hm', hl, hw, hE.mono2 (E.ge 40) fun k e hk => ?_⟩
  have hol : out.length = w := by rw [hw.len, bitsB_len]
  unfold f46
  rw [pair95 k (by omega) (by omega) (by omega) (by omega) (by omega) hwa.lit hwb.lit]
  simp only [Option.bind_some, Bool.not_true, cond_false]
  rw [e]
  simp only [Option.bind_some]
  rw [whole92 (g := g') k (by omega) hw.lit (by omega)]
  rfl
theorem sub47 (hv : Valid g) (hm : MapOk g m) (hg : g.length + 153 ≤ 1000000) {a b : List Int} {w : Nat} {x y : Int} (h1 : 1 ≤ w) (h2 : w ≤ 16) (hwa : Word ins g a (bitsB w x)) (hwb : Word ins g b (bitsB w y)) :
    OpW ins g 153 (fun k => f47 k a b g m) (bitsB w (x - y)) := by
  have la : a.length = w := by rw [hwa.len, bitsB_len]
  have lb : b.length = w := by rw [hwb.len, bitsB_len]
  have l1 : isL g 1 = true := isL_iff.2 (by omega)
  obtain ⟨g', m', c', out, he, hv', hm', hl, lc, vc, hw, hE⟩ := sum96 (ins := ins) hv hm hg hwa hwb.nots (by rw [List.length_map]; omega) (by omega) l1 (cb := true) val_one
  rw [sub_bits] at hw
  refine ⟨g', m', out, he, hv', hm', hl, hw, hE.mono2 (E.ge 60) fun k e hk => ?_⟩
  have hol : out.length = w := by rw [hw.len, bitsB_len]
  show f47 k a b g m = _
  unfold f47
  rw [pair95 k (by omega) (by omega) (by omega) (by omega) (by omega) hwa.lit hwb.lit]
  simp only [Option.bind_some, Bool.not_true, cond_false]
  rw [not54 k (by omega) (by omega) (by omega) (by omega) hwb.lit]
  simp only [Option.bind_some]
  rw [e]
  simp only [Option.bind_some]
  rw [whole92 (g := g') k (by omega) hw.lit (by omega)]
  rfl
theorem neg48 (hv : Valid g) (hm : MapOk g m) (hg : g.length + 153 ≤ 1000000) {a : List Int} {w : Nat} {x : Int} (h1 : 1 ≤ w) (h2 : w ≤ 16) (hwa : Word ins g a (bitsB w x)) :
    OpW ins g 153 (fun k => f48 k a g m) (bitsB w (0 - x)) := by
  have la : a.length = w := by rw [hwa.len, bitsB_len]
  obtain ⟨g', m', out, he, hv', hm', hl, hw, hE⟩ := sub47 (ins := ins) hv hm hg h1 h2 (zero_word w) hwa
  refine ⟨g', m', out, he, hv', hm', hl, hw, hE.mono2 (E.ge 60) fun k e hk => ?_⟩
  dsimp only at e
  show f48 k a g m = _
  unfold f48
  rw [la, zero37 k (by omega) h1 h2]
  simp only [Option.bind_some]
  rw [e]; rfl

/-! ### an array for a word -/
section
variable {R A : Type}
theorem ixo {b : List A} {t : Int} {f : A → Option R} : gd (decide (0 ≤ t)) (gd (decide (t.toNat < b.length)) ((b[(0 + t.toNat)]?).bind f)) = ix b t f := by
  unfold gd ix
  cases decide (0 ≤ t) with
  | false => rfl
  | true =>
    rw [Nat.zero_add]
    by_cases h : t.toNat < b.length
    · rw [decide_eq_true h]; rfl
    · rw [decide_eq_false h, List.getElem?_eq_none (by omega)]; rfl
theorem ix_case {b : List A} {t : Int} {f : A → Option R} {r : R} (h : ix b t f = some r) : ∃ e, (∀ (B : Type) (f' : A → Option B), ix b t f' = f' e) ∧ f e = some r := by
  unfold ix at h
  cases hd : decide (0 ≤ t) with
  | false => rw [hd] at h; cases h
  | true =>
    rw [hd] at h
    cases he : b[t.toNat]? with
    | none => rw [he] at h; cases h
    | some e => rw [he] at h; exact ⟨e, fun B f' => by unfold ix; rw [hd, he]; rfl, h⟩
theorem gd_case {c : Bool} {o : Option R} {r : R} (h : gd c o = some r) : c = true ∧ o = some r := by
  cases c with
  | false => cases h
  | true => exact ⟨rfl, h⟩
end
theorem lift96 (k : Nat) : ∀ (j : Nat) (a b : List Int) (c : Int) (out : List Int) (n i : Int) (g : List D_Gate) (m : Mp) (y : R96_58), l96_58 k j a b c out n i g m = some y → l96v3_58 k j a b.length c out n i g m b = some (y.1, (y.2.1, y.2.2.1, b, ())) := by
  intro j
  induction j with
  | zero => intro a b c out n i g m y h; cases h
  | succ j ih =>
    intro a b c out n i g m y h
    have h : b96_58 k (l96_58 k j) a b c out n i g m = some y := h
    show b96v3_58 k (l96v3_58 k j) a b.length c out n i g m b = _
    unfold b96_58 at h
    unfold b96v3_58
    simp only [ixo]
    cases hd : decide (i < n) with
    | false =>
      rw [hd] at h
      obtain rfl := Option.some.inj h
      rfl
    | true =>
      rw [hd, cond_true] at h
      rw [cond_true]
      obtain ⟨e1, q1, h⟩ := ix_case h
      obtain ⟨e2, q2, h⟩ := ix_case h
      obtain ⟨y3, h3, h⟩ := bind_some h
      obtain ⟨y4, h4, h⟩ := bind_some h
      obtain ⟨hr, h⟩ := gd_case h
      rw [q1, q2] at h
      obtain ⟨y7, h7, h⟩ := bind_some h
      obtain ⟨y8, h8, h⟩ := bind_some h
      obtain ⟨y9, h9, h⟩ := bind_some h
      obtain ⟨y10, h10, h⟩ := bind_some h
      obtain rfl := Option.some.inj h
      rw [q1, q2, h3]
      simp only [Option.bind_some]
      rw [h4]
      simp only [Option.bind_some]
      rw [hr, q1, q2, h7]
      simp only [gd_true, Option.bind_some]
      rw [h8]
      simp only [Option.bind_some]
      rw [h9]
      simp only [Option.bind_some]
      rw [ih _ _ _ _ _ _ _ _ _ h10]; rfl
theorem sum96v3 (k : Nat) {a b : List Int} {c : Int} {y : R96} (h : f96 k a b c g m = some y) : f96v3 k a b.length c g m b = some (y.1, (y.2.1, y.2.2.1, b, ())) := by
  unfold f96 at h
  obtain ⟨y1, h1, h⟩ := bind_some h
  obtain rfl := Option.some.inj h
  unfold f96v3
  rw [lift96 k _ _ _ _ _ _ _ _ _ _ h1]; rfl
theorem add46v3 (hv : Valid g) (hm : MapOk g m) (hg : g.length + 153 ≤ 1000000) {a b : List Int} {w : Nat} {x y : Int} (h1 : 1 ≤ w) (h2 : w ≤ 16) (hwa : Word ins g a (bitsB w x)) (hwb : Word ins g b (bitsB w y)) :
    ∃ (g' : List D_Gate) (m' : Mp) (out : List Int), (∃ e, g' = g ++ e) ∧ Valid g' ∧ MapOk g' m' ∧ g'.length ≤ g.length + 153 ∧ Word ins g' out (bitsB w (x + y)) ∧ E fun k => f46v3 k a w g m b = some (.inr ((out, ()), ((g', (), ()), m', b, ()))) := by
  have la : a.length = w := by rw [hwa.len, bitsB_len]
  have lb : b.length = w := by rw [hwb.len, bitsB_len]
  have lz : isL g 0 = true := isL_iff.2 (by omega)
  obtain ⟨g', m', c', out, he, hv', hm', hl, lc, vc, hw, hE⟩ := sum96 (ins := ins) hv hm hg hwa hwb (by omega) (by omega) lz (cb := false) val_zero
  rw [add_bits] at hw
  refine ⟨g', m', out, he, hv', hm', hl, hw, hE.mono2 (E.ge 40) fun k e hk => ?_⟩
  have hol : out.length = w := by rw [hw.len, bitsB_len]
  have e3 := sum96v3 k e
  rw [lb] at e3
  unfold f46v3
  rw [gd_dec (by omega), List.drop_zero, List.take_of_length_le (by omega), pair95 k (by omega) (by omega) (by omega) (by omega) (by omega) hwa.lit hwb.lit]
  simp only [Option.bind_some, Bool.not_true, cond_false]
  rw [e3]
  simp only [Option.bind_some]
  rw [whole92 (g := g') k (by omega) hw.lit (by omega)]
  rfl

/-! ### products -/
theorem row_loop {a b : List Int} {xs : List Bool} {w i : Nat} (hla : a.length = w) (hw : w ≤ 16) (hi : i < w) {y : Int} {yb : Bool} (hy : b[i]? = some y) : ∀ (d k0 : Nat) (g : List D_Gate) (m : Mp) (pre : List Int) (bs : List Bool), w - k0 = d → i ≤ k0 → k0 ≤ w → Valid g → MapOk g m → g.length + d ≤ 1000000 →
    Word ins g a xs → isL g y = true → Aig.val ins g y = yb → Word ins g pre bs → pre.length = k0 →
    ∃ (g' : List D_Gate) (m' : Mp) (out : List Int), (∃ e, g' = g ++ e) ∧ Valid g' ∧ MapOk g' m' ∧ g'.length ≤ g.length + d ∧ Word ins g' out (bs ++ ((xs.drop (k0 - i)).take d).map (· && yb)) ∧
      E fun k => ∀ j, d < j → l49_125338 k j a b i w k0 g m (pre ++ List.replicate d 0) = some ((), ((g', (), ()), m', out, ())) := by
  intro d
  induction d with
  | zero =>
    intro k0 g m pre bs hd hik hkw hv hm hg hwa ly vy hwp hp
    refine ⟨g, m, pre, ⟨[], by simp⟩, hv, hm, by omega, by simpa using hwp, .all fun k j hj => ?_⟩
    obtain ⟨j, rfl, _⟩ := succ_of (n := 0) (by omega : 0 + 1 ≤ j)
    show b49_125338 k (l49_125338 k j) a b i w k0 g m _ = _
    unfold b49_125338
    rw [decide_eq_false (by omega : ¬ (k0 : Int) < a.length), List.replicate_zero, List.append_nil]; rfl
  | succ d ih =>
    intro k0 g m pre bs hd hik hkw hv hm hg hwa ly vy hwp hp
    have hw1 : w64 ((k0 : Int) + 1) = ((k0 + 1 : Nat) : Int) := by rw [w_id (by omega) (by omega)]; omega
    have hw2 : w64 ((k0 : Int) - (i : Int)) = ((k0 - i : Nat) : Int) := by rw [w_id (by omega) (by omega)]; omega
    obtain ⟨x, bx, hx, hbx, lx, vx⟩ := hwa.get (i := k0 - i) (by omega)
    obtain ⟨g1, m1, r, he1, hv1, hm1, hl1, lr, vr, hE1⟩ := and_op (ins := ins) hv hm (by omega) lx ly
    have hwy := old_lit (ins := ins) he1 ly
    obtain ⟨g2, m2, out2, he2, hv2, hm2, hl2, hw2', hE2⟩ := ih (k0 + 1) g1 m1 (pre ++ [r]) (bs ++ [bx && yb]) (by omega) (by omega) (by omega) hv1 hm1 (by omega) (old_word he1 hwa) hwy.1 (by rw [hwy.2, vy]) ((old_word he1 hwp).snoc lr (by rw [vr, vx, vy])) (by rw [List.length_append, hp]; rfl)
    refine ⟨g2, m2, out2, ext_trans he1 he2, hv2, hm2, by omega, ?_, hE1.mono2 hE2 fun k e1 e2 j hj => ?_⟩
    · have hlt := Vm.getElem?_lt hbx
      have hbx' : xs[k0 - i] = bx := by rw [List.getElem?_eq_getElem hlt] at hbx; exact Option.some.inj hbx
      rw [List.drop_eq_getElem_cons hlt, List.take_succ_cons, List.map_cons, hbx']
      rw [List.append_assoc, show k0 + 1 - i = k0 - i + 1 by omega] at hw2'; exact hw2'
    · obtain ⟨j, rfl, hj2⟩ := succ_of (by omega : d + 1 + 1 ≤ j)
      show b49_125338 k (l49_125338 k j) a b i w k0 g m _ = _
      dsimp only at e1
      have hset : (pre ++ List.replicate (d + 1) (0 : Int)).set (0 + (k0 : Int).toNat) r = (pre ++ [r]) ++ List.replicate d 0 := by
        rw [show 0 + (k0 : Int).toNat = pre.length by omega, List.replicate_succ, List.set_append_right _ _ (Nat.le_refl _), Nat.sub_self, List.set_cons_zero, List.append_assoc]; rfl
      unfold b49_125338
      rw [decide_eq_true (by omega : (k0 : Int) < a.length), cond_true, hw2, ix_nat hx, ix_nat hy, e1]
      simp only [Option.bind_some]
      rw [gd_dec (by omega), gd_dec (by omega), gd_dec (by rw [List.length_append, List.length_replicate]; omega), hset, hw1, e2 j hj2]; rfl
/-- A row of the product. -/
theorem row_bits {w i : Nat} (hi : i ≤ w) (x : Int) (yb : Bool) : List.replicate i false ++ ((bitsB w x).take (w - i)).map (· && yb) = bitsB w (x * (2 ^ i * (if yb then 1 else 0))) := by
  refine word_bits ?_ ?_
  · rw [List.length_append, List.length_map, List.length_take, List.length_replicate, bitsB_len]; omega
  · rw [num_append, num_zeros, List.length_replicate, Int.zero_add]
    cases yb with
    | false =>
      have : ((bitsB w x).take (w - i)).map (· && false) = List.replicate (w - i) false := by
        apply List.ext_getElem
        · rw [List.length_map, List.length_take, bitsB_len, List.length_replicate]; omega
        · intro j h1 h2; simp
      rw [this, num_zeros]; simp
    | true =>
      have : ((bitsB w x).take (w - i)).map (· && true) = (bitsB w x).take (w - i) := by simp
      rw [this]
      have hsp : num (bitsB w x) = num ((bitsB w x).take (w - i)) + 2 ^ (w - i) * num ((bitsB w x).drop (w - i)) := by
        conv => lhs; rw [← List.take_append_drop (w - i) (bitsB w x), num_append]
        rw [List.length_take, bitsB_len, show min (w - i) w = w - i by omega]
      have hlt := num_lt ((bitsB w x).take (w - i))
      have h0 := num_nonneg ((bitsB w x).take (w - i))
      rw [List.length_take, bitsB_len, show min (w - i) w = w - i by omega] at hlt
      rw [num_bits] at hsp
      have hq : (2 : Int) ^ w = 2 ^ i * 2 ^ (w - i) := by rw [← Int.pow_add, show i + (w - i) = w by omega]
      simp only [if_true, Int.mul_one]
      rw [Int.mul_emod, ← Int.emod_emod x, ← Int.mul_emod, hsp, Int.add_mul, Int.mul_comm (num _) (2 ^ i), show (2 : Int) ^ (w - i) * num ((bitsB w x).drop (w - i)) * 2 ^ i = 2 ^ w * num ((bitsB w x).drop (w - i)) by rw [hq, Int.mul_comm (2 ^ i) (2 ^ (w - i)), Int.mul_assoc, Int.mul_assoc, Int.mul_comm (num _) (2 ^ i)], Int.add_mul_emod_self_left]
      refine (Int.emod_eq_of_lt (Int.mul_nonneg (Int.le_of_lt (pow_pos2 i)) h0) ?_).symm
      rw [hq]
      exact Int.mul_lt_mul_of_pos_left hlt (pow_pos2 i)
theorem mul_loop {a b : List Int} {w : Nat} {x y : Int} (h1 : 1 ≤ w) (hw : w ≤ 16) : ∀ (d i : Nat) (g : List D_Gate) (m : Mp) (out : List Int), w - i = d → i ≤ w → Valid g → MapOk g m → g.length + 169 * d ≤ 1000000 → Word ins g a (bitsB w x) → Word ins g b (bitsB w y) → Word ins g out (bitsB w (x * num ((bitsB w y).take i))) →
    ∃ (g' : List D_Gate) (m' : Mp) (out' : List Int), (∃ e, g' = g ++ e) ∧ Valid g' ∧ MapOk g' m' ∧ g'.length ≤ g.length + 169 * d ∧ Word ins g' out' (bitsB w (x * y)) ∧
      E fun k => ∀ j, d < j → l49_122 k j a b out a.length i g m = some (.inl ((out', ()), ((g', (), ()), m', ()))) := by
  intro d
  induction d with
  | zero =>
    intro i g m out hd hiw hv hm hg hwa hwb hwo
    have la : a.length = w := by rw [hwa.len, bitsB_len]
    refine ⟨g, m, out, ⟨[], by simp⟩, hv, hm, by omega, ?_, .all fun k j hj => ?_⟩
    · rw [List.take_of_length_le (by rw [bitsB_len]; omega), num_bits] at hwo
      rw [bits_congr (y := x * (y % 2 ^ w)) (by conv => rhs; rw [Int.mul_emod, Int.emod_emod, ← Int.mul_emod])]
      exact hwo
    · obtain ⟨j, rfl, _⟩ := succ_of (n := 0) (by omega : 0 + 1 ≤ j)
      show b49_122 k (l49_122 k j) a b out a.length i g m = _
      unfold b49_122
      rw [decide_eq_false (by omega : ¬ (i : Int) < a.length)]; rfl
  | succ d ih =>
    intro i g m out hd hiw hv hm hg hwa hwb hwo
    have la : a.length = w := by rw [hwa.len, bitsB_len]
    have hw1 : w64 ((i : Int) + 1) = ((i + 1 : Nat) : Int) := by rw [w_id (by omega) (by omega)]; omega
    obtain ⟨yl, yb, hy, hyb, ly, vy⟩ := hwb.get (i := i) (by have := hwb.len; rw [bitsB_len] at this; omega)
    have hz : Word ins g (List.replicate i 0) (List.replicate i false) := ⟨fun x hx => by rw [(List.mem_replicate.1 hx).2]; exact isL_iff.2 (by omega), by rw [List.map_replicate, val_zero]⟩
    obtain ⟨g1, m1, row, he1, hv1, hm1, hl1, hwr, hE1⟩ := row_loop (ins := ins) (b := b) (xs := bitsB w x) la hw (by omega : i < w) hy (w - i) i g m (List.replicate i 0) (List.replicate i false) rfl (Nat.le_refl _) hiw hv hm (by omega) hwa ly vy hz (by simp)
    rw [Nat.sub_self, List.drop_zero, row_bits hiw] at hwr
    obtain ⟨g2, m2, o2, he2, hv2, hm2, hl2, hw2, hE2⟩ := add46v3 (ins := ins) hv1 hm1 (by omega) h1 hw (old_word he1 hwo) hwr
    have hlt := Vm.getElem?_lt hyb
    have hyb' : (bitsB w y)[i] = yb := by rw [List.getElem?_eq_getElem hlt] at hyb; exact Option.some.inj hyb
    have hnum : num ((bitsB w y).take (i + 1)) = num ((bitsB w y).take i) + 2 ^ i * (if yb then 1 else 0) := by
      rw [List.take_succ_eq_append_getElem hlt, num_append, hyb', List.length_take, bitsB_len, show min i w = i by omega]
      congr 2
      cases yb <;> rfl
    rw [← Int.mul_add, ← hnum] at hw2
    obtain ⟨g3, m3, o3, he3, hv3, hm3, hl3, hw3, hE3⟩ := ih (i + 1) g2 m2 o2 (by omega) (by omega) hv2 hm2 (by omega) (old_word (ext_trans he1 he2) hwa) (old_word (ext_trans he1 he2) hwb) hw2
    refine ⟨g3, m3, o3, ext_trans (ext_trans he1 he2) he3, hv3, hm3, by omega, hw3, hE1.mono3 hE2 (hE3.and (E.ge 40)) fun k e1 e2 e3 j hj => ?_⟩
    obtain ⟨e3, hk⟩ := e3
    obtain ⟨j, rfl, hj2⟩ := succ_of (by omega : d + 1 + 1 ≤ j)
    show b49_122 k (l49_122 k j) a b out a.length i g m = _
    have e1 := e1 k (by omega)
    rw [List.replicate_append_replicate, show i + (w - i) = w by omega] at e1
    have ne : o2.isEmpty = false := by
      have : o2.length = w := by rw [hw2.len, bitsB_len]
      cases o2 with
      | nil => simp at this; omega
      | cons => rfl
    unfold b49_122 l49_15666
    rw [decide_eq_true (by omega : (i : Int) < a.length), cond_true, la, zero_const h1 hw]
    simp only [Option.bind_some]
    rw [e1]
    simp only [Option.bind_some]
    rw [e2]
    simp only [Option.bind_some, ne, cond_false]
    rw [la] at e3
    rw [hw1, e3 j hj2]; rfl
theorem mul49 (hv : Valid g) (hm : MapOk g m) (hg : g.length + 2704 ≤ 1000000) {a b : List Int} {w : Nat} {x y : Int} (h1 : 1 ≤ w) (h2 : w ≤ 16) (hwa : Word ins g a (bitsB w x)) (hwb : Word ins g b (bitsB w y)) :
    OpW ins g 2704 (fun k => f49 k a b g m) (bitsB w (x * y)) := by
  have la : a.length = w := by rw [hwa.len, bitsB_len]
  have lb : b.length = w := by rw [hwb.len, bitsB_len]
  obtain ⟨g', m', out, he, hv', hm', hl, hw, hE⟩ := mul_loop (ins := ins) (a := a) (b := b) (x := x) (y := y) h1 h2 w 0 g m (List.replicate w 0) (by omega) (by omega) hv hm (by omega) hwa hwb (by rw [List.take_zero]; simpa [num] using zero_word w)
  refine ⟨g', m', out, he, hv', hm', by omega, hw, hE.mono2 (E.ge 60) fun k e hk => ?_⟩
  show f49 k a b g m = _
  have e := e k (by omega)
  rw [show ((0 : Nat) : Int) = 0 from rfl, la] at e
  unfold f49
  rw [pair95 k (by omega) (by omega) (by omega) (by omega) (by omega) hwa.lit hwb.lit]
  simp only [Option.bind_some, Bool.not_true, cond_false]
  rw [la, zero37 k (by omega) h1 h2]
  simp only [Option.bind_some]
  rw [e]; rfl
end Vec
end Go.Proofs.Ytgljnnokifggkaa.M
/-
Words of literals: bit by bit, and moved.
-/
set_option linter.unusedVariables false
set_option linter.unusedSimpArgs false
set_option maxRecDepth 100000
namespace Go.Proofs.Ytgljnnokifggkaa.M
open Go Go.Proofs.Ytgljnnokifggkaa.Vm Go.Proofs.Ytgljnnokifggkaa.Pl
namespace Vec
open Aig
variable {g : List D_Gate} {m : Mp} {ins : List Bool}

/-! ### bit by bit -/
theorem and_loop {a b : List Int} {xs ys : List Bool} (hab : a.length = b.length) (ha : a.length ≤ 16) : ∀ (d i : Nat) (g : List D_Gate) (m : Mp) (out : List Int) (bs : List Bool), a.length - i = d → i ≤ a.length → Valid g → MapOk g m → g.length + 1 * d ≤ 1000000 →
    Word ins g a xs → Word ins g b ys → Word ins g out bs → out.length = i →
    ∃ (g' : List D_Gate) (m' : Mp) (out' : List Int), (∃ e, g' = g ++ e) ∧ Valid g' ∧ MapOk g' m' ∧ g'.length ≤ g.length + 1 * d ∧ Word ins g' out' (bs ++ zipB (fun x y => x && y) (xs.drop i) (ys.drop i)) ∧
      E fun k => ∀ j, d < j → l97v4_122 k j a b out a.length i g m = some ((out', ()), ((g', (), ()), m', ())) := by
  intro d
  induction d with
  | zero =>
    intro i g m out bs hi hia hv hm hg hwa hwb hwo ho
    refine ⟨g, m, out, ⟨[], by simp⟩, hv, hm, by omega, ?_, .all fun k j hj => ?_⟩
    · have e1 : xs.drop i = [] := List.drop_of_length_le (by have := hwa.len; omega)
      rw [e1]; simpa [zipB] using hwo
    · obtain ⟨j, rfl, _⟩ := succ_of (n := 0) (by omega : 0 + 1 ≤ j)
      show b97v4_122 k (l97v4_122 k j) a b out a.length i g m = _
      unfold b97v4_122
      rw [decide_eq_false (by omega : ¬ (i : Int) < a.length)]; rfl
  | succ d ih =>
    intro i g m out bs hi hia hv hm hg hwa hwb hwo ho
    have hw1 : w64 ((i : Int) + 1) = ((i + 1 : Nat) : Int) := by rw [w_id (by omega) (by omega)]; omega
    obtain ⟨x, bx, hx, hbx, lx, vx⟩ := hwa.get (i := i) (by omega)
    obtain ⟨y, by_, hy, hby, ly, vy⟩ := hwb.get (i := i) (by omega)
    obtain ⟨g1, m1, r, he1, hv1, hm1, hl1, lr, vr, hE1⟩ := and_op (ins := ins) hv hm (by omega) lx ly
    obtain ⟨g2, m2, out2, he2, hv2, hm2, hl2, hw2, hE2⟩ := ih (i + 1) g1 m1 (out ++ [r]) (bs ++ [bx && by_]) (by omega) (by omega) hv1 hm1 (by omega) (old_word he1 hwa) (old_word he1 hwb) ((old_word he1 hwo).snoc lr (by rw [vr, vx, vy])) (by rw [List.length_append, ho]; rfl)
    refine ⟨g2, m2, out2, ext_trans he1 he2, hv2, hm2, by omega, ?_, hE1.mono2 hE2 fun k e1 e2 j hj => ?_⟩
    · rw [zipB_drop _ hbx hby]
      rw [List.append_assoc] at hw2; exact hw2
    · obtain ⟨j, rfl, hj2⟩ := succ_of (by omega : d + 1 + 1 ≤ j)
      show b97v4_122 k (l97v4_122 k j) a b out a.length i g m = _
      dsimp only at e1
      unfold b97v4_122
      rw [decide_eq_true (by omega : (i : Int) < a.length), cond_true, ix_nat hx, ix_nat hy, e1]
      simp only [Option.bind_some]
      rw [gd_dec (by unfold room; omega), hw1, e2 j hj2]; rfl
theorem and50 (hv : Valid g) (hm : MapOk g m) (hg : g.length + 48 ≤ 1000000) {a b : List Int} {xs ys : List Bool} (hwa : Word ins g a xs) (hwb : Word ins g b ys) (hab : a.length = b.length) (h1 : 1 ≤ a.length) (h2 : a.length ≤ 16) :
    OpW ins g 48 (fun k => f50 k a b g m) (zipB (fun x y => x && y) xs ys) := by
  obtain ⟨g', m', out, he, hv', hm', hl, hw, hE⟩ := and_loop (ins := ins) hab h2 a.length 0 g m [] [] (by omega) (by omega) hv hm (by omega) hwa hwb Word.nil rfl
  rw [List.drop_zero, List.drop_zero, List.nil_append] at hw
  refine ⟨g', m', out, he, hv', hm', by omega, hw, hE.mono2 (E.ge 30) fun k e hk => ?_⟩
  have hol : out.length = a.length := by rw [hw.len, zipB_len _ _ _ (by rw [← hwa.len, ← hwb.len]; exact hab), hwa.len]
  have e := e k (by omega)
  rw [show ((0 : Nat) : Int) = 0 from rfl] at e
  show f50 k a b g m = _
  unfold f50 f97v4
  rw [pair95 k (by omega) (by omega) hab h1 h2 hwa.lit hwb.lit]
  simp only [Option.bind_some, Bool.not_true, cond_false]
  rw [e]
  simp only [Option.bind_some]
  rw [whole92 (g := g') k (by omega) hw.lit (by omega)]
  rfl

theorem or_loop {a b : List Int} {xs ys : List Bool} (hab : a.length = b.length) (ha : a.length ≤ 16) : ∀ (d i : Nat) (g : List D_Gate) (m : Mp) (out : List Int) (bs : List Bool), a.length - i = d → i ≤ a.length → Valid g → MapOk g m → g.length + 1 * d ≤ 1000000 →
    Word ins g a xs → Word ins g b ys → Word ins g out bs → out.length = i →
    ∃ (g' : List D_Gate) (m' : Mp) (out' : List Int), (∃ e, g' = g ++ e) ∧ Valid g' ∧ MapOk g' m' ∧ g'.length ≤ g.length + 1 * d ∧ Word ins g' out' (bs ++ zipB (fun x y => x || y) (xs.drop i) (ys.drop i)) ∧
      E fun k => ∀ j, d < j → l97v5_122 k j a b out a.length i g m = some ((out', ()), ((g', (), ()), m', ())) := by
  intro d
  induction d with
  | zero =>
    intro i g m out bs hi hia hv hm hg hwa hwb hwo ho
    refine ⟨g, m, out, ⟨[], by simp⟩, hv, hm, by omega, ?_, .all fun k j hj => ?_⟩
    · have e1 : xs.drop i = [] := List.drop_of_length_le (by have := hwa.len; omega)
      rw [e1]; simpa [zipB] using hwo
    · obtain ⟨j, rfl, _⟩ := succ_of (n := 0) (by omega : 0 + 1 ≤ j)
      show b97v5_122 k (l97v5_122 k j) a b out a.length i g m = _
      unfold b97v5_122
      rw [decide_eq_false (by omega : ¬ (i : Int) < a.length)]; rfl
  | succ d ih =>
    intro i g m out bs hi hia hv hm hg hwa hwb hwo ho
    have hw1 : w64 ((i : Int) + 1) = ((i + 1 : Nat) : Int) := by rw [w_id (by omega) (by omega)]; omega
    obtain ⟨x, bx, hx, hbx, lx, vx⟩ := hwa.get (i := i) (by omega)
    obtain ⟨y, by_, hy, hby, ly, vy⟩ := hwb.get (i := i) (by omega)
    obtain ⟨g1, m1, r, he1, hv1, hm1, hl1, lr, vr, hE1⟩ := or_op (ins := ins) hv hm (by omega) lx ly
    obtain ⟨g2, m2, out2, he2, hv2, hm2, hl2, hw2, hE2⟩ := ih (i + 1) g1 m1 (out ++ [r]) (bs ++ [bx || by_]) (by omega) (by omega) hv1 hm1 (by omega) (old_word he1 hwa) (old_word he1 hwb) ((old_word he1 hwo).snoc lr (by rw [vr, vx, vy])) (by rw [List.length_append, ho]; rfl)
    refine ⟨g2, m2, out2, ext_trans he1 he2, hv2, hm2, by omega, ?_, hE1.mono2 hE2 fun k e1 e2 j hj => ?_⟩
    · rw [zipB_drop _ hbx hby]
      rw [List.append_assoc] at hw2; exact hw2
    · obtain ⟨j, rfl, hj2⟩ := succ_of (by omega : d + 1 + 1 ≤ j)
      show b97v5_122 k (l97v5_122 k j) a b out a.length i g m = _
      dsimp only at e1
      unfold b97v5_122
      rw [decide_eq_true (by omega : (i : Int) < a.length), cond_true, ix_nat hx, ix_nat hy, e1]
      simp only [Option.bind_some]
      rw [gd_dec (by unfold room; omega), hw1, e2 j hj2]; rfl
theorem or52 (hv : Valid g) (hm : MapOk g m) (hg : g.length + 48 ≤ 1000000) {a b : List Int} {xs ys : List Bool} (hwa : Word ins g a xs) (hwb : Word ins g b ys) (hab : a.length = b.length) (h1 : 1 ≤ a.length) (h2 : a.length ≤ 16) :
    OpW ins g 48 (fun k => f52 k a b g m) (zipB (fun x y => x || y) xs ys) := by
  obtain ⟨g', m', out, he, hv', hm', hl, hw, hE⟩ := or_loop (ins := ins) hab h2 a.length 0 g m [] [] (by omega) (by omega) hv hm (by omega) hwa hwb Word.nil rfl
  rw [List.drop_zero, List.drop_zero, List.nil_append] at hw
  refine ⟨g', m', out, he, hv', hm', by omega, hw, hE.mono2 (E.ge 30) fun k e hk => ?_⟩
  have hol : out.length = a.length := by rw [hw.len, zipB_len _ _ _ (by rw [← hwa.len, ← hwb.len]; exact hab), hwa.len]
  have e := e k (by omega)
  rw [show ((0 : Nat) : Int) = 0 from rfl] at e
  show f52 k a b g m = _
  unfold f52 f97v5
  rw [pair95 k (by omega) (by omega) hab h1 h2 hwa.lit hwb.lit]
  simp only [Option.bind_some, Bool.not_true, cond_false]
  rw [e]
  simp only [Option.bind_some]
  rw [whole92 (g := g') k (by omega) hw.lit (by omega)]
  rfl

theorem bits_get : ∀ (w i : Nat) (n : Int), i < w → (bitsB w n)[i]? = some (decide (bit n i = 1))
  | 0, i, n, h => by omega
  | w + 1, 0, n, h => by rw [bitsB]; simp [bit]
  | w + 1, i + 1, n, h => by
    rw [bitsB, List.getElem?_cons_succ, bits_get w i (n / 2) (by omega)]
    unfold bit
    rw [Int.ediv_ediv_of_nonneg (by decide), Int.pow_succ, Int.mul_comm]
theorem bit_two (n : Int) (i : Nat) : bit n i = 0 ∨ bit n i = 1 := by unfold bit; omega
theorem zip_get (f : Bool → Bool → Bool) : ∀ (xs ys : List Bool) (i : Nat) (x y : Bool), xs[i]? = some x → ys[i]? = some y → (zipB f xs ys)[i]? = some (f x y)
  | [], _, i, x, y, h, _ => by simp at h
  | _ :: _, [], i, x, y, _, h => by simp at h
  | a :: xs, b :: ys, 0, x, y, h, h' => by simp at h h'; subst h; subst h'; rfl
  | a :: xs, b :: ys, i + 1, x, y, h, h' => by rw [zipB, List.getElem?_cons_succ]; exact zip_get f xs ys i x y (by simpa using h) (by simpa using h')
/-- The sign of kind c. -/
def kindS (c : Nat) (x y : Bool) : Bool := match c with
  | 0 => x && y
  | 1 => x || y
  | _ => !(x == y)
theorem kind_one (k : Nat) {c : Nat} (hc : c ≤ 2) {x y : Int} (hx : x = 0 ∨ x = 1) (hy : y = 0 ∨ y = 1) : l51_14924 k c x y = some ((kindS c (decide (x = 1)) (decide (y = 1)), ()), ()) := by
  have hc : c = 0 ∨ c = 1 ∨ c = 2 := by omega
  rcases hc with rfl | rfl | rfl <;> rcases hx with rfl | rfl <;> rcases hy with rfl | rfl <;> rfl
theorem bits_loop51 (k : Nat) (hk : 16 < k) {c : Nat} (hc : c ≤ 2) {x y : Int} (hx0 : 0 ≤ x) (hx1 : x ≤ 65536) (hy0 : 0 ≤ y) (hy1 : y ≤ 65536) {w : Nat} (hw : w ≤ 16) : ∀ (i : Nat), i ≤ w → ∀ j, i < j →
    l51_58 k j c x y (num ((zipB (kindS c) (bitsB w x) (bitsB w y)).drop i)) ((i : Int) - 1) = some ((num (zipB (kindS c) (bitsB w x) (bitsB w y)), ()), ()) := by
  have hzl : (zipB (kindS c) (bitsB w x) (bitsB w y)).length = w := by rw [zipB_len _ _ _ (by rw [bitsB_len, bitsB_len]), bitsB_len]
  intro i
  induction i with
  | zero =>
    intro hi j hj
    obtain ⟨j, rfl, _⟩ := succ_of (n := 0) (by omega : 0 + 1 ≤ j)
    show b51_58 k (l51_58 k j) c x y _ _ = _
    unfold b51_58
    rw [decide_eq_false (by omega : ¬ ((0 : Nat) : Int) - 1 ≥ 0), List.drop_zero]; rfl
  | succ i ih =>
    intro hi j hj
    obtain ⟨j, rfl, hj2⟩ := succ_of (by omega : i + 1 + 1 ≤ j)
    show b51_58 k (l51_58 k j) c x y _ _ = _
    have hz := zip_get (kindS c) _ _ i _ _ (bits_get w i x (by omega)) (bits_get w i y (by omega))
    have hlt := Vm.getElem?_lt hz
    have hz' := hz
    rw [List.getElem?_eq_getElem hlt] at hz'
    have hz' := Option.some.inj hz'
    have hdr : num ((zipB (kindS c) (bitsB w x) (bitsB w y)).drop i) = (if kindS c (decide (bit x i = 1)) (decide (bit y i = 1)) then 1 else 0) + 2 * num ((zipB (kindS c) (bitsB w x) (bitsB w y)).drop (i + 1)) := by
      rw [List.drop_eq_getElem_cons hlt, num, hz']
    have h0 := num_nonneg ((zipB (kindS c) (bitsB w x) (bitsB w y)).drop (i + 1))
    have h1 := num_lt ((zipB (kindS c) (bitsB w x) (bitsB w y)).drop (i + 1))
    rw [List.length_drop, hzl] at h1
    have h2 := two_pow16 (i := w - (i + 1)) (by omega)
    have ih := ih (by omega) j hj2
    rw [hdr] at ih
    unfold b51_58
    rw [show ((i + 1 : Nat) : Int) - 1 = (i : Int) by omega, decide_eq_true (by omega : (i : Int) ≥ 0), cond_true, bit41 k hx0 hx1 (by omega) hk]
    simp only [Option.bind_some]
    rw [bit41 k hy0 hy1 (by omega) hk]
    simp only [Option.bind_some]
    rw [kind_one k hc (bit_two _ _) (bit_two _ _)]
    simp only [Option.bind_some]
    generalize num ((zipB (kindS c) (bitsB w x) (bitsB w y)).drop (i + 1)) = v at *
    rw [w_id (n := (i : Int) - 1) (by omega) (by omega), w_id (n := 2 * v) (by omega) (by omega), w_id (n := 2 * v + 1) (by omega) (by omega), w_id (n := 2 * v + 0) (by omega) (by omega)]
    cases hk : kindS c (decide (bit x i = 1)) (decide (bit y i = 1)) with
    | true =>
      rw [hk] at ih
      simp only [if_true] at ih
      rw [cond_true, show 2 * v + 1 = 1 + 2 * v by omega, ih]; rfl
    | false =>
      rw [hk] at ih
      simp only [Bool.false_eq_true, if_false] at ih
      rw [cond_false, show 2 * v + 0 = 0 + 2 * v by omega, ih]; rfl
theorem bits51 (k : Nat) (hk : 40 < k) {c : Nat} (hc : c ≤ 2) {x y : Int} (hx0 : 0 ≤ x) (hx1 : x ≤ 65536) (hy0 : 0 ≤ y) (hy1 : y ≤ 65536) {w : Nat} (hw : w ≤ 16) : f51 k c x y w = some ((num (zipB (kindS c) (bitsB w x) (bitsB w y)), ()), ()) := by
  have hzl : (zipB (kindS c) (bitsB w x) (bitsB w y)).length = w := by rw [zipB_len _ _ _ (by rw [bitsB_len, bitsB_len]), bitsB_len]
  have := bits_loop51 k (by omega) hc hx0 hx1 hy0 hy1 hw w (Nat.le_refl _) k (by omega)
  rw [List.drop_of_length_le (by omega)] at this
  unfold f51
  rw [w_id (n := (w : Int) - 1) (by omega) (by omega)]
  have e : (0 : Int) = num [] := rfl
  rw [e, this]; rfl

/-! ### moved -/
theorem whole92v2 (k : Nat) {a : List Int} (ha : a.length ≤ 16) (h : ∀ x ∈ a, isL g x = true) (hk : 16 < k) : f92v2 k a.length a = some (.inr ((a.length, ()), (a, ()))) := by
  unfold f92v2 f112 f118
  rw [gd_dec (by omega), List.drop_zero, List.take_of_length_le (Nat.le_refl _)]
  have := index_loop k ha (fun x hx => by have := (isL_iff.1 (h x hx)).1; omega) a.length 0 (by omega) k (by omega)
  rw [show ((0 : Nat) : Int) = 0 from rfl] at this
  rw [this]
  rfl
theorem clone102 (k : Nat) {a : List Int} (h1 : 1 ≤ a.length) (h2 : a.length ≤ 17) : f102v7 k a = some ((a.length, ()), (a, ())) := by
  unfold f102v7
  have : a.isEmpty = false := by cases a with
    | nil => simp at h1
    | cons => rfl
  rw [this, cond_false, cond_false, gd_dec (by unfold room; omega), Nat.zero_add, List.nil_append]
theorem far100 (k : Nat) {a : List Int} {w : Nat} (ha : a.length = w) (h1 : 1 ≤ w) (h2 : w ≤ 16) (n : Nat) : f100 k w n a = some ((w, ()), (a, (List.replicate (min n w) 0 ++ a.take (w - min n w), ()))) := by
  have hmm : minmax false n (w : Int) = ((min n w : Nat) : Int) := by unfold minmax; simp only [Bool.false_eq_true, if_false]; split <;> omega
  unfold f100 l100_6
  rw [zero_const h1 h2]
  simp only [Option.bind_some]
  rw [hmm, Int.toNat_natCast, gd_dec (by omega), gd_dec (by omega), gd_dec (by omega), gd_dec (by rw [List.length_replicate]; omega), List.drop_zero, List.take_of_length_le (l := a) (by omega), ha, show min w (w - min n w) = w - min n w by omega, Nat.zero_add, show min n w + (w - min n w) = w by omega, List.drop_of_length_le (by simp), List.append_nil, List.take_replicate, show min (min n w) w = min n w by omega]
theorem far101 (k : Nat) {a : List Int} {w : Nat} (ha : a.length = w) (h1 : 1 ≤ w) (h2 : w ≤ 16) (n : Nat) : f101 k w n a = some ((w, ()), (a, (a.drop (min n w) ++ List.replicate (min n w) 0, ()))) := by
  have hmm : minmax false n (w : Int) = ((min n w : Nat) : Int) := by unfold minmax; simp only [Bool.false_eq_true, if_false]; split <;> omega
  unfold f101 l101_6
  rw [zero_const h1 h2]
  simp only [Option.bind_some]
  have hl : (a.drop (min n w)).length = w - min n w := by rw [List.length_drop]; omega
  rw [hmm, Int.toNat_natCast, gd_dec (by omega), gd_dec (by omega), gd_dec (by omega), gd_dec (by rw [List.length_replicate]; omega), Nat.zero_add, List.take_zero, List.nil_append, List.take_of_length_le (l := a.drop _) (by omega), List.take_of_length_le (by omega), hl, Nat.zero_add, show min (w - min n w) w = w - min n w by omega, List.drop_replicate, show w - (w - min n w) = min n w by omega]
theorem far_same (k : Nat) : ∀ j, l99v2_62670 k j = l99_62670 k j
  | 0 => rfl
  | j + 1 => by
    show b99v2_62670 k (l99v2_62670 k j) = b99_62670 k (l99_62670 k j)
    rw [far_same k j]; rfl
theorem pick_loop99 {b : List Int} {w i : Nat} (hw : w ≤ 16) {c : Int} {cb : Bool} (hc : b[i]? = some c) {fs os : List Bool} {far old : List Int} : ∀ (d k0 : Nat) (g : List D_Gate) (m : Mp) (pre : List Int) (bs : List Bool), w - k0 = d → k0 ≤ w → Valid g → MapOk g m → g.length + 3 * d ≤ 1000000 → far.length = w → old.length = w →
    Word ins g far fs → Word ins g old os → isL g c = true → Aig.val ins g c = cb → Word ins g pre bs → pre.length = k0 →
    ∃ (g' : List D_Gate) (m' : Mp) (out : List Int), (∃ e, g' = g ++ e) ∧ Valid g' ∧ MapOk g' m' ∧ g'.length ≤ g.length + 3 * d ∧ Word ins g' out (bs ++ zipB (fun x y => cond cb x y) (fs.drop k0) (os.drop k0)) ∧
      E fun k => ∀ j, d < j → l99_62670 k j b w i w w k0 g m (pre ++ old.drop k0) far = some ((), ((g', (), ()), m', out, far, ())) := by
  intro d
  induction d with
  | zero =>
    intro k0 g m pre bs hd hkw hv hm hg hfl hol hwf hwo lc vc hwp hp
    refine ⟨g, m, pre, ⟨[], by simp⟩, hv, hm, by omega, ?_, .all fun k j hj => ?_⟩
    · rw [List.drop_of_length_le (by have := hwf.len; omega), zipB, List.append_nil]; exact hwp
      all_goals simp
    · obtain ⟨j, rfl, _⟩ := succ_of (n := 0) (by omega : 0 + 1 ≤ j)
      show b99_62670 k (l99_62670 k j) b w i w w k0 g m _ far = _
      unfold b99_62670
      rw [decide_eq_false (by omega : ¬ (k0 : Int) < w), List.drop_of_length_le (by omega), List.append_nil]; rfl
  | succ d ih =>
    intro k0 g m pre bs hd hkw hv hm hg hfl hol hwf hwo lc vc hwp hp
    have hw1 : w64 ((k0 : Int) + 1) = ((k0 + 1 : Nat) : Int) := by rw [w_id (by omega) (by omega)]; omega
    obtain ⟨x, bx, hx, hbx, lx, vx⟩ := hwf.get (i := k0) (by omega)
    obtain ⟨y, by_, hy, hby, ly, vy⟩ := hwo.get (i := k0) (by omega)
    obtain ⟨g1, m1, r, he1, hv1, hm1, hl1, lr, vr, hE1⟩ := ite_op (ins := ins) hv hm (by omega) lc lx ly
    have hwc := old_lit (ins := ins) he1 lc
    obtain ⟨g2, m2, out2, he2, hv2, hm2, hl2, hw2', hE2⟩ := ih (k0 + 1) g1 m1 (pre ++ [r]) (bs ++ [cond cb bx by_]) (by omega) (by omega) hv1 hm1 (by omega) hfl hol (old_word he1 hwf) (old_word he1 hwo) hwc.1 (by rw [hwc.2, vc]) ((old_word he1 hwp).snoc lr (by rw [vr, vc, vx, vy])) (by rw [List.length_append, hp]; rfl)
    refine ⟨g2, m2, out2, ext_trans he1 he2, hv2, hm2, by omega, ?_, hE1.mono2 hE2 fun k e1 e2 j hj => ?_⟩
    · rw [zipB_drop _ hbx hby]
      rw [List.append_assoc] at hw2'; exact hw2'
    · obtain ⟨j, rfl, hj2⟩ := succ_of (by omega : d + 1 + 1 ≤ j)
      show b99_62670 k (l99_62670 k j) b w i w w k0 g m _ far = _
      dsimp only at e1
      have hlt := Vm.getElem?_lt hy
      have hdr : old.drop k0 = y :: old.drop (k0 + 1) := by
        rw [List.drop_eq_getElem_cons hlt]
        rw [List.getElem?_eq_getElem hlt] at hy
        rw [Option.some.inj hy]
      have hset : (pre ++ old.drop k0).set (0 + (k0 : Int).toNat) r = (pre ++ [r]) ++ old.drop (k0 + 1) := by
        rw [show 0 + (k0 : Int).toNat = pre.length by omega, hdr, List.set_append_right _ _ (Nat.le_refl _), Nat.sub_self, List.set_cons_zero, List.append_assoc]; rfl
      have hgx : far[0 + (k0 : Int).toNat]? = some x := by rw [show 0 + (k0 : Int).toNat = k0 by omega]; exact hx
      have hgy : (pre ++ old.drop k0)[0 + (k0 : Int).toNat]? = some y := by
        rw [show 0 + (k0 : Int).toNat = k0 by omega, hdr, List.getElem?_append_right (by omega), hp, Nat.sub_self]; rfl
      unfold b99_62670
      rw [decide_eq_true (by omega : (k0 : Int) < w), cond_true, ix_nat hc, gd_dec (by omega), gd_dec (by omega), hgx]
      simp only [Option.bind_some]
      rw [gd_dec (by omega), gd_dec (by omega), hgy]
      simp only [Option.bind_some]
      rw [e1]
      simp only [Option.bind_some]
      rw [gd_dec (by omega), gd_dec (by omega), gd_dec (by rw [List.length_append, List.length_drop]; omega), hset, hw1, e2 j hj2]; rfl
/-- A word moved up. -/
theorem shl_word {a : List Int} {w : Nat} {v : Int} (hwa : Word ins g a (bitsB w v)) (n : Nat) : Word ins g (List.replicate (min n w) 0 ++ a.take (w - min n w)) (bitsB w (v * 2 ^ n)) := by
  have h1 := row_bits (w := w) (i := min n w) (by omega) v true
  have e : ((bitsB w v).take (w - min n w)).map (· && true) = (bitsB w v).take (w - min n w) := by simp
  rw [e] at h1
  have h2 : bitsB w (v * 2 ^ n) = bitsB w (v * (2 ^ min n w * (if true then 1 else 0))) := by
    rw [if_pos rfl, Int.mul_one]
    rcases Nat.lt_or_ge w n with h | h
    · rw [show min n w = w by omega]
      refine bits_congr ?_
      rw [show n = w + (n - w) by omega, Int.pow_add, Int.mul_left_comm, Int.mul_emod_right, Int.mul_emod_left]
    · rw [show min n w = n by omega]
  rw [h2, ← h1]
  exact ⟨fun x hx => by
    rcases List.mem_append.1 hx with hx | hx
    · rw [(List.mem_replicate.1 hx).2]; exact isL_iff.2 (by omega)
    · exact hwa.lit x (List.mem_of_mem_take hx), by rw [List.map_append, List.map_replicate, val_zero, List.map_take, hwa.val]⟩
theorem bits_drop : ∀ (n w : Nat) (v : Int), n ≤ w → (bitsB w v).drop n = bitsB (w - n) (v / 2 ^ n)
  | 0, w, v, h => by simp
  | n + 1, 0, v, h => by omega
  | n + 1, w + 1, v, h => by
    rw [bitsB, List.drop_succ_cons, bits_drop n w (v / 2) (by omega), Int.ediv_ediv_of_nonneg (by decide), Int.pow_succ, Int.mul_comm 2, show w + 1 - (n + 1) = w - n by omega]
/-- A word moved down. -/
theorem shr_word {a : List Int} {w : Nat} {v : Int} (h0 : 0 ≤ v) (hv1 : v < 2 ^ w) (hwa : Word ins g a (bitsB w v)) (n : Nat) : Word ins g (a.drop (min n w) ++ List.replicate (min n w) 0) (bitsB w (v / 2 ^ n)) := by
  have hq : v / 2 ^ n = v / 2 ^ min n w := by
    rcases Nat.lt_or_ge w n with h | h
    · rw [show min n w = w by omega, Int.ediv_eq_zero_of_lt h0 hv1, Int.ediv_eq_zero_of_lt h0]
      refine Int.lt_of_lt_of_le hv1 ?_
      have : (2 : Nat) ^ w ≤ 2 ^ n := Nat.pow_le_pow_right (by omega) (by omega)
      have h2 : ((2 ^ w : Nat) : Int) ≤ ((2 ^ n : Nat) : Int) := by omega
      simpa using h2
    · rw [show min n w = n by omega]
  have e : (bitsB w v).drop (min n w) ++ List.replicate (min n w) false = bitsB w (v / 2 ^ n) := by
    refine word_bits (by rw [List.length_append, List.length_drop, List.length_replicate, bitsB_len]; omega) ?_
    have hp := pow_pos2 (min n w)
    have hpw : (2 : Int) ^ w = 2 ^ min n w * 2 ^ (w - min n w) := by rw [← Int.pow_add, show min n w + (w - min n w) = w by omega]
    have k0 : 0 ≤ v / 2 ^ min n w := Int.ediv_nonneg h0 (by omega)
    have k1 : v / 2 ^ min n w < 2 ^ (w - min n w) := Int.ediv_lt_of_lt_mul hp (by rw [Int.mul_comm, ← hpw]; exact hv1)
    have k2 : v / 2 ^ min n w ≤ v := Int.ediv_le_self _ h0
    rw [num_append, num_zeros, Int.mul_zero, Int.add_zero, bits_drop _ _ _ (by omega), num_bits, hq, Int.emod_eq_of_lt k0 k1, Int.emod_eq_of_lt k0 (by omega)]
  rw [← e]
  exact ⟨fun x hx => by
    rcases List.mem_append.1 hx with hx | hx
    · exact hwa.lit x (List.mem_of_mem_drop hx)
    · rw [(List.mem_replicate.1 hx).2]; exact isL_iff.2 (by omega), by rw [List.map_append, List.map_replicate, val_zero, List.map_drop, hwa.val]⟩
theorem num_step {w i : Nat} {y : Int} {yb : Bool} (hyb : (bitsB w y)[i]? = some yb) : (num ((bitsB w y).take (i + 1))).toNat = (num ((bitsB w y).take i)).toNat + (if yb then 2 ^ i else 0) := by
  have hlt := Vm.getElem?_lt hyb
  have hyb' : (bitsB w y)[i] = yb := by rw [List.getElem?_eq_getElem hlt] at hyb; exact Option.some.inj hyb
  rw [bitsB_len] at hlt
  rw [List.take_succ_eq_append_getElem (by rw [bitsB_len]; exact hlt), num_append, hyb', List.length_take, bitsB_len, show min i w = i by omega]
  have h0 := num_nonneg ((bitsB w y).take i)
  have hc : ((2 ^ i : Nat) : Int) = (2 : Int) ^ i := by simp
  cases yb with
  | false => simp [num]
  | true =>
    have hp := pow_pos2 i
    have hp2 : 0 < 2 ^ i := Nat.two_pow_pos i
    simp only [num, if_true, Int.mul_zero, Int.add_zero, Int.mul_one]
    rw [← hc]; omega
theorem two_of (i : Nat) (hi : i ≤ 16) : w64 (1 * 2 ^ (min (i : Int).toNat 64)) = ((2 ^ i : Nat) : Int) := by
  have hc : ((2 ^ i : Nat) : Int) = (2 : Int) ^ i := by simp
  have h := two_pow16 hi
  rw [Int.one_mul, show min (i : Int).toNat 64 = i by omega, w_id (by omega) (by omega), hc]
theorem shl_loop {b : List Int} {w : Nat} {x y : Int} (h1 : 1 ≤ w) (hw : w ≤ 16) : ∀ (d i : Nat) (g : List D_Gate) (m : Mp) (out : List Int), w - i = d → i ≤ w → Valid g → MapOk g m → g.length + 48 * d ≤ 1000000 → Word ins g b (bitsB w y) → Word ins g out (bitsB w (x * 2 ^ (num ((bitsB w y).take i)).toNat)) →
    ∃ (g' : List D_Gate) (m' : Mp) (out' : List Int), (∃ e, g' = g ++ e) ∧ Valid g' ∧ MapOk g' m' ∧ g'.length ≤ g.length + 48 * d ∧ Word ins g' out' (bitsB w (x * 2 ^ (y % 2 ^ w).toNat)) ∧
      E fun k => ∀ j, d < j → l99_122 k j b w w i g m out = some ((), ((g', (), ()), m', out', ())) := by
  intro d
  induction d with
  | zero =>
    intro i g m out hd hiw hv hm hg hwb hwo
    refine ⟨g, m, out, ⟨[], by simp⟩, hv, hm, by omega, ?_, .all fun k j hj => ?_⟩
    · rw [List.take_of_length_le (by rw [bitsB_len]; omega), num_bits] at hwo; exact hwo
    · obtain ⟨j, rfl, _⟩ := succ_of (n := 0) (by omega : 0 + 1 ≤ j)
      show b99_122 k (l99_122 k j) b w w i g m out = _
      unfold b99_122
      rw [decide_eq_false (by omega : ¬ (i : Int) < w)]; rfl
  | succ d ih =>
    intro i g m out hd hiw hv hm hg hwb hwo
    have lo : out.length = w := by rw [hwo.len, bitsB_len]
    have hw1 : w64 ((i : Int) + 1) = ((i + 1 : Nat) : Int) := by rw [w_id (by omega) (by omega)]; omega
    obtain ⟨yl, yb, hy, hyb, ly, vy⟩ := hwb.get (i := i) (by have := hwb.len; rw [bitsB_len] at this; omega)
    have hfar := shl_word hwo (2 ^ i)
    obtain ⟨g1, m1, o1, he1, hv1, hm1, hl1, hwo1, hE1⟩ := pick_loop99 (ins := ins) (b := b) (i := i) hw hy w 0 g m [] [] (by omega) (by omega) hv hm (by omega) (by rw [hfar.len, bitsB_len]) lo hfar hwo ly vy Word.nil rfl
    rw [List.drop_zero, List.drop_zero, List.nil_append, zip_pick _ _ _ (by rw [bitsB_len, bitsB_len])] at hwo1
    have hnext : Word ins g1 o1 (bitsB w (x * 2 ^ (num ((bitsB w y).take (i + 1))).toNat)) := by
      rw [num_step hyb]
      cases yb with
      | true => simp only [if_true]; rw [Int.pow_add, ← Int.mul_assoc]; exact hwo1
      | false => simp only [Bool.false_eq_true, if_false, Nat.add_zero]; exact hwo1
    obtain ⟨g3, m3, o3, he3, hv3, hm3, hl3, hw3, hE3⟩ := ih (i + 1) g1 m1 o1 (by omega) (by omega) hv1 hm1 (by omega) (old_word he1 hwb) hnext
    refine ⟨g3, m3, o3, ext_trans he1 he3, hv3, hm3, by omega, hw3, hE1.mono2 (hE3.and (E.ge 40)) fun k e1 e3 j hj => ?_⟩
    obtain ⟨e3, hk⟩ := e3
    obtain ⟨j, rfl, hj2⟩ := succ_of (by omega : d + 1 + 1 ≤ j)
    show b99_122 k (l99_122 k j) b w w i g m out = _
    have e1 := e1 k (by omega)
    rw [List.drop_zero, List.nil_append, show ((0 : Nat) : Int) = 0 from rfl] at e1
    unfold b99_122
    rw [decide_eq_true (by omega : (i : Int) < w), cond_true, decide_eq_false (by omega : ¬ (i : Int) < 0), cond_false, two_of i (by omega), far100 k lo h1 hw]
    simp only [Option.bind_some]
    rw [e1]
    simp only [Option.bind_some]
    rw [hw1, e3 j hj2]; rfl
theorem shr_loop {b : List Int} {w : Nat} {x y : Int} (hx0 : 0 ≤ x) (hx1 : x < 2 ^ w) (h1 : 1 ≤ w) (hw : w ≤ 16) : ∀ (d i : Nat) (g : List D_Gate) (m : Mp) (out : List Int), w - i = d → i ≤ w → Valid g → MapOk g m → g.length + 48 * d ≤ 1000000 → Word ins g b (bitsB w y) → Word ins g out (bitsB w (x / 2 ^ (num ((bitsB w y).take i)).toNat)) →
    ∃ (g' : List D_Gate) (m' : Mp) (out' : List Int), (∃ e, g' = g ++ e) ∧ Valid g' ∧ MapOk g' m' ∧ g'.length ≤ g.length + 48 * d ∧ Word ins g' out' (bitsB w (x / 2 ^ (y % 2 ^ w).toNat)) ∧
      E fun k => ∀ j, d < j → l99v2_122 k j b w w i g m out = some ((), ((g', (), ()), m', out', ())) := by
  intro d
  induction d with
  | zero =>
    intro i g m out hd hiw hv hm hg hwb hwo
    refine ⟨g, m, out, ⟨[], by simp⟩, hv, hm, by omega, ?_, .all fun k j hj => ?_⟩
    · rw [List.take_of_length_le (by rw [bitsB_len]; omega), num_bits] at hwo; exact hwo
    · obtain ⟨j, rfl, _⟩ := succ_of (n := 0) (by omega : 0 + 1 ≤ j)
      show b99v2_122 k (l99v2_122 k j) b w w i g m out = _
      unfold b99v2_122
      rw [decide_eq_false (by omega : ¬ (i : Int) < w)]; rfl
  | succ d ih =>
    intro i g m out hd hiw hv hm hg hwb hwo
    have lo : out.length = w := by rw [hwo.len, bitsB_len]
    have hw1 : w64 ((i : Int) + 1) = ((i + 1 : Nat) : Int) := by rw [w_id (by omega) (by omega)]; omega
    obtain ⟨yl, yb, hy, hyb, ly, vy⟩ := hwb.get (i := i) (by have := hwb.len; rw [bitsB_len] at this; omega)
    have hp := pow_pos2 (num ((bitsB w y).take i)).toNat
    have k0 : 0 ≤ x / 2 ^ (num ((bitsB w y).take i)).toNat := Int.ediv_nonneg hx0 (by omega)
    have k2 : x / 2 ^ (num ((bitsB w y).take i)).toNat ≤ x := Int.ediv_le_self _ hx0
    have hfar := shr_word k0 (by omega) hwo (2 ^ i)
    obtain ⟨g1, m1, o1, he1, hv1, hm1, hl1, hwo1, hE1⟩ := pick_loop99 (ins := ins) (b := b) (i := i) hw hy w 0 g m [] [] (by omega) (by omega) hv hm (by omega) (by rw [hfar.len, bitsB_len]) lo hfar hwo ly vy Word.nil rfl
    rw [List.drop_zero, List.drop_zero, List.nil_append, zip_pick _ _ _ (by rw [bitsB_len, bitsB_len])] at hwo1
    have hnext : Word ins g1 o1 (bitsB w (x / 2 ^ (num ((bitsB w y).take (i + 1))).toNat)) := by
      rw [num_step hyb]
      cases yb with
      | true => simp only [if_true]; rw [Int.pow_add, ← Int.ediv_ediv_of_nonneg (by omega)]; exact hwo1
      | false => simp only [Bool.false_eq_true, if_false, Nat.add_zero]; exact hwo1
    obtain ⟨g3, m3, o3, he3, hv3, hm3, hl3, hw3, hE3⟩ := ih (i + 1) g1 m1 o1 (by omega) (by omega) hv1 hm1 (by omega) (old_word he1 hwb) hnext
    refine ⟨g3, m3, o3, ext_trans he1 he3, hv3, hm3, by omega, hw3, hE1.mono2 (hE3.and (E.ge 40)) fun k e1 e3 j hj => ?_⟩
    obtain ⟨e3, hk⟩ := e3
    obtain ⟨j, rfl, hj2⟩ := succ_of (by omega : d + 1 + 1 ≤ j)
    show b99v2_122 k (l99v2_122 k j) b w w i g m out = _
    have e1 := e1 k (by omega)
    rw [List.drop_zero, List.nil_append, show ((0 : Nat) : Int) = 0 from rfl] at e1
    unfold b99v2_122
    rw [decide_eq_true (by omega : (i : Int) < w), cond_true, decide_eq_false (by omega : ¬ (i : Int) < 0), cond_false, two_of i (by omega), far101 k lo h1 hw]
    simp only [Option.bind_some]
    rw [far_same, e1]
    simp only [Option.bind_some]
    rw [hw1, e3 j hj2]; rfl
/-- What a function that hands back an array of literals comes to. -/
def OpA (ins : List Bool) (g : List D_Gate) (N : Nat) (f : Nat → Option R56) (bs : List Bool) : Prop :=
  ∃ (g' : List D_Gate) (m' : Mp) (out : List Int), (∃ e, g' = g ++ e) ∧ Valid g' ∧ MapOk g' m' ∧ g'.length ≤ g.length + N ∧ Word ins g' out bs ∧ E fun k => f k = some (.inr ((out.length, ()), ((g', (), ()), m', out, ())))
theorem shl56 (hv : Valid g) (hm : MapOk g m) (hg : g.length + 768 ≤ 1000000) {a b : List Int} {w : Nat} {x y : Int} (h1 : 1 ≤ w) (h2 : w ≤ 16) (hwa : Word ins g a (bitsB w x)) (hwb : Word ins g b (bitsB w y)) :
    OpA ins g 768 (fun k => f56 k a b g m) (bitsB w (x * 2 ^ (y % 2 ^ w).toNat)) := by
  have la : a.length = w := by rw [hwa.len, bitsB_len]
  have lb : b.length = w := by rw [hwb.len, bitsB_len]
  obtain ⟨g', m', out, he, hv', hm', hl, hw, hE⟩ := shl_loop (ins := ins) (b := b) (x := x) (y := y) h1 h2 w 0 g m a (by omega) (by omega) hv hm (by omega) hwb (by rw [List.take_zero]; simpa [num] using hwa)
  refine ⟨g', m', out, he, hv', hm', by omega, hw, hE.mono2 (E.ge 60) fun k e hk => ?_⟩
  have lo : out.length = w := by rw [hw.len, bitsB_len]
  have hwh := whole92v2 (g := g') k (a := out) (by omega) hw.lit (by omega)
  rw [lo] at hwh
  show f56 k a b g m = _
  have e := e k (by omega)
  rw [show ((0 : Nat) : Int) = 0 from rfl] at e
  unfold f56 f99 l99_14
  rw [pair95 k (by omega) (by omega) (by omega) (by omega) (by omega) hwa.lit hwb.lit]
  simp only [Option.bind_some, Bool.not_true, cond_false]
  rw [clone102 k (by omega) (by omega)]
  simp only [Option.bind_some]
  rw [lb, la, e]
  simp only [Option.bind_some]
  rw [hwh, lo]; rfl
theorem shr58 (hv : Valid g) (hm : MapOk g m) (hg : g.length + 768 ≤ 1000000) {a b : List Int} {w : Nat} {x y : Int} (hx0 : 0 ≤ x) (hx1 : x < 2 ^ w) (h1 : 1 ≤ w) (h2 : w ≤ 16) (hwa : Word ins g a (bitsB w x)) (hwb : Word ins g b (bitsB w y)) :
    OpA ins g 768 (fun k => f58 k a b g m) (bitsB w (x / 2 ^ (y % 2 ^ w).toNat)) := by
  have la : a.length = w := by rw [hwa.len, bitsB_len]
  have lb : b.length = w := by rw [hwb.len, bitsB_len]
  obtain ⟨g', m', out, he, hv', hm', hl, hw, hE⟩ := shr_loop (ins := ins) (b := b) (x := x) (y := y) hx0 hx1 h1 h2 w 0 g m a (by omega) (by omega) hv hm (by omega) hwb (by rw [List.take_zero]; simpa [num] using hwa)
  refine ⟨g', m', out, he, hv', hm', by omega, hw, hE.mono2 (E.ge 60) fun k e hk => ?_⟩
  have lo : out.length = w := by rw [hw.len, bitsB_len]
  have hwh := whole92v2 (g := g') k (a := out) (by omega) hw.lit (by omega)
  rw [lo] at hwh
  show f58 k a b g m = _
  have e := e k (by omega)
  rw [show ((0 : Nat) : Int) = 0 from rfl] at e
  unfold f58 f99v2 l99v2_14
  rw [pair95 k (by omega) (by omega) (by omega) (by omega) (by omega) hwa.lit hwb.lit]
  simp only [Option.bind_some, Bool.not_true, cond_false]
  rw [clone102 k (by omega) (by omega)]
  simp only [Option.bind_some]
  rw [lb, la, e]
  simp only [Option.bind_some]
  rw [hwh, lo]; rfl
end Vec
end Go.Proofs.Ytgljnnokifggkaa.M
/-
Words of literals: divided.
-/
set_option linter.unusedVariables false
set_option linter.unusedSimpArgs false
set_option maxRecDepth 100000
namespace Go.Proofs.Ytgljnnokifggkaa.M
open Go Go.Proofs.Ytgljnnokifggkaa.Vm Go.Proofs.Ytgljnnokifggkaa.Pl
namespace Vec
open Aig
variable {g : List D_Gate} {m : Mp} {ins : List Bool}

/-! ### numbers -/
theorem div_step {x y : Int} (hx : 0 ≤ x) (hy : 0 ≤ y) (n : Nat) :
    (if y ≤ 2 * (x / 2 ^ (n + 1) % y) + bit x n then 2 * (x / 2 ^ (n + 1) % y) + bit x n - y else 2 * (x / 2 ^ (n + 1) % y) + bit x n) = x / 2 ^ n % y ∧
    (0 < y → decide (y ≤ 2 * (x / 2 ^ (n + 1) % y) + bit x n) = decide (bit (x / y) n = 1)) ∧ 0 ≤ x / 2 ^ (n + 1) % y ∧ 2 * (x / 2 ^ (n + 1) % y) + bit x n ≤ x / 2 ^ n := by
  have hp := pow_pos2 n
  have hX : 0 ≤ x / 2 ^ n := Int.ediv_nonneg hx (by omega)
  have hu : x / 2 ^ (n + 1) = x / 2 ^ n / 2 := by rw [Int.pow_succ, ← Int.ediv_ediv_of_nonneg (by omega)]
  have hb : bit x n = x / 2 ^ n % 2 := rfl
  have hq : 0 < y → bit (x / y) n = x / 2 ^ n / y % 2 := fun h => by
    unfold bit
    rw [Int.ediv_ediv_of_nonneg hy, Int.ediv_ediv_of_nonneg (by omega), Int.mul_comm]
  rw [hu, hb]
  generalize x / 2 ^ n = X at *
  rcases Int.lt_or_le 0 y with h0 | h0
  · rw [hq h0]
    have h1 := Int.emod_nonneg (X / 2) (show y ≠ 0 by omega)
    have h2 := Int.emod_lt_of_pos (X / 2) h0
    have h3 := Int.mul_ediv_add_emod (X / 2) y
    have hle : X / 2 % y ≤ X / 2 := by
      have := Int.mul_nonneg hy (Int.ediv_nonneg (show 0 ≤ X / 2 by omega) hy)
      omega
    have hle2 : 2 * (X / 2 % y) + X % 2 ≤ X := by omega
    generalize hs : X / 2 % y = s at *
    generalize hq' : X / 2 / y = q at *
    have hr : X = (2 * s + X % 2) + y * (2 * q) := by
      rw [Int.mul_left_comm]; omega
    have hm : X % y = (2 * s + X % 2) % y := by
      conv => lhs; rw [hr]
      exact Int.add_mul_emod_self_left ..
    have hd : X / y = (2 * s + X % 2) / y + 2 * q := by
      conv => lhs; rw [hr]
      exact Int.add_mul_ediv_left _ _ (by omega)
    have hX2 : 0 ≤ X % 2 ∧ X % 2 < 2 := by omega
    generalize X % 2 = b at *
    refine ⟨?_, fun _ => ?_, h1, by omega⟩
    · rw [hm]
      by_cases h : y ≤ 2 * s + b
      · rw [if_pos h]
        have : (2 * s + b) % y = (2 * s + b - y) % y := by
          conv => lhs; rw [show 2 * s + b = (2 * s + b - y) + y * 1 by omega]
          exact Int.add_mul_emod_self_left ..
        rw [this, Int.emod_eq_of_lt (by omega) (by omega)]
      · rw [if_neg h, Int.emod_eq_of_lt (by omega) (by omega)]
    · rw [hd]
      by_cases h : y ≤ 2 * s + b
      · have : (2 * s + b) / y = 1 := by
          conv => lhs; rw [show 2 * s + b = (2 * s + b - y) + y * 1 by omega]
          rw [Int.add_mul_ediv_left _ _ (by omega), Int.ediv_eq_zero_of_lt (by omega) (by omega)]; rfl
        rw [this, decide_eq_true h, decide_eq_true (by omega)]
      · have : (2 * s + b) / y = 0 := Int.ediv_eq_zero_of_lt (by omega) (by omega)
        rw [this, decide_eq_false h, decide_eq_false (by omega)]
  · have : y = 0 := by omega
    subst this
    rw [Int.emod_zero, Int.emod_zero, if_pos (by omega)]
    exact ⟨by omega, fun h => by omega, by omega, by omega⟩
/-- The quotient; of a division by 0, all ones. -/
def quo (w : Nat) (x y : Int) : Int := if y = 0 then 2 ^ w - 1 else x / y
theorem ones_bit {w n : Nat} (h : n < w) : bit (2 ^ w - 1) n = 1 := by
  unfold bit
  have h1 : (2 : Int) ^ w = 2 ^ n * (2 * 2 ^ (w - n - 1)) := by
    rw [← Int.mul_assoc, ← Int.pow_succ, ← Int.pow_add, show n + 1 + (w - n - 1) = w by omega]
  have hp := pow_pos2 n
  have hp2 := pow_pos2 (w - n - 1)
  rw [h1]
  generalize (2 : Int) ^ (w - n - 1) = r at *
  have : (2 : Int) ^ n * (2 * r) - 1 = (2 ^ n - 1) + 2 ^ n * (2 * r - 1) := by rw [Int.mul_sub]; omega
  rw [this, Int.add_mul_ediv_left _ _ (by omega), Int.ediv_eq_zero_of_lt (by omega) (by omega)]
  omega
theorem quo_bit {w n : Nat} {x y : Int} (hx : 0 ≤ x) (hy : 0 ≤ y) (h : n < w) : decide (y ≤ 2 * (x / 2 ^ (n + 1) % y) + bit x n) = decide (bit (quo w x y) n = 1) := by
  obtain ⟨_, h2, h3, h4⟩ := div_step hx hy n
  unfold quo
  by_cases h0 : y = 0
  · rw [if_pos h0, ones_bit h]
    have := bit_two x n
    rw [decide_eq_true (by omega)]; rfl
  · rw [if_neg h0]; exact h2 (by omega)
theorem quo_back {w : Nat} {x y : Int} : quo w x y * y + x % y = x := by
  unfold quo
  by_cases h0 : y = 0
  · subst h0; rw [Int.mul_zero, Int.emod_zero, Int.zero_add]
  · rw [if_neg h0, Int.mul_comm]; exact Int.mul_ediv_add_emod x y
theorem take_bits : ∀ (w k : Nat) (v : Int), (bitsB (w + k) v).take w = bitsB w v
  | 0, k, v => by simp [bitsB]
  | w + 1, k, v => by rw [show w + 1 + k = (w + k) + 1 by omega, bitsB, List.take_succ_cons, take_bits w k]; rfl
theorem cons_bits (w : Nat) {r : Int} {b : Int} (hb : b = 0 ∨ b = 1) : decide (b = 1) :: bitsB w r = bitsB (w + 1) (2 * r + b) := by
  rw [bitsB]
  congr 2
  · rw [show (2 * r + b) % 2 = b by omega]
  · omega
theorem pad_bits {w : Nat} {y : Int} (h0 : 0 ≤ y) (h1 : y < 2 ^ w) : bitsB w y ++ [false] = bitsB (w + 1) y := by
  refine word_bits (by rw [List.length_append, bitsB_len]; rfl) ?_
  have : y < 2 ^ (w + 1) := by rw [Int.pow_succ]; omega
  rw [num_append, num_bits, Int.emod_eq_of_lt h0 h1, Int.emod_eq_of_lt h0 this]
  simp [num]
theorem Word.set {a : List Int} {bs : List Bool} (h : Word ins g a bs) {x : Int} {b : Bool} (hx : isL g x = true) (hv : Aig.val ins g x = b) (i : Nat) : Word ins g (a.set i x) (bs.set i b) :=
  ⟨fun z hz => by
    rcases List.mem_or_eq_of_mem_set hz with h1 | rfl
    · exact h.lit z h1
    · exact hx, by rw [List.map_set, h.val, hv]⟩

/-! ### a sum whose first word is an array -/
theorem lift96v4 (k : Nat) : ∀ (j : Nat) (a b : List Int) (c : Int) (out : List Int) (n i : Int) (g : List D_Gate) (m : Mp) (y : R96_58), l96_58 k j a b c out n i g m = some y → l96v4_58 k j a.length b c out n i g m a = some (y.1, (y.2.1, y.2.2.1, a, ())) := by
  intro j
  induction j with
  | zero => intro a b c out n i g m y h; cases h
  | succ j ih =>
    intro a b c out n i g m y h
    have h : b96_58 k (l96_58 k j) a b c out n i g m = some y := h
    show b96v4_58 k (l96v4_58 k j) a.length b c out n i g m a = _
    unfold b96_58 at h
    unfold b96v4_58
    simp only [ixo]
    cases hd : decide (i < n) with
    | false =>
      rw [hd] at h
      obtain rfl := Option.some.inj h
      rfl
    | true =>
      rw [hd, cond_true] at h
      rw [cond_true]
      obtain ⟨e1, q1, h⟩ := ix_case h
      obtain ⟨e2, q2, h⟩ := ix_case h
      obtain ⟨y3, h3, h⟩ := bind_some h
      obtain ⟨y4, h4, h⟩ := bind_some h
      obtain ⟨hr, h⟩ := gd_case h
      rw [q1, q2] at h
      obtain ⟨y7, h7, h⟩ := bind_some h
      obtain ⟨y8, h8, h⟩ := bind_some h
      obtain ⟨y9, h9, h⟩ := bind_some h
      obtain ⟨y10, h10, h⟩ := bind_some h
      obtain rfl := Option.some.inj h
      rw [q1, q2, h3]
      simp only [Option.bind_some]
      rw [h4]
      simp only [Option.bind_some]
      rw [hr, q1, q2, h7]
      simp only [gd_true, Option.bind_some]
      rw [h8]
      simp only [Option.bind_some]
      rw [h9]
      simp only [Option.bind_some]
      rw [ih _ _ _ _ _ _ _ _ _ h10]; rfl
theorem sum96v4 (k : Nat) {a b : List Int} {c : Int} {n : Nat} (hn : a.length = n) {y : R96} (h : f96 k a b c g m = some y) : f96v4 k n b c g m a = some (y.1, (y.2.1, y.2.2.1, a, ())) := by
  subst hn
  unfold f96 at h
  obtain ⟨y1, h1, h⟩ := bind_some h
  obtain rfl := Option.some.inj h
  unfold f96v4
  rw [lift96v4 k _ _ _ _ _ _ _ _ _ _ h1]; rfl
theorem less103v2 (hv : Valid g) (hm : MapOk g m) (hg : g.length + 153 ≤ 1000000) {a b : List Int} {n : Nat} {xs ys : List Bool} (ha : a.length = n) (hwa : Word ins g a xs) (hwb : Word ins g b ys) (hab : a.length = b.length) (h2 : n ≤ 17) :
    ∃ (g' : List D_Gate) (m' : Mp) (r : Int), (∃ e, g' = g ++ e) ∧ Valid g' ∧ MapOk g' m' ∧ g'.length ≤ g.length + 153 ∧ isL g' r = true ∧ Aig.val ins g' r = decide (num xs < num ys) ∧ E fun k => f103v2 k n b g m a = some ((r, ()), ((g', (), ()), m', a, ())) := by
  have hlen : xs.length = ys.length := by rw [← hwa.len, ← hwb.len]; exact hab
  have lo : isL g 1 = true := isL_iff.2 (by omega)
  obtain ⟨g1, m1, c, out, he1, hv1, hm1, hl1, lc, vc, hw1, hE1⟩ := sum96 (ins := ins) hv hm hg hwa hwb.nots (by rw [List.length_map]; exact hab) (by omega) lo (cb := true) val_one
  have hc := isL_iff.1 lc
  refine ⟨g1, m1, nt c, he1, hv1, hm1, by omega, isL_nt lc, ?_, hE1.mono2 (E.ge 40) fun k e1 hk => ?_⟩
  · rw [vnt lc, vc, less_carry hlen]
    by_cases h : num ys ≤ num xs
    · rw [decide_eq_true h, decide_eq_false (by omega)]; rfl
    · rw [decide_eq_false h, decide_eq_true (by omega)]; rfl
  · unfold f103v2
    rw [turned104 k (by omega) (by omega) (by omega) hwb.lit]
    simp only [Option.bind_some]
    rw [sum96v4 k ha e1]
    simp only [Option.bind_some, beq_int]
    rw [decide_eq_false (by omega : ¬ c = -1), cond_false, xor1w (by omega) lc]
theorem sub96v4 (hv : Valid g) (hm : MapOk g m) (hg : g.length + 153 ≤ 1000000) {a b : List Int} {n : Nat} {x y : Int} (ha : a.length = n) (hwa : Word ins g a (bitsB n x)) (hwb : Word ins g b (bitsB n y)) (h2 : n ≤ 17) :
    ∃ (g' : List D_Gate) (m' : Mp) (c : Int) (out : List Int), (∃ e, g' = g ++ e) ∧ Valid g' ∧ MapOk g' m' ∧ g'.length ≤ g.length + 153 ∧ Word ins g' out (bitsB n (x - y)) ∧ E fun k => f96v4 k n (b.map nt) 1 g m a = some ((out, c, ()), ((g', (), ()), m', a, ())) := by
  have hb : b.length = n := by rw [hwb.len, bitsB_len]
  have lo : isL g 1 = true := isL_iff.2 (by omega)
  obtain ⟨g1, m1, c, out, he1, hv1, hm1, hl1, lc, vc, hw1, hE1⟩ := sum96 (ins := ins) hv hm hg hwa hwb.nots (by rw [List.length_map]; omega) (by omega) lo (cb := true) val_one
  rw [sub_bits] at hw1
  exact ⟨g1, m1, c, out, he1, hv1, hm1, hl1, hw1, hE1.mono fun k e => sum96v4 k ha e⟩
theorem pick_loop60 {qa : List Int} {w n i : Nat} (hn : n ≤ 17) (hiw' : i < w) {c : Int} {cb : Bool} (hc : qa[i]? = some c) {fs os : List Bool} {far old : List Int} : ∀ (d k0 : Nat) (g : List D_Gate) (m : Mp) (pre : List Int) (bs : List Bool), n - k0 = d → k0 ≤ n → Valid g → MapOk g m → g.length + 3 * d ≤ 1000000 → far.length = n → old.length = n →
    Word ins g far fs → Word ins g old os → isL g c = true → Aig.val ins g c = cb → Word ins g pre bs → pre.length = k0 →
    ∃ (g' : List D_Gate) (m' : Mp) (out : List Int), (∃ e, g' = g ++ e) ∧ Valid g' ∧ MapOk g' m' ∧ g'.length ≤ g.length + 3 * d ∧ Word ins g' out (bs ++ zipB (fun x y => cond cb x y) (fs.drop k0) (os.drop k0)) ∧
      E fun k => ∀ j, d < j → l60_4182654 k j w n i far n k0 g m qa (pre ++ old.drop k0) = some ((), ((g', (), ()), m', qa, out, ())) := by
  intro d
  induction d with
  | zero =>
    intro k0 g m pre bs hd hkw hv hm hg hfl hol hwf hwo lc vc hwp hp
    refine ⟨g, m, pre, ⟨[], by simp⟩, hv, hm, by omega, ?_, .all fun k j hj => ?_⟩
    · rw [List.drop_of_length_le (by have := hwf.len; omega), zipB, List.append_nil]; exact hwp
      all_goals simp
    · obtain ⟨j, rfl, _⟩ := succ_of (n := 0) (by omega : 0 + 1 ≤ j)
      show b60_4182654 k (l60_4182654 k j) w n i far n k0 g m qa _ = _
      unfold b60_4182654
      rw [decide_eq_false (by omega : ¬ (k0 : Int) < n), List.drop_of_length_le (by omega), List.append_nil]; rfl
  | succ d ih =>
    intro k0 g m pre bs hd hkw hv hm hg hfl hol hwf hwo lc vc hwp hp
    have hw1 : w64 ((k0 : Int) + 1) = ((k0 + 1 : Nat) : Int) := by rw [w_id (by omega) (by omega)]; omega
    obtain ⟨x, bx, hx, hbx, lx, vx⟩ := hwf.get (i := k0) (by omega)
    obtain ⟨y, by_, hy, hby, ly, vy⟩ := hwo.get (i := k0) (by omega)
    obtain ⟨g1, m1, r, he1, hv1, hm1, hl1, lr, vr, hE1⟩ := ite_op (ins := ins) hv hm (by omega) lc lx ly
    have hwc := old_lit (ins := ins) he1 lc
    obtain ⟨g2, m2, out2, he2, hv2, hm2, hl2, hw2', hE2⟩ := ih (k0 + 1) g1 m1 (pre ++ [r]) (bs ++ [cond cb bx by_]) (by omega) (by omega) hv1 hm1 (by omega) hfl hol (old_word he1 hwf) (old_word he1 hwo) hwc.1 (by rw [hwc.2, vc]) ((old_word he1 hwp).snoc lr (by rw [vr, vc, vx, vy])) (by rw [List.length_append, hp]; rfl)
    refine ⟨g2, m2, out2, ext_trans he1 he2, hv2, hm2, by omega, ?_, hE1.mono2 hE2 fun k e1 e2 j hj => ?_⟩
    · rw [zipB_drop _ hbx hby]
      rw [List.append_assoc] at hw2'; exact hw2'
    · obtain ⟨j, rfl, hj2⟩ := succ_of (by omega : d + 1 + 1 ≤ j)
      show b60_4182654 k (l60_4182654 k j) w n i far n k0 g m qa _ = _
      dsimp only at e1
      have hlt := Vm.getElem?_lt hy
      have hdr : old.drop k0 = y :: old.drop (k0 + 1) := by
        rw [List.drop_eq_getElem_cons hlt]
        rw [List.getElem?_eq_getElem hlt] at hy
        rw [Option.some.inj hy]
      have hset : (pre ++ old.drop k0).set (0 + (k0 : Int).toNat) r = (pre ++ [r]) ++ old.drop (k0 + 1) := by
        rw [show 0 + (k0 : Int).toNat = pre.length by omega, hdr, List.set_append_right _ _ (Nat.le_refl _), Nat.sub_self, List.set_cons_zero, List.append_assoc]; rfl
      have hgc : qa[0 + (i : Int).toNat]? = some c := by rw [show 0 + (i : Int).toNat = i by omega]; exact hc
      have hgy : (pre ++ old.drop k0)[0 + (k0 : Int).toNat]? = some y := by
        rw [show 0 + (k0 : Int).toNat = k0 by omega, hdr, List.getElem?_append_right (by omega), hp, Nat.sub_self]; rfl
      unfold b60_4182654
      rw [decide_eq_true (by omega : (k0 : Int) < n), cond_true, gd_dec (by omega), gd_dec (by omega), hgc]
      simp only [Option.bind_some]
      rw [ix_nat hx, gd_dec (by omega), gd_dec (by omega), hgy]
      simp only [Option.bind_some]
      rw [e1]
      simp only [Option.bind_some]
      rw [gd_dec (by omega), gd_dec (by omega), gd_dec (by rw [List.length_append, List.length_drop]; omega), hset, hw1, e2 j hj2]; rfl
end Vec
end Go.Proofs.Ytgljnnokifggkaa.M
/-
Words of literals: the division's rounds.
-/
set_option linter.unusedVariables false
set_option linter.unusedSimpArgs false
set_option maxRecDepth 100000
namespace Go.Proofs.Ytgljnnokifggkaa.M
open Go Go.Proofs.Ytgljnnokifggkaa.Vm Go.Proofs.Ytgljnnokifggkaa.Pl
namespace Vec
open Aig
variable {g : List D_Gate} {m : Mp} {ins : List Bool}
theorem div_core {w n : Nat} {x y : Int} (h1 : 1 ≤ w) (hw : w ≤ 16) (hx0 : 0 ≤ x) (hx1 : x < 2 ^ w) (hy0 : 0 ≤ y) (hy1 : y < 2 ^ w) (hn : n < w) {a wide qa T : List Int} {e : Int} (hv : Valid g) (hm : MapOk g m) (hg : g.length + 400 ≤ 1000000)
    (hwa : Word ins g a (bitsB w x)) (hww : Word ins g wide (bitsB (w + 1) y)) (hwq : Word ins g qa (List.replicate (n + 1) false ++ (bitsB w (quo w x y)).drop (n + 1))) (hwT : Word ins g T (bitsB w (x / 2 ^ (n + 1) % y))) (he : a[n]? = some e) :
    ∃ (g' : List D_Gate) (m' : Mp) (l : Int) (g1 : List D_Gate) (m1 : Mp) (g2 : List D_Gate) (m2 : Mp) (c : Int) (d rest : List Int), (∃ e, g' = g ++ e) ∧ Valid g' ∧ MapOk g' m' ∧ g'.length ≤ g.length + 400 ∧ 0 ≤ l ∧ ibits .xor .i64 l 1 = nt l ∧
      Word ins g' (qa.set n (nt l)) (List.replicate n false ++ (bitsB w (quo w x y)).drop n) ∧ Word ins g' rest (bitsB (w + 1) (x / 2 ^ n % y)) ∧
      E fun k => f103v2 k (1 + w) wide g m ([e] ++ T) = some ((l, ()), ((g1, (), ()), m1, [e] ++ T, ())) ∧ f104 k wide = some ((wide.map nt, ()), ()) ∧ f96v4 k (1 + w) (wide.map nt) 1 g1 m1 ([e] ++ T) = some ((d, c, ()), ((g2, (), ()), m2, [e] ++ T, ())) ∧
        l60_4182654 k k w (1 + w) n d (1 + (w : Int)) 0 g2 m2 (qa.set n (nt l)) ([e] ++ T) = some ((), ((g', (), ()), m', qa.set n (nt l), rest, ())) := by
  have hlT : T.length = w := by rw [hwT.len, bitsB_len]
  have hlw : wide.length = w + 1 := by rw [hww.len, bitsB_len]
  have hlq : qa.length = w := by rw [hwq.len, List.length_append, List.length_replicate, List.length_drop, bitsB_len]; omega
  obtain ⟨d1, _, d3, d4⟩ := div_step hx0 hy0 n
  have d2 := quo_bit (w := w) hx0 hy0 hn
  have hb2 := bit_two x n
  have hXx : x / 2 ^ n ≤ x := Int.ediv_le_self _ hx0
  obtain ⟨e', be, he', hbe, le, ve⟩ := hwa.get (i := n) (by have := hwa.len; rw [bitsB_len] at this; omega)
  rw [he] at he'
  obtain rfl := Option.some.inj he'
  rw [bits_get w n x hn] at hbe
  obtain rfl := Option.some.inj hbe
  have hwR : Word ins g ([e] ++ T) (bitsB (w + 1) (2 * (x / 2 ^ (n + 1) % y) + bit x n)) := by
    rw [← cons_bits w hb2]
    refine ⟨fun z hz => ?_, ?_⟩
    · rcases List.mem_append.1 hz with h | h
      · rw [List.mem_singleton.1 h]; exact le
      · exact hwT.lit z h
    · rw [List.map_append, List.map_cons, List.map_nil, hwT.val, ve]; rfl
  generalize hR : 2 * (x / 2 ^ (n + 1) % y) + bit x n = R at *
  have hp1 : (2 : Int) ^ (w + 1) = 2 * 2 ^ w := by rw [Int.pow_succ]; omega
  obtain ⟨g1, m1, l, he1, hv1, hm1, hl1, ll, vl, hE1⟩ := less103v2 (ins := ins) (n := 1 + w) hv hm (by omega) (by rw [List.length_append, hlT]; rfl) hwR hww (by rw [List.length_append, hlT, hlw]; simp; omega) (by omega)
  rw [num_bits, num_bits, Int.emod_eq_of_lt (by omega) (by omega), Int.emod_eq_of_lt (by omega) (by omega)] at vl
  have vn : Aig.val ins g1 (nt l) = decide (y ≤ R) := by
    rw [vnt ll, vl]
    by_cases h : y ≤ R
    · rw [decide_eq_true h, decide_eq_false (by omega)]; rfl
    · rw [decide_eq_false h, decide_eq_true (by omega)]; rfl
  obtain ⟨g2, m2, c, d, he2, hv2, hm2, hl2, hwd, hE2⟩ := sub96v4 (ins := ins) (a := [e] ++ T) (n := 1 + w) (x := R) (y := y) hv1 hm1 (by omega) (by rw [List.length_append, hlT]; rfl) (by rw [Nat.add_comm 1 w]; exact old_word he1 hwR) (by rw [Nat.add_comm 1 w]; exact old_word he1 hww) (by omega)
  have lln := isL_nt ll
  have l2 := old_lit (ins := ins) he2 lln
  have hc : (qa.set n (nt l))[n]? = some (nt l) := List.getElem?_set_self (by omega)
  obtain ⟨g3, m3, rest, he3, hv3, hm3, hl3, hwr, hE3⟩ := pick_loop60 (ins := ins) (qa := qa.set n (nt l)) (w := w) (n := 1 + w) (i := n) (by omega) hn hc (1 + w) 0 g2 m2 [] [] (by omega) (by omega) hv2 hm2 (by omega) (by rw [hwd.len, bitsB_len]) (by rw [List.length_append, hlT]; rfl) hwd (old_word (ext_trans he1 he2) hwR) l2.1 (l2.2.trans vn) Word.nil rfl
  rw [List.drop_zero, List.drop_zero, List.nil_append, zip_pick _ _ _ (by rw [bitsB_len, bitsB_len, Nat.add_comm])] at hwr
  have hll := isL_iff.1 ll
  refine ⟨g3, m3, l, g1, m1, g2, m2, c, d, rest, ext_trans (ext_trans he1 he2) he3, hv3, hm3, by omega, hll.1, xor1w (by omega) ll, ?_, ?_, hE1.mono2 (hE2.and (hE3.and (E.ge 60))) fun k e1 e2 => ?_⟩
  · have hw0 := (old_word (ext_trans (ext_trans he1 he2) he3) hwq).set (old_lit (ins := ins) (ext_trans he2 he3) lln).1 ((old_lit (ins := ins) (ext_trans he2 he3) lln).2.trans vn) n
    have ebit : (List.replicate (n + 1) false ++ (bitsB w (quo w x y)).drop (n + 1)).set n (decide (y ≤ R)) = List.replicate n false ++ (bitsB w (quo w x y)).drop n := by
      have hlt : n < (bitsB w (quo w x y)).length := by rw [bitsB_len]; exact hn
      have hg := bits_get w n (quo w x y) hn
      rw [List.getElem?_eq_getElem hlt] at hg
      rw [List.drop_eq_getElem_cons hlt, Option.some.inj hg, ← d2, List.replicate_succ', List.append_assoc, List.set_append_right _ _ (by simp)]
      simp
    rw [ebit] at hw0; exact hw0
  · rw [← d1]
    by_cases h : y ≤ R
    · rw [decide_eq_true h, cond_true, Nat.add_comm 1 w] at hwr
      rw [if_pos h]; exact hwr
    · rw [decide_eq_false h, cond_false] at hwr
      rw [if_neg h]; exact hwr
  · obtain ⟨e2, e3, hk⟩ := e2
    have e3 := e3 k (by omega)
    rw [List.drop_zero, List.nil_append, show ((0 : Nat) : Int) = 0 from rfl, show ((1 + w : Nat) : Int) = 1 + (w : Int) by omega] at e3
    exact ⟨e1, turned104 k (by omega) (g := g) (by omega) (by omega) hww.lit, e2, e3⟩
theorem l60s1 (k j : Nat) : l60_2042s1 k (j + 1) = b60_2042s1 k (l60_2042s0 k j) (l60_2042s1 k j) := rfl
theorem l60s0 (k j : Nat) : l60_2042s0 k (j + 1) = b60_2042s0 k (l60_2042s0 k j) (l60_2042s1 k j) := rfl
theorem div_loop {w : Nat} {x y : Int} (h1 : 1 ≤ w) (hw : w ≤ 16) (hx0 : 0 ≤ x) (hx1 : x < 2 ^ w) (hy0 : 0 ≤ y) (hy1 : y < 2 ^ w) {a wide : List Int} : ∀ (n : Nat) (g : List D_Gate) (m : Mp) (qa rest : List Int), n ≤ w → Valid g → MapOk g m → g.length + 400 * n ≤ 1000000 →
    Word ins g a (bitsB w x) → Word ins g wide (bitsB (w + 1) y) → Word ins g qa (List.replicate n false ++ (bitsB w (quo w x y)).drop n) → Word ins g rest (bitsB (w + 1) (x / 2 ^ n % y)) →
    ∃ (g' : List D_Gate) (m' : Mp) (qa' rest' : List Int), (∃ e, g' = g ++ e) ∧ Valid g' ∧ MapOk g' m' ∧ g'.length ≤ g.length + 400 * n ∧ Word ins g' qa' (bitsB w (quo w x y)) ∧ Word ins g' rest' (bitsB (w + 1) (x % y)) ∧
      E fun k => ∀ j, n < j → l60_2042s1 k j a w (1 + w) w wide ((n : Int) - 1) g m qa rest = some (.inl ((w, 1 + w, ()), ((g', (), ()), m', qa', rest', ()))) ∨ ∃ o, l60_2042s1 k j a w (1 + w) w wide ((n : Int) - 1) g m qa rest = some (.inr (.inl ((w, 1 + w, ()), ((g', (), ()), m', qa', o, rest', ())))) := by
  intro n
  induction n with
  | zero =>
    intro g m qa rest hnw hv hm hg hwa hww hwq hwr
    refine ⟨g, m, qa, rest, ⟨[], by simp⟩, hv, hm, by omega, by simpa using hwq, by simpa using hwr, .all fun k j hj => .inl ?_⟩
    obtain ⟨j, rfl, _⟩ := succ_of (n := 0) (by omega : 0 + 1 ≤ j)
    rw [l60s1]
    unfold b60_2042s1
    rw [decide_eq_false (by omega : ¬ ((0 : Nat) : Int) - 1 ≥ 0)]; rfl
  | succ n ih =>
    intro g m qa rest hnw hv hm hg hwa hww hwq hwr
    have hlr : rest.length = w + 1 := by rw [hwr.len, bitsB_len]
    have hlq : qa.length = w := by rw [hwq.len, List.length_append, List.length_replicate, List.length_drop, bitsB_len]; omega
    have hwT : Word ins g (rest.take w) (bitsB w (x / 2 ^ (n + 1) % y)) := by
      rw [← take_bits w 1]
      exact ⟨fun z hz => hwr.lit z (List.mem_of_mem_take hz), by rw [List.map_take, hwr.val]⟩
    obtain ⟨e, be, he, _, _, _⟩ := hwa.get (i := n) (by have := hwa.len; rw [bitsB_len] at this; omega)
    obtain ⟨g1, m1, l, ga, ma, gb, mb, c, d, r1, he1, hv1, hm1, hl1, hl0, hx, hwq1, hwr1, hE1⟩ := div_core (ins := ins) h1 hw hx0 hx1 hy0 hy1 (by omega : n < w) hv hm (by omega) hwa hww hwq hwT he
    obtain ⟨g2, m2, q2, r2, he2, hv2, hm2, hl2, hwq2, hwr2, hE2⟩ := ih g1 m1 _ r1 (by omega) hv1 hm1 (by omega) (old_word he1 hwa) (old_word he1 hww) hwq1 hwr1
    refine ⟨g2, m2, q2, r2, ext_trans he1 he2, hv2, hm2, by omega, hwq2, hwr2, hE1.mono2 (hE2.and (E.ge 60)) fun k e1 e2 j hj => .inr ⟨rest, ?_⟩⟩
    obtain ⟨e1, e2', e3, e4⟩ := e1
    obtain ⟨e5, hk⟩ := e2
    obtain ⟨j, rfl, hj2⟩ := succ_of (by omega : n + 1 + 1 ≤ j)
    rw [l60s1]
    have hT : (rest.drop 0).take (w : Int).toNat = rest.take w := by rw [List.drop_zero, Int.toNat_natCast]
    have hTl : (rest.take w).length = w := by rw [List.length_take]; omega
    have hTe : (rest.take w).isEmpty = false := by
      cases hc : rest.take w with
      | nil => rw [hc] at hTl; simp at hTl; omega
      | cons => rfl
    have hw1 : w64 ((n : Int) - 1) = (n : Int) - 1 := w_id (by omega) (by omega)
    unfold b60_2042s1
    rw [show ((n + 1 : Nat) : Int) - 1 = (n : Int) by omega, decide_eq_true (by omega : (n : Int) ≥ 0), cond_true, ix_nat he, gd_dec (by omega), gd_dec (by omega), gd_dec (by omega), hT, hTe, cond_false, hTl, gd_dec (by unfold room; omega), e1]
    simp only [Option.bind_some, beq_int]
    rw [decide_eq_false (by omega : ¬ l = -1), cond_false, gd_true, gd_dec (by omega), gd_dec (by omega), e2']
    simp only [Option.bind_some]
    rw [e3]
    simp only [Option.bind_some]
    rw [hx, show 0 + (n : Int).toNat = n by omega, e4]
    simp only [Option.bind_some]
    rw [hw1]
    rcases e5 j hj2 with e5 | ⟨o, e5⟩
    · rw [e5]; rfl
    · rw [e5]; rfl
theorem whole_more (k : Nat) {w : Nat} {a : List Int} (ha : w ≤ a.length) (hw : w ≤ 16) (h : ∀ x ∈ a, isL g x = true) (hk : 16 < k) : f92v2 k w a = some (.inr ((w, ()), (a, ()))) := by
  unfold f92v2 f112 f118
  have hl : (a.take w).length = w := by rw [List.length_take]; omega
  rw [gd_dec (by omega), List.drop_zero]
  have := index_loop k (a := a.take w) (by omega) (fun x hx => by have := (isL_iff.1 (h x (List.mem_of_mem_take hx))).1; omega) (a.take w).length 0 (by omega) k (by omega)
  rw [show ((0 : Nat) : Int) = 0 from rfl] at this
  rw [this]
  rfl
theorem clone102v4 (k : Nat) {a : List Int} (h2 : a.length ≤ 17) : f102v4 k a = some ((a, ()), ()) := by
  unfold f102v4 f102v6
  rw [gd_dec (by unfold room; omega), List.nil_append]
theorem div60 (hv : Valid g) (hm : MapOk g m) (hg : g.length + 6400 ≤ 1000000) {a b : List Int} {w : Nat} {x y : Int} (hx0 : 0 ≤ x) (hx1 : x < 2 ^ w) (hy0 : 0 ≤ y) (hy1 : y < 2 ^ w) (h1 : 1 ≤ w) (hw : w ≤ 16) (hwa : Word ins g a (bitsB w x)) (hwb : Word ins g b (bitsB w y)) :
    ∃ (g' : List D_Gate) (m' : Mp) (qa rest : List Int), (∃ e, g' = g ++ e) ∧ Valid g' ∧ MapOk g' m' ∧ g'.length ≤ g.length + 6400 ∧ Word ins g' qa (bitsB w (quo w x y)) ∧ Word ins g' rest (bitsB (w + 1) (x % y)) ∧
      E fun k => f60 k a b g m = some (.inr (.inr ((w, w, ()), ((g', (), ()), m', qa, rest, ())))) := by
  have la : a.length = w := by rw [hwa.len, bitsB_len]
  have lb : b.length = w := by rw [hwb.len, bitsB_len]
  obtain ⟨n, rfl⟩ : ∃ n, w = n + 1 := ⟨w - 1, by omega⟩
  have lz : isL g 0 = true := isL_iff.2 (by omega)
  have hww : Word ins g (b ++ [0]) (bitsB (n + 1 + 1) y) := by
    rw [← pad_bits hy0 hy1]
    exact hwb.snoc lz val_zero
  have hwT : Word ins g (List.replicate (n + 1) 0) (bitsB (n + 1) (x / 2 ^ (n + 1) % y)) := by
    rw [Int.ediv_eq_zero_of_lt hx0 hx1, Int.zero_emod]; exact zero_word _
  have hwq : Word ins g (List.replicate (n + 1) 0) (List.replicate (n + 1) false ++ (bitsB (n + 1) (quo (n + 1) x y)).drop (n + 1)) := by
    rw [List.drop_of_length_le (by rw [bitsB_len]; omega), List.append_nil]
    exact ⟨fun x hx => by rw [(List.mem_replicate.1 hx).2]; exact lz, by rw [List.map_replicate, val_zero]⟩
  obtain ⟨e, be, he, _, _, _⟩ := hwa.get (i := n) (by omega)
  obtain ⟨g1, m1, l, ga, ma, gb, mb, c, d, r1, he1, hv1, hm1, hl1, hl0, hx, hwq1, hwr1, hE1⟩ := div_core (ins := ins) h1 hw hx0 hx1 hy0 hy1 (by omega : n < n + 1) hv hm (by omega) hwa hww hwq hwT he
  obtain ⟨g2, m2, q2, r2, he2, hv2, hm2, hl2, hwq2, hwr2, hE2⟩ := div_loop (ins := ins) h1 hw hx0 hx1 hy0 hy1 n g1 m1 _ r1 (by omega) hv1 hm1 (by omega) (old_word he1 hwa) (old_word he1 hww) hwq1 hwr1
  refine ⟨g2, m2, q2, r2, ext_trans he1 he2, hv2, hm2, by omega, hwq2, hwr2, hE1.mono2 (hE2.and (E.ge 60)) fun k e1 e2 => ?_⟩
  obtain ⟨e1, e2', e3, e4⟩ := e1
  obtain ⟨e5, hk⟩ := e2
  have lq2 : q2.length = n + 1 := by rw [hwq2.len, bitsB_len]
  have lr2 : r2.length = n + 1 + 1 := by rw [hwr2.len, bitsB_len]
  have w1 := whole_more (g := g2) k (w := n + 1) (a := q2) (by omega) hw hwq2.lit (by omega)
  have w2 := whole_more (g := g2) k (w := n + 1) (a := r2) (by omega) hw hwr2.lit (by omega)
  have hloop : l60_2042s0 k k a (n + 1) (List.replicate (n + 1) 0 ++ [0]) (n + 1 : Nat) (b ++ [0]) (n : Int) g m (List.replicate (n + 1) 0) = some (.inr (.inl ((n + 1, 1 + (n + 1), ()), ((g2, (), ()), m2, q2, r2, ())))) := by
    obtain ⟨j, hj, hj2⟩ := succ_of (by omega : n + 1 + 1 ≤ k)
    have hun : l60_2042s0 k k a (n + 1) (List.replicate (n + 1) 0 ++ [0]) (n + 1 : Nat) (b ++ [0]) (n : Int) g m (List.replicate (n + 1) 0) = b60_2042s0 k (l60_2042s0 k j) (l60_2042s1 k j) a (n + 1) (List.replicate (n + 1) 0 ++ [0]) (n + 1 : Nat) (b ++ [0]) (n : Int) g m (List.replicate (n + 1) 0) := by
      rw [← l60s0, ← hj]
    rw [hun]
    have hT : ((List.replicate (n + 1) (0 : Int) ++ [0]).take (((n + 1 : Nat) : Int).toNat)).drop 0 = List.replicate (n + 1) 0 := by
      rw [List.drop_zero, show ((n + 1 : Nat) : Int).toNat = n + 1 by omega, List.take_append_of_le_length (by simp)]; simp
    have hTe : (List.replicate (n + 1) (0 : Int)).isEmpty = false := rfl
    have hw1 : w64 ((n : Int) - 1) = (n : Int) - 1 := w_id (by omega) (by omega)
    unfold b60_2042s0
    rw [decide_eq_true (by omega : (n : Int) ≥ 0), cond_true, ix_nat he, gd_dec (by omega), gd_dec (by simp), hT, hTe, cond_false, List.length_replicate, gd_dec (by unfold room; omega), e1]
    simp only [Option.bind_some, beq_int]
    rw [decide_eq_false (by omega : ¬ l = -1), cond_false, gd_true, gd_dec (by omega), gd_dec (by omega), e2']
    simp only [Option.bind_some]
    rw [e3]
    simp only [Option.bind_some]
    rw [hx, show 0 + (n : Int).toNat = n by omega, e4]
    simp only [Option.bind_some]
    rw [hw1]
    rcases e5 j hj2 with e5 | ⟨o, e5⟩
    · rw [e5]; rfl
    · rw [e5]; rfl
  unfold f60 l60_254 l60_510
  rw [pair95 k (by omega) (by omega) (by omega) (by omega) (by omega) hwa.lit hwb.lit]
  simp only [Option.bind_some, Bool.not_true, cond_false]
  rw [clone102v4 k (by omega)]
  simp only [Option.bind_some]
  rw [gd_dec (by unfold room; omega), la, zero37 k (by omega) h1 hw]
  simp only [Option.bind_some]
  rw [gd_dec (by rw [List.length_replicate]; unfold room; omega), zero_const h1 hw]
  simp only [Option.bind_some]
  rw [show w64 (((n + 1 : Nat) : Int) - 1) = (n : Int) by rw [w_id (by omega) (by omega)]; omega, hloop]
  simp only [Option.bind_some]
  rw [w1]
  simp only [Option.bind_some]
  rw [decide_eq_false (by omega : ¬ n + 1 = 0), cond_false, gd_dec (by omega), gd_dec (by omega), Int.toNat_natCast, w2]
  simp only [Option.bind_some]
  rw [decide_eq_false (by omega : ¬ n + 1 = 0), cond_false, gd_dec (by omega), gd_dec (by omega)]
end Vec
end Go.Proofs.Ytgljnnokifggkaa.M
namespace Go.Proofs.Ytgljnnokifggkaa.M
open Go Go.Proofs.Ytgljnnokifggkaa.Vm Go.Proofs.Ytgljnnokifggkaa.Pl
namespace Aig
section
variable {g : List D_Gate} {m : Mp} {ins : List Bool}
/-- May a node stand at place i? -/
def okAt (i : Nat) (e : D_Gate) : Prop := e = inp ∨ (0 ≤ e.1 ∧ 0 ≤ e.2.1 ∧ e.1 ≤ 2 * i + 1 ∧ e.2.1 ≤ 2 * i + 1)
instance (i : Nat) (e : D_Gate) : Decidable (okAt i e) := by unfold okAt; infer_instance
def okFrom (i : Nat) : List D_Gate → Bool
  | [] => true
  | e :: l => decide (okAt i e) && okFrom (i + 1) l
theorem okFrom_iff : ∀ (l : List D_Gate) (i : Nat), okFrom i l = true ↔ ∀ (j : Nat) (e : D_Gate), l[j]? = some e → okAt (i + j) e
  | [], i => by simp [okFrom]
  | e :: l, i => by
    rw [okFrom, Bool.and_eq_true, decide_eq_true_iff, okFrom_iff l (i + 1)]
    constructor
    · rintro ⟨h1, h2⟩ j e' he
      cases j with
      | zero => simp at he; subst he; exact h1
      | succ j => have := h2 j e' (by simpa using he); rwa [show i + 1 + j = i + (j + 1) by omega] at this
    · intro h
      refine ⟨h 0 e (by simp), fun j e' he => ?_⟩
      have := h (j + 1) e' (by simpa using he)
      rwa [show i + (j + 1) = i + 1 + j by omega] at this
theorem valid_iff : okFrom 0 g = true ↔ Valid g := by
  rw [okFrom_iff]
  unfold Valid okAt
  simp only [Nat.zero_add]
theorem check_loop2 (k : Nat) (hg : g.length ≤ 1048576) : ∀ (d i : Nat), g.length - i = d → ∀ j, d < j → l33_58 k j g g.length i = if okFrom i (g.drop i) then some (.inl ((), ())) else some (.inr ((1, ()), ())) := by
  intro d
  induction d with
  | zero =>
    intro i hi j hj
    obtain ⟨j, rfl, _⟩ := succ_of (n := 0) (by omega : 0 + 1 ≤ j)
    show b33_58 k (l33_58 k j) g g.length i = _
    unfold b33_58
    rw [decide_eq_false (by omega : ¬ (i : Int) < g.length), List.drop_eq_nil_of_le (by omega)]
    rfl
  | succ d ih =>
    intro i hi j hj
    obtain ⟨j, rfl, hj2⟩ := succ_of (by omega : d + 1 + 1 ≤ j)
    show b33_58 k (l33_58 k j) g g.length i = _
    have hlt : i < g.length := by omega
    have hx : g[i]? = some g[i] := List.getElem?_eq_getElem hlt
    have hw : w64 ((i : Int) + 1) = ((i + 1 : Nat) : Int) := by rw [w_id (by omega) (by omega)]; omega
    have hrec := ih (i + 1) (by omega) j hj2
    have hwrap : ∀ (o : Option R33_58), (o.bind fun y3 => match y3 with | .inl y3_0 => some (.inl ((), ())) | .inr y3_1 => some (.inr ((y3_1.1.1, ()), ()))) = o := by
      intro o; cases o with
      | none => rfl
      | some y => cases y <;> rfl
    unfold b33_58
    rw [decide_eq_true (by omega : (i : Int) < g.length)]
    have hf : f88 k () = some ((inp, ()), ()) := rfl
    simp only [cond_true, ix_nat hx, hf, Option.bind_some]
    rw [w_id (n := 2 * (i : Int)) (by omega) (by omega), w_id (n := 2 * (i : Int) + 1) (by omega) (by omega), hw, hrec, beq_inp, List.drop_eq_getElem_cons hlt, okFrom]
    generalize g[i] = e
    by_cases hq : e = inp
    · have hok : okAt i e := .inl hq
      rw [decide_eq_true hq, decide_eq_true hok, Bool.true_and]
      exact hwrap _
    · rw [decide_eq_false hq]
      simp only [Bool.not_false, cond_true, Bool.cond_decide]
      by_cases c1 : e.1 < 0
      · rw [if_pos c1, decide_eq_false (by rintro (h | h); exact hq h; omega)]; rfl
      rw [if_neg c1]
      by_cases c2 : e.2.1 < 0
      · rw [if_pos c2, decide_eq_false (by rintro (h | h); exact hq h; omega)]; rfl
      rw [if_neg c2]
      by_cases c3 : e.1 > 2 * (i : Int) + 1
      · rw [if_pos c3, decide_eq_false (by rintro (h | h); exact hq h; omega)]; rfl
      rw [if_neg c3]
      by_cases c4 : e.2.1 > 2 * (i : Int) + 1
      · rw [if_pos c4, decide_eq_false (by rintro (h | h); exact hq h; omega)]; rfl
      rw [if_neg c4, decide_eq_true (show okAt i e from .inr (by omega)), Bool.true_and]
      exact hwrap _
theorem check33b (k : Nat) (hg : g.length ≤ 1048576) (hk : g.length < k) : f33 k g = if okFrom 0 g then some ((0, ()), ()) else some ((1, ()), ()) := by
  unfold f33
  have := check_loop2 k hg g.length 0 (by omega) k hk
  rw [show ((0 : Nat) : Int) = 0 from rfl, List.drop_zero] at this
  rw [decide_eq_false (by omega : ¬ (g.length : Int) > 1048576), cond_false, this]
  cases okFrom 0 g <;> rfl
theorem may_loop (k : Nat) (hg : g.length ≤ 1048576) : ∀ (d i : Nat), g.length - i = d → ∀ j, d < j → l32_26 k j g i = if okFrom i (g.drop i) then some (.inl ((), ())) else some (.inr ((false, ()), ())) := by
  intro d
  induction d with
  | zero =>
    intro i hi j hj
    obtain ⟨j, rfl, _⟩ := succ_of (n := 0) (by omega : 0 + 1 ≤ j)
    show b32_26 k (l32_26 k j) g i = _
    unfold b32_26
    rw [decide_eq_false (by omega : ¬ (i : Int) < g.length), List.drop_eq_nil_of_le (by omega)]
    rfl
  | succ d ih =>
    intro i hi j hj
    obtain ⟨j, rfl, hj2⟩ := succ_of (by omega : d + 1 + 1 ≤ j)
    show b32_26 k (l32_26 k j) g i = _
    have hlt : i < g.length := by omega
    have hx : g[i]? = some g[i] := List.getElem?_eq_getElem hlt
    have hw : w64 ((i : Int) + 1) = ((i + 1 : Nat) : Int) := by rw [w_id (by omega) (by omega)]; omega
    have hrec := ih (i + 1) (by omega) j hj2
    have hwrap : ∀ (o : Option R32_26), (o.bind fun y3 => match y3 with | .inl y3_0 => some (.inl ((), ())) | .inr y3_1 => some (.inr ((y3_1.1.1, ()), ()))) = o := by
      intro o; cases o with
      | none => rfl
      | some y => cases y <;> rfl
    have hpart : ∀ b : Bool, l32_1682 k g i b = some ((!b && (decide (g[i].1 < 0) || (decide (g[i].2.1 < 0) || (decide (g[i].1 > 2 * (i : Int) + 1) || decide (g[i].2.1 > 2 * (i : Int) + 1)))), ()), ()) := by
      intro b
      unfold l32_1682
      cases b with
      | true => rfl
      | false =>
        simp only [Bool.not_false, cond_true, ix_nat hx]
        rw [w_id (n := 2 * (i : Int)) (by omega) (by omega), w_id (n := 2 * (i : Int) + 1) (by omega) (by omega)]
        generalize g[i] = e
        cases decide (e.1 < 0) <;> cases decide (e.2.1 < 0) <;> cases decide (e.1 > 2 * (i : Int) + 1) <;> rfl
    unfold b32_26
    rw [decide_eq_true (by omega : (i : Int) < g.length)]
    simp only [cond_true, ix_nat hx, hpart, Option.bind_some, beq_int]
    rw [hw, hrec, List.drop_eq_getElem_cons hlt, okFrom]
    have hinp : g[i] = inp ↔ (g[i].1 = -1 ∧ g[i].2.1 = -1) := by
      generalize g[i] = e
      obtain ⟨a, b, u⟩ := e
      constructor
      · intro h; cases h; exact ⟨rfl, rfl⟩
      · rintro ⟨h1, h2⟩; dsimp only at h1 h2; rw [h1, h2]; rfl
    have hokd : decide (okAt i g[i]) = (decide (g[i].1 = -1 ∧ g[i].2.1 = -1) || !(decide (g[i].1 < 0) || (decide (g[i].2.1 < 0) || (decide (g[i].1 > 2 * (i : Int) + 1) || decide (g[i].2.1 > 2 * (i : Int) + 1))))) := by
      unfold okAt
      rw [Bool.eq_iff_iff]
      simp only [decide_eq_true_eq, Bool.or_eq_true, Bool.not_eq_true', Bool.or_eq_false_iff, decide_eq_false_iff_not, hinp]
      omega
    rw [hokd]
    generalize g[i] = e
    by_cases h1 : e.1 = -1
    · by_cases h2 : e.2.1 = -1
      · rw [decide_eq_true h1, decide_eq_true h2, decide_eq_true (show e.1 = -1 ∧ e.2.1 = -1 from ⟨h1, h2⟩)]
        simp only [cond_true, Bool.not_true, Bool.false_and, cond_false, Bool.true_or, Bool.true_and]
        exact hwrap _
      · rw [decide_eq_true h1, decide_eq_false h2, decide_eq_false (show ¬ (e.1 = -1 ∧ e.2.1 = -1) from fun h => h2 h.2), decide_eq_true (show e.1 < 0 by omega)]
        rfl
    · rw [decide_eq_false h1, decide_eq_false (show ¬ (e.1 = -1 ∧ e.2.1 = -1) from fun h => h1 h.1)]
      simp only [cond_false, Bool.not_false, Bool.true_and, Bool.false_or]
      cases (decide (e.1 < 0) || (decide (e.2.1 < 0) || (decide (e.1 > 2 * (i : Int) + 1) || decide (e.2.1 > 2 * (i : Int) + 1)))) with
      | true => rfl
      | false => exact hwrap _
theorem may32 (k : Nat) (hg : g.length ≤ 1048576) (hk : g.length < k) : f32 k g = some ((okFrom 0 g, ()), ()) := by
  unfold f32
  have := may_loop k hg g.length 0 (by omega) k hk
  rw [show ((0 : Nat) : Int) = 0 from rfl, List.drop_zero] at this
  rw [this]
  cases okFrom 0 g with
  | true => simp only [if_true, Option.bind_some, decide_eq_true (show (g.length : Int) ≤ 1048576 by omega)]
  | false => rfl
/-! ### Load -/
theorem fnd_take_succ {i : Nat} {e0 : D_Gate} (hi : g[i]? = some e0) (e : D_Gate) : fnd (g.take (i + 1)) e = match fnd (g.take i) e with | some q => some q | none => if e = e0 then some i else none := by
  have hlt := getElem?_lt hi
  have hlen : (g.take i).length = i := by rw [List.length_take]; omega
  have : g.take (i + 1) = g.take i ++ [e0] := by
    rw [List.take_add_one, hi]; rfl
  rw [this]
  unfold fnd
  rw [List.findIdx?_append]
  cases hf : (g.take i).findIdx? fun x => decide (x = e) with
  | some q => rfl
  | none =>
    by_cases he : e = e0
    · subst he; simp [hlen]
    · rw [if_neg he]; simp [Ne.symm he]
theorem load_loop (k : Nat) (hv : Valid g) (hg : g.length ≤ 1048576) : ∀ (d i : Nat) (m : Mp), g.length - i = d → MapOk (g.take i) m → ∃ m', MapOk g m' ∧ ∀ j, d < j → l30_250 k j g g.length i g m = some ((), ((g, (), ()), m', ())) := by
  intro d
  induction d with
  | zero =>
    intro i m hi hm
    rw [List.take_of_length_le (by omega)] at hm
    refine ⟨m, hm, fun j hj => ?_⟩
    obtain ⟨j, rfl, _⟩ := succ_of (n := 0) (by omega : 0 + 1 ≤ j)
    show b30_250 k (l30_250 k j) g g.length i g m = _
    unfold b30_250
    rw [decide_eq_false (by omega : ¬ (i : Int) < g.length)]
    rfl
  | succ d ih =>
    intro i m hi hm
    have hlt : i < g.length := by omega
    have hx : g[i]? = some g[i] := List.getElem?_eq_getElem hlt
    have hw : w64 ((i : Int) + 1) = ((i + 1 : Nat) : Int) := by rw [w_id (by omega) (by omega)]; omega
    have hw2 : w64 (2 * ((i + 1 : Nat) : Int)) = 2 * (i : Int) + 2 := by rw [w_id (by omega) (by omega)]; omega
    have hts := fnd_take_succ hx
    have hf : f88 k () = some ((inp, ()), ()) := rfl
    by_cases hq : g[i] = inp
    · have hm2 : MapOk (g.take (i + 1)) m := by
        intro e he
        rw [hts, hm e he]
        cases fnd (g.take i) e with
        | some q => rfl
        | none =>
          dsimp only
          rw [if_neg (by intro h; rw [h, hq] at he; exact absurd he (by decide))]
      obtain ⟨m', h1, h2⟩ := ih (i + 1) m (by omega) hm2
      refine ⟨m', h1, fun j hj => ?_⟩
      obtain ⟨j, rfl, hj2⟩ := succ_of (by omega : d + 1 + 1 ≤ j)
      show b30_250 k (l30_250 k j) g g.length i g m = _
      unfold b30_250
      rw [decide_eq_true (by omega : (i : Int) < g.length)]
      simp only [cond_true, ix_nat hx, hf, Option.bind_some]
      rw [beq_inp, decide_eq_true hq, hw, h2 j hj2]
      rfl
    · have hpos : 0 ≤ g[i].1 := by
        rcases hv i _ hx with h | h
        · exact absurd h hq
        · exact h.1
      have hmi := hm g[i] hpos
      cases hfi : fnd (g.take i) g[i] with
      | some q =>
        rw [hfi] at hmi
        have hm2 : MapOk (g.take (i + 1)) m := by
          intro e he
          rw [hts, hm e he]
          cases hfe : fnd (g.take i) e with
          | some q => rfl
          | none =>
            dsimp only
            rw [if_neg (by intro h; rw [h, hfi] at hfe; cases hfe)]
        obtain ⟨m', h1, h2⟩ := ih (i + 1) m (by omega) hm2
        refine ⟨m', h1, fun j hj => ?_⟩
        obtain ⟨j, rfl, hj2⟩ := succ_of (by omega : d + 1 + 1 ≤ j)
        show b30_250 k (l30_250 k j) g g.length i g m = _
        unfold b30_250
        rw [decide_eq_true (by omega : (i : Int) < g.length)]
        simp only [cond_true, ix_nat hx, hf, Option.bind_some]
        rw [beq_inp, decide_eq_false hq, hmi, hw, h2 j hj2]
        rfl
      | none =>
        rw [hfi] at hmi
        have hm2 : MapOk (g.take (i + 1)) (mput T_Gate g[i] (2 * (i : Int) + 2) m) := by
          intro e he
          have hmm := mget_mput (kt := T_Gate) rfl (k := g[i]) (k' := e) (x := (2 * (i : Int) + 2)) m
          rw [hts]
          by_cases h : e = g[i]
          · rw [h, hfi]
            dsimp only
            rw [if_pos rfl]
            have := hmm.1 h
            rw [h] at this
            exact this
          · refine (hmm.2 h).trans ?_
            rw [hm e he]
            cases fnd (g.take i) e with
            | some q => rfl
            | none => dsimp only; rw [if_neg h]
        obtain ⟨m', h1, h2⟩ := ih (i + 1) _ (by omega) hm2
        refine ⟨m', h1, fun j hj => ?_⟩
        obtain ⟨j, rfl, hj2⟩ := succ_of (by omega : d + 1 + 1 ≤ j)
        show b30_250 k (l30_250 k j) g g.length i g m = _
        unfold b30_250
        rw [decide_eq_true (by omega : (i : Int) < g.length)]
        simp only [cond_true, ix_nat hx, hf, Option.bind_some]
        rw [beq_inp, decide_eq_false hq, hmi, hw, hw2, h2 j hj2]
        rfl
theorem load30 (hv : Valid g) (hg : g.length ≤ 1048576) : ∃ m, MapOk g m ∧ ∀ k, g.length < k → f30 k g = some (.inr (((), 0, ()), ((g, (), ()), m, ()))) := by
  have key : ∀ k, ∃ m', MapOk g m' ∧ ∀ j, g.length < j → l30_250 k j g g.length ((0 : Nat) : Int) g [] = some ((), ((g, (), ()), m', ())) := fun k => load_loop k hv hg g.length 0 [] (by omega) (fun e _ => rfl)
  obtain ⟨m, h1, h2⟩ := key 0
  -- the loop calls nothing that takes fuel: the map is the same for any
  have same : ∀ k j (t : List D_Gate) (a b : Int) (o : List D_Gate) (mm : Mp), l30_250 k j t a b o mm = l30_250 0 j t a b o mm := by
    intro k j
    induction j with
    | zero => intro t a b o mm; rfl
    | succ j ih =>
      intro t a b o mm
      show b30_250 k (l30_250 k j) t a b o mm = b30_250 0 (l30_250 0 j) t a b o mm
      have e : l30_250 k j = l30_250 0 j := by funext t a b o mm; exact ih t a b o mm
      rw [e]; rfl
  refine ⟨m, h1, fun k hk => ?_⟩
  unfold f30
  rw [check33 k hv hg hk]
  have hf : f38 k () = some (((), ()), (([], (), ()), [], ())) := rfl
  have hc : f87 k g = some ((g, ()), ()) := by
    unfold f87 f87v3
    rw [gd_dec (by unfold room; omega)]
    rfl
  simp only [Option.bind_some, bne_self_eq_false, cond_false, hf, hc]
  have := h2 k hk
  rw [show ((0 : Nat) : Int) = 0 from rfl] at this
  rw [same, this]
  rfl
/-! ### True, by definition -/
end
end Aig
end Go.Proofs.Ytgljnnokifggkaa.M
