/-
Graphs of "and" (the program's side alone): what is made, what each literal is by inputs.
-/
import Derived.Test.YtepfhidiahleiaaMO
import Derived.Test.YtepfhidiahleiaaPl
import Derived.Test.YtepfhidiahleiaaVm40
set_option linter.unusedVariables false
set_option linter.unusedSimpArgs false
set_option maxRecDepth 100000
namespace Go.Proofs.Ytepfhidiahleiaa.M
open Go Go.Proofs.Ytepfhidiahleiaa.Vm Go.Proofs.Ytepfhidiahleiaa.Pl
namespace Aig
section
abbrev Mp := List (D_Gate × Int)
def nt (l : Int) : Int := if l < 0 then -1 else if l % 2 = 0 then l + 1 else l - 1
def isL (g : List D_Gate) (l : Int) : Bool := decide (0 ≤ l ∧ l ≤ 2 * g.length + 1)
def inp : D_Gate := (-1, -1, ())
/-- The literals that a literal's node is the "and" of. -/
def kid (g : List D_Gate) (l : Int) : Option (Int × Int) := if l < 2 then none else (g[(l / 2 - 1).toNat]?).bind fun e => if e.1 < 0 then none else some (e.1, e.2.1)
/-- No node but those that are well made; and none at all. -/
def ValidO (g : List D_Gate) : Prop := ∀ (i : Nat) (e : D_Gate), g[i]? = some e → e = inp ∨ (0 ≤ e.1 ∧ 0 ≤ e.2.1 ∧ e.1 ≤ 2 * i + 1 ∧ e.2.1 ≤ 2 * i + 1)
def Valid (g : List D_Gate) : Prop := g = [] ∧ ValidO g
def plS (g : List D_Gate) (a b : Int) : Option Int := match kid g b with
  | none => none
  | some (c, d) => if b % 2 = 1 then none else if a = c ∨ a = d then some b else if nt a = c ∨ nt a = d then some 0 else none
def tuS (g : List D_Gate) (a b : Int) : Option (Int ⊕ Int) := match kid g b with
  | none => none
  | some (c, d) => if b % 2 = 0 then none else if nt a = c ∨ nt a = d then some (.inl a) else if a = c then some (.inr (nt d)) else if a = d then some (.inr (nt c)) else none
inductive Stp where
  | ret (r : Int) | again (x y : Int) | new
def stS (g : List D_Gate) (a b : Int) : Stp :=
  if a = 0 ∨ nt a = b then .ret 0 else if a = 1 ∨ a = b then .ret b else
  match plS g a b with
  | some r => .ret r
  | none => match plS g b a with
    | some r => .ret r
    | none => match tuS g a b with
      | some (.inl r) => .ret r
      | some (.inr y) => .again a y
      | none => match tuS g b a with
        | some (.inl r) => .ret r
        | some (.inr y) => .again b y
        | none => .new
/-- Where a node stands. -/
def fnd (g : List D_Gate) (e : D_Gate) : Option Nat := g.findIdx? (fun x => decide (x = e))
def andS : Nat → List D_Gate → Int → Int → List D_Gate × Int
  | 0, g, _, _ => (g, -1)
  | n + 1, g, a, b => if isL g a && isL g b then
      (match stS g (min a b) (max a b) with
      | .ret r => (g, r)
      | .again x y => andS n g x y
      | .new => match fnd g (min a b, max a b, ()) with
        | some i => (g, 2 * i + 2)
        | none => if 1048576 ≤ g.length then (g, -1) else (g ++ [(min a b, max a b, ())], 2 * g.length + 2))
    else (g, -1)
/-! ### small facts -/
theorem isL_iff {g : List D_Gate} {l : Int} : isL g l = true ↔ 0 ≤ l ∧ l ≤ 2 * g.length + 1 := by unfold isL; exact decide_eq_true_iff
theorem nt_pos {l : Int} (h : 0 ≤ l) : nt l = if l % 2 = 0 then l + 1 else l - 1 := by unfold nt; rw [if_neg (by omega)]
theorem nt_nt {l : Int} (h : 0 ≤ l) : nt (nt l) = l := by
  have e := nt_pos h
  have h2 : 0 ≤ nt l := by rw [e]; split <;> omega
  rw [nt_pos h2, e]; split <;> split <;> omega
theorem nt_lt {l : Int} {i : Nat} (h : 0 ≤ l) (h' : l ≤ 2 * i + 1) : 0 ≤ nt l ∧ nt l ≤ 2 * i + 1 := by
  rw [nt_pos h]; split <;> omega
theorem nt_ne {l : Int} (h : 0 ≤ l) : nt l ≠ l := by rw [nt_pos h]; split <;> omega
theorem xor1 {l : Int} (h : 0 ≤ l) (h' : l ≤ 2097153) : ibits .xor .i64 l 1 = nt l := by rw [ibits_xor1 h (by omega), nt_pos h]
theorem kid_some {g : List D_Gate} {l c d : Int} (h : kid g l = some (c, d)) : 2 ≤ l ∧ ∃ i : Nat, l / 2 - 1 = i ∧ g[i]? = some (c, d, ()) ∧ 0 ≤ c := by
  unfold kid at h
  split at h
  · cases h
  · rename_i hl
    obtain ⟨e, h1, h2⟩ := Option.bind_eq_some_iff.1 h
    split at h2
    · cases h2
    · rename_i he
      simp only [Option.some.injEq, Prod.mk.injEq] at h2
      refine ⟨by omega, (l / 2 - 1).toNat, by omega, ?_, by omega⟩
      rw [h1]; obtain ⟨e1, e2, e3⟩ := e; simp at h2; rw [h2.1, h2.2]
theorem getElem?_lt {A : Type} {l : List A} {i : Nat} {x : A} (h : l[i]? = some x) : i < l.length := Vm.getElem?_lt h
theorem kid_valid {g : List D_Gate} (hv : Valid g) {l c d : Int} (h : kid g l = some (c, d)) : ∃ i : Nat, (l = 2 * i + 2 ∨ l = 2 * i + 3) ∧ g[i]? = some (c, d, ()) ∧ 0 ≤ c ∧ c ≤ 2 * i + 1 ∧ 0 ≤ d ∧ d ≤ 2 * i + 1 := by
  obtain ⟨h1, i, h2, h3, h4⟩ := kid_some h
  rcases hv.2 i _ h3 with he | he
  · have : c = -1 := congrArg (fun x : D_Gate => x.1) he
    omega
  · exact ⟨i, by omega, h3, h4, he.2.2.1, he.2.1, he.2.2.2⟩
theorem tuS_lt {g : List D_Gate} (hv : Valid g) {a b y : Int} (h : tuS g a b = some (.inr y)) : 0 ≤ y ∧ y < b - 1 := by
  unfold tuS at h
  cases hk : kid g b with
  | none => rw [hk] at h; cases h
  | some p =>
    obtain ⟨c, d⟩ := p
    rw [hk] at h
    obtain ⟨i, h1, h2, h3, h4, h5, h6⟩ := kid_valid hv hk
    dsimp only at h
    split at h
    · cases h
    · split at h
      · cases h
      · have := nt_lt h3 h4
        have := nt_lt h5 h6
        split at h
        · simp only [Option.some.injEq, Sum.inr.injEq] at h; omega
        · split at h
          · simp only [Option.some.injEq, Sum.inr.injEq] at h; omega
          · cases h
theorem stS_again {g : List D_Gate} (hv : Valid g) {a b x y : Int} (h : stS g a b = .again x y) : (x = a ∨ x = b) ∧ 0 ≤ y ∧ x + y < a + b ∧ (y < a ∨ y < b) := by
  unfold stS at h
  split at h
  · cases h
  · split at h
    · cases h
    · split at h
      · cases h
      · split at h
        · cases h
        · split at h
          · cases h
          · rename_i hy
            simp only [Stp.again.injEq] at h
            obtain ⟨rfl, rfl⟩ := h
            have := tuS_lt hv hy
            exact ⟨.inl rfl, by omega, by omega, .inr (by omega)⟩
          · split at h
            · cases h
            · rename_i hy
              simp only [Stp.again.injEq] at h
              obtain ⟨rfl, rfl⟩ := h
              have := tuS_lt hv hy
              exact ⟨.inr rfl, by omega, by omega, .inl (by omega)⟩
            · cases h
/-! ### the program's steps -/
/-- The map tells where the nodes stand. -/
def MapOk (g : List D_Gate) (m : Mp) : Prop := ∀ e : D_Gate, 0 ≤ e.1 → mget T_Gate e m = (fnd g e).map fun i => (2 * i + 2 : Int)
theorem w_id {n : Int} (h : -9223372036854775808 ≤ n) (h' : n ≤ 9223372036854775807) : w64 n = n := w64_id h h'
variable {g : List D_Gate} {m : Mp}
theorem is24 (k : Nat) (hg : g.length ≤ 1048576) (l : Int) : f100 k l g m = some ((isL g l, ()), ()) := by
  unfold f100
  rw [w_id (n := 2 * (g.length : Int)) (by omega) (by omega), w_id (by omega) (by omega)]
  by_cases h : 0 ≤ l
  · rw [decide_eq_true (show l ≥ 0 from h), cond_true]
    have : isL g l = decide (l ≤ 2 * (g.length : Int) + 1) := by
      unfold isL; simp [h]
    rw [this]
  · rw [decide_eq_false (show ¬ l ≥ 0 from h), cond_false]
    have : isL g l = false := by unfold isL; simp [h]
    rw [this]
theorem beq_inp (e : D_Gate) : beqD T_Gate e inp = decide (e = inp) := by
  have := beqD_iff T_Gate rfl e inp
  by_cases h : e = inp
  · rw [decide_eq_true h]; exact this.2 h
  · rw [decide_eq_false h]
    cases hb : beqD T_Gate e inp with
    | true => exact absurd (this.1 hb) h
    | false => rfl
theorem half {l : Int} (h : 2 ≤ l) (h' : l ≤ 2097153) : w64 (w64 (Int.tdiv l 2) - 1) = l / 2 - 1 := by
  rw [tdiv_pos (by omega), w_id (n := l / 2) (by omega) (by omega), w_id (by omega) (by omega)]
/-- The kids, as the program tells them. -/
theorem kids111 (k : Nat) (hv : Valid g) (hg : g.length ≤ 1048576) {l : Int} (hl : isL g l = true) :
    (∀ c d, kid g l = some (c, d) → f109 k l g m = some ((c, d, true, ()), ())) ∧ (kid g l = none → ∃ c d, f109 k l g m = some ((c, d, false, ()), ())) := by
  have hl := isL_iff.1 hl
  unfold f109
  by_cases h : l < 2
  · rw [decide_eq_true h, cond_true]
    refine ⟨fun c d hk => ?_, fun _ => ⟨0, 0, rfl⟩⟩
    have := (kid_some hk).1; omega
  · rw [decide_eq_false h, cond_false, half (by omega) (by omega)]
    have hlt : (l / 2 - 1).toNat < g.length := by omega
    have hx : g[(l / 2 - 1).toNat]? = some g[(l / 2 - 1).toNat] := List.getElem?_eq_getElem hlt
    rw [ix_get (by omega) hx]
    have hf : f110 k () = some ((inp, ()), ()) := rfl
    rw [hf]
    simp only [Option.bind_some, beq_inp]
    generalize hgl : g[(l / 2 - 1).toNat] = e at hx
    have hkid : kid g l = if e.1 < 0 then none else some (e.1, e.2.1) := by unfold kid; rw [if_neg h, hx]; rfl
    rcases hv.2 _ _ hx with he | he
    · subst he
      refine ⟨fun c d hk => ?_, fun _ => ⟨_, _, rfl⟩⟩
      rw [hkid, if_pos (by decide)] at hk; cases hk
    · have hne : e ≠ inp := by intro e1; rw [e1] at he; exact absurd he.1 (by decide)
      rw [hkid, if_neg (by omega)]
      refine ⟨fun c d hk => ?_, fun hk => by cases hk⟩
      simp only [Option.some.injEq, Prod.mk.injEq] at hk
      rw [decide_eq_false hne, hk.1, hk.2]; rfl
theorem beq_int (a b : Int) : (a == b) = decide (a = b) := by
  by_cases h : a = b
  · rw [decide_eq_true h, h]; simp
  · rw [decide_eq_false h]; simp [h]
theorem mod2 {b : Int} (h : 0 ≤ b) : Int.tmod b 2 = b % 2 := tmod_pos h
theorem plain84 (k : Nat) (hv : Valid g) (hg : g.length ≤ 1048576) {a b : Int} (ha : isL g a = true) (hb : isL g b = true) :
    (∀ r, plS g a b = some r → f101 k a b g m = some ((r, true, ()), ())) ∧ (plS g a b = none → f101 k a b g m = some ((0, false, ()), ())) := by
  have ha' := isL_iff.1 ha
  have hb' := isL_iff.1 hb
  have hk := kids111 (m := m) k hv hg hb
  unfold f101 plS
  cases hkid : kid g b with
  | none =>
    obtain ⟨c, d, e⟩ := hk.2 hkid
    rw [e]; exact ⟨fun r h => (by cases h), fun _ => rfl⟩
  | some p =>
    obtain ⟨c, d⟩ := p
    rw [hk.1 c d hkid]
    simp only [Option.bind_some, mod2 hb'.1, beq_int, xor1 ha'.1 (show a ≤ 2097153 by omega), Bool.not_true, cond_false, Bool.cond_decide]
    by_cases h1 : b % 2 = 1
    · simp only [if_pos h1]; exact ⟨fun r h => (by cases h), fun _ => trivial⟩
    · simp only [if_neg h1]
      by_cases h2 : a = c
      · simp only [if_pos h2, if_pos (show a = c ∨ a = d from .inl h2)]; exact ⟨fun r h => (by cases h; rfl), fun h => by cases h⟩
      · by_cases h3 : a = d
        · simp only [if_neg h2, if_pos h3, if_pos (show a = c ∨ a = d from .inr h3)]; exact ⟨fun r h => (by cases h; rfl), fun h => by cases h⟩
        · simp only [if_neg h2, if_neg h3, if_neg (show ¬ (a = c ∨ a = d) by simp [h2, h3])]
          by_cases h4 : nt a = c
          · simp only [if_pos h4, if_pos (show nt a = c ∨ nt a = d from .inl h4)]; exact ⟨fun r h => (by cases h; rfl), fun h => by cases h⟩
          · by_cases h5 : nt a = d
            · simp only [if_neg h4, if_pos h5, if_pos (show nt a = c ∨ nt a = d from .inr h5)]; exact ⟨fun r h => (by cases h; rfl), fun h => by cases h⟩
            · simp only [if_neg h4, if_neg h5, if_neg (show ¬ (nt a = c ∨ nt a = d) by simp [h4, h5])]; exact ⟨fun r h => (by cases h), fun _ => trivial⟩
/-- What 'turned' tells; 'again' where it makes another "and". -/
theorem turned85 (k : Nat) (hv : Valid g) (hg : g.length ≤ 1048576) {a b : Int} (ha : isL g a = true) (hb : isL g b = true) :
    (tuS g a b = none → f102 (k + 1) a b g m = some ((0, false, ()), ((g, (), ()), m, ()))) ∧ (∀ r, tuS g a b = some (.inl r) → f102 (k + 1) a b g m = some ((r, true, ()), ((g, (), ()), m, ()))) ∧
    (∀ y, tuS g a b = some (.inr y) → ∀ r g' m', f72 k a y g m = some ((r, ()), ((g', (), ()), m', ())) → f102 (k + 1) a b g m = some ((r, true, ()), ((g', (), ()), m', ()))) := by
  have ha' := isL_iff.1 ha
  have hb' := isL_iff.1 hb
  have hk := kids111 (m := m) k hv hg hb
  rw [f102_succ]
  unfold b102 tuS
  cases hkid : kid g b with
  | none =>
    obtain ⟨c, d, e⟩ := hk.2 hkid
    rw [e]; exact ⟨fun _ => rfl, fun r h => (by cases h), fun y h => by cases h⟩
  | some p =>
    obtain ⟨c, d⟩ := p
    obtain ⟨i, hi, hgi, hc0, hc1, hd0, hd1⟩ := kid_valid hv hkid
    have hil := getElem?_lt hgi
    rw [hk.1 c d hkid]
    simp only [Option.bind_some, mod2 hb'.1, beq_int, xor1 ha'.1 (show a ≤ 2097153 by omega), xor1 hc0 (show c ≤ 2097153 by omega), xor1 hd0 (show d ≤ 2097153 by omega), Bool.not_true, cond_false, Bool.cond_decide]
    by_cases h1 : b % 2 = 0
    · simp only [if_pos h1]; exact ⟨fun _ => trivial, fun r h => (by cases h), fun y h => by cases h⟩
    · simp only [if_neg h1]
      by_cases h4 : nt a = c
      · simp only [if_pos h4, if_pos (show nt a = c ∨ nt a = d from .inl h4)]; exact ⟨fun h => (by cases h), fun r h => (by cases h; rfl), fun y h => by cases h⟩
      · by_cases h5 : nt a = d
        · simp only [if_neg h4, if_pos h5, if_pos (show nt a = c ∨ nt a = d from .inr h5)]; exact ⟨fun h => (by cases h), fun r h => (by cases h; rfl), fun y h => by cases h⟩
        · simp only [if_neg h4, if_neg h5, if_neg (show ¬ (nt a = c ∨ nt a = d) by simp [h4, h5])]
          by_cases h2 : a = c
          · simp only [if_pos h2]
            exact ⟨fun h => (by cases h), fun r h => (by cases h), fun y h r g' m' hf => by cases h; rw [hf]; rfl⟩
          · by_cases h3 : a = d
            · simp only [if_neg h2, if_pos h3]
              exact ⟨fun h => (by cases h), fun r h => (by cases h), fun y h r g' m' hf => by cases h; rw [hf]; rfl⟩
            · simp only [if_neg h2, if_neg h3]; exact ⟨fun _ => trivial, fun r h => (by cases h), fun y h => by cases h⟩
/-! ### "and" -/
theorem minmax_min (a b : Int) : minmax false a b = min a b := by unfold minmax; simp only [Bool.false_eq_true, if_false]; split <;> omega
theorem minmax_max (a b : Int) : minmax true a b = max a b := by unfold minmax; simp only [if_true]; split <;> omega
theorem add86 (k : Nat) (hg : g.length ≤ 1048576) (e : D_Gate) : f103 k e g m = if 1048576 ≤ g.length then some (((-1 : Int), ()), ((g, (), ()), m, ())) else some (((2 * g.length + 2 : Int), ()), ((g ++ [e], (), ()), m, ())) := by
  unfold f103
  rw [Bool.cond_decide]
  by_cases h : 1048576 ≤ g.length
  · rw [if_pos (show (g.length : Int) ≥ 1048576 by omega), if_pos h]
  · rw [if_neg (show ¬ (g.length : Int) ≥ 1048576 by omega), if_neg h, gd_dec (by unfold room; omega)]
    have e1 : (((g ++ ([e] : List D_Gate)).length : Nat) : Int) = g.length + 1 := by simp
    rw [e1, w_id (by omega) (by omega)]
    have e2 : (2 * ((g.length : Int) + 1)) = 2 * g.length + 2 := by omega
    rw [e2]
theorem fnd_append {e e' : D_Gate} (h : fnd g e = none) : fnd (g ++ [e]) e' = if e' = e then some g.length else fnd g e' := by
  unfold fnd at h ⊢
  rw [List.findIdx?_append]
  by_cases he : e' = e
  · subst he
    rw [if_pos rfl, h]
    simp
  · rw [if_neg he]
    cases hf : g.findIdx? fun x => decide (x = e') with
    | some i => simp
    | none => simp [Ne.symm he]
theorem map_add {e : D_Gate} (hm : MapOk g m) (h : fnd g e = none) : MapOk (g ++ [e]) (mput T_Gate e (2 * g.length + 2) m) := by
  intro e' h'
  have h1 := mget_mput (kt := T_Gate) rfl (k := e) (k' := e') (x := (2 * g.length + 2 : Int)) m
  rw [fnd_append h]
  by_cases he : e' = e
  · rw [if_pos he]; exact h1.1 he
  · rw [if_neg he]; exact (h1.2 he).trans (hm e' h')
theorem fnd_inp {e : D_Gate} (h : 0 ≤ e.1) : fnd (g ++ [inp]) e = fnd g e := by
  unfold fnd
  rw [List.findIdx?_append]
  have hne : ¬ inp = e := by intro he; rw [← he] at h; exact absurd h (by decide)
  cases hf : g.findIdx? fun x => decide (x = e) with
  | some i => simp
  | none => simp [hne]
theorem map_inp (hm : MapOk g m) : MapOk (g ++ [inp]) m := by
  intro e h; rw [fnd_inp h]; exact hm e h
theorem isL_mm {a b : Int} (ha : isL g a = true) (hb : isL g b = true) : isL g (min a b) = true ∧ isL g (max a b) = true := by
  have h1 := isL_iff.1 ha
  have h2 := isL_iff.1 hb
  exact ⟨isL_iff.2 (by omega), isL_iff.2 (by omega)⟩
theorem and19 : ∀ (n : Nat) (g : List D_Gate) (m : Mp) (a b : Int), Valid g → MapOk g m → g.length ≤ 1048576 → (isL g a = true → isL g b = true → (a + b).toNat < n) → 0 < n →
    ∃ m', MapOk (andS n g a b).1 m' ∧ ∀ k, 2 * n ≤ k → f72 k a b g m = some (((andS n g a b).2, ()), (((andS n g a b).1, (), ()), m', ())) := by
  intro n
  induction n with
  | zero => intro g m a b _ _ _ _ h; omega
  | succ n ih =>
    intro g m a b hv hm hg hn _
    have two : ∀ k, 2 * (n + 1) ≤ k → ∃ j, k = j + 2 ∧ 2 * n ≤ j := fun k hk => ⟨k - 2, by omega, by omega⟩
    cases ha : isL g a with
    | false =>
      refine ⟨m, by simpa [andS, ha] using hm, fun k hk => ?_⟩
      obtain ⟨j, rfl, _⟩ := two k hk
      rw [f72_succ]; unfold b72
      rw [is24 _ hg, ha]
      simp [andS, ha]
    | true =>
      cases hb : isL g b with
      | false =>
        refine ⟨m, by simpa [andS, ha, hb] using hm, fun k hk => ?_⟩
        obtain ⟨j, rfl, _⟩ := two k hk
        rw [f72_succ]; unfold b72
        rw [is24 _ hg, is24 _ hg, ha, hb]
        simp [andS, ha, hb]
      | true =>
        have hn := hn ha hb
        obtain ⟨ha', hb'⟩ := isL_mm ha hb
        have hsum : min a b + max a b = a + b := by omega
        have hle : min a b ≤ max a b := by omega
        have spec : andS (n + 1) g a b = (match stS g (min a b) (max a b) with
          | .ret r => (g, r)
          | .again x y => andS n g x y
          | .new => match fnd g (min a b, max a b, ()) with
            | some i => (g, 2 * i + 2)
            | none => if 1048576 ≤ g.length then (g, -1) else (g ++ [(min a b, max a b, ())], 2 * g.length + 2)) := by
          rw [andS, ha, hb]; rfl
        have prog : ∀ j, f72 (j + 2) a b g m = (cond (decide (min a b = 0)) (some ((0, ()), ((g, (), ()), m, ()))) (cond (decide (nt (min a b) = max a b)) (some ((0, ()), ((g, (), ()), m, ())))
            (cond (decide (min a b = 1)) (some ((max a b, ()), ((g, (), ()), m, ()))) (cond (decide (min a b = max a b)) (some ((max a b, ()), ((g, (), ()), m, ())))
            ((f101 (j + 1) (min a b) (max a b) g m).bind fun y3 =>
              cond y3.1.2.1
                (some ((y3.1.1, ()), ((g, (), ()), m, ())))
                ((f101 (j + 1) (max a b) (min a b) g m).bind fun y4 =>
                cond y4.1.2.1
                  (some ((y4.1.1, ()), ((g, (), ()), m, ())))
                  ((f102 (j + 1) (min a b) (max a b) g m).bind fun y5 =>
                  cond y5.1.2.1
                    (some ((y5.1.1, ()), ((y5.2.1.1, (), ()), y5.2.2.1, ())))
                    ((f102 (j + 1) (max a b) (min a b) y5.2.1.1 y5.2.2.1).bind fun y6 =>
                    cond y6.1.2.1
                      (some ((y6.1.1, ()), ((y6.2.1.1, (), ()), y6.2.2.1, ())))
                      (cond (mget T_Gate ((min a b, max a b, ()) : D_Gate) y6.2.2.1).isSome
                        (some ((((mget T_Gate ((min a b, max a b, ()) : D_Gate) y6.2.2.1).getD 0), ()), ((y6.2.1.1, (), ()), y6.2.2.1, ())))
                        ((f103 (j + 1) ((min a b, max a b, ()) : D_Gate) y6.2.1.1 y6.2.2.1).bind fun y8 =>
                        cond (!decide (y8.1.1 = (-1)))
                          (some ((y8.1.1, ()), ((y8.2.1.1, (), ()), (mput T_Gate ((min a b, max a b, ()) : D_Gate) y8.1.1 y8.2.2.1), ())))
                          (some ((y8.1.1, ()), ((y8.2.1.1, (), ()), y8.2.2.1, ()))))))))))))) := by
          intro j
          rw [f72_succ]; unfold b72
          rw [is24 _ hg, is24 _ hg, ha, hb]
          have hx : ibits .xor .i64 (min a b) 1 = nt (min a b) := xor1 (isL_iff.1 ha').1 (by have := (isL_iff.1 ha').2; omega)
          simp only [Option.bind_some, Bool.not_true, cond_false, minmax_min, minmax_max, beq_int, hx, bne, decide_not]
          rfl
        generalize min a b = a' at ha' hsum hle spec prog
        generalize max a b = b' at hb' hsum hle spec prog
        rw [spec]
        have hpl := fun k => plain84 (m := m) k hv hg ha' hb'
        have hpl2 := fun k => plain84 (m := m) k hv hg hb' ha'
        have htu := fun k => turned85 (m := m) k hv hg ha' hb'
        have htu2 := fun k => turned85 (m := m) k hv hg hb' ha'
        have hret : ∀ r, stS g a' b' = .ret r → (∀ j, f72 (j + 2) a b g m = some ((r, ()), ((g, (), ()), m, ()))) → ∃ m', MapOk (match stS g a' b' with
          | .ret r => (g, r)
          | .again x y => andS n g x y
          | .new => match fnd g (a', b', ()) with
            | some i => (g, 2 * i + 2)
            | none => if 1048576 ≤ g.length then (g, -1) else (g ++ [(a', b', ())], 2 * g.length + 2)).1 m' ∧ ∀ k, 2 * (n + 1) ≤ k → f72 k a b g m = some (((match stS g a' b' with
          | .ret r => (g, r)
          | .again x y => andS n g x y
          | .new => match fnd g (a', b', ()) with
            | some i => (g, 2 * i + 2)
            | none => if 1048576 ≤ g.length then (g, -1) else (g ++ [(a', b', ())], 2 * g.length + 2)).2, ()), (((match stS g a' b' with
          | .ret r => (g, r)
          | .again x y => andS n g x y
          | .new => match fnd g (a', b', ()) with
            | some i => (g, 2 * i + 2)
            | none => if 1048576 ≤ g.length then (g, -1) else (g ++ [(a', b', ())], 2 * g.length + 2)).1, (), ()), m', ())) := by
          intro r hr hf
          rw [hr]
          refine ⟨m, hm, fun k hk => ?_⟩
          obtain ⟨j, rfl, _⟩ := two k hk
          exact hf j
        have hag : ∀ x y, stS g a' b' = .again x y → (∀ j r g' m', f72 j x y g m = some ((r, ()), ((g', (), ()), m', ())) → f72 (j + 2) a b g m = some ((r, ()), ((g', (), ()), m', ()))) → ∃ m', MapOk (match stS g a' b' with
          | .ret r => (g, r)
          | .again x y => andS n g x y
          | .new => match fnd g (a', b', ()) with
            | some i => (g, 2 * i + 2)
            | none => if 1048576 ≤ g.length then (g, -1) else (g ++ [(a', b', ())], 2 * g.length + 2)).1 m' ∧ ∀ k, 2 * (n + 1) ≤ k → f72 k a b g m = some (((match stS g a' b' with
          | .ret r => (g, r)
          | .again x y => andS n g x y
          | .new => match fnd g (a', b', ()) with
            | some i => (g, 2 * i + 2)
            | none => if 1048576 ≤ g.length then (g, -1) else (g ++ [(a', b', ())], 2 * g.length + 2)).2, ()), (((match stS g a' b' with
          | .ret r => (g, r)
          | .again x y => andS n g x y
          | .new => match fnd g (a', b', ()) with
            | some i => (g, 2 * i + 2)
            | none => if 1048576 ≤ g.length then (g, -1) else (g ++ [(a', b', ())], 2 * g.length + 2)).1, (), ()), m', ())) := by
          intro x y hr hf
          obtain ⟨hxx, hy0, hlt, _⟩ := stS_again hv hr
          rw [hr]
          have hx0 : 0 ≤ x := by
            have h1 := (isL_iff.1 ha').1; have h2 := (isL_iff.1 hb').1
            rcases hxx with rfl | rfl <;> assumption
          obtain ⟨m', h1, h2⟩ := ih g m x y hv hm hg (fun _ _ => by omega) (by omega)
          refine ⟨m', h1, fun k hk => ?_⟩
          obtain ⟨j, rfl, hj⟩ := two k hk
          exact hf j _ _ _ (h2 j hj)
        by_cases c1 : a' = 0
        · exact hret 0 (by unfold stS; rw [if_pos (.inl c1)]) fun j => by rw [prog, decide_eq_true c1]; rfl
        by_cases c2 : nt a' = b'
        · exact hret 0 (by unfold stS; rw [if_pos (.inr c2)]) fun j => by rw [prog, decide_eq_false c1, decide_eq_true c2]; rfl
        by_cases c3 : a' = 1
        · exact hret b' (by unfold stS; rw [if_neg (by simp [c1, c2]), if_pos (.inl c3)]) fun j => by rw [prog, decide_eq_false c1, decide_eq_false c2, decide_eq_true c3]; rfl
        by_cases c4 : a' = b'
        · exact hret b' (by unfold stS; rw [if_neg (by simp [c1, c2]), if_pos (.inr c4)]) fun j => by rw [prog, decide_eq_false c1, decide_eq_false c2, decide_eq_false c3, decide_eq_true c4]; rfl
        have hst : stS g a' b' = (match plS g a' b' with
          | some r => .ret r
          | none => match plS g b' a' with
            | some r => .ret r
            | none => match tuS g a' b' with
              | some (.inl r) => .ret r
              | some (.inr y) => .again a' y
              | none => match tuS g b' a' with
                | some (.inl r) => .ret r
                | some (.inr y) => .again b' y
                | none => .new) := by unfold stS; rw [if_neg (by simp [c1, c2]), if_neg (by simp [c3, c4])]
        simp only [decide_eq_false c1, decide_eq_false c2, decide_eq_false c3, decide_eq_false c4, cond_false] at prog
        cases e1 : plS g a' b' with
        | some r => exact hret r (by rw [hst, e1]) fun j => by rw [prog, (hpl (j + 1)).1 r e1]; rfl
        | none =>
        cases e2 : plS g b' a' with
        | some r => exact hret r (by rw [hst, e1, e2]) fun j => by rw [prog, (hpl (j + 1)).2 e1, Option.bind_some, (hpl2 (j + 1)).1 r e2]; rfl
        | none =>
        have prog2 : ∀ j, f72 (j + 2) a b g m = _ := fun j => by
          rw [prog, (hpl (j + 1)).2 e1, Option.bind_some, (hpl2 (j + 1)).2 e2, Option.bind_some]
        simp only [cond_false] at prog2
        cases e3 : tuS g a' b' with
        | some p =>
          cases p with
          | inl r => exact hret r (by rw [hst, e1, e2, e3]) fun j => by rw [prog2, (htu j).2.1 r e3]; rfl
          | inr y => exact hag a' y (by rw [hst, e1, e2, e3]) fun j r g' m' hf => by rw [prog2, (htu j).2.2 y e3 r g' m' hf]; rfl
        | none =>
        cases e4 : tuS g b' a' with
        | some p =>
          cases p with
          | inl r => exact hret r (by rw [hst, e1, e2, e3, e4]) fun j => by rw [prog2, (htu j).1 e3, Option.bind_some, (htu2 j).2.1 r e4]; rfl
          | inr y => exact hag b' y (by rw [hst, e1, e2, e3, e4]) fun j r g' m' hf => by rw [prog2, (htu j).1 e3, Option.bind_some, (htu2 j).2.2 y e4 r g' m' hf]; rfl
        | none =>
        have hnew : stS g a' b' = .new := by rw [hst, e1, e2, e3, e4]
        have prog3 : ∀ j, f72 (j + 2) a b g m = _ := fun j => by
          rw [prog2, (htu j).1 e3, Option.bind_some, (htu2 j).1 e4, Option.bind_some]
        simp only [cond_false] at prog3
        rw [hnew]
        have hmg := hm (a', b', ()) (isL_iff.1 ha').1
        cases hf : fnd g (a', b', ()) with
        | some i =>
          rw [hf] at hmg
          refine ⟨m, hm, fun k hk => ?_⟩
          obtain ⟨j, rfl, _⟩ := two k hk
          rw [prog3, hmg]; rfl
        | none =>
          rw [hf] at hmg
          by_cases hbig : 1048576 ≤ g.length
          · refine ⟨m, by simpa [hbig] using hm, fun k hk => ?_⟩
            obtain ⟨j, rfl, _⟩ := two k hk
            rw [prog3, hmg, add86 _ hg, if_pos hbig]
            simp [hbig]
          · refine ⟨mput T_Gate (a', b', ()) (2 * g.length + 2) m, (by dsimp only; rw [if_neg hbig]; exact map_add hm hf), fun k hk => ?_⟩
            obtain ⟨j, rfl, _⟩ := two k hk
            rw [prog3, hmg, add86 _ hg, if_neg hbig]
            have hne : ¬ (2 * (g.length : Int) + 2 = -1) := by omega
            dsimp only [Option.map_none, Option.isSome_none, cond_false, Option.bind_some]
            rw [decide_eq_false hne, if_neg hbig]
            rfl
end
section
variable {g : List D_Gate} {m : Mp}
theorem nt_i64 {l : Int} (h : -9223372036854775808 ≤ l) (h' : l ≤ 9223372036854775807) : -9223372036854775808 ≤ nt l ∧ nt l ≤ 9223372036854775807 := by
  unfold nt; split
  · omega
  · split <;> omega
theorem not89 (k : Nat) {l : Int} (h' : l ≤ 9223372036854775807) : f104 k l = some ((nt l, ()), ()) := by
  unfold f104
  rw [Bool.cond_decide]
  by_cases h0 : l < 0
  · rw [if_pos h0]; unfold nt; rw [if_pos h0]
  · rw [if_neg h0, ibits_xor1 (by omega) h', nt_pos (by omega)]
end
section
variable {g : List D_Gate} {m : Mp}
/-! ### kids of longer graphs -/
theorem kid_append {h : List D_Gate} {l : Int} (hl : l ≤ 2 * g.length + 1) : kid (g ++ h) l = kid g l := by
  unfold kid
  by_cases h2 : l < 2
  · rw [if_pos h2, if_pos h2]
  · rw [if_neg h2, if_neg h2, List.getElem?_append_left (by omega)]
theorem kid_take {i : Nat} {l : Int} (hi : i ≤ g.length) (hl : l ≤ 2 * i + 1) : kid (g.take i) l = kid g l := by
  have := kid_append (g := g.take i) (h := g.drop i) (l := l) (by rw [List.length_take]; omega)
  rw [List.take_append_drop] at this; exact this.symm
theorem plS_congr {h : List D_Gate} {a b : Int} (e : kid g b = kid h b) : plS g a b = plS h a b := by unfold plS; rw [e]
theorem tuS_congr {h : List D_Gate} {a b : Int} (e : kid g b = kid h b) : tuS g a b = tuS h a b := by unfold tuS; rw [e]
/-! ### what "and" makes -/
/-- A new node of x and y. -/
structure New (g : List D_Gate) (x y : Int) : Prop where
  lx : isL g x = true
  ly : isL g y = true
  lt : x < y
  two : 2 ≤ x
  ne : nt x ≠ y
  p1 : plS g x y = none
  p2 : plS g y x = none
  t1 : tuS g x y = none
  t2 : tuS g y x = none
  fn : fnd g (x, y, ()) = none
  len : g.length < 1048576
theorem stS_ret {a b r : Int} (ha : isL g a = true) (hb : isL g b = true) (h : stS g a b = .ret r) : isL g r = true := by
  have ha' := isL_iff.1 ha
  have hb' := isL_iff.1 hb
  have pl : ∀ a b r, isL g b = true → plS g a b = some r → isL g r = true := by
    intro a b r hb h
    unfold plS at h
    split at h
    · cases h
    · split at h
      · cases h
      · split at h
        · cases h; exact hb
        · split at h
          · cases h; rw [isL_iff]; omega
          · cases h
  have tu : ∀ a b r, isL g a = true → tuS g a b = some (.inl r) → isL g r = true := by
    intro a b r ha h
    unfold tuS at h
    split at h
    · cases h
    · split at h
      · cases h
      · split at h
        · cases h; exact ha
        · split at h
          · cases h
          · split at h <;> cases h
  unfold stS at h
  split at h
  · cases h; rw [isL_iff]; omega
  · split at h
    · cases h; exact hb
    · split at h
      · rename_i e; cases h; exact pl _ _ _ hb e
      · split at h
        · rename_i e; cases h; exact pl _ _ _ ha e
        · split at h
          · rename_i e; cases h; exact tu _ _ _ ha e
          · cases h
          · split at h
            · rename_i e; cases h; exact tu _ _ _ hb e
            · cases h
            · cases h
theorem stS_new {a b : Int} (ha : isL g a = true) (hb : isL g b = true) (hab : a ≤ b) (h : stS g a b = .new) : 2 ≤ a ∧ a < b ∧ nt a ≠ b ∧ plS g a b = none ∧ plS g b a = none ∧ tuS g a b = none ∧ tuS g b a = none := by
  have ha' := isL_iff.1 ha
  unfold stS at h
  split at h
  · cases h
  · rename_i c1
    split at h
    · cases h
    · rename_i c2
      split at h
      · cases h
      · rename_i e1
        split at h
        · cases h
        · rename_i e2
          split at h
          · cases h
          · cases h
          · rename_i e3
            split at h
            · cases h
            · cases h
            · rename_i e4
              have h1 : a ≠ 0 := fun e => c1 (.inl e)
              have h2 : a ≠ 1 := fun e => c2 (.inl e)
              have h3 : a ≠ b := fun e => c2 (.inr e)
              exact ⟨by omega, by omega, fun e => c1 (.inr e), e1, e2, e3, e4⟩
theorem stS_againL {a b x y : Int} (hv : Valid g) (ha : isL g a = true) (hb : isL g b = true) (h : stS g a b = .again x y) : isL g x = true ∧ isL g y = true := by
  have ha' := isL_iff.1 ha
  have hb' := isL_iff.1 hb
  obtain ⟨h1, h2, h3, h4⟩ := stS_again hv h
  refine ⟨by rcases h1 with rfl | rfl <;> assumption, isL_iff.2 (by omega)⟩
/-- What is told of "and" is a literal, or none if there is no room; at most one node is new. -/
theorem andS_spec : ∀ (n : Nat) (a b : Int), Valid g → (isL g a = true → isL g b = true → (a + b).toNat < n) → 0 < n →
    ((andS n g a b).1 = g ∧ (isL g (andS n g a b).2 = true ∨ (andS n g a b).2 = -1 ∧ (isL g a = true → isL g b = true → 1048576 ≤ g.length))) ∨ ∃ x y, New g x y ∧ (andS n g a b).1 = g ++ [(x, y, ())] ∧ (andS n g a b).2 = 2 * g.length + 2 := by
  intro n
  induction n with
  | zero => intro a b _ _ h; omega
  | succ n ih =>
    intro a b hv hn _
    rw [andS]
    cases ha : isL g a with
    | false => exact .inl ⟨rfl, .inr ⟨rfl, fun h => by cases h⟩⟩
    | true =>
      cases hb : isL g b with
      | false => exact .inl ⟨rfl, .inr ⟨rfl, fun _ h => by cases h⟩⟩
      | true =>
        have hn := hn ha hb
        obtain ⟨h1, h2⟩ := isL_mm ha hb
        have hle : min a b ≤ max a b := by omega
        have hsum : min a b + max a b = a + b := by omega
        generalize min a b = a' at h1 hle hsum
        generalize max a b = b' at h2 hle hsum
        simp only [Bool.and_self, if_true]
        cases hst : stS g a' b' with
        | ret r => exact .inl ⟨rfl, .inl (stS_ret h1 h2 hst)⟩
        | again x y =>
          obtain ⟨_, hy0, hlt, _⟩ := stS_again hv hst
          obtain ⟨k1, k2⟩ := stS_againL hv h1 h2 hst
          have hx0 := (isL_iff.1 k1).1
          rcases ih x y hv (fun _ _ => by omega) (by omega) with ⟨e1, e2⟩ | e
          · refine .inl ⟨e1, ?_⟩
            rcases e2 with e2 | ⟨e2, e3⟩
            · exact .inl e2
            · exact .inr ⟨e2, fun _ _ => e3 k1 k2⟩
          · exact .inr e
        | new =>
          obtain ⟨c1, c2, c3, c4, c5, c6, c7⟩ := stS_new h1 h2 hle hst
          dsimp only
          cases hf : fnd g (a', b', ()) with
          | some i =>
            refine .inl ⟨rfl, .inl ?_⟩
            have hi : i < g.length := by
              have := (List.findIdx?_eq_some_iff_getElem.1 hf).1; exact this
            rw [isL_iff]; dsimp only; omega
          | none =>
            dsimp only
            by_cases hbig : 1048576 ≤ g.length
            · rw [if_pos hbig]; exact .inl ⟨rfl, .inr ⟨rfl, fun _ _ => hbig⟩⟩
            · rw [if_neg hbig]; exact .inr ⟨a', b', ⟨h1, h2, c2, c1, c3, c4, c5, c6, c7, hf, by omega⟩, rfl, rfl⟩
theorem valid_new {x y : Int} (hv : Valid g) (h : New g x y) : Valid (g ++ [(x, y, ())]) := by
  exfalso
  have h1 := isL_iff.1 h.lx
  have h2 := h.two
  have h3 := hv.1
  subst h3
  simp at h1
  omega
/-! ### with enough fuel -/
def And (g : List D_Gate) (a b : Int) : List D_Gate × Int := andS (4 * g.length + 4) g a b
def Or (g : List D_Gate) (a b : Int) : List D_Gate × Int := ((And g (nt a) (nt b)).1, nt (And g (nt a) (nt b)).2)
def Xor (g : List D_Gate) (a b : Int) : List D_Gate × Int := Or (And (And g a (nt b)).1 (nt a) b).1 (And g a (nt b)).2 (And (And g a (nt b)).1 (nt a) b).2
def Ite (g : List D_Gate) (c a b : Int) : List D_Gate × Int := Or (And (And g c a).1 (nt c) b).1 (And g c a).2 (And (And g c a).1 (nt c) b).2
theorem enough {a b : Int} (ha : isL g a = true) (hb : isL g b = true) : (a + b).toNat < 4 * g.length + 4 := by
  have := isL_iff.1 ha; have := isL_iff.1 hb; omega
theorem And_spec (a b : Int) (hv : Valid g) : ((And g a b).1 = g ∧ (isL g (And g a b).2 = true ∨ (And g a b).2 = -1 ∧ (isL g a = true → isL g b = true → 1048576 ≤ g.length))) ∨ ∃ x y, New g x y ∧ (And g a b).1 = g ++ [(x, y, ())] ∧ (And g a b).2 = 2 * g.length + 2 :=
  andS_spec _ a b hv enough (by omega)
/-- An order that is kept by all that is made. -/
structure Keeps (J : List D_Gate → Prop) : Prop where
  new : ∀ g x y, J g → New g x y → J (g ++ [(x, y, ())])
  valid : ∀ g, J g → Valid g
theorem keeps_valid : Keeps Valid := ⟨fun g x y h hn => valid_new h hn, fun g h => h⟩
variable {J : List D_Gate → Prop} (hJ : Keeps J)
include hJ
theorem And_keeps (a b : Int) (h : J g) : J (And g a b).1 ∧ g.length ≤ (And g a b).1.length ∧ (And g a b).1.length ≤ g.length + 1 ∧ -1 ≤ (And g a b).2 ∧ (And g a b).2 ≤ 2 * (And g a b).1.length + 1 := by
  rcases And_spec a b (hJ.valid g h) with ⟨e, h2⟩ | ⟨x, y, hn, e1, e2⟩
  · rw [e]
    refine ⟨h, Nat.le_refl _, by omega, ?_⟩
    rcases h2 with h2 | ⟨h2, _⟩
    · have := isL_iff.1 h2; omega
    · omega
  · rw [e1, e2]
    refine ⟨hJ.new g x y h hn, by simp, by simp, by omega, by simp; omega⟩
omit hJ in
theorem nt_small {r : Int} {n : Nat} (h : -1 ≤ r ∧ r ≤ 2 * n + 1) : -1 ≤ nt r ∧ nt r ≤ 2 * n + 1 := by
  unfold nt; split
  · omega
  · split <;> omega
theorem Or_keeps (a b : Int) (h : J g) : J (Or g a b).1 ∧ g.length ≤ (Or g a b).1.length ∧ (Or g a b).1.length ≤ g.length + 1 ∧ -1 ≤ (Or g a b).2 ∧ (Or g a b).2 ≤ 2 * (Or g a b).1.length + 1 := by
  obtain ⟨h1, h2, h3, h4, h5⟩ := And_keeps hJ (nt a) (nt b) h
  obtain ⟨h6, h7⟩ := nt_small ⟨h4, h5⟩
  exact ⟨h1, h2, h3, h6, h7⟩
theorem Xor_keeps (a b : Int) (h : J g) : J (Xor g a b).1 ∧ g.length ≤ (Xor g a b).1.length ∧ (Xor g a b).1.length ≤ g.length + 3 ∧ -1 ≤ (Xor g a b).2 ∧ (Xor g a b).2 ≤ 2 * (Xor g a b).1.length + 1 := by
  obtain ⟨h1, h2, h3, _⟩ := And_keeps hJ a (nt b) h
  obtain ⟨k1, k2, k3, _⟩ := And_keeps hJ (nt a) b h1
  obtain ⟨j1, j2, j3, j4, j5⟩ := Or_keeps hJ (And g a (nt b)).2 (And (And g a (nt b)).1 (nt a) b).2 k1
  exact ⟨j1, by unfold Xor; omega, by unfold Xor; omega, j4, j5⟩
theorem Ite_keeps (c a b : Int) (h : J g) : J (Ite g c a b).1 ∧ g.length ≤ (Ite g c a b).1.length ∧ (Ite g c a b).1.length ≤ g.length + 3 ∧ -1 ≤ (Ite g c a b).2 ∧ (Ite g c a b).2 ≤ 2 * (Ite g c a b).1.length + 1 := by
  obtain ⟨h1, h2, h3, _⟩ := And_keeps hJ c a h
  obtain ⟨k1, k2, k3, _⟩ := And_keeps hJ (nt c) b h1
  obtain ⟨j1, j2, j3, j4, j5⟩ := Or_keeps hJ (And g c a).2 (And (And g c a).1 (nt c) b).2 k1
  exact ⟨j1, by unfold Ite; omega, by unfold Ite; omega, j4, j5⟩
omit hJ
/-! ### the program, the reference -/
def I64 (a : Int) : Prop := -9223372036854775808 ≤ a ∧ a ≤ 9223372036854775807
theorem I64.nt {a : Int} (h : I64 a) : I64 (nt a) := nt_i64 h.1 h.2
theorem i64_small {r : Int} {n : Nat} (h : -1 ≤ r ∧ r ≤ 2 * n + 1) (hn : n ≤ 1048577) : I64 r := ⟨by omega, by omega⟩
/-- Both the program and the reference make that, and the map stays right. -/
abbrev ProgE (f : Nat → Option R72) (p : List D_Gate × Int) : Prop := ∃ m', MapOk p.1 m' ∧ E fun k => f k = some ((p.2, ()), ((p.1, (), ()), m', ()))
theorem and19E (hv : Valid g) (hm : MapOk g m) (hg : g.length ≤ 1048576) (a b : Int) : ProgE (fun k => f72 k a b g m) (And g a b) := by
  obtain ⟨m', h1, h2⟩ := and19 (4 * g.length + 4) g m a b hv hm hg enough (by omega)
  exact ⟨m', h1, ⟨_, h2⟩⟩
theorem or26E (hv : Valid g) (hm : MapOk g m) (hg : g.length ≤ 1048576) {a b : Int} (ha : I64 a) (hb : I64 b) : ProgE (fun k => f96 k a b g m) (Or g a b) := by
  obtain ⟨m', h1, h2⟩ := and19E hv hm hg (nt a) (nt b)
  obtain ⟨_, _, _, h3⟩ := And_keeps keeps_valid (nt a) (nt b) hv
  refine ⟨m', h1, h2.mono fun k hk => ?_⟩
  dsimp only at *
  unfold f96
  rw [not89 k ha.2, not89 k hb.2]
  simp only [Option.bind_some]
  rw [hk, Option.bind_some, not89 k (l := (And g (nt a) (nt b)).2) (by omega)]
  rfl
theorem xor27E (hv : Valid g) (hm : MapOk g m) (hg : g.length ≤ 1048574) {a b : Int} (ha : I64 a) (hb : I64 b) : ProgE (fun k => f95 k a b g m) (Xor g a b) := by
  obtain ⟨m1, h1, h2⟩ := and19E hv hm (by omega) a (nt b)
  obtain ⟨k1, k2, k3, k4⟩ := And_keeps keeps_valid a (nt b) hv
  obtain ⟨m2, h3, h4⟩ := and19E k1 h1 (by omega) (nt a) b
  obtain ⟨j1, j2, j3, j4⟩ := And_keeps keeps_valid (nt a) b k1
  obtain ⟨m3, h5, h6⟩ := or26E j1 h3 (by omega) (i64_small k4 (by omega)) (i64_small j4 (by omega))
  refine ⟨m3, h5, h2.mono3 h4 h6 fun k e1 e2 e3 => ?_⟩
  dsimp only at *
  unfold f95
  rw [not89 k hb.2]
  simp only [Option.bind_some]
  rw [e1]
  simp only [Option.bind_some]
  rw [not89 k ha.2]
  simp only [Option.bind_some]
  rw [e2]
  simp only [Option.bind_some]
  rw [e3]
  rfl
theorem ite28E (hv : Valid g) (hm : MapOk g m) (hg : g.length ≤ 1048574) {c a b : Int} (hc : I64 c) (ha : I64 a) (hb : I64 b) : ProgE (fun k => f76 k c a b g m) (Ite g c a b) := by
  obtain ⟨m1, h1, h2⟩ := and19E hv hm (by omega) c a
  obtain ⟨k1, k2, k3, k4⟩ := And_keeps keeps_valid c a hv
  obtain ⟨m2, h3, h4⟩ := and19E k1 h1 (by omega) (nt c) b
  obtain ⟨j1, j2, j3, j4⟩ := And_keeps keeps_valid (nt c) b k1
  obtain ⟨m3, h5, h6⟩ := or26E j1 h3 (by omega) (i64_small k4 (by omega)) (i64_small j4 (by omega))
  refine ⟨m3, h5, h2.mono3 h4 h6 fun k e1 e2 e3 => ?_⟩
  dsimp only at *
  unfold f76
  rw [e1]
  simp only [Option.bind_some]
  rw [not89 k hc.2]
  simp only [Option.bind_some]
  rw [e2]
  simp only [Option.bind_some]
  rw [e3]
  rfl
/-! ### acts -/
end
section
variable {g : List D_Gate} {m : Mp} {ins : List Bool}
def value (v : List Bool) (l : Int) : Bool := if l < 0 ∨ (v.length : Int) < l / 2 then false else if l < 2 then decide (l = 1) else !(v.getD (l / 2 - 1).toNat false == decide (l % 2 = 1))
/-- Of each node whether it is true. -/
def evL (ins : List Bool) : List D_Gate → List Bool → Nat → List Bool
  | [], v, _ => v
  | e :: r, v, q => if e = inp then evL ins r (v ++ [ins.getD q false]) (q + 1) else evL ins r (v ++ [value v e.1 && value v e.2.1]) q
def cnt (g : List D_Gate) : Nat := (g.filter fun e => decide (e = inp)).length
def Ev (g : List D_Gate) (ins : List Bool) : List Bool := evL ins g [] 0
def val (ins : List Bool) (g : List D_Gate) (l : Int) : Bool := value (Ev g ins) l
theorem evL_append : ∀ (r s : List D_Gate) (v : List Bool) (q : Nat), evL ins (r ++ s) v q = evL ins s (evL ins r v q) (q + cnt r)
  | [], s, v, q => by simp [evL, cnt]
  | e :: r, s, v, q => by
    by_cases h : e = inp
    · have hc : cnt (e :: r) = cnt r + 1 := by simp [cnt, h]
      rw [List.cons_append, evL, if_pos h, evL_append r s, evL, if_pos h, hc]
      congr 1; omega
    · have hc : cnt (e :: r) = cnt r := by simp [cnt, h]
      rw [List.cons_append, evL, if_neg h, evL_append r s, evL, if_neg h, hc]
theorem evL_len : ∀ (r : List D_Gate) (v : List Bool) (q : Nat), (evL ins r v q).length = v.length + r.length
  | [], v, q => by simp [evL]
  | e :: r, v, q => by
    rw [evL]; split
    · rw [evL_len r]; simp; omega
    · rw [evL_len r]; simp; omega
theorem evL_pre : ∀ (r : List D_Gate) (v : List Bool) (q : Nat), ∃ t, evL ins r v q = v ++ t
  | [], v, q => ⟨[], by simp [evL]⟩
  | e :: r, v, q => by
    rw [evL]; split
    · obtain ⟨t, h⟩ := evL_pre r (v ++ [ins.getD q false]) (q + 1); exact ⟨_, by rw [h, List.append_assoc]⟩
    · obtain ⟨t, h⟩ := evL_pre r (v ++ [value v e.1 && value v e.2.1]) q; exact ⟨_, by rw [h, List.append_assoc]⟩
theorem Ev_len : (Ev g ins).length = g.length := by unfold Ev; rw [evL_len]; simp
theorem value_pre {v t : List Bool} {l : Int} (h : l ≤ 2 * v.length + 1) : value (v ++ t) l = value v l := by
  unfold value
  by_cases h0 : l < 0
  · rw [if_pos (.inl h0), if_pos (.inl h0)]
  · have c1 : ¬ (l < 0 ∨ (((v ++ t).length : Nat) : Int) < l / 2) := by rw [List.length_append]; omega
    have c2 : ¬ (l < 0 ∨ (v.length : Int) < l / 2) := by omega
    rw [if_neg c1, if_neg c2]
    by_cases h2 : l < 2
    · rw [if_pos h2, if_pos h2]
    · rw [if_neg h2, if_neg h2, List.getD_eq_getElem?_getD, List.getD_eq_getElem?_getD, List.getElem?_append_left (by omega)]
theorem val_ext (h : List D_Gate) {l : Int} (hl : l ≤ 2 * g.length + 1) : val ins (g ++ h) l = val ins g l := by
  unfold val Ev
  rw [evL_append]
  obtain ⟨t, ht⟩ := evL_pre (ins := ins) h (evL ins g [] 0) (0 + cnt g)
  rw [ht, value_pre]
  have := Ev_len (g := g) (ins := ins)
  unfold Ev at this; omega
theorem Ev_snoc (e : D_Gate) : Ev (g ++ [e]) ins = Ev g ins ++ [if e = inp then ins.getD (cnt g) false else val ins g e.1 && val ins g e.2.1] := by
  unfold Ev val
  rw [evL_append, evL, evL, evL]
  split <;> simp [Ev]
theorem value_lit {v : List Bool} {l : Int} (h : 2 ≤ l) (hl : l ≤ 2 * v.length + 1) : value v l = !(v.getD (l / 2 - 1).toNat false == decide (l % 2 = 1)) := by
  unfold value; rw [if_neg (by omega), if_neg (by omega)]
theorem val_at {i : Nat} {e : D_Gate} (hi : g[i]? = some e) : (Ev g ins).getD i false = if e = inp then ins.getD (cnt (g.take i)) false else val ins (g.take i) e.1 && val ins (g.take i) e.2.1 := by
  have hlt := getElem?_lt hi
  have hge : g[i] = e := by rw [List.getElem?_eq_getElem hlt] at hi; simpa using hi
  have hg : g = (g.take i ++ [e]) ++ g.drop (i + 1) := by
    rw [List.append_assoc, ← hge]
    have := List.take_append_drop i g
    rw [List.drop_eq_getElem_cons hlt] at this
    simp
  have hlen : (g.take i).length = i := by rw [List.length_take]; omega
  have : Ev g ins = Ev ((g.take i ++ [e]) ++ g.drop (i + 1)) ins := by rw [← hg]
  rw [this]
  unfold Ev
  rw [evL_append]
  obtain ⟨t, ht⟩ := evL_pre (ins := ins) (g.drop (i + 1)) (evL ins (g.take i ++ [e]) [] 0) (0 + cnt (g.take i ++ [e]))
  rw [ht]
  have h2 := Ev_snoc (g := g.take i) (ins := ins) e
  have h3 := Ev_len (g := g.take i) (ins := ins)
  unfold Ev at h2 h3
  rw [h2, List.getD_eq_getElem?_getD, List.getElem?_append_left (by simp; omega), List.getElem?_append_right (by omega), h3, hlen]
  simp
theorem val_nt {l : Int} (h : 0 ≤ l) (hl : l ≤ 2 * g.length + 1) : val ins g (nt l) = !val ins g l := by
  have hE := Ev_len (g := g) (ins := ins)
  rw [nt_pos h]
  unfold val
  by_cases h2 : l < 2
  · unfold value
    rw [hE]
    rcases (by omega : l = 0 ∨ l = 1) with rfl | rfl
    · have e1 : ¬ ((0 : Int) + 1 < 0 ∨ (g.length : Int) < (0 + 1) / 2) := by omega
      have e2 : ¬ ((0 : Int) < 0 ∨ (g.length : Int) < 0 / 2) := by omega
      simp [e1, e2]
    · have e2 : ¬ ((1 : Int) < 0 ∨ (g.length : Int) < 1 / 2) := by omega
      have e1 : ¬ ((1 : Int) - 1 < 0 ∨ (g.length : Int) < (1 - 1) / 2) := by omega
      simp [e1, e2]
  · split
    · rename_i hm
      rw [value_lit (by omega) (by omega), value_lit (by omega) (by omega)]
      have e1 : (l + 1) / 2 - 1 = l / 2 - 1 := by omega
      have e2 : (l + 1) % 2 = 1 := by omega
      have e3 : ¬ l % 2 = 1 := by omega
      rw [e1]
      simp [e2, e3]
    · rename_i hm
      rw [value_lit (by omega) (by omega), value_lit (by omega) (by omega)]
      have e1 : (l - 1) / 2 - 1 = l / 2 - 1 := by omega
      have e2 : ¬ (l - 1) % 2 = 1 := by omega
      have e3 : l % 2 = 1 := by omega
      rw [e1]
      simp [e2, e3]
theorem val_kid (hv : Valid g) {l c d : Int} (hl : isL g l = true) (h : kid g l = some (c, d)) : val ins g l = !((val ins g c && val ins g d) == decide (l % 2 = 1)) := by
  obtain ⟨i, hi, hgi, hc0, hc1, hd0, hd1⟩ := kid_valid hv h
  have hlt := getElem?_lt hgi
  have hl' := isL_iff.1 hl
  have hE := Ev_len (g := g) (ins := ins)
  have hlen : (g.take i).length = i := by rw [List.length_take]; omega
  unfold val
  rw [value_lit (by omega) (by omega), show (l / 2 - 1).toNat = i by omega, val_at hgi]
  have hne : ¬ ((c, d, ()) : D_Gate) = inp := by
    intro e; have : c = -1 := congrArg (fun x : D_Gate => x.1) e; omega
  rw [if_neg hne]
  dsimp only
  have e1 := val_ext (g := g.take i) (ins := ins) (g.drop i) (l := c) (by omega)
  have e2 := val_ext (g := g.take i) (ins := ins) (g.drop i) (l := d) (by omega)
  rw [List.take_append_drop] at e1 e2
  rw [← e1, ← e2]
  rfl
theorem val_zero : val ins g 0 = false := by
  unfold val value; rw [if_neg (by omega)]; rfl
theorem val_one : val ins g 1 = true := by
  unfold val value; rw [if_neg (by omega)]; rfl
/-! ### what "and" means -/
theorem plS_val (hv : Valid g) {a b r : Int} (ha : isL g a = true) (hb : isL g b = true) (h : plS g a b = some r) : val ins g r = (val ins g a && val ins g b) := by
  have ha' := isL_iff.1 ha
  unfold plS at h
  cases hk : kid g b with
  | none => rw [hk] at h; cases h
  | some p =>
    obtain ⟨c, d⟩ := p
    rw [hk] at h
    have hb2 := val_kid (ins := ins) hv hb hk
    dsimp only at h
    split at h
    · cases h
    · rename_i hodd
      rw [decide_eq_false hodd] at hb2
      split at h
      · rename_i he
        cases h
        rcases he with rfl | rfl
        · rw [hb2]; cases val ins g a <;> cases val ins g d <;> rfl
        · rw [hb2]; cases val ins g a <;> cases val ins g c <;> rfl
      · split at h
        · rename_i he
          cases h
          have hn := val_nt (ins := ins) ha'.1 ha'.2
          rw [val_zero, hb2]
          rcases he with he | he
          · rw [he] at hn; rw [hn]; cases val ins g a <;> cases val ins g d <;> rfl
          · rw [he] at hn; rw [hn]; cases val ins g a <;> cases val ins g c <;> rfl
        · cases h
theorem tuS_val (hv : Valid g) {a b : Int} {p : Int ⊕ Int} (ha : isL g a = true) (hb : isL g b = true) (h : tuS g a b = some p) :
    (∀ r, p = .inl r → val ins g r = (val ins g a && val ins g b)) ∧ (∀ y, p = .inr y → (val ins g a && val ins g y) = (val ins g a && val ins g b)) := by
  have ha' := isL_iff.1 ha
  unfold tuS at h
  cases hk : kid g b with
  | none => rw [hk] at h; cases h
  | some q =>
    obtain ⟨c, d⟩ := q
    obtain ⟨i, hi, hgi, hc0, hc1, hd0, hd1⟩ := kid_valid hv hk
    have hil := getElem?_lt hgi
    rw [hk] at h
    have hb2 := val_kid (ins := ins) hv hb hk
    dsimp only at h
    split at h
    · cases h
    · rename_i hodd
      rw [decide_eq_true (by omega : b % 2 = 1)] at hb2
      split at h
      · rename_i he
        cases h
        refine ⟨fun r hr => ?_, fun y hy => by cases hy⟩
        cases hr
        have hn := val_nt (ins := ins) ha'.1 ha'.2
        rw [hb2]
        rcases he with he | he
        · rw [he] at hn; rw [hn]; cases val ins g a <;> cases val ins g d <;> rfl
        · rw [he] at hn; rw [hn]; cases val ins g a <;> cases val ins g c <;> rfl
      · split at h
        · rename_i he
          cases h
          refine ⟨fun r hr => (by cases hr), fun y hy => ?_⟩
          cases hy
          rw [hb2, val_nt hd0 (by omega), ← he]
          cases val ins g a <;> cases val ins g d <;> rfl
        · split at h
          · rename_i he
            cases h
            refine ⟨fun r hr => (by cases hr), fun y hy => ?_⟩
            cases hy
            rw [hb2, val_nt hc0 (by omega), ← he]
            cases val ins g a <;> cases val ins g c <;> rfl
          · cases h
theorem stS_val (hv : Valid g) {a b : Int} (ha : isL g a = true) (hb : isL g b = true) : (∀ r, stS g a b = .ret r → val ins g r = (val ins g a && val ins g b)) ∧ (∀ x y, stS g a b = .again x y → (val ins g x && val ins g y) = (val ins g a && val ins g b)) := by
  have ha' := isL_iff.1 ha
  unfold stS
  split
  · rename_i h
    refine ⟨fun r hr => ?_, fun x y hr => by cases hr⟩
    cases hr
    rw [val_zero]
    rcases h with h | h
    · rw [h, val_zero]; rfl
    · rw [← h, val_nt ha'.1 ha'.2]; cases val ins g a <;> rfl
  · split
    · rename_i h
      refine ⟨fun r hr => ?_, fun x y hr => by cases hr⟩
      cases hr
      rcases h with h | h
      · rw [h, val_one]; rfl
      · rw [h]; cases val ins g b <;> rfl
    · split
      · rename_i e
        refine ⟨fun r hr => ?_, fun x y hr => by cases hr⟩
        cases hr; exact plS_val hv ha hb e
      · split
        · rename_i e
          refine ⟨fun r hr => ?_, fun x y hr => by cases hr⟩
          cases hr; rw [plS_val hv hb ha e, Bool.and_comm]
        · split
          · rename_i e
            refine ⟨fun r hr => ?_, fun x y hr => by cases hr⟩
            cases hr; exact (tuS_val hv ha hb e).1 _ rfl
          · rename_i e
            refine ⟨fun r hr => (by cases hr), fun x y hr => ?_⟩
            cases hr; exact (tuS_val hv ha hb e).2 _ rfl
          · split
            · rename_i e
              refine ⟨fun r hr => ?_, fun x y hr => by cases hr⟩
              cases hr; rw [(tuS_val hv hb ha e).1 _ rfl, Bool.and_comm]
            · rename_i e
              refine ⟨fun r hr => (by cases hr), fun x y hr => ?_⟩
              cases hr; rw [(tuS_val hv hb ha e).2 _ rfl, Bool.and_comm]
            · exact ⟨fun r hr => (by cases hr), fun x y hr => by cases hr⟩
/-- The graph is longer, and what is told means that. -/
structure Told (ins : List Bool) (g : List D_Gate) (p : List D_Gate × Int) (w : Bool) : Prop where
  ext : ∃ h, p.1 = g ++ h
  ok : Valid p.1
  lit : isL p.1 p.2 = true
  val : val ins p.1 p.2 = w
theorem mm_val {a b : Int} : (val ins g (min a b) && val ins g (max a b)) = (val ins g a && val ins g b) := by
  rcases Int.le_total a b with h | h
  · rw [Int.min_eq_left h, Int.max_eq_right h]
  · rw [Int.min_eq_right h, Int.max_eq_left h, Bool.and_comm]
theorem andS_told : ∀ (n : Nat) (a b : Int), Valid g → isL g a = true → isL g b = true → (a + b).toNat < n → g.length < 1048576 → Told ins g (andS n g a b) (val ins g a && val ins g b) := by
  intro n
  induction n with
  | zero => intro a b _ _ _ h; omega
  | succ n ih =>
    intro a b hv ha hb hn hg
    obtain ⟨h1, h2⟩ := isL_mm ha hb
    have hle : min a b ≤ max a b := by omega
    have hsum : min a b + max a b = a + b := by omega
    rw [andS, ha, hb, ← mm_val]
    generalize min a b = a' at h1 hle hsum
    generalize max a b = b' at h2 hle hsum
    simp only [Bool.and_self, if_true]
    have hval := stS_val (ins := ins) hv h1 h2
    cases hst : stS g a' b' with
    | ret r => exact ⟨⟨[], by simp⟩, hv, stS_ret h1 h2 hst, hval.1 r hst⟩
    | again x y =>
      obtain ⟨_, hy0, hlt, _⟩ := stS_again hv hst
      obtain ⟨k1, k2⟩ := stS_againL hv h1 h2 hst
      have hx0 := (isL_iff.1 k1).1
      have := ih x y hv k1 k2 (by omega) hg
      rw [hval.2 x y hst] at this
      exact this
    | new =>
      obtain ⟨c1, c2, c3, c4, c5, c6, c7⟩ := stS_new h1 h2 hle hst
      dsimp only
      cases hf : fnd g (a', b', ()) with
      | some i =>
        obtain ⟨hi, hp, _⟩ := List.findIdx?_eq_some_iff_getElem.1 hf
        have hgi : g[i]? = some (a', b', ()) := by rw [List.getElem?_eq_getElem hi]; simpa using hp
        have hl : isL g (2 * (i : Int) + 2) = true := isL_iff.2 (by omega)
        have hk : kid g (2 * (i : Int) + 2) = some (a', b') := by
          unfold kid
          rw [if_neg (by omega), show ((2 * (i : Int) + 2) / 2 - 1).toNat = i by omega, hgi]
          simp only [Option.bind_some]
          rw [if_neg (by omega)]
        refine ⟨⟨[], by simp⟩, hv, hl, ?_⟩
        dsimp only
        rw [val_kid hv hl hk, decide_eq_false (by omega)]
        cases (val ins g a' && val ins g b') <;> rfl
      | none =>
        dsimp only
        rw [if_neg (by omega)]
        have hnew : New g a' b' := ⟨h1, h2, c2, c1, c3, c4, c5, c6, c7, hf, hg⟩
        have hv2 := valid_new hv hnew
        have hl : isL (g ++ [(a', b', ())]) (2 * (g.length : Int) + 2) = true := isL_iff.2 (by simp; omega)
        have hgi : (g ++ [(a', b', ())])[g.length]? = some (a', b', ()) := by simp
        have hk : kid (g ++ [(a', b', ())]) (2 * (g.length : Int) + 2) = some (a', b') := by
          unfold kid
          rw [if_neg (by omega), show ((2 * (g.length : Int) + 2) / 2 - 1).toNat = g.length by omega, hgi]
          simp only [Option.bind_some]
          rw [if_neg (by omega)]
        refine ⟨⟨_, rfl⟩, hv2, hl, ?_⟩
        dsimp only
        have l1 := isL_iff.1 h1
        have l2 := isL_iff.1 h2
        rw [val_kid hv2 hl hk, decide_eq_false (by omega), val_ext _ l1.2, val_ext _ l2.2]
        cases (val ins g a' && val ins g b') <;> rfl
theorem And_told (hv : Valid g) {a b : Int} (ha : isL g a = true) (hb : isL g b = true) (hg : g.length < 1048576) : Told ins g (And g a b) (val ins g a && val ins g b) := andS_told _ a b hv ha hb (enough ha hb) hg
theorem isL_nt {l : Int} (h : isL g l = true) : isL g (nt l) = true := by
  have h' := isL_iff.1 h
  have := nt_lt (i := g.length) h'.1 h'.2
  exact isL_iff.2 this
theorem isL_ext {h : List D_Gate} {l : Int} (hl : isL g l = true) : isL (g ++ h) l = true := by
  have h' := isL_iff.1 hl
  exact isL_iff.2 ⟨h'.1, by simp; omega⟩
theorem Told.keep {p : List D_Gate × Int} {w : Bool} (h : Told ins g p w) {l : Int} (hl : isL g l = true) : isL p.1 l = true ∧ Aig.val ins p.1 l = Aig.val ins g l := by
  obtain ⟨e, he⟩ := h.ext
  rw [he]
  exact ⟨isL_ext hl, val_ext e (isL_iff.1 hl).2⟩
theorem Told.trans {p q : List D_Gate × Int} {w w' : Bool} (h : Told ins g p w) (k : Told ins p.1 q w') : Told ins g q w' := by
  obtain ⟨e, he⟩ := h.ext
  obtain ⟨e', he'⟩ := k.ext
  exact ⟨⟨e ++ e', by rw [he', he, List.append_assoc]⟩, k.ok, k.lit, k.val⟩
theorem vnt {l : Int} (h : isL g l = true) : val ins g (nt l) = !val ins g l := val_nt (isL_iff.1 h).1 (isL_iff.1 h).2
theorem Or_told (hv : Valid g) {a b : Int} (ha : isL g a = true) (hb : isL g b = true) (hg : g.length < 1048576) : Told ins g (Or g a b) (val ins g a || val ins g b) := by
  have h := And_told (ins := ins) hv (isL_nt ha) (isL_nt hb) hg
  refine ⟨h.ext, h.ok, isL_nt h.lit, ?_⟩
  show val ins (And g (nt a) (nt b)).1 (nt (And g (nt a) (nt b)).2) = _
  rw [vnt h.lit, h.val, vnt ha, vnt hb]
  cases val ins g a <;> cases val ins g b <;> rfl
theorem Told.len {p : List D_Gate × Int} {w : Bool} (h : Told ins g p w) : g.length ≤ p.1.length := by
  obtain ⟨e, he⟩ := h.ext
  rw [he]; simp
theorem And_len (hv : Valid g) (a b : Int) : (And g a b).1.length ≤ g.length + 1 := (And_keeps keeps_valid a b hv).2.2.1
theorem Xor_told (hv : Valid g) {a b : Int} (ha : isL g a = true) (hb : isL g b = true) (hg : g.length < 1048574) : Told ins g (Xor g a b) (!(val ins g a == val ins g b)) := by
  have h1 := And_told (ins := ins) hv ha (isL_nt hb) (by omega)
  have l1 := And_len hv a (nt b)
  have a1 := h1.keep (isL_nt ha)
  have b1 := h1.keep hb
  have h2 := And_told (ins := ins) h1.ok a1.1 b1.1 (by omega)
  have l2 := And_len h1.ok (nt a) b
  have p2 := h2.keep h1.lit
  have h3 := Or_told (ins := ins) h2.ok p2.1 h2.lit (by omega)
  have h4 := h1.trans (h2.trans h3)
  refine ⟨h4.ext, h4.ok, h4.lit, ?_⟩
  have e : val ins (Xor g a b).1 (Xor g a b).2 = _ := h3.val
  rw [e, p2.2, h1.val, h2.val, a1.2, b1.2, vnt ha, vnt hb]
  cases val ins g a <;> cases val ins g b <;> rfl
theorem Ite_told (hv : Valid g) {c a b : Int} (hc : isL g c = true) (ha : isL g a = true) (hb : isL g b = true) (hg : g.length < 1048574) : Told ins g (Ite g c a b) (cond (val ins g c) (val ins g a) (val ins g b)) := by
  have h1 := And_told (ins := ins) hv hc ha (by omega)
  have l1 := And_len hv c a
  have a1 := h1.keep (isL_nt hc)
  have b1 := h1.keep hb
  have h2 := And_told (ins := ins) h1.ok a1.1 b1.1 (by omega)
  have l2 := And_len h1.ok (nt c) b
  have p2 := h2.keep h1.lit
  have h3 := Or_told (ins := ins) h2.ok p2.1 h2.lit (by omega)
  have h4 := h1.trans (h2.trans h3)
  refine ⟨h4.ext, h4.ok, h4.lit, ?_⟩
  have e : val ins (Ite g c a b).1 (Ite g c a b).2 = _ := h3.val
  rw [e, p2.2, h1.val, h2.val, a1.2, b1.2, vnt hc]
  cases val ins g a <;> cases val ins g b <;> cases val ins g c <;> rfl
def AllS (g : List D_Gate) : List Int → Int → List D_Gate × Int
  | [], o => (g, o)
  | x :: l, o => AllS (And g o x).1 l (And g o x).2
theorem All_told : ∀ (l : List Int) (g : List D_Gate) (o : Int), Valid g → isL g o = true → (∀ x ∈ l, isL g x = true) → g.length + l.length < 1048576 → Told ins g (AllS g l o) (val ins g o && l.all (val ins g)) := by
  intro l
  induction l with
  | nil => intro g o hv ho _ _; exact ⟨⟨[], by simp [AllS]⟩, hv, ho, by simp [AllS]⟩
  | cons x l ih =>
    intro g o hv ho hl hg
    have hx := hl x (List.mem_cons_self ..)
    have h1 := And_told (ins := ins) hv ho hx (by omega)
    have l1 := And_len hv o x
    have hl2 : ∀ y ∈ l, isL (And g o x).1 y = true := fun y hy => (h1.keep (hl y (List.mem_cons_of_mem _ hy))).1
    have h2 := ih (And g o x).1 (And g o x).2 h1.ok h1.lit hl2 (by simp at hg; omega)
    have h3 := h1.trans h2
    refine ⟨h3.ext, h3.ok, h3.lit, ?_⟩
    have e : val ins (AllS g (x :: l) o).1 (AllS g (x :: l) o).2 = _ := h2.val
    rw [e, h1.val, List.all_cons, Bool.and_assoc]
    congr 2
    have : ∀ y ∈ l, val ins (And g o x).1 y = val ins g y := fun y hy => (h1.keep (hl y (List.mem_cons_of_mem _ hy))).2
    clear ih h2 h3 e hl2 hl hg
    induction l with
    | nil => rfl
    | cons y l ih2 =>
      rw [List.all_cons, List.all_cons, this y (List.mem_cons_self ..), ih2 fun z hz => this z (List.mem_cons_of_mem _ hz)]
end
section
variable {g : List D_Gate} {m : Mp} {ins : List Bool}
theorem value34 (k : Nat) {v : List Bool} {l : Int} (h : I64 l) : f80 k v l = some ((value v l, ()), ()) := by
  unfold f80 value
  rw [Bool.cond_decide]
  by_cases h0 : l < 0
  · rw [if_pos h0, if_pos (.inl h0)]
  · rw [if_neg h0, tdiv_pos (by omega), w_id (n := l / 2) (by have := h.2; omega) (by have := h.2; omega), Bool.cond_decide]
    by_cases h1 : (v.length : Int) < l / 2
    · rw [if_pos (show l / 2 > (v.length : Int) from h1), if_pos (.inr h1)]
    · rw [if_neg (show ¬ l / 2 > (v.length : Int) from h1), if_neg (by simp [h0, h1]), Bool.cond_decide]
      by_cases h2 : l < 2
      · rw [if_pos h2, if_pos h2, beq_int]
      · rw [if_neg h2, if_neg h2, w_id (by have := h.2; omega) (by have := h.2; omega), mod2 (by omega), beq_int]
        have hx : v[(l / 2 - 1).toNat]? = some (v.getD (l / 2 - 1).toNat false) := by
          rw [List.getD_eq_getElem?_getD, List.getElem?_eq_getElem (by omega)]; rfl
        rw [ix_get (by omega) hx]
end
section
variable {g : List D_Gate} {m : Mp}
end
end Aig
end Go.Proofs.Ytepfhidiahleiaa.M
