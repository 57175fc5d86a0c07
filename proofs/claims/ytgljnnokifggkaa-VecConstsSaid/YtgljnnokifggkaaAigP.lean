/-
Graphs of "and": what is made, as a plain function, and that the program and the reference both make it.
-/
import Derived.Test.YtgljnnokifggkaaMA
import Derived.Test.YtgljnnokifggkaaPl
import Derived.Test.YtgljnnokifggkaaVm40
set_option linter.unusedVariables false
set_option linter.unusedSimpArgs false
set_option maxRecDepth 100000
namespace Go.Proofs.Ytgljnnokifggkaa.M
open Go Go.Proofs.Ytgljnnokifggkaa.Vm Go.Proofs.Ytgljnnokifggkaa.Pl
namespace Aig
abbrev Mp := List (D_Gate × Int)
def nt (l : Int) : Int := if l < 0 then -1 else if l % 2 = 0 then l + 1 else l - 1
def isL (g : List D_Gate) (l : Int) : Bool := decide (0 ≤ l ∧ l ≤ 2 * g.length + 1)
def inp : D_Gate := (-1, -1, ())
/-- The literals that a literal's node is the "and" of. -/
def kid (g : List D_Gate) (l : Int) : Option (Int × Int) := if l < 2 then none else (g[(l / 2 - 1).toNat]?).bind fun e => if e.1 < 0 then none else some (e.1, e.2.1)
def Valid (g : List D_Gate) : Prop := ∀ (i : Nat) (e : D_Gate), g[i]? = some e → e = inp ∨ (0 ≤ e.1 ∧ 0 ≤ e.2.1 ∧ e.1 ≤ 2 * i + 1 ∧ e.2.1 ≤ 2 * i + 1)
def plS (g : List D_Gate) (a b : Int) : Option Int := match kid g b with
  | none => none
  | some (c, d) => if b % 2 = 1 then none else if a = c ∨ a = d then some b else if nt a = c ∨ nt a = d then some 0 else none
def tuS (g : List D_Gate) (a b : Int) : Option (Int ⊕ Int) := match kid g b with
  | none => none
  | some (c, d) => if b % 2 = 0 then none else if nt a = c ∨ nt a = d then some (.inl a) else if a = c then some (.inr (nt d)) else if a = d then some (.inr (nt c)) else none
inductive Stp where
  | ret (r : Int) | again (x y : Int) | new
def stS (g : List D_Gate) (a b : Int) : Stp :=
  if a = 0 ∨ nt a = b then .ret 0 else if a = 1 ∨ a = b then .ret b else
  match plS g a b with
  | some r => .ret r
  | none => match plS g b a with
    | some r => .ret r
    | none => match tuS g a b with
      | some (.inl r) => .ret r
      | some (.inr y) => .again a y
      | none => match tuS g b a with
        | some (.inl r) => .ret r
        | some (.inr y) => .again b y
        | none => .new
/-- Where a node stands. -/
def fnd (g : List D_Gate) (e : D_Gate) : Option Nat := g.findIdx? (fun x => decide (x = e))
def andS : Nat → List D_Gate → Int → Int → List D_Gate × Int
  | 0, g, _, _ => (g, -1)
  | n + 1, g, a, b => if isL g a && isL g b then
      (match stS g (min a b) (max a b) with
      | .ret r => (g, r)
      | .again x y => andS n g x y
      | .new => match fnd g (min a b, max a b, ()) with
        | some i => (g, 2 * i + 2)
        | none => if 1048576 ≤ g.length then (g, -1) else (g ++ [(min a b, max a b, ())], 2 * g.length + 2))
    else (g, -1)

/-! ### small facts -/
theorem isL_iff {g : List D_Gate} {l : Int} : isL g l = true ↔ 0 ≤ l ∧ l ≤ 2 * g.length + 1 := by unfold isL; exact decide_eq_true_iff
theorem nt_pos {l : Int} (h : 0 ≤ l) : nt l = if l % 2 = 0 then l + 1 else l - 1 := by unfold nt; rw [if_neg (by omega)]
theorem nt_nt {l : Int} (h : 0 ≤ l) : nt (nt l) = l := by
  have e := nt_pos h
  have h2 : 0 ≤ nt l := by rw [e]; split <;> omega
  rw [nt_pos h2, e]; split <;> split <;> omega
theorem nt_lt {l : Int} {i : Nat} (h : 0 ≤ l) (h' : l ≤ 2 * i + 1) : 0 ≤ nt l ∧ nt l ≤ 2 * i + 1 := by
  rw [nt_pos h]; split <;> omega
theorem nt_ne {l : Int} (h : 0 ≤ l) : nt l ≠ l := by rw [nt_pos h]; split <;> omega
theorem xor1 {l : Int} (h : 0 ≤ l) (h' : l ≤ 2097153) : ibits .xor .i64 l 1 = nt l := by rw [ibits_xor1 h (by omega), nt_pos h]
theorem kid_some {g : List D_Gate} {l c d : Int} (h : kid g l = some (c, d)) : 2 ≤ l ∧ ∃ i : Nat, l / 2 - 1 = i ∧ g[i]? = some (c, d, ()) ∧ 0 ≤ c := by
  unfold kid at h
  split at h
  · cases h
  · rename_i hl
    obtain ⟨e, h1, h2⟩ := Option.bind_eq_some_iff.1 h
    split at h2
    · cases h2
    · rename_i he
      simp only [Option.some.injEq, Prod.mk.injEq] at h2
      refine ⟨by omega, (l / 2 - 1).toNat, by omega, ?_, by omega⟩
      rw [h1]; obtain ⟨e1, e2, e3⟩ := e; simp at h2; rw [h2.1, h2.2]
theorem getElem?_lt {A : Type} {l : List A} {i : Nat} {x : A} (h : l[i]? = some x) : i < l.length := Vm.getElem?_lt h
theorem kid_valid {g : List D_Gate} (hv : Valid g) {l c d : Int} (h : kid g l = some (c, d)) : ∃ i : Nat, (l = 2 * i + 2 ∨ l = 2 * i + 3) ∧ g[i]? = some (c, d, ()) ∧ 0 ≤ c ∧ c ≤ 2 * i + 1 ∧ 0 ≤ d ∧ d ≤ 2 * i + 1 := by
  obtain ⟨h1, i, h2, h3, h4⟩ := kid_some h
  rcases hv i _ h3 with he | he
  · have : c = -1 := congrArg (fun x : D_Gate => x.1) he
    omega
  · exact ⟨i, by omega, h3, h4, he.2.2.1, he.2.1, he.2.2.2⟩
theorem tuS_lt {g : List D_Gate} (hv : Valid g) {a b y : Int} (h : tuS g a b = some (.inr y)) : 0 ≤ y ∧ y < b - 1 := by
  unfold tuS at h
  cases hk : kid g b with
  | none => rw [hk] at h; cases h
  | some p =>
    obtain ⟨c, d⟩ := p
    rw [hk] at h
    obtain ⟨i, h1, h2, h3, h4, h5, h6⟩ := kid_valid hv hk
    dsimp only at h
    split at h
    · cases h
    · split at h
      · cases h
      · have := nt_lt h3 h4
        have := nt_lt h5 h6
        split at h
        · simp only [Option.some.injEq, Sum.inr.injEq] at h; omega
        · split at h
          · simp only [Option.some.injEq, Sum.inr.injEq] at h; omega
          · cases h
theorem stS_again {g : List D_Gate} (hv : Valid g) {a b x y : Int} (h : stS g a b = .again x y) : (x = a ∨ x = b) ∧ 0 ≤ y ∧ x + y < a + b ∧ (y < a ∨ y < b) := by
  unfold stS at h
  split at h
  · cases h
  · split at h
    · cases h
    · split at h
      · cases h
      · split at h
        · cases h
        · split at h
          · cases h
          · rename_i hy
            simp only [Stp.again.injEq] at h
            obtain ⟨rfl, rfl⟩ := h
            have := tuS_lt hv hy
            exact ⟨.inl rfl, by omega, by omega, .inr (by omega)⟩
          · split at h
            · cases h
            · rename_i hy
              simp only [Stp.again.injEq] at h
              obtain ⟨rfl, rfl⟩ := h
              have := tuS_lt hv hy
              exact ⟨.inr rfl, by omega, by omega, .inl (by omega)⟩
            · cases h

/-! ### the program's steps -/
/-- The map tells where the nodes stand. -/
def MapOk (g : List D_Gate) (m : Mp) : Prop := ∀ e : D_Gate, 0 ≤ e.1 → mget T_Gate e m = (fnd g e).map fun i => (2 * i + 2 : Int)
theorem w_id {n : Int} (h : -9223372036854775808 ≤ n) (h' : n ≤ 9223372036854775807) : w64 n = n := w64_id h h'
variable {g : List D_Gate} {m : Mp}
theorem is24 (k : Nat) (hg : g.length ≤ 1048576) (l : Int) : f24 k l g m = some ((isL g l, ()), ()) := by
  unfold f24
  rw [w_id (n := 2 * (g.length : Int)) (by omega) (by omega), w_id (by omega) (by omega)]
  by_cases h : 0 ≤ l
  · rw [decide_eq_true (show l ≥ 0 from h), cond_true]
    have : isL g l = decide (l ≤ 2 * (g.length : Int) + 1) := by
      unfold isL; simp [h]
    rw [this]
  · rw [decide_eq_false (show ¬ l ≥ 0 from h), cond_false]
    have : isL g l = false := by unfold isL; simp [h]
    rw [this]
theorem is67 (k : Nat) (hg : g.length ≤ 1048576) (l : Int) : f67 k g l = some ((isL g l, ()), ()) := is24 (m := []) k hg l
theorem beq_inp (e : D_Gate) : beqD T_Gate e inp = decide (e = inp) := by
  have := beqD_iff T_Gate rfl e inp
  by_cases h : e = inp
  · rw [decide_eq_true h]; exact this.2 h
  · rw [decide_eq_false h]
    cases hb : beqD T_Gate e inp with
    | true => exact absurd (this.1 hb) h
    | false => rfl
theorem half {l : Int} (h : 2 ≤ l) (h' : l ≤ 2097153) : w64 (w64 (Int.tdiv l 2) - 1) = l / 2 - 1 := by
  rw [tdiv_pos (by omega), w_id (n := l / 2) (by omega) (by omega), w_id (by omega) (by omega)]
/-- The kids, as the program tells them. -/
theorem kids111 (k : Nat) (hv : Valid g) (hg : g.length ≤ 1048576) {l : Int} (hl : isL g l = true) :
    (∀ c d, kid g l = some (c, d) → f111 k l g m = some ((c, d, true, ()), ())) ∧ (kid g l = none → ∃ c d, f111 k l g m = some ((c, d, false, ()), ())) := by
  have hl := isL_iff.1 hl
  unfold f111
  by_cases h : l < 2
  · rw [decide_eq_true h, cond_true]
    refine ⟨fun c d hk => ?_, fun _ => ⟨0, 0, rfl⟩⟩
    have := (kid_some hk).1; omega
  · rw [decide_eq_false h, cond_false, half (by omega) (by omega)]
    have hlt : (l / 2 - 1).toNat < g.length := by omega
    have hx : g[(l / 2 - 1).toNat]? = some g[(l / 2 - 1).toNat] := List.getElem?_eq_getElem hlt
    rw [ix_get (by omega) hx]
    have hf : f88 k () = some ((inp, ()), ()) := rfl
    rw [hf]
    simp only [Option.bind_some, beq_inp]
    generalize hgl : g[(l / 2 - 1).toNat] = e at hx
    have hkid : kid g l = if e.1 < 0 then none else some (e.1, e.2.1) := by unfold kid; rw [if_neg h, hx]; rfl
    rcases hv _ _ hx with he | he
    · subst he
      refine ⟨fun c d hk => ?_, fun _ => ⟨_, _, rfl⟩⟩
      rw [hkid, if_pos (by decide)] at hk; cases hk
    · have hne : e ≠ inp := by intro e1; rw [e1] at he; exact absurd he.1 (by decide)
      rw [hkid, if_neg (by omega)]
      refine ⟨fun c d hk => ?_, fun hk => by cases hk⟩
      simp only [Option.some.injEq, Prod.mk.injEq] at hk
      rw [decide_eq_false hne, hk.1, hk.2]; rfl
theorem beq_int (a b : Int) : (a == b) = decide (a = b) := by
  by_cases h : a = b
  · rw [decide_eq_true h, h]; simp
  · rw [decide_eq_false h]; simp [h]
theorem mod2 {b : Int} (h : 0 ≤ b) : Int.tmod b 2 = b % 2 := tmod_pos h
theorem plain84 (k : Nat) (hv : Valid g) (hg : g.length ≤ 1048576) {a b : Int} (ha : isL g a = true) (hb : isL g b = true) :
    (∀ r, plS g a b = some r → f84 k a b g m = some ((r, true, ()), ())) ∧ (plS g a b = none → f84 k a b g m = some ((0, false, ()), ())) := by
  have ha' := isL_iff.1 ha
  have hb' := isL_iff.1 hb
  have hk := kids111 (m := m) k hv hg hb
  unfold f84 plS
  cases hkid : kid g b with
  | none =>
    obtain ⟨c, d, e⟩ := hk.2 hkid
    rw [e]; exact ⟨fun r h => (by cases h), fun _ => rfl⟩
  | some p =>
    obtain ⟨c, d⟩ := p
    rw [hk.1 c d hkid]
    simp only [Option.bind_some, mod2 hb'.1, beq_int, xor1 ha'.1 (show a ≤ 2097153 by omega), Bool.not_true, cond_false, Bool.cond_decide]
    by_cases h1 : b % 2 = 1
    · simp only [if_pos h1]; exact ⟨fun r h => (by cases h), fun _ => trivial⟩
    · simp only [if_neg h1]
      by_cases h2 : a = c
      · simp only [if_pos h2, if_pos (show a = c ∨ a = d from .inl h2)]; exact ⟨fun r h => (by cases h; rfl), fun h => by cases h⟩
      · by_cases h3 : a = d
        · simp only [if_neg h2, if_pos h3, if_pos (show a = c ∨ a = d from .inr h3)]; exact ⟨fun r h => (by cases h; rfl), fun h => by cases h⟩
        · simp only [if_neg h2, if_neg h3, if_neg (show ¬ (a = c ∨ a = d) by simp [h2, h3])]
          by_cases h4 : nt a = c
          · simp only [if_pos h4, if_pos (show nt a = c ∨ nt a = d from .inl h4)]; exact ⟨fun r h => (by cases h; rfl), fun h => by cases h⟩
          · by_cases h5 : nt a = d
            · simp only [if_neg h4, if_pos h5, if_pos (show nt a = c ∨ nt a = d from .inr h5)]; exact ⟨fun r h => (by cases h; rfl), fun h => by cases h⟩
            · simp only [if_neg h4, if_neg h5, if_neg (show ¬ (nt a = c ∨ nt a = d) by simp [h4, h5])]; exact ⟨fun r h => (by cases h), fun _ => trivial⟩
/-- What 'turned' tells; 'again' where it makes another "and". -/
theorem turned85 (k : Nat) (hv : Valid g) (hg : g.length ≤ 1048576) {a b : Int} (ha : isL g a = true) (hb : isL g b = true) :
    (tuS g a b = none → f85 (k + 1) a b g m = some ((0, false, ()), ((g, (), ()), m, ()))) ∧ (∀ r, tuS g a b = some (.inl r) → f85 (k + 1) a b g m = some ((r, true, ()), ((g, (), ()), m, ()))) ∧
    (∀ y, tuS g a b = some (.inr y) → ∀ r g' m', f19 k a y g m = some ((r, ()), ((g', (), ()), m', ())) → f85 (k + 1) a b g m = some ((r, true, ()), ((g', (), ()), m', ()))) := by
  have ha' := isL_iff.1 ha
  have hb' := isL_iff.1 hb
  have hk := kids111 (m := m) k hv hg hb
  rw [f85_succ]
  unfold b85 tuS
  cases hkid : kid g b with
  | none =>
    obtain ⟨c, d, e⟩ := hk.2 hkid
    rw [e]; exact ⟨fun _ => rfl, fun r h => (by cases h), fun y h => by cases h⟩
  | some p =>
    obtain ⟨c, d⟩ := p
    obtain ⟨i, hi, hgi, hc0, hc1, hd0, hd1⟩ := kid_valid hv hkid
    have hil := getElem?_lt hgi
    rw [hk.1 c d hkid]
    simp only [Option.bind_some, mod2 hb'.1, beq_int, xor1 ha'.1 (show a ≤ 2097153 by omega), xor1 hc0 (show c ≤ 2097153 by omega), xor1 hd0 (show d ≤ 2097153 by omega), Bool.not_true, cond_false, Bool.cond_decide]
    by_cases h1 : b % 2 = 0
    · simp only [if_pos h1]; exact ⟨fun _ => trivial, fun r h => (by cases h), fun y h => by cases h⟩
    · simp only [if_neg h1]
      by_cases h4 : nt a = c
      · simp only [if_pos h4, if_pos (show nt a = c ∨ nt a = d from .inl h4)]; exact ⟨fun h => (by cases h), fun r h => (by cases h; rfl), fun y h => by cases h⟩
      · by_cases h5 : nt a = d
        · simp only [if_neg h4, if_pos h5, if_pos (show nt a = c ∨ nt a = d from .inr h5)]; exact ⟨fun h => (by cases h), fun r h => (by cases h; rfl), fun y h => by cases h⟩
        · simp only [if_neg h4, if_neg h5, if_neg (show ¬ (nt a = c ∨ nt a = d) by simp [h4, h5])]
          by_cases h2 : a = c
          · simp only [if_pos h2]
            exact ⟨fun h => (by cases h), fun r h => (by cases h), fun y h r g' m' hf => by cases h; rw [hf]; rfl⟩
          · by_cases h3 : a = d
            · simp only [if_neg h2, if_pos h3]
              exact ⟨fun h => (by cases h), fun r h => (by cases h), fun y h r g' m' hf => by cases h; rw [hf]; rfl⟩
            · simp only [if_neg h2, if_neg h3]; exact ⟨fun _ => trivial, fun r h => (by cases h), fun y h => by cases h⟩

/-! ### "and" -/
theorem minmax_min (a b : Int) : minmax false a b = min a b := by unfold minmax; simp only [Bool.false_eq_true, if_false]; split <;> omega
theorem minmax_max (a b : Int) : minmax true a b = max a b := by unfold minmax; simp only [if_true]; split <;> omega
theorem add86 (k : Nat) (hg : g.length ≤ 1048576) (e : D_Gate) : f86 k e g m = if 1048576 ≤ g.length then some (((-1 : Int), ()), ((g, (), ()), m, ())) else some (((2 * g.length + 2 : Int), ()), ((g ++ [e], (), ()), m, ())) := by
  unfold f86
  rw [Bool.cond_decide]
  by_cases h : 1048576 ≤ g.length
  · rw [if_pos (show (g.length : Int) ≥ 1048576 by omega), if_pos h]
  · rw [if_neg (show ¬ (g.length : Int) ≥ 1048576 by omega), if_neg h, gd_dec (by unfold room; omega)]
    have e1 : (((g ++ ([e] : List D_Gate)).length : Nat) : Int) = g.length + 1 := by simp
    rw [e1, w_id (by omega) (by omega)]
    have e2 : (2 * ((g.length : Int) + 1)) = 2 * g.length + 2 := by omega
    rw [e2]
theorem fnd_append {e e' : D_Gate} (h : fnd g e = none) : fnd (g ++ [e]) e' = if e' = e then some g.length else fnd g e' := by
  unfold fnd at h ⊢
  rw [List.findIdx?_append]
  by_cases he : e' = e
  · subst he
    rw [if_pos rfl, h]
    simp
  · rw [if_neg he]
    cases hf : g.findIdx? fun x => decide (x = e') with
    | some i => simp
    | none => simp [Ne.symm he]
theorem map_add {e : D_Gate} (hm : MapOk g m) (h : fnd g e = none) : MapOk (g ++ [e]) (mput T_Gate e (2 * g.length + 2) m) := by
  intro e' h'
  have h1 := mget_mput (kt := T_Gate) rfl (k := e) (k' := e') (x := (2 * g.length + 2 : Int)) m
  rw [fnd_append h]
  by_cases he : e' = e
  · rw [if_pos he]; exact h1.1 he
  · rw [if_neg he]; exact (h1.2 he).trans (hm e' h')
theorem fnd_inp {e : D_Gate} (h : 0 ≤ e.1) : fnd (g ++ [inp]) e = fnd g e := by
  unfold fnd
  rw [List.findIdx?_append]
  have hne : ¬ inp = e := by intro he; rw [← he] at h; exact absurd h (by decide)
  cases hf : g.findIdx? fun x => decide (x = e) with
  | some i => simp
  | none => simp [hne]
theorem map_inp (hm : MapOk g m) : MapOk (g ++ [inp]) m := by
  intro e h; rw [fnd_inp h]; exact hm e h
theorem isL_mm {a b : Int} (ha : isL g a = true) (hb : isL g b = true) : isL g (min a b) = true ∧ isL g (max a b) = true := by
  have h1 := isL_iff.1 ha
  have h2 := isL_iff.1 hb
  exact ⟨isL_iff.2 (by omega), isL_iff.2 (by omega)⟩
theorem and19 : ∀ (n : Nat) (g : List D_Gate) (m : Mp) (a b : Int), Valid g → MapOk g m → g.length ≤ 1048576 → (isL g a = true → isL g b = true → (a + b).toNat < n) → 0 < n →
    ∃ m', MapOk (andS n g a b).1 m' ∧ ∀ k, 2 * n ≤ k → f19 k a b g m = some (((andS n g a b).2, ()), (((andS n g a b).1, (), ()), m', ())) := by
  intro n
  induction n with
  | zero => intro g m a b _ _ _ _ h; omega
  | succ n ih =>
    intro g m a b hv hm hg hn _
    have two : ∀ k, 2 * (n + 1) ≤ k → ∃ j, k = j + 2 ∧ 2 * n ≤ j := fun k hk => ⟨k - 2, by omega, by omega⟩
    cases ha : isL g a with
    | false =>
      refine ⟨m, by simpa [andS, ha] using hm, fun k hk => ?_⟩
      obtain ⟨j, rfl, _⟩ := two k hk
      rw [f19_succ]; unfold b19
      rw [is24 _ hg, ha]
      simp [andS, ha]
    | true =>
      cases hb : isL g b with
      | false =>
        refine ⟨m, by simpa [andS, ha, hb] using hm, fun k hk => ?_⟩
        obtain ⟨j, rfl, _⟩ := two k hk
        rw [f19_succ]; unfold b19
        rw [is24 _ hg, is24 _ hg, ha, hb]
        simp [andS, ha, hb]
      | true =>
        have hn := hn ha hb
        obtain ⟨ha', hb'⟩ := isL_mm ha hb
        have hsum : min a b + max a b = a + b := by omega
        have hle : min a b ≤ max a b := by omega
        have spec : andS (n + 1) g a b = (match stS g (min a b) (max a b) with
          | .ret r => (g, r)
          | .again x y => andS n g x y
          | .new => match fnd g (min a b, max a b, ()) with
            | some i => (g, 2 * i + 2)
            | none => if 1048576 ≤ g.length then (g, -1) else (g ++ [(min a b, max a b, ())], 2 * g.length + 2)) := by
          rw [andS, ha, hb]; rfl
        have prog : ∀ j, f19 (j + 2) a b g m = (cond (decide (min a b = 0)) (some ((0, ()), ((g, (), ()), m, ()))) (cond (decide (nt (min a b) = max a b)) (some ((0, ()), ((g, (), ()), m, ())))
            (cond (decide (min a b = 1)) (some ((max a b, ()), ((g, (), ()), m, ()))) (cond (decide (min a b = max a b)) (some ((max a b, ()), ((g, (), ()), m, ())))
            ((f84 (j + 1) (min a b) (max a b) g m).bind fun y3 =>
              cond y3.1.2.1
                (some ((y3.1.1, ()), ((g, (), ()), m, ())))
                ((f84 (j + 1) (max a b) (min a b) g m).bind fun y4 =>
                cond y4.1.2.1
                  (some ((y4.1.1, ()), ((g, (), ()), m, ())))
                  ((f85 (j + 1) (min a b) (max a b) g m).bind fun y5 =>
                  cond y5.1.2.1
                    (some ((y5.1.1, ()), ((y5.2.1.1, (), ()), y5.2.2.1, ())))
                    ((f85 (j + 1) (max a b) (min a b) y5.2.1.1 y5.2.2.1).bind fun y6 =>
                    cond y6.1.2.1
                      (some ((y6.1.1, ()), ((y6.2.1.1, (), ()), y6.2.2.1, ())))
                      (cond (mget T_Gate ((min a b, max a b, ()) : D_Gate) y6.2.2.1).isSome
                        (some ((((mget T_Gate ((min a b, max a b, ()) : D_Gate) y6.2.2.1).getD 0), ()), ((y6.2.1.1, (), ()), y6.2.2.1, ())))
                        ((f86 (j + 1) ((min a b, max a b, ()) : D_Gate) y6.2.1.1 y6.2.2.1).bind fun y8 =>
                        cond (!decide (y8.1.1 = (-1)))
                          (some ((y8.1.1, ()), ((y8.2.1.1, (), ()), (mput T_Gate ((min a b, max a b, ()) : D_Gate) y8.1.1 y8.2.2.1), ())))
                          (some ((y8.1.1, ()), ((y8.2.1.1, (), ()), y8.2.2.1, ()))))))))))))) := by
          intro j
          rw [f19_succ]; unfold b19
          rw [is24 _ hg, is24 _ hg, ha, hb]
          have hx : ibits .xor .i64 (min a b) 1 = nt (min a b) := xor1 (isL_iff.1 ha').1 (by have := (isL_iff.1 ha').2; omega)
          simp only [Option.bind_some, Bool.not_true, cond_false, minmax_min, minmax_max, beq_int, hx, bne, decide_not]
          rfl
        generalize min a b = a' at ha' hsum hle spec prog
        generalize max a b = b' at hb' hsum hle spec prog
        rw [spec]
        have hpl := fun k => plain84 (m := m) k hv hg ha' hb'
        have hpl2 := fun k => plain84 (m := m) k hv hg hb' ha'
        have htu := fun k => turned85 (m := m) k hv hg ha' hb'
        have htu2 := fun k => turned85 (m := m) k hv hg hb' ha'
        have hret : ∀ r, stS g a' b' = .ret r → (∀ j, f19 (j + 2) a b g m = some ((r, ()), ((g, (), ()), m, ()))) → ∃ m', MapOk (match stS g a' b' with
          | .ret r => (g, r)
          | .again x y => andS n g x y
          | .new => match fnd g (a', b', ()) with
            | some i => (g, 2 * i + 2)
            | none => if 1048576 ≤ g.length then (g, -1) else (g ++ [(a', b', ())], 2 * g.length + 2)).1 m' ∧ ∀ k, 2 * (n + 1) ≤ k → f19 k a b g m = some (((match stS g a' b' with
          | .ret r => (g, r)
          | .again x y => andS n g x y
          | .new => match fnd g (a', b', ()) with
            | some i => (g, 2 * i + 2)
            | none => if 1048576 ≤ g.length then (g, -1) else (g ++ [(a', b', ())], 2 * g.length + 2)).2, ()), (((match stS g a' b' with
          | .ret r => (g, r)
          | .again x y => andS n g x y
          | .new => match fnd g (a', b', ()) with
            | some i => (g, 2 * i + 2)
            | none => if 1048576 ≤ g.length then (g, -1) else (g ++ [(a', b', ())], 2 * g.length + 2)).1, (), ()), m', ())) := by
          intro r hr hf
          rw [hr]
          refine ⟨m, hm, fun k hk => ?_⟩
          obtain ⟨j, rfl, _⟩ := two k hk
          exact hf j
        have hag : ∀ x y, stS g a' b' = .again x y → (∀ j r g' m', f19 j x y g m = some ((r, ()), ((g', (), ()), m', ())) → f19 (j + 2) a b g m = some ((r, ()), ((g', (), ()), m', ()))) → ∃ m', MapOk (match stS g a' b' with
          | .ret r => (g, r)
          | .again x y => andS n g x y
          | .new => match fnd g (a', b', ()) with
            | some i => (g, 2 * i + 2)
            | none => if 1048576 ≤ g.length then (g, -1) else (g ++ [(a', b', ())], 2 * g.length + 2)).1 m' ∧ ∀ k, 2 * (n + 1) ≤ k → f19 k a b g m = some (((match stS g a' b' with
          | .ret r => (g, r)
          | .again x y => andS n g x y
          | .new => match fnd g (a', b', ()) with
            | some i => (g, 2 * i + 2)
            | none => if 1048576 ≤ g.length then (g, -1) else (g ++ [(a', b', ())], 2 * g.length + 2)).2, ()), (((match stS g a' b' with
          | .ret r => (g, r)
          | .again x y => andS n g x y
          | .new => match fnd g (a', b', ()) with
            | some i => (g, 2 * i + 2)
            | none => if 1048576 ≤ g.length then (g, -1) else (g ++ [(a', b', ())], 2 * g.length + 2)).1, (), ()), m', ())) := by
          intro x y hr hf
          obtain ⟨hxx, hy0, hlt, _⟩ := stS_again hv hr
          rw [hr]
          have hx0 : 0 ≤ x := by
            have h1 := (isL_iff.1 ha').1; have h2 := (isL_iff.1 hb').1
            rcases hxx with rfl | rfl <;> assumption
          obtain ⟨m', h1, h2⟩ := ih g m x y hv hm hg (fun _ _ => by omega) (by omega)
          refine ⟨m', h1, fun k hk => ?_⟩
          obtain ⟨j, rfl, hj⟩ := two k hk
          exact hf j _ _ _ (h2 j hj)
        by_cases c1 : a' = 0
        · exact hret 0 (by unfold stS; rw [if_pos (.inl c1)]) fun j => by rw [prog, decide_eq_true c1]; rfl
        by_cases c2 : nt a' = b'
        · exact hret 0 (by unfold stS; rw [if_pos (.inr c2)]) fun j => by rw [prog, decide_eq_false c1, decide_eq_true c2]; rfl
        by_cases c3 : a' = 1
        · exact hret b' (by unfold stS; rw [if_neg (by simp [c1, c2]), if_pos (.inl c3)]) fun j => by rw [prog, decide_eq_false c1, decide_eq_false c2, decide_eq_true c3]; rfl
        by_cases c4 : a' = b'
        · exact hret b' (by unfold stS; rw [if_neg (by simp [c1, c2]), if_pos (.inr c4)]) fun j => by rw [prog, decide_eq_false c1, decide_eq_false c2, decide_eq_false c3, decide_eq_true c4]; rfl
        have hst : stS g a' b' = (match plS g a' b' with
          | some r => .ret r
          | none => match plS g b' a' with
            | some r => .ret r
            | none => match tuS g a' b' with
              | some (.inl r) => .ret r
              | some (.inr y) => .again a' y
              | none => match tuS g b' a' with
                | some (.inl r) => .ret r
                | some (.inr y) => .again b' y
                | none => .new) := by unfold stS; rw [if_neg (by simp [c1, c2]), if_neg (by simp [c3, c4])]
        simp only [decide_eq_false c1, decide_eq_false c2, decide_eq_false c3, decide_eq_false c4, cond_false] at prog
        cases e1 : plS g a' b' with
        | some r => exact hret r (by rw [hst, e1]) fun j => by rw [prog, (hpl (j + 1)).1 r e1]; rfl
        | none =>
        cases e2 : plS g b' a' with
        | some r => exact hret r (by rw [hst, e1, e2]) fun j => by rw [prog, (hpl (j + 1)).2 e1, Option.bind_some, (hpl2 (j + 1)).1 r e2]; rfl
        | none =>
        have prog2 : ∀ j, f19 (j + 2) a b g m = _ := fun j => by
          rw [prog, (hpl (j + 1)).2 e1, Option.bind_some, (hpl2 (j + 1)).2 e2, Option.bind_some]
        simp only [cond_false] at prog2
        cases e3 : tuS g a' b' with
        | some p =>
          cases p with
          | inl r => exact hret r (by rw [hst, e1, e2, e3]) fun j => by rw [prog2, (htu j).2.1 r e3]; rfl
          | inr y => exact hag a' y (by rw [hst, e1, e2, e3]) fun j r g' m' hf => by rw [prog2, (htu j).2.2 y e3 r g' m' hf]; rfl
        | none =>
        cases e4 : tuS g b' a' with
        | some p =>
          cases p with
          | inl r => exact hret r (by rw [hst, e1, e2, e3, e4]) fun j => by rw [prog2, (htu j).1 e3, Option.bind_some, (htu2 j).2.1 r e4]; rfl
          | inr y => exact hag b' y (by rw [hst, e1, e2, e3, e4]) fun j r g' m' hf => by rw [prog2, (htu j).1 e3, Option.bind_some, (htu2 j).2.2 y e4 r g' m' hf]; rfl
        | none =>
        have hnew : stS g a' b' = .new := by rw [hst, e1, e2, e3, e4]
        have prog3 : ∀ j, f19 (j + 2) a b g m = _ := fun j => by
          rw [prog2, (htu j).1 e3, Option.bind_some, (htu2 j).1 e4, Option.bind_some]
        simp only [cond_false] at prog3
        rw [hnew]
        have hmg := hm (a', b', ()) (isL_iff.1 ha').1
        cases hf : fnd g (a', b', ()) with
        | some i =>
          rw [hf] at hmg
          refine ⟨m, hm, fun k hk => ?_⟩
          obtain ⟨j, rfl, _⟩ := two k hk
          rw [prog3, hmg]; rfl
        | none =>
          rw [hf] at hmg
          by_cases hbig : 1048576 ≤ g.length
          · refine ⟨m, by simpa [hbig] using hm, fun k hk => ?_⟩
            obtain ⟨j, rfl, _⟩ := two k hk
            rw [prog3, hmg, add86 _ hg, if_pos hbig]
            simp [hbig]
          · refine ⟨mput T_Gate (a', b', ()) (2 * g.length + 2) m, (by dsimp only; rw [if_neg hbig]; exact map_add hm hf), fun k hk => ?_⟩
            obtain ⟨j, rfl, _⟩ := two k hk
            rw [prog3, hmg, add86 _ hg, if_neg hbig]
            have hne : ¬ (2 * (g.length : Int) + 2 = -1) := by omega
            dsimp only [Option.map_none, Option.isSome_none, cond_false, Option.bind_some]
            rw [decide_eq_false hne, if_neg hbig]
            rfl
end Aig
end Go.Proofs.Ytgljnnokifggkaa.M
