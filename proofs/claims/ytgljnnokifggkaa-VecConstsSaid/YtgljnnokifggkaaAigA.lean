/-
Graphs of "and": what is made stays in order; all acts; what Play makes.
-/
import Derived.Test.YtgljnnokifggkaaAigR
import Derived.Test.YtgljnnokifggkaaVm40
set_option linter.unusedVariables false
set_option linter.unusedSimpArgs false
set_option maxRecDepth 100000
namespace Go.Proofs.Ytgljnnokifggkaa.M
open Go Go.Proofs.Ytgljnnokifggkaa.Vm Go.Proofs.Ytgljnnokifggkaa.Pl
namespace Aig
variable {g : List D_Gate} {m : Mp}

/-! ### kids of longer graphs -/
theorem kid_append {h : List D_Gate} {l : Int} (hl : l ≤ 2 * g.length + 1) : kid (g ++ h) l = kid g l := by
  unfold kid
  by_cases h2 : l < 2
  · rw [if_pos h2, if_pos h2]
  · rw [if_neg h2, if_neg h2, List.getElem?_append_left (by omega)]
theorem kid_take {i : Nat} {l : Int} (hi : i ≤ g.length) (hl : l ≤ 2 * i + 1) : kid (g.take i) l = kid g l := by
  have := kid_append (g := g.take i) (h := g.drop i) (l := l) (by rw [List.length_take]; omega)
  rw [List.take_append_drop] at this; exact this.symm
theorem plS_congr {h : List D_Gate} {a b : Int} (e : kid g b = kid h b) : plS g a b = plS h a b := by unfold plS; rw [e]
theorem tuS_congr {h : List D_Gate} {a b : Int} (e : kid g b = kid h b) : tuS g a b = tuS h a b := by unfold tuS; rw [e]

/-! ### what "and" makes -/
/-- A new node of x and y. -/
structure New (g : List D_Gate) (x y : Int) : Prop where
  lx : isL g x = true
  ly : isL g y = true
  lt : x < y
  two : 2 ≤ x
  ne : nt x ≠ y
  p1 : plS g x y = none
  p2 : plS g y x = none
  t1 : tuS g x y = none
  t2 : tuS g y x = none
  fn : fnd g (x, y, ()) = none
  len : g.length < 1048576
theorem stS_ret {a b r : Int} (ha : isL g a = true) (hb : isL g b = true) (h : stS g a b = .ret r) : isL g r = true := by
  have ha' := isL_iff.1 ha
  have hb' := isL_iff.1 hb
  have pl : ∀ a b r, isL g b = true → plS g a b = some r → isL g r = true := by
    intro a b r hb h
    unfold plS at h
    split at h
    · cases h
    · split at h
      · cases h
      · split at h
        · cases h; exact hb
        · split at h
          · cases h; rw [isL_iff]; omega
          · cases h
  have tu : ∀ a b r, isL g a = true → tuS g a b = some (.inl r) → isL g r = true := by
    intro a b r ha h
    unfold tuS at h
    split at h
    · cases h
    · split at h
      · cases h
      · split at h
        · cases h; exact ha
        · split at h
          · cases h
          · split at h <;> cases h
  unfold stS at h
  split at h
  · cases h; rw [isL_iff]; omega
  · split at h
    · cases h; exact hb
    · split at h
      · rename_i e; cases h; exact pl _ _ _ hb e
      · split at h
        · rename_i e; cases h; exact pl _ _ _ ha e
        · split at h
          · rename_i e; cases h; exact tu _ _ _ ha e
          · cases h
          · split at h
            · rename_i e; cases h; exact tu _ _ _ hb e
            · cases h
            · cases h
theorem stS_new {a b : Int} (ha : isL g a = true) (hb : isL g b = true) (hab : a ≤ b) (h : stS g a b = .new) : 2 ≤ a ∧ a < b ∧ nt a ≠ b ∧ plS g a b = none ∧ plS g b a = none ∧ tuS g a b = none ∧ tuS g b a = none := by
  have ha' := isL_iff.1 ha
  unfold stS at h
  split at h
  · cases h
  · rename_i c1
    split at h
    · cases h
    · rename_i c2
      split at h
      · cases h
      · rename_i e1
        split at h
        · cases h
        · rename_i e2
          split at h
          · cases h
          · cases h
          · rename_i e3
            split at h
            · cases h
            · cases h
            · rename_i e4
              have h1 : a ≠ 0 := fun e => c1 (.inl e)
              have h2 : a ≠ 1 := fun e => c2 (.inl e)
              have h3 : a ≠ b := fun e => c2 (.inr e)
              exact ⟨by omega, by omega, fun e => c1 (.inr e), e1, e2, e3, e4⟩
theorem stS_againL {a b x y : Int} (hv : Valid g) (ha : isL g a = true) (hb : isL g b = true) (h : stS g a b = .again x y) : isL g x = true ∧ isL g y = true := by
  have ha' := isL_iff.1 ha
  have hb' := isL_iff.1 hb
  obtain ⟨h1, h2, h3, h4⟩ := stS_again hv h
  refine ⟨by rcases h1 with rfl | rfl <;> assumption, isL_iff.2 (by omega)⟩
/-- What is told of "and" is a literal, or none if there is no room; at most one node is new. -/
theorem andS_spec : ∀ (n : Nat) (a b : Int), Valid g → (isL g a = true → isL g b = true → (a + b).toNat < n) → 0 < n →
    ((andS n g a b).1 = g ∧ (isL g (andS n g a b).2 = true ∨ (andS n g a b).2 = -1 ∧ (isL g a = true → isL g b = true → 1048576 ≤ g.length))) ∨ ∃ x y, New g x y ∧ (andS n g a b).1 = g ++ [(x, y, ())] ∧ (andS n g a b).2 = 2 * g.length + 2 := by
  intro n
  induction n with
  | zero => intro a b _ _ h; omega
  | succ n ih =>
    intro a b hv hn _
    rw [andS]
    cases ha : isL g a with
    | false => exact .inl ⟨rfl, .inr ⟨rfl, fun h => by cases h⟩⟩
    | true =>
      cases hb : isL g b with
      | false => exact .inl ⟨rfl, .inr ⟨rfl, fun _ h => by cases h⟩⟩
      | true =>
        have hn := hn ha hb
        obtain ⟨h1, h2⟩ := isL_mm ha hb
        have hle : min a b ≤ max a b := by omega
        have hsum : min a b + max a b = a + b := by omega
        generalize min a b = a' at h1 hle hsum
        generalize max a b = b' at h2 hle hsum
        simp only [Bool.and_self, if_true]
        cases hst : stS g a' b' with
        | ret r => exact .inl ⟨rfl, .inl (stS_ret h1 h2 hst)⟩
        | again x y =>
          obtain ⟨_, hy0, hlt, _⟩ := stS_again hv hst
          obtain ⟨k1, k2⟩ := stS_againL hv h1 h2 hst
          have hx0 := (isL_iff.1 k1).1
          rcases ih x y hv (fun _ _ => by omega) (by omega) with ⟨e1, e2⟩ | e
          · refine .inl ⟨e1, ?_⟩
            rcases e2 with e2 | ⟨e2, e3⟩
            · exact .inl e2
            · exact .inr ⟨e2, fun _ _ => e3 k1 k2⟩
          · exact .inr e
        | new =>
          obtain ⟨c1, c2, c3, c4, c5, c6, c7⟩ := stS_new h1 h2 hle hst
          dsimp only
          cases hf : fnd g (a', b', ()) with
          | some i =>
            refine .inl ⟨rfl, .inl ?_⟩
            have hi : i < g.length := by
              have := (List.findIdx?_eq_some_iff_getElem.1 hf).1; exact this
            rw [isL_iff]; dsimp only; omega
          | none =>
            dsimp only
            by_cases hbig : 1048576 ≤ g.length
            · rw [if_pos hbig]; exact .inl ⟨rfl, .inr ⟨rfl, fun _ _ => hbig⟩⟩
            · rw [if_neg hbig]; exact .inr ⟨a', b', ⟨h1, h2, c2, c1, c3, c4, c5, c6, c7, hf, by omega⟩, rfl, rfl⟩
theorem valid_new {x y : Int} (hv : Valid g) (h : New g x y) : Valid (g ++ [(x, y, ())]) := by
  intro i e he
  rcases Nat.lt_or_ge i g.length with hlt | hge
  · rw [List.getElem?_append_left hlt] at he; exact hv i e he
  · rw [List.getElem?_append_right hge] at he
    have h0 : i - g.length = 0 := by
      rcases Nat.eq_zero_or_pos (i - g.length) with q | q
      · exact q
      · rw [List.getElem?_eq_none (by simp; omega)] at he; cases he
    rw [h0] at he
    simp only [List.getElem?_cons_zero, Option.some.injEq] at he
    subst he
    have h1 := isL_iff.1 h.lx
    have h2 := isL_iff.1 h.ly
    right; dsimp only; omega
theorem valid_inp (hv : Valid g) : Valid (g ++ [inp]) := by
  intro i e he
  rcases Nat.lt_or_ge i g.length with hlt | hge
  · rw [List.getElem?_append_left hlt] at he; exact hv i e he
  · rw [List.getElem?_append_right hge] at he
    have h0 : i - g.length = 0 := by
      rcases Nat.eq_zero_or_pos (i - g.length) with q | q
      · exact q
      · rw [List.getElem?_eq_none (by simp; omega)] at he; cases he
    rw [h0] at he
    simp only [List.getElem?_cons_zero, Option.some.injEq] at he
    exact .inl he.symm

/-! ### with enough fuel -/
def And (g : List D_Gate) (a b : Int) : List D_Gate × Int := andS (4 * g.length + 4) g a b
def Or (g : List D_Gate) (a b : Int) : List D_Gate × Int := ((And g (nt a) (nt b)).1, nt (And g (nt a) (nt b)).2)
def Xor (g : List D_Gate) (a b : Int) : List D_Gate × Int := Or (And (And g a (nt b)).1 (nt a) b).1 (And g a (nt b)).2 (And (And g a (nt b)).1 (nt a) b).2
def Ite (g : List D_Gate) (c a b : Int) : List D_Gate × Int := Or (And (And g c a).1 (nt c) b).1 (And g c a).2 (And (And g c a).1 (nt c) b).2
theorem enough {a b : Int} (ha : isL g a = true) (hb : isL g b = true) : (a + b).toNat < 4 * g.length + 4 := by
  have := isL_iff.1 ha; have := isL_iff.1 hb; omega
theorem And_spec (a b : Int) (hv : Valid g) : ((And g a b).1 = g ∧ (isL g (And g a b).2 = true ∨ (And g a b).2 = -1 ∧ (isL g a = true → isL g b = true → 1048576 ≤ g.length))) ∨ ∃ x y, New g x y ∧ (And g a b).1 = g ++ [(x, y, ())] ∧ (And g a b).2 = 2 * g.length + 2 :=
  andS_spec _ a b hv enough (by omega)
/-- An order that is kept by all that is made. -/
structure Keeps (J : List D_Gate → Prop) : Prop where
  inp : ∀ g, J g → g.length < 1048576 → J (g ++ [inp])
  new : ∀ g x y, J g → New g x y → J (g ++ [(x, y, ())])
  valid : ∀ g, J g → Valid g
theorem keeps_valid : Keeps Valid := ⟨fun g h _ => valid_inp h, fun g x y h hn => valid_new h hn, fun g h => h⟩
variable {J : List D_Gate → Prop} (hJ : Keeps J)
include hJ
theorem And_keeps (a b : Int) (h : J g) : J (And g a b).1 ∧ g.length ≤ (And g a b).1.length ∧ (And g a b).1.length ≤ g.length + 1 ∧ -1 ≤ (And g a b).2 ∧ (And g a b).2 ≤ 2 * (And g a b).1.length + 1 := by
  rcases And_spec a b (hJ.valid g h) with ⟨e, h2⟩ | ⟨x, y, hn, e1, e2⟩
  · rw [e]
    refine ⟨h, Nat.le_refl _, by omega, ?_⟩
    rcases h2 with h2 | ⟨h2, _⟩
    · have := isL_iff.1 h2; omega
    · omega
  · rw [e1, e2]
    refine ⟨hJ.new g x y h hn, by simp, by simp, by omega, by simp; omega⟩
omit hJ in
theorem nt_small {r : Int} {n : Nat} (h : -1 ≤ r ∧ r ≤ 2 * n + 1) : -1 ≤ nt r ∧ nt r ≤ 2 * n + 1 := by
  unfold nt; split
  · omega
  · split <;> omega
theorem Or_keeps (a b : Int) (h : J g) : J (Or g a b).1 ∧ g.length ≤ (Or g a b).1.length ∧ (Or g a b).1.length ≤ g.length + 1 ∧ -1 ≤ (Or g a b).2 ∧ (Or g a b).2 ≤ 2 * (Or g a b).1.length + 1 := by
  obtain ⟨h1, h2, h3, h4, h5⟩ := And_keeps hJ (nt a) (nt b) h
  obtain ⟨h6, h7⟩ := nt_small ⟨h4, h5⟩
  exact ⟨h1, h2, h3, h6, h7⟩
theorem Xor_keeps (a b : Int) (h : J g) : J (Xor g a b).1 ∧ g.length ≤ (Xor g a b).1.length ∧ (Xor g a b).1.length ≤ g.length + 3 ∧ -1 ≤ (Xor g a b).2 ∧ (Xor g a b).2 ≤ 2 * (Xor g a b).1.length + 1 := by
  obtain ⟨h1, h2, h3, _⟩ := And_keeps hJ a (nt b) h
  obtain ⟨k1, k2, k3, _⟩ := And_keeps hJ (nt a) b h1
  obtain ⟨j1, j2, j3, j4, j5⟩ := Or_keeps hJ (And g a (nt b)).2 (And (And g a (nt b)).1 (nt a) b).2 k1
  exact ⟨j1, by unfold Xor; omega, by unfold Xor; omega, j4, j5⟩
theorem Ite_keeps (c a b : Int) (h : J g) : J (Ite g c a b).1 ∧ g.length ≤ (Ite g c a b).1.length ∧ (Ite g c a b).1.length ≤ g.length + 3 ∧ -1 ≤ (Ite g c a b).2 ∧ (Ite g c a b).2 ≤ 2 * (Ite g c a b).1.length + 1 := by
  obtain ⟨h1, h2, h3, _⟩ := And_keeps hJ c a h
  obtain ⟨k1, k2, k3, _⟩ := And_keeps hJ (nt c) b h1
  obtain ⟨j1, j2, j3, j4, j5⟩ := Or_keeps hJ (And g c a).2 (And (And g c a).1 (nt c) b).2 k1
  exact ⟨j1, by unfold Ite; omega, by unfold Ite; omega, j4, j5⟩
omit hJ

/-! ### the program, the reference -/
def I64 (a : Int) : Prop := -9223372036854775808 ≤ a ∧ a ≤ 9223372036854775807
theorem I64.nt {a : Int} (h : I64 a) : I64 (nt a) := nt_i64 h.1 h.2
theorem i64_small {r : Int} {n : Nat} (h : -1 ≤ r ∧ r ≤ 2 * n + 1) (hn : n ≤ 1048577) : I64 r := ⟨by omega, by omega⟩
/-- Both the program and the reference make that, and the map stays right. -/
abbrev ProgE (f : Nat → Option R19) (p : List D_Gate × Int) : Prop := ∃ m', MapOk p.1 m' ∧ E fun k => f k = some ((p.2, ()), ((p.1, (), ()), m', ()))
abbrev RefE (f : Nat → Option R36) (p : List D_Gate × Int) : Prop := E fun k => f k = some ((p.1, p.2, ()), ())
theorem and19E (hv : Valid g) (hm : MapOk g m) (hg : g.length ≤ 1048576) (a b : Int) : ProgE (fun k => f19 k a b g m) (And g a b) := by
  obtain ⟨m', h1, h2⟩ := and19 (4 * g.length + 4) g m a b hv hm hg enough (by omega)
  exact ⟨m', h1, ⟨_, h2⟩⟩
theorem and36E (hv : Valid g) (hg : g.length ≤ 1048576) (a b : Int) : RefE (fun k => f36 k g a b) (And g a b) :=
  ⟨_, and36 (4 * g.length + 4) g a b hv hg enough (by omega)⟩
theorem or26E (hv : Valid g) (hm : MapOk g m) (hg : g.length ≤ 1048576) {a b : Int} (ha : I64 a) (hb : I64 b) : ProgE (fun k => f26 k a b g m) (Or g a b) := by
  obtain ⟨m', h1, h2⟩ := and19E hv hm hg (nt a) (nt b)
  obtain ⟨_, _, _, h3⟩ := And_keeps keeps_valid (nt a) (nt b) hv
  refine ⟨m', h1, h2.mono fun k hk => ?_⟩
  dsimp only at *
  unfold f26
  rw [not89 k ha.2, not89 k hb.2]
  simp only [Option.bind_some]
  rw [hk, Option.bind_some, not89 k (l := (And g (nt a) (nt b)).2) (by omega)]
  rfl
theorem or81E (hv : Valid g) (hg : g.length ≤ 1048576) {a b : Int} (ha : I64 a) (hb : I64 b) : RefE (fun k => f81 k g a b) (Or g a b) := by
  obtain ⟨_, _, _, h3⟩ := And_keeps keeps_valid (nt a) (nt b) hv
  refine (and36E hv hg (nt a) (nt b)).mono fun k hk => ?_
  dsimp only at *
  unfold f81
  rw [not90 k ha.1 ha.2, not90 k hb.1 hb.2]
  simp only [Option.bind_some]
  rw [hk, Option.bind_some, not90 k (l := (And g (nt a) (nt b)).2) (by omega) (by omega)]
  rfl
theorem xor27E (hv : Valid g) (hm : MapOk g m) (hg : g.length ≤ 1048574) {a b : Int} (ha : I64 a) (hb : I64 b) : ProgE (fun k => f27 k a b g m) (Xor g a b) := by
  obtain ⟨m1, h1, h2⟩ := and19E hv hm (by omega) a (nt b)
  obtain ⟨k1, k2, k3, k4⟩ := And_keeps keeps_valid a (nt b) hv
  obtain ⟨m2, h3, h4⟩ := and19E k1 h1 (by omega) (nt a) b
  obtain ⟨j1, j2, j3, j4⟩ := And_keeps keeps_valid (nt a) b k1
  obtain ⟨m3, h5, h6⟩ := or26E j1 h3 (by omega) (i64_small k4 (by omega)) (i64_small j4 (by omega))
  refine ⟨m3, h5, h2.mono3 h4 h6 fun k e1 e2 e3 => ?_⟩
  dsimp only at *
  unfold f27
  rw [not89 k hb.2]
  simp only [Option.bind_some]
  rw [e1]
  simp only [Option.bind_some]
  rw [not89 k ha.2]
  simp only [Option.bind_some]
  rw [e2]
  simp only [Option.bind_some]
  rw [e3]
  rfl
theorem xor82E (hv : Valid g) (hg : g.length ≤ 1048574) {a b : Int} (ha : I64 a) (hb : I64 b) : RefE (fun k => f82 k g a b) (Xor g a b) := by
  obtain ⟨k1, k2, k3, k4⟩ := And_keeps keeps_valid a (nt b) hv
  obtain ⟨j1, j2, j3, j4⟩ := And_keeps keeps_valid (nt a) b k1
  refine (and36E hv (by omega) a (nt b)).mono3 (and36E k1 (by omega) (nt a) b) (or81E j1 (by omega) (i64_small k4 (by omega)) (i64_small j4 (by omega))) fun k e1 e2 e3 => ?_
  dsimp only at *
  unfold f82
  rw [not90 k hb.1 hb.2]
  simp only [Option.bind_some]
  rw [e1]
  simp only [Option.bind_some]
  rw [not90 k ha.1 ha.2]
  simp only [Option.bind_some]
  rw [e2]
  simp only [Option.bind_some]
  rw [e3]
  rfl
theorem ite28E (hv : Valid g) (hm : MapOk g m) (hg : g.length ≤ 1048574) {c a b : Int} (hc : I64 c) (ha : I64 a) (hb : I64 b) : ProgE (fun k => f28 k c a b g m) (Ite g c a b) := by
  obtain ⟨m1, h1, h2⟩ := and19E hv hm (by omega) c a
  obtain ⟨k1, k2, k3, k4⟩ := And_keeps keeps_valid c a hv
  obtain ⟨m2, h3, h4⟩ := and19E k1 h1 (by omega) (nt c) b
  obtain ⟨j1, j2, j3, j4⟩ := And_keeps keeps_valid (nt c) b k1
  obtain ⟨m3, h5, h6⟩ := or26E j1 h3 (by omega) (i64_small k4 (by omega)) (i64_small j4 (by omega))
  refine ⟨m3, h5, h2.mono3 h4 h6 fun k e1 e2 e3 => ?_⟩
  dsimp only at *
  unfold f28
  rw [e1]
  simp only [Option.bind_some]
  rw [not89 k hc.2]
  simp only [Option.bind_some]
  rw [e2]
  simp only [Option.bind_some]
  rw [e3]
  rfl
theorem ite83E (hv : Valid g) (hg : g.length ≤ 1048574) {c a b : Int} (hc : I64 c) (ha : I64 a) (hb : I64 b) : RefE (fun k => f83 k g c a b) (Ite g c a b) := by
  obtain ⟨k1, k2, k3, k4⟩ := And_keeps keeps_valid c a hv
  obtain ⟨j1, j2, j3, j4⟩ := And_keeps keeps_valid (nt c) b k1
  refine (and36E hv (by omega) c a).mono3 (and36E k1 (by omega) (nt c) b) (or81E j1 (by omega) (i64_small k4 (by omega)) (i64_small j4 (by omega))) fun k e1 e2 e3 => ?_
  dsimp only at *
  unfold f83
  rw [e1]
  simp only [Option.bind_some]
  rw [not90 k hc.1 hc.2]
  simp only [Option.bind_some]
  rw [e2]
  simp only [Option.bind_some]
  rw [e3]
  rfl

/-! ### acts -/
def actS (g : List D_Gate) (x : D_Act) : List D_Gate × Int :=
  if x.1 = 0 then (g ++ [inp], 2 * g.length + 2) else if x.1 = 1 then And g x.2.1 x.2.2.1 else if x.1 = 2 then Or g x.2.1 x.2.2.1 else if x.1 = 3 then Xor g x.2.1 x.2.2.1 else if x.1 = 4 then Ite g x.2.2.2.1 x.2.1 x.2.2.1 else (g, 0)
def ActOk (x : D_Act) : Prop := I64 x.2.1 ∧ I64 x.2.2.1 ∧ I64 x.2.2.2.1
theorem actS_keeps {J : List D_Gate → Prop} (hJ : Keeps J) (x : D_Act) (h : J g) (hg : g.length < 1048576) : J (actS g x).1 ∧ (actS g x).1.length ≤ g.length + 3 := by
  unfold actS
  split
  · exact ⟨hJ.inp g h hg, by simp⟩
  · split
    · have := And_keeps hJ x.2.1 x.2.2.1 h; exact ⟨this.1, by omega⟩
    · split
      · have := Or_keeps hJ x.2.1 x.2.2.1 h; exact ⟨this.1, by omega⟩
      · split
        · have := Xor_keeps hJ x.2.1 x.2.2.1 h; exact ⟨this.1, by omega⟩
        · split
          · have := Ite_keeps hJ x.2.2.2.1 x.2.1 x.2.2.1 h; exact ⟨this.1, by omega⟩
          · exact ⟨h, by simp⟩
theorem in25 (k : Nat) (hg : g.length < 1048576) : f25 k g m = some (((2 * g.length + 2 : Int), ()), ((g ++ [inp], (), ()), m, ())) := by
  unfold f25
  have hf : f88 k () = some ((inp, ()), ()) := rfl
  rw [hf]
  simp only [Option.bind_some]
  rw [add86 k (by omega), if_neg (by omega)]
  rfl
theorem in80 (k : Nat) (hg : g.length < 1048576) : f80 k g = some ((g ++ [inp], (2 * g.length + 2 : Int), ()), ()) := by
  unfold f80
  rw [decide_eq_false (by omega : ¬ (g.length : Int) ≥ 1048576), cond_false, gd_dec (by unfold room; omega), gd_dec (by simp only [List.nil_append]; unfold room; omega), w_id (n := 2 * (g.length : Int)) (by omega) (by omega), w_id (by omega) (by omega)]
  rfl
/-- One act, by both. -/
theorem act_step (hv : Valid g) (hm : MapOk g m) (hg : g.length ≤ 1048574) {l : List D_Act} {i : Nat} {x : D_Act} (hx : l[i]? = some x) (hok : ActOk x) : ∃ m', MapOk (actS g x).1 m' ∧ E fun k => l18_7826 k l g i 0 0 g m = some (((actS g x).1, (actS g x).2, (actS g x).2, ()), (((actS g x).1, (), ()), m', ())) := by
  obtain ⟨ha, hb, hc⟩ := hok
  unfold actS
  by_cases c0 : x.1 = 0
  · rw [if_pos c0]
    refine ⟨m, map_inp hm, E.all fun k => ?_⟩
    unfold l18_7826
    simp only [ix_nat hx, beq_int, c0, decide_true, cond_true, in25 k (show g.length < 1048576 by omega), in80 k (show g.length < 1048576 by omega), Option.bind_some]
  rw [if_neg c0]
  by_cases c1 : x.1 = 1
  · rw [if_pos c1]
    obtain ⟨m', h1, h2⟩ := and19E hv hm (by omega) x.2.1 x.2.2.1
    refine ⟨m', h1, h2.mono2 (and36E hv (by omega) x.2.1 x.2.2.1) fun k e1 e2 => ?_⟩
    dsimp only at *
    unfold l18_7826
    simp only [ix_nat hx, beq_int, c1, decide_true, cond_true, show decide ((1 : Int) = 0) = false from rfl, cond_false, e1, e2, Option.bind_some]
  rw [if_neg c1]
  by_cases c2 : x.1 = 2
  · rw [if_pos c2]
    obtain ⟨m', h1, h2⟩ := or26E hv hm (by omega) ha hb
    refine ⟨m', h1, h2.mono2 (or81E hv (by omega) ha hb) fun k e1 e2 => ?_⟩
    dsimp only at *
    unfold l18_7826
    simp only [ix_nat hx, beq_int, c2, decide_true, cond_true, show decide ((2 : Int) = 0) = false from rfl, show decide ((2 : Int) = 1) = false from rfl, cond_false, e1, e2, Option.bind_some]
  rw [if_neg c2]
  by_cases c3 : x.1 = 3
  · rw [if_pos c3]
    obtain ⟨m', h1, h2⟩ := xor27E hv hm hg ha hb
    refine ⟨m', h1, h2.mono2 (xor82E hv hg ha hb) fun k e1 e2 => ?_⟩
    dsimp only at *
    unfold l18_7826
    simp only [ix_nat hx, beq_int, c3, decide_true, cond_true, show decide ((3 : Int) = 0) = false from rfl, show decide ((3 : Int) = 1) = false from rfl, show decide ((3 : Int) = 2) = false from rfl, cond_false, e1, e2, Option.bind_some]
  rw [if_neg c3]
  by_cases c4 : x.1 = 4
  · rw [if_pos c4]
    obtain ⟨m', h1, h2⟩ := ite28E hv hm hg hc ha hb
    refine ⟨m', h1, h2.mono2 (ite83E hv hg hc ha hb) fun k e1 e2 => ?_⟩
    dsimp only at *
    unfold l18_7826
    simp only [ix_nat hx, beq_int, c4, decide_true, cond_true, show decide ((4 : Int) = 0) = false from rfl, show decide ((4 : Int) = 1) = false from rfl, show decide ((4 : Int) = 2) = false from rfl, show decide ((4 : Int) = 3) = false from rfl, cond_false, e1, e2, Option.bind_some]
  rw [if_neg c4]
  refine ⟨m, hm, E.all fun k => ?_⟩
  unfold l18_7826
  simp only [ix_nat hx, beq_int, c0, c1, c2, c3, c4, decide_false, cond_false]
/-- The loop of Play: all told is alike. -/
theorem play_loop {J : List D_Gate → Prop} (hJ : Keeps J) {l : List D_Act} (hl : ∀ x ∈ l, ActOk x) : ∀ (n : Nat) (i : Nat) (g : List D_Gate) (m : Mp), 25 - i = n → J g → MapOk g m → g.length + 3 * n ≤ 1048574 →
    ∃ g' m', J g' ∧ MapOk g' m' ∧ g'.length ≤ g.length + 3 * n ∧ E fun k => ∀ j, n < j → l18_122 k j l 25 g i g m = some (.inl ((g', ()), ((g', (), ()), m', ()))) := by
  intro n
  induction n with
  | zero =>
    intro i g m hi hg hm hlen
    refine ⟨g, m, hg, hm, by omega, E.all fun k j hj => ?_⟩
    obtain ⟨j, rfl, _⟩ := succ_of (n := 0) (by omega : 0 + 1 ≤ j)
    show b18_122 k (l18_122 k j) l 25 g i g m = _
    unfold b18_122
    cases decide ((i : Int) < l.length) with
    | false => rfl
    | true => rw [cond_true, decide_eq_false (by omega : ¬ (i : Int) < 25)]; rfl
  | succ n ih =>
    intro i g m hi hg hm hlen
    by_cases hil : i < l.length
    · have hx : l[i]? = some l[i] := List.getElem?_eq_getElem hil
      obtain ⟨m1, h1, h2⟩ := act_step (hJ.valid g hg) hm (by omega) hx (hl _ (List.getElem_mem hil))
      obtain ⟨k1, k2⟩ := actS_keeps hJ l[i] hg (by omega)
      obtain ⟨g', m', j1, j2, j3, j4⟩ := ih (i + 1) _ m1 (by omega) k1 h1 (by omega)
      refine ⟨g', m', j1, j2, by omega, h2.mono2 j4 fun k e1 e2 j hj => ?_⟩
      obtain ⟨j, rfl, hj'⟩ := succ_of (by omega : n + 1 + 1 ≤ j)
      show b18_122 k (l18_122 k j) l 25 g i g m = _
      unfold b18_122
      have e3 := e2 j (by omega)
      have hw : w64 ((i : Int) + 1) = ((i + 1 : Nat) : Int) := by rw [w_id (by omega) (by omega)]; omega
      rw [decide_eq_true (by omega : (i : Int) < l.length), decide_eq_true (by omega : (i : Int) < 25), e1]
      simp only [cond_true, Option.bind_some, l18_15654, bne_self_eq_false, cond_false]
      rw [hw, e3]
      rfl
    · refine ⟨g, m, hg, hm, by omega, E.all fun k j hj => ?_⟩
      obtain ⟨j, rfl, _⟩ := succ_of (n := 0) (by omega : 0 + 1 ≤ j)
      show b18_122 k (l18_122 k j) l 25 g i g m = _
      unfold b18_122
      rw [decide_eq_false (by omega : ¬ (i : Int) < l.length)]
      rfl
theorem play18 {J : List D_Gate → Prop} (hJ : Keeps J) (h0 : J []) {l : List D_Act} (hl : ∀ x ∈ l, ActOk x) : ∃ g m, J g ∧ MapOk g m ∧ g.length ≤ 75 ∧ E fun k => f18 k l 25 = some (((), g, true, ()), ((g, (), ()), m, ())) := by
  obtain ⟨g, m, h1, h2, h3, h4⟩ := play_loop hJ hl 25 0 [] [] rfl h0 (fun e _ => rfl) (by simp)
  refine ⟨g, m, h1, h2, by simpa using h3, (h4.and (E.ge 26)).mono fun k ⟨e, hk⟩ => ?_⟩
  unfold f18
  have hf : f38 k () = some (((), ()), (([], (), ()), [], ())) := rfl
  rw [hf]
  simp only [Option.bind_some]
  rw [show ((0 : Nat) : Int) = 0 from rfl] at e
  rw [e k (by omega)]
  rfl
theorem acts_ok {l : List D_Act} (h : Fit (.slice T_Act) l) : ∀ x ∈ l, ActOk x := by
  intro x hx
  have h1 := (h.inv.2 x hx).inv
  have h2 := h1.2.inv
  have h3 := h2.2.inv
  have h4 := h3.2.inv
  exact ⟨fit_i64 h2.1, fit_i64 h3.1, fit_i64 h4.1⟩
end Aig
end Go.Proofs.Ytgljnnokifggkaa.M
