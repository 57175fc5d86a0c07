/-
Shapes: the theorem of order.
-/
import Derived.Test.YtnkjnbfaechiaaaSh
set_option linter.unusedVariables false
set_option linter.unusedSimpArgs false
set_option maxRecDepth 100000
namespace Go.Proofs.Ytnkjnbfaechiaaa.M
open Go Go.Proofs.Ytnkjnbfaechiaaa.Vm Go.Proofs.Ytnkjnbfaechiaaa.Pl
namespace Sh
/-! ### what can be reached -/
inductive Path (Z : Nat → Nat → Bool) (q : Nat) : Nat → Nat → Prop
  | edge (a b : Nat) : Z a b = true → Path Z q a b
  | via (a v b : Nat) : v < q → Path Z q a v → Path Z q v b → Path Z q a b
theorem Path.mono {Z : Nat → Nat → Bool} {q q' : Nat} (hq : q ≤ q') {a b : Nat} (h : Path Z q a b) : Path Z q' a b := by
  induction h with
  | edge a b h => exact .edge _ _ h
  | via a v b hv _ _ h1 h2 => exact .via _ v _ (by omega) h1 h2
theorem Path.split {Z : Nat → Nat → Bool} {q : Nat} {a b : Nat} (h : Path Z (q + 1) a b) : Path Z q a b ∨ (Path Z q a q ∧ Path Z q q b) := by
  induction h with
  | edge a b h => exact .inl (.edge _ _ h)
  | via a v b hv _ _ h1 h2 =>
    rcases Nat.lt_or_ge v q with hlt | hge
    · rcases h1 with h1 | ⟨h1, h3⟩ <;> rcases h2 with h2 | ⟨h2, h4⟩
      · exact .inl (.via _ v _ hlt h1 h2)
      · exact .inr ⟨.via _ v _ hlt h1 h2, h4⟩
      · exact .inr ⟨h1, .via _ v _ hlt h3 h2⟩
      · exact .inr ⟨h1, h4⟩
    · obtain rfl : v = q := by omega
      rcases h1 with h1 | ⟨h1, _⟩ <;> rcases h2 with h2 | ⟨_, h2⟩ <;> exact .inr ⟨h1, h2⟩
theorem fwJ_sound {Z : Nat → Nat → Bool} {n q p : Nat} (hq : q < n) {M : Nat → Nat → Bool} (h : ∀ a b, M a b = true → Path Z n a b) : ∀ c a b, fwJ q p M c a b = true → Path Z n a b
  | 0, a, b, hM => h a b hM
  | c + 1, a, b, hM => by
    have ih := fwJ_sound (p := p) hq h c
    simp only [fwJ, stepJ] at hM
    split at hM
    · rename_i hab
      obtain ⟨rfl, rfl⟩ := hab
      simp only [Bool.or_eq_true, Bool.and_eq_true] at hM
      rcases hM with hM | ⟨h1, h2⟩
      · exact ih _ _ hM
      · exact .via _ q _ hq (ih _ _ h1) (ih _ _ h2)
    · exact ih _ _ hM
theorem fwI_sound {Z : Nat → Nat → Bool} {n q : Nat} (hq : q < n) {M : Nat → Nat → Bool} (h : ∀ a b, M a b = true → Path Z n a b) : ∀ p a b, fwI n q M p a b = true → Path Z n a b
  | 0, a, b, hM => h a b hM
  | p + 1, a, b, hM => fwJ_sound hq (fwI_sound hq h p) n a b hM
theorem fw_sound {Z : Nat → Nat → Bool} {n : Nat} : ∀ q, q ≤ n → ∀ a b, fw n Z q a b = true → Path Z n a b
  | 0, _, a, b, hM => .edge _ _ hM
  | q + 1, hq, a, b, hM => fwI_sound (by omega) (fw_sound q (by omega)) n a b hM
theorem fwJ_mono {q p : Nat} {M : Nat → Nat → Bool} : ∀ c a b, M a b = true → fwJ q p M c a b = true
  | 0, a, b, h => h
  | c + 1, a, b, h => by
    have ih := fwJ_mono (q := q) (p := p) c a b h
    simp only [fwJ, stepJ]
    split
    · rename_i hab
      obtain ⟨rfl, rfl⟩ := hab
      rw [ih]; rfl
    · exact ih
theorem fwJ_step {q p : Nat} {M : Nat → Nat → Bool} (b : Nat) (h : M p q = true) (h' : M q b = true) : ∀ c, b < c → fwJ q p M c p b = true
  | 0, hc => absurd hc (Nat.not_lt_zero _)
  | c + 1, hc => by
    simp only [fwJ, stepJ]
    split
    · rename_i hab
      obtain ⟨_, rfl⟩ := hab
      rw [fwJ_mono b p q h, fwJ_mono b q b h']; simp
    · rename_i hab
      exact fwJ_step b h h' c (by rcases Nat.eq_or_lt_of_le (Nat.le_of_lt_succ hc) with h1 | h1; exact absurd ⟨trivial, h1⟩ hab; exact h1)
theorem fwI_mono {n q : Nat} {M : Nat → Nat → Bool} : ∀ p a b, M a b = true → fwI n q M p a b = true
  | 0, a, b, h => h
  | p + 1, a, b, h => fwJ_mono n a b (fwI_mono p a b h)
theorem fwI_step {n q : Nat} {M : Nat → Nat → Bool} (a b : Nat) (hb : b < n) (h : M a q = true) (h' : M q b = true) : ∀ p, a < p → fwI n q M p a b = true
  | 0, hp => absurd hp (Nat.not_lt_zero _)
  | p + 1, hp => by
    rcases Nat.eq_or_lt_of_le (Nat.le_of_lt_succ hp) with h1 | h1
    · subst h1
      exact fwJ_step b (fwI_mono a a q h) (fwI_mono a q b h') n hb
    · exact fwJ_mono n a b (fwI_step a b hb h h' p h1)
theorem fw_complete {Z : Nat → Nat → Bool} {n : Nat} : ∀ q, q ≤ n → ∀ a b, a < n → b < n → Path Z q a b → fw n Z q a b = true
  | 0, _, a, b, _, _, h => by
    cases h with
    | edge _ _ h => exact h
    | via _ v _ hv => exact absurd hv (Nat.not_lt_zero _)
  | q + 1, hq, a, b, ha, hb, h => by
    have ih := fw_complete (Z := Z) (n := n) q (by omega)
    rcases h.split with h1 | ⟨h1, h2⟩
    · exact fwI_mono n a b (ih a b ha hb h1)
    · exact fwI_step a b hb (ih a q ha (Nat.lt_of_succ_le hq) h1) (ih q b (Nat.lt_of_succ_le hq) hb h2) n ha
def Cl (s : D_Shape) (i j : Nat) : Bool := fw s.1.length (sEd s) s.1.length i j
theorem cl_path {s : D_Shape} {i j : Nat} (hi : i < s.1.length) (hj : j < s.1.length) : Cl s i j = true ↔ Path (sEd s) s.1.length i j :=
  ⟨fw_sound _ (Nat.le_refl _) i j, fw_complete _ (Nat.le_refl _) i j hi hj⟩
theorem cl_trans {s : D_Shape} {i k j : Nat} (hi : i < s.1.length) (hk : k < s.1.length) (hj : j < s.1.length) (h : Cl s i k = true) (h' : Cl s k j = true) : Cl s i j = true :=
  (cl_path hi hj).2 (.via _ k _ hk ((cl_path hi hk).1 h) ((cl_path hk hj).1 h'))
theorem sPn_of {ev : List Ev} {st : List Int} {i : Nat} (h : i < ev.length) : sPn (ev, st, ()) i = ev[i].1.toNat := by unfold sPn; show ((ev[i]?).map _).getD 0 = _; rw [List.getElem?_eq_getElem h]; rfl
theorem procs {ev : List Ev} {st : List Int} (hok : OK ev st) {i k : Nat} (hi : i < ev.length) (hk : k < ev.length) (h : ev[i].1 < ev[k].1) : i < k := by
  rcases Nat.lt_trichotomy i k with h1 | rfl | h1
  · exact h1
  · omega
  · have := later hok (List.getElem?_eq_getElem hk) (i - (k + 1)) ev[i] (by rw [show k + (i - (k + 1)) + 1 = i from by omega]; exact List.getElem?_eq_getElem hi)
    omega
theorem st_get {ev : List Ev} {st : List Int} (hok : OK ev st) {k : Nat} (hk : k < ev.length) : st[ev[k].1.toNat]? = some (sSt (ev, st, ()) (sPn (ev, st, ()) k)) ∧ 0 ≤ ev[k].1 ∧ ev[k].1 < (st.length : Int) := by
  have hL := hok.evs k _ (List.getElem?_eq_getElem hk)
  have h1 := hL.p0
  have h2 := hL.pm
  have hlt : ev[k].1.toNat < st.length := by omega
  refine ⟨?_, h1, h2⟩
  rw [sPn_of hk]
  unfold sSt
  show _ = some ((st[ev[k].1.toNat]?).getD 0)
  rw [List.getElem?_eq_getElem hlt]; rfl
theorem ed_lt {ev : List Ev} {st : List Int} (hok : OK ev st) {i k : Nat} (hk : k < ev.length) (h : sEd (ev, st, ()) i k = true) : i < k := by
  unfold sEd at h
  simp only [Bool.or_eq_true, Bool.and_eq_true, decide_eq_true_eq, beq_iff_eq] at h
  rcases h with ⟨_, h⟩ | h
  · exact h
  · obtain ⟨h1, h2, h3⟩ := st_get hok hk
    rw [h] at h1
    obtain ⟨_, h5, h6⟩ := hok.sts _ _ h1
    obtain ⟨e, h7, h8, h9⟩ := h6 (by omega)
    have hi : i < ev.length := by omega
    rw [show ((i : Int)).toNat = i from by omega, List.getElem?_eq_getElem hi] at h7
    obtain rfl := Option.some.inj h7
    have := ((hok.evs i _ (List.getElem?_eq_getElem hi)).go h8).1
    exact procs hok hi hk (by omega)
theorem path_lt {ev : List Ev} {st : List Int} (hok : OK ev st) {i k : Nat} (h : Path (sEd (ev, st, ())) ev.length i k) (hk : k < ev.length) : i < k := by
  induction h with
  | edge a b h => exact ed_lt hok hk h
  | via a v b hv _ _ h1 h2 => have := h1 hv; have := h2 hk; omega
theorem cl_lt {ev : List Ev} {st : List Int} (hok : OK ev st) {i k : Nat} (hi : i < ev.length) (hk : k < ev.length) (h : Cl (ev, st, ()) i k = true) : i < k := path_lt hok ((cl_path (s := (ev, st, ())) hi hk).1 h) hk
/-! ### the square in hand -/
theorem ahead8 {ev : List Ev} {st : List Int} (hok : OK ev st) {k : Nat} (hk : 61 ≤ k) : f8 k (ev, st, ()) = some ((mat ev.length (Cl (ev, st, ())), ()), ()) := by
  unfold f8
  obtain ⟨y, hy, hyi⟩ := check13 k hk ev st
  have hy1 := hyi.2 hok
  subst hy1
  rw [same13, hy]
  have : aheadOk k (ev, st, ()) = true := by
    unfold aheadOk
    have h0 := hok.n
    rw [decide_eq_true (by omega : 41 ≤ k), decide_eq_true (show (ev, st, ()).1.length ≤ 40 from h0), Bool.true_and, Bool.true_and]
    refine List.all_eq_true.2 fun e he => ?_
    obtain ⟨i, hi, rfl⟩ := List.getElem_of_mem he
    have hL := hok.evs i _ (List.getElem?_eq_getElem hi)
    have h1 := hL.p0
    have h2 := hL.pm
    rw [decide_eq_true (show 0 ≤ (ev, st, ()).1[i].1 from h1), decide_eq_true (show (ev, st, ()).1[i].1 < (st.length : Int) from h2)]; rfl
  simp only [Option.bind_some, cond_true]
  rw [this]; rfl
theorem mat_ix {R : Type} {n : Nat} {Q : Nat → Nat → Bool} {i j : Nat} (hi : i < n) (hj : j < n) {K : Bool → Option R} : (ix (mat n Q) (i : Int) fun e => ix e (j : Int) K) = K (Q i j) := by
  have h1 : (mat n Q)[i]? = some ((List.range n).map (Q i)) := by unfold mat; rw [List.getElem?_map, List.getElem?_range hi]; rfl
  rw [ix_nat h1]
  have h2 : ((List.range n).map (Q i))[j]? = some (Q i j) := by rw [List.getElem?_map, List.getElem?_range hj]; rfl
  rw [ix_nat h2]
theorem square9 (k : Nat) {n : Nat} (hn : n ≤ 40) (hk : 61 ≤ k) (Q : Nat → Nat → Bool) : f9 k (mat n Q) = some ((true, ()), ()) := by
  have key : ∀ (q i : Nat), n - i = q → ∀ j, q < j → l9_26 k j (mat n Q) i = some (.inl ((), ())) := by
    intro q
    induction q with
    | zero =>
      intro i hi j hj
      obtain ⟨j, rfl, _⟩ := succ_of (n := 0) (by omega : 0 + 1 ≤ j)
      show b9_26 k (l9_26 k j) (mat n Q) i = _
      unfold b9_26
      rw [mat_len, decide_eq_false (by omega : ¬ (i : Int) < n)]; rfl
    | succ q ih =>
      intro i hi j hj
      obtain ⟨j, rfl, hj2⟩ := succ_of (by omega : q + 1 + 1 ≤ j)
      have hlt : i < n := by omega
      have h1 : (mat n Q)[i]? = some ((List.range n).map (Q i)) := by unfold mat; rw [List.getElem?_map, List.getElem?_range hlt]; rfl
      show b9_26 k (l9_26 k j) (mat n Q) i = _
      unfold b9_26
      rw [mat_len, decide_eq_true (by omega : (i : Int) < n), cond_true, ix_nat h1, w1 (by omega), ih (i + 1) (by omega) j hj2, i_ne, decide_eq_false (by simp)]; rfl
  unfold f9
  have := key n 0 (by omega) k (by omega)
  rw [show ((0 : Nat) : Int) = 0 from rfl] at this
  rw [this]
  simp only [Option.bind_some]
  rw [mat_len, decide_eq_true (by omega : (n : Int) ≤ 40)]
/-! ### lists of numbers of events -/
def sel (p : Nat → Bool) : Nat → Nat → List Int
  | 0, _ => []
  | q + 1, i => cond (p i) ((i : Int) :: sel p q (i + 1)) (sel p q (i + 1))
theorem sel_mem {p : Nat → Bool} {x : Int} : ∀ (q i : Nat), x ∈ sel p q i ↔ ∃ j : Nat, i ≤ j ∧ j < i + q ∧ x = (j : Int) ∧ p j = true
  | 0, i => by simp only [sel, List.not_mem_nil, false_iff]; rintro ⟨j, h1, h2, _⟩; omega
  | q + 1, i => by
    have ih := sel_mem (p := p) (x := x) q (i + 1)
    have low : (∃ j : Nat, i ≤ j ∧ j < i + (q + 1) ∧ x = (j : Int) ∧ p j = true) ↔ ((x = (i : Int) ∧ p i = true) ∨ ∃ j : Nat, i + 1 ≤ j ∧ j < i + 1 + q ∧ x = (j : Int) ∧ p j = true) := by
      constructor
      · rintro ⟨j, h1, h2, h3, h4⟩
        rcases Nat.eq_or_lt_of_le h1 with rfl | h5
        · exact .inl ⟨h3, h4⟩
        · exact .inr ⟨j, h5, by omega, h3, h4⟩
      · rintro (⟨h1, h2⟩ | ⟨j, h1, h2, h3⟩)
        · exact ⟨i, Nat.le_refl _, by omega, h1, h2⟩
        · exact ⟨j, by omega, by omega, h3⟩
    rw [low]
    unfold sel
    cases hp : p i with
    | true => simp only [cond_true, List.mem_cons, ih]; simp
    | false => simp only [cond_false, ih]; simp
theorem sel_len {p : Nat → Bool} : ∀ (q i : Nat), (sel p q i).length ≤ q
  | 0, i => by simp [sel]
  | q + 1, i => by
    have := sel_len (p := p) q (i + 1)
    unfold sel
    cases p i <;> simp <;> omega
def plainB (x : Int) : Bool := cond (decide (x = 1)) true (decide (x = 2))
theorem plain21 (k : Nat) (x : Int) : f21 k x = some ((plainB x, ()), ()) := by
  unfold f21 plainB
  rw [i_eq, i_eq]
  cases decide (x = 1) <;> rfl
def rivB (ev : List Ev) (C : Nat → Nat → Bool) (i j : Nat) : Bool := match ev[i]?, ev[j]? with
  | some a, some b => plainB b.2.2.1 && (!decide (b.1 = a.1) && (decide (b.2.2.2.1 = a.2.2.2.1) && ((decide (a.2.2.1 = 2) || decide (b.2.2.1 = 2)) && (!C i j && !C j i))))
  | _, _ => false
theorem rival_one (k : Nat) {ev : List Ev} {C : Nat → Nat → Bool} {i j : Nat} {a b : Ev} (hi : i < ev.length) (hj : j < ev.length) (ha : ev[i]? = some a) (hb : ev[j]? = some b) :
    l10_64818 k i (mat ev.length C) j a.1 a.2.1 a.2.2.1 a.2.2.2.1 b.1 b.2.1 b.2.2.1 b.2.2.2.1 = some ((rivB ev C i j, ()), ((a.1, a.2.1, a.2.2.1, a.2.2.2.1, ()), (b.1, b.2.1, b.2.2.1, b.2.2.2.1, ()), ())) := by
  unfold l10_64818 rivB
  rw [ha, hb, plain21, i_eq, i_eq, i_eq, i_ne]
  simp only [Option.bind_some]
  have e1 : ∀ {R : Type} {K : Bool → Option R}, (ix (mat ev.length C) (i : Int) fun e => ix e (j : Int) K) = K (C i j) := fun {R K} => mat_ix hi hj
  have e2 : ∀ {R : Type} {K : Bool → Option R}, (ix (mat ev.length C) (j : Int) fun e => ix e (i : Int) K) = K (C j i) := fun {R K} => mat_ix hj hi
  simp only [e1, e2]
  have e3 : decide (b.1 ≠ a.1) = !decide (b.1 = a.1) := by simp
  rw [e3]
  cases plainB b.2.2.1 <;> cases decide (b.1 = a.1) <;> cases decide (b.2.2.2.1 = a.2.2.2.1) <;> cases decide (a.2.2.1 = 2) <;> cases decide (b.2.2.1 = 2) <;> cases C i j <;> cases C j i <;> rfl
theorem rivals_loop (k : Nat) {ev : List Ev} {C : Nat → Nat → Bool} (hn : ev.length ≤ 40) {i : Nat} (hi : i < ev.length) {a : Ev} (ha : ev[i]? = some a) : ∀ (q t : Nat) (acc : List Int), ev.length - t = q → acc.length ≤ t → ∀ j, q < j →
    l10_506 k j i acc (mat ev.length C) ev (ev.length : Int) t a.1 a.2.1 a.2.2.1 a.2.2.2.1 = some ((acc ++ sel (rivB ev C i) q t, ()), ((a.1, a.2.1, a.2.2.1, a.2.2.2.1, ()), ())) := by
  intro q
  induction q with
  | zero =>
    intro t acc ht hacc j hj
    obtain ⟨j, rfl, _⟩ := succ_of (n := 0) (by omega : 0 + 1 ≤ j)
    show b10_506 k (l10_506 k j) _ _ _ _ _ _ _ _ _ _ = _
    unfold b10_506 sel
    rw [decide_eq_false (by omega : ¬ (t : Int) < ev.length), List.append_nil]; rfl
  | succ q ih =>
    intro t acc ht hacc j hj
    obtain ⟨j, rfl, hj2⟩ := succ_of (by omega : q + 1 + 1 ≤ j)
    have hlt : t < ev.length := by omega
    have hx := List.getElem?_eq_getElem hlt
    show b10_506 k (l10_506 k j) _ _ _ _ _ _ _ _ _ _ = _
    unfold b10_506
    rw [decide_eq_true (by omega : (t : Int) < ev.length), cond_true, ix_nat hx, rival_one k hi hlt ha hx, w1 (by omega)]
    simp only [Option.bind_some]
    unfold sel
    cases rivB ev C i t with
    | true =>
      rw [cond_true, cond_true, gd_dec (by unfold room; omega), ih (t + 1) _ (by omega) (by simp; omega) j hj2]
      simp
    | false =>
      rw [cond_false, cond_false, ih (t + 1) _ (by omega) (by omega) j hj2]
      simp
theorem there20 {ev : List Ev} {st : List Int} (hok : OK ev st) {k : Nat} (hk : 61 ≤ k) (e : Int) : f20 k (ev, st, ()) e = some ((decide (0 ≤ e ∧ e < (ev.length : Int)), ()), ()) := by
  unfold f20
  obtain ⟨y, hy, hyi⟩ := check13 k hk ev st
  have hy1 := hyi.2 hok
  subst hy1
  rw [hy]
  simp only [Option.bind_some, cond_true, show ((0 : Int) == 0) = true from rfl]
  by_cases h1 : e ≥ 0
  · rw [decide_eq_true h1]
    by_cases h2 : e < (ev.length : Int)
    · rw [decide_eq_true (show e < ((ev, st, ()).1.length : Int) from h2), decide_eq_true ⟨h1, h2⟩]; rfl
    · rw [decide_eq_false (show ¬ e < ((ev, st, ()).1.length : Int) from h2), decide_eq_false (fun h : 0 ≤ e ∧ e < (ev.length : Int) => h2 h.2)]; rfl
  · rw [decide_eq_false h1, decide_eq_false (fun h : 0 ≤ e ∧ e < (ev.length : Int) => h1 h.1)]; rfl
theorem rivals10 {ev : List Ev} {st : List Int} (hok : OK ev st) {k : Nat} (hk : 61 ≤ k) {i : Nat} {a : Ev} (ha : ev[i]? = some a) : f10 k (ev, st, ()) i = some ((cond (plainB a.2.2.1) (sel (rivB ev (Cl (ev, st, ())) i) ev.length 0) [], ()), ()) := by
  have hn := hok.n
  have hi : i < ev.length := by
    rcases Nat.lt_or_ge i ev.length with h' | h'
    · exact h'
    · rw [List.getElem?_eq_none h'] at ha; cases ha
  unfold f10
  rw [there20 hok hk, decide_eq_true (by omega)]
  simp only [Option.bind_some, Bool.not_true, cond_false]
  have e1 : ∀ {R : Type} {K : Ev → Option R}, ix ev (i : Int) K = K a := fun {R K} => ix_nat ha
  simp only [e1]
  rw [plain21]
  simp only [Option.bind_some]
  cases plainB a.2.2.1 with
  | false => rfl
  | true =>
    rw [ahead8 hok hk]
    simp only [Option.bind_some, Bool.not_true, cond_false, cond_true]
    have := rivals_loop k (C := Cl (ev, st, ())) hn hi ha ev.length 0 [] (by omega) (by simp) k (by omega)
    rw [show ((0 : Nat) : Int) = 0 from rfl, List.nil_append] at this
    rw [this]; rfl
theorem has11 (k : Nat) {l : List Int} (hl : l.length ≤ 60) (hk : 61 ≤ k) (x : Int) : f11 k l x = some ((decide (x ∈ l), ()), ()) := by
  have key : ∀ (q i : Nat), l.length - i = q → ∀ j, q < j → l11_26 k j l x i = cond (decide (x ∈ l.drop i)) (some (.inr ((true, ()), ()))) (some (.inl ((), ()))) := by
    intro q
    induction q with
    | zero =>
      intro i hi j hj
      obtain ⟨j, rfl, _⟩ := succ_of (n := 0) (by omega : 0 + 1 ≤ j)
      show b11_26 k (l11_26 k j) l x i = _
      unfold b11_26
      rw [decide_eq_false (by omega : ¬ (i : Int) < l.length), List.drop_of_length_le (by omega), decide_eq_false (by simp)]; rfl
    | succ q ih =>
      intro i hi j hj
      obtain ⟨j, rfl, hj2⟩ := succ_of (by omega : q + 1 + 1 ≤ j)
      have hlt : i < l.length := by omega
      show b11_26 k (l11_26 k j) l x i = _
      unfold b11_26
      rw [decide_eq_true (by omega : (i : Int) < l.length), cond_true, ix_nat (List.getElem?_eq_getElem hlt), w1 (by omega), ih (i + 1) (by omega) j hj2, i_eq, List.drop_eq_getElem_cons hlt]
      by_cases h1 : l[i] = x
      · rw [decide_eq_true h1, decide_eq_true (show x ∈ l[i] :: l.drop (i + 1) from List.mem_cons.2 (.inl h1.symm))]; rfl
      · rw [decide_eq_false h1]
        by_cases h2 : x ∈ l.drop (i + 1)
        · rw [decide_eq_true h2, decide_eq_true (List.mem_cons_of_mem _ h2)]; rfl
        · rw [decide_eq_false h2, decide_eq_false (fun h => by rcases List.mem_cons.1 h with h3 | h3; exact h1 h3.symm; exact h2 h3)]; rfl
  unfold f11
  have := key l.length 0 (by omega) k (by omega)
  rw [show ((0 : Nat) : Int) = 0 from rfl, List.drop_zero] at this
  rw [this]
  by_cases h : x ∈ l
  · rw [decide_eq_true h]; rfl
  · rw [decide_eq_false h]; rfl
theorem riv_symm {ev : List Ev} {C : Nat → Nat → Bool} {i j : Nat} {a b : Ev} (ha : ev[i]? = some a) (hb : ev[j]? = some b) (hp : plainB a.2.2.1 = true) (h : rivB ev C i j = true) : rivB ev C j i = true ∧ plainB b.2.2.1 = true := by
  unfold rivB at h ⊢
  rw [ha, hb] at h
  rw [ha, hb]
  simp only [Bool.and_eq_true, Bool.not_eq_true', decide_eq_false_iff_not, decide_eq_true_eq, Bool.or_eq_true] at h ⊢
  obtain ⟨h1, h2, h3, h4, h5, h6⟩ := h
  exact ⟨⟨hp, fun e => h2 e.symm, h3.symm, h4.symm, h6, h5⟩, h1⟩
theorem order_j (k : Nat) {ev : List Ev} {st : List Int} (hok : OK ev st) {i x : Nat} (hi : i < ev.length) (hx : x < ev.length) : ∀ (q t : Nat), ev.length - t = q → ∀ j, q < j → l3_8201874 k j (mat ev.length (Cl (ev, st, ()))) i x t = some (.inl ((), ())) := by
  have hn := hok.n
  intro q
  induction q with
  | zero =>
    intro t ht j hj
    obtain ⟨j, rfl, _⟩ := succ_of (n := 0) (by omega : 0 + 1 ≤ j)
    show b3_8201874 k (l3_8201874 k j) _ _ _ _ = _
    unfold b3_8201874
    rw [mat_len, decide_eq_false (by omega : ¬ (t : Int) < ev.length)]; rfl
  | succ q ih =>
    intro t ht j hj
    obtain ⟨j, rfl, hj2⟩ := succ_of (by omega : q + 1 + 1 ≤ j)
    have hlt : t < ev.length := by omega
    show b3_8201874 k (l3_8201874 k j) _ _ _ _ = _
    unfold b3_8201874
    have e1 : ∀ {R : Type} {K : Bool → Option R}, (ix (mat ev.length (Cl (ev, st, ()))) (i : Int) fun e => ix e (x : Int) K) = K (Cl (ev, st, ()) i x) := fun {R K} => mat_ix hi hx
    have e2 : ∀ {R : Type} {K : Bool → Option R}, (ix (mat ev.length (Cl (ev, st, ()))) (x : Int) fun e => ix e (t : Int) K) = K (Cl (ev, st, ()) x t) := fun {R K} => mat_ix hx hlt
    have e3 : ∀ {R : Type} {K : Bool → Option R}, (ix (mat ev.length (Cl (ev, st, ()))) (i : Int) fun e => ix e (t : Int) K) = K (Cl (ev, st, ()) i t) := fun {R K} => mat_ix hi hlt
    rw [mat_len, decide_eq_true (by omega : (t : Int) < ev.length), cond_true]
    simp only [e1, e2, e3]
    rw [w1 (by omega), ih (t + 1) (by omega) j hj2]
    cases h1 : Cl (ev, st, ()) i x with
    | false => rfl
    | true =>
      cases h2 : Cl (ev, st, ()) x t with
      | false => rfl
      | true => rw [cl_trans (s := (ev, st, ())) hi hx hlt h1 h2]; rfl
theorem order_k (k : Nat) (hk : 61 ≤ k) {ev : List Ev} {st : List Int} (hok : OK ev st) {i : Nat} (hi : i < ev.length) : ∀ (q t : Nat), ev.length - t = q → ∀ j, q < j → l3_128154 k j (mat ev.length (Cl (ev, st, ()))) i t = some (.inl ((), ())) := by
  have hn := hok.n
  intro q
  induction q with
  | zero =>
    intro t ht j hj
    obtain ⟨j, rfl, _⟩ := succ_of (n := 0) (by omega : 0 + 1 ≤ j)
    show b3_128154 k (l3_128154 k j) _ _ _ = _
    unfold b3_128154
    rw [mat_len, decide_eq_false (by omega : ¬ (t : Int) < ev.length)]; rfl
  | succ q ih =>
    intro t ht j hj
    obtain ⟨j, rfl, hj2⟩ := succ_of (by omega : q + 1 + 1 ≤ j)
    have hlt : t < ev.length := by omega
    show b3_128154 k (l3_128154 k j) _ _ _ = _
    unfold b3_128154
    have h := order_j k hok hi hlt ev.length 0 (by omega) k (by omega)
    rw [show ((0 : Nat) : Int) = 0 from rfl] at h
    rw [mat_len, decide_eq_true (by omega : (t : Int) < ev.length), cond_true, h, w1 (by omega), ih (t + 1) (by omega) j hj2]; rfl
theorem order_r (k : Nat) (hk : 61 ≤ k) {ev : List Ev} {st : List Int} (hok : OK ev st) {i : Nat} {a : Ev} (ha : ev[i]? = some a) {r : List Int} (hr : ∀ x ∈ r, ∃ y : Nat, x = (y : Int) ∧ y < ev.length ∧ rivB ev (Cl (ev, st, ())) i y = true ∧ plainB a.2.2.1 = true) (hl : r.length ≤ 40) : ∀ (q t : Nat), r.length - t = q → ∀ j, q < j →
    l3_64074 k j i r t ev st = some (.inl ((), ((ev, st, ()), ()))) := by
  have hn := hok.n
  intro q
  induction q with
  | zero =>
    intro t ht j hj
    obtain ⟨j, rfl, _⟩ := succ_of (n := 0) (by omega : 0 + 1 ≤ j)
    show b3_64074 k (l3_64074 k j) _ _ _ _ _ = _
    unfold b3_64074
    rw [decide_eq_false (by omega : ¬ (t : Int) < r.length)]; rfl
  | succ q ih =>
    intro t ht j hj
    obtain ⟨j, rfl, hj2⟩ := succ_of (by omega : q + 1 + 1 ≤ j)
    have hlt : t < r.length := by omega
    obtain ⟨y, hy, hyl, hyr, hpl⟩ := hr _ (List.getElem_mem hlt)
    have hb := List.getElem?_eq_getElem hyl
    obtain ⟨s1, s2⟩ := riv_symm ha hb hpl hyr
    show b3_64074 k (l3_64074 k j) _ _ _ _ _ = _
    unfold b3_64074
    have e1 : ∀ {R : Type} {K : Int → Option R}, ix r (t : Int) K = K r[t] := fun {R K} => ix_nat (List.getElem?_eq_getElem hlt)
    have hi : i < ev.length := by
      rcases Nat.lt_or_ge i ev.length with h' | h'
      · exact h'
      · rw [List.getElem?_eq_none h'] at ha; cases ha
    have hne : y ≠ i := fun e => by
      subst e
      unfold rivB at hyr
      rw [ha] at hyr
      simp at hyr
    rw [decide_eq_true (by omega : (t : Int) < r.length), cond_true]
    simp only [e1]
    rw [hy, i_eq, decide_eq_false (by omega), cond_false, rivals10 hok hk hb, s2]
    simp only [Option.bind_some, cond_true]
    rw [has11 k (by have := sel_len (p := rivB ev (Cl (ev, st, ())) y) ev.length 0; omega) hk, decide_eq_true ((sel_mem _ _).2 ⟨i, Nat.zero_le _, by omega, rfl, s1⟩)]
    simp only [Option.bind_some, Bool.not_true, cond_false]
    rw [w1 (by omega), ih (t + 1) (by omega) j hj2]; rfl
theorem order_i (k : Nat) (hk : 61 ≤ k) {ev : List Ev} {st : List Int} (hok : OK ev st) : ∀ (q t : Nat), ev.length - t = q → ∀ j, q < j → l3_250 k j (mat ev.length (Cl (ev, st, ()))) t ev st = some (.inl ((), ((ev, st, ()), ()))) := by
  have hn := hok.n
  intro q
  induction q with
  | zero =>
    intro t ht j hj
    obtain ⟨j, rfl, _⟩ := succ_of (n := 0) (by omega : 0 + 1 ≤ j)
    show b3_250 k (l3_250 k j) _ _ _ _ = _
    unfold b3_250
    rw [mat_len, decide_eq_false (by omega : ¬ (t : Int) < ev.length)]; rfl
  | succ q ih =>
    intro t ht j hj
    obtain ⟨j, rfl, hj2⟩ := succ_of (by omega : q + 1 + 1 ≤ j)
    have hlt : t < ev.length := by omega
    have ha := List.getElem?_eq_getElem hlt
    show b3_250 k (l3_250 k j) _ _ _ _ = _
    unfold b3_250
    rw [mat_len, decide_eq_true (by omega : (t : Int) < ev.length), cond_true, rivals10 hok hk ha]
    simp only [Option.bind_some]
    have h1 := order_r k hk hok ha (r := cond (plainB ev[t].2.2.1) (sel (rivB ev (Cl (ev, st, ())) t) ev.length 0) []) (fun x hx => by
      cases hp : plainB ev[t].2.2.1 with
      | false => rw [hp] at hx; cases hx
      | true =>
        rw [hp] at hx
        obtain ⟨y, _, h2, h3, h4⟩ := (sel_mem _ _).1 hx
        exact ⟨y, h3, by omega, h4, rfl⟩) (by
      cases plainB ev[t].2.2.1
      · exact Nat.zero_le _
      · have := sel_len (p := rivB ev (Cl (ev, st, ())) t) ev.length 0
        simp only [cond_true]; omega) _ 0 rfl k (by
      cases plainB ev[t].2.2.1
      · simp; omega
      · have := sel_len (p := rivB ev (Cl (ev, st, ())) t) ev.length 0
        simp only [cond_true]; omega)
    rw [show ((0 : Nat) : Int) = 0 from rfl] at h1
    rw [h1]
    simp only [Option.bind_some]
    have h2 := order_k k hk hok hlt ev.length 0 (by omega) k (by omega)
    rw [show ((0 : Nat) : Int) = 0 from rfl] at h2
    rw [h2]
    simp only [Option.bind_some]
    have e1 : ∀ {R : Type} {K : Bool → Option R}, (ix (mat ev.length (Cl (ev, st, ()))) (t : Int) fun e => ix e (t : Int) K) = K (Cl (ev, st, ()) t t) := fun {R K} => mat_ix hlt hlt
    rw [e1]
    have hirr : Cl (ev, st, ()) t t = false := by
      cases h : Cl (ev, st, ()) t t with
      | false => rfl
      | true => exact absurd (cl_lt hok hlt hlt h) (Nat.lt_irrefl _)
    rw [hirr, cond_false, w1 (by omega), ih (t + 1) (by omega) j hj2]; rfl
end Sh
open Sh
namespace Pure
theorem ShapeOrders (s : D_Shape) (hf : Fit T_Shape s) : ∃ k, f3 k s = some ((true, ()), ()) := by
  refine ⟨100, ?_⟩
  obtain ⟨ev, st, ⟨⟩⟩ := s
  unfold f3
  rw [awake7]
  by_cases h1 : (ev.length : Int) > 60
  · rw [decide_eq_true h1]; rfl
  by_cases h2 : (st.length : Int) > 60
  · rw [decide_eq_false h1, decide_eq_true h2]; rfl
  rw [decide_eq_false h1, decide_eq_false h2]
  simp only [cond_false]
  obtain ⟨x, hx, hxi⟩ := may6 100 (by omega) ev st
  rw [hx]
  cases x with
  | false => rfl
  | true =>
    have hok := hxi.1 rfl
    have hn := hok.n
    simp only [Option.bind_some, Bool.not_true, cond_false]
    rw [ahead8 hok (by omega)]
    simp only [Option.bind_some]
    rw [square9 100 hn (by omega)]
    simp only [Option.bind_some, Bool.not_true, cond_false]
    have h3 := order_i 100 (by omega) hok ev.length 0 (by omega) 100 (by omega)
    rw [show ((0 : Nat) : Int) = 0 from rfl] at h3
    rw [h3]
    simp only [Option.bind_some]
    rw [mat_len, i_eq, decide_eq_true rfl]; rfl
end Pure
end Go.Proofs.Ytnkjnbfaechiaaa.M
