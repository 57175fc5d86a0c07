/-
TraceCounts, plainly: what the program counts and compares is what the reference counts and compares. No condition.
-/
import Derived.Test.Ytldpgnkenkkgkaaf5
import Derived.Test.YtldpgnkenkkgkaaRef
import Derived.Test.YtldpgnkenkkgkaaPre
namespace Go.Proofs.Ytldpgnkenkkgkaa.Pure
set_option linter.unusedSimpArgs false
set_option linter.unusedVariables false
open Go.RowKit Go.Proofs.Ytldpgnkenkkgkaa.G Go.Proofs.YtldpgnkenkkgkaaW.PrintWords Go.Proofs.YtldpgnkenkkgkaaW.PrintLast Go.Proofs.Ytldpgnkenkkgkaa.Pre Go.Proofs.Ytldpgnkenkkgkaa.Ref

/-- How a slice of steps is read. -/
theorem steps_open : Read.Opens Try.prog 24 (Kd.slice 35 k35) (fun xs => xs.length ≤ maxLen ∧ ∀ x ∈ xs, (True ∧ x.f1.length ≤ maxLen ∧ ∀ y ∈ x.f1, (Lit.int .i64 y).wf = true)) :=
  Read.opens_slice Try.underlying24 (by kernel_rfl) (Read.opens_iso (Read.opens_struct Try.underlying35 (by kernel_rfl)
    (Read.opensF_cons rfl (Read.opens_bool Try.underlying4) (Read.opensF_one rfl (Read.opens_slice (d := Kd.int .i64) Try.underlying33 (by kernel_rfl) (Read.opens_int Try.underlying3))))) _ (fun a => ⟨⟨a.1, a.2⟩, rfl⟩))

deriving instance DecidableEq for S35
def eqF (x y : S35) : Bool := x.f0 == y.f0 && decide (x.f1 = y.f1)

theorem ints_go (f : Nat → Int → Option Bool) (a b : List Int) (hab : a.length = b.length)
    (hf : ∀ k (i : Nat), f (k + 1) i = if i < a.length then (if rd a i = rd b i then f k ((i + 1 : Nat) : Int) else some false) else some true) (n : Nat) :
    ∀ (k i : Nat), i + n = a.length → n < k → f k i = some (decide (a.drop i = b.drop i)) := by
  induction n with
  | zero =>
    intro k i hi hk
    obtain ⟨k, rfl⟩ : ∃ q, k = q + 1 := ⟨k - 1, by omega⟩
    rw [hf, if_neg (by omega), List.drop_eq_nil_of_le (by omega), List.drop_eq_nil_of_le (by omega)]; rfl
  | succ n ih =>
    intro k i hi hk
    obtain ⟨k, rfl⟩ : ∃ q, k = q + 1 := ⟨k - 1, by omega⟩
    have h1 : i < a.length := by omega
    have h2 : i < b.length := by omega
    rw [hf, if_pos h1, rd_nat h1, rd_nat h2, ih k (i + 1) (by omega) (by omega), List.drop_eq_getElem_cons h1, List.drop_eq_getElem_cons h2]
    by_cases e : a[i] = b[i]
    · rw [if_pos e, e]; congr 1; simp only [List.cons.injEq, true_and]
    · rw [if_neg e]; congr 1; symm; apply decide_eq_false; simp only [List.cons.injEq]; intro h; exact e h.1

theorem Ints_spec (a b : List Int) (ha : a.length ≤ maxLen) (hb : b.length ≤ maxLen) (k : Nat) (hk : a.length < k) : fathomref01_Ints.f k a b = some (decide (a = b)) := by
  unfold maxLen at ha hb
  unfold fathomref01_Ints.f
  by_cases h : a.length = b.length
  · rw [if_pos (by omega)]
    have := ints_go (fun k i => fathomref01_Ints.l0 k a b i) a b h (fun k i => by
      simp only [fathomref01_Ints.l0]
      by_cases hi : i < a.length
      · rw [if_pos (by omega), if_pos (by omega), if_pos (by omega), if_pos hi, w64 (by omega) (by omega)]; rfl
      · rw [if_neg (by omega), if_neg hi]) a.length k 0 (by omega) hk
    simpa using this
  · rw [if_neg (by omega), decide_eq_false]; intro e; exact h (by rw [e])
theorem Equal_spec (a b : List Int) (ha : a.length ≤ maxLen) (hb : b.length ≤ maxLen) (k : Nat) (hk : a.length < k) : slices_Equal_int_int.f k a b = some (decide (a = b)) := by
  unfold maxLen at ha hb
  unfold slices_Equal_int_int.f
  by_cases h : a.length = b.length
  · rw [if_pos (by omega)]
    have := ints_go (fun k i => slices_Equal_int_int.l0 k a b (a.length : Int) i) a b h (fun k i => by
      simp only [slices_Equal_int_int.l0]
      by_cases hi : i < a.length
      · rw [if_pos (by omega), if_pos (by omega), if_pos (by omega), if_pos (by omega), if_pos hi, w64 (by omega) (by omega)]; rfl
      · rw [if_neg (by omega), if_neg hi]) a.length k 0 (by omega) hk
    simpa using this
  · rw [if_neg (by omega), decide_eq_false]; intro e; exact h (by rw [e])

theorem steps_go (f : Nat → Int → Option Bool) (a b : List S35) (hab : a.length = b.length) (m : Nat)
    (hf : ∀ k (i : Nat) (h1 : i < a.length) (h2 : i < b.length), m < k → f (k + 1) i = if eqF a[i] b[i] = true then f k ((i + 1 : Nat) : Int) else some false)
    (he : ∀ k (i : Nat), a.length ≤ i → f (k + 1) i = some true) (n : Nat) :
    ∀ (k i : Nat), i + n = a.length → n + m + 1 < k → f k i = some (decide (a.drop i = b.drop i)) := by
  induction n with
  | zero =>
    intro k i hi hk
    obtain ⟨k, rfl⟩ : ∃ q, k = q + 1 := ⟨k - 1, by omega⟩
    rw [he _ _ (by omega), List.drop_eq_nil_of_le (by omega), List.drop_eq_nil_of_le (by omega)]; rfl
  | succ n ih =>
    intro k i hi hk
    obtain ⟨k, rfl⟩ : ∃ q, k = q + 1 := ⟨k - 1, by omega⟩
    have h1 : i < a.length := by omega
    have h2 : i < b.length := by omega
    rw [hf k i h1 h2 (by omega), ih k (i + 1) (by omega) (by omega), List.drop_eq_getElem_cons h1, List.drop_eq_getElem_cons h2]
    generalize a[i] = x, b[i] = y
    obtain ⟨x0, x1⟩ := x
    obtain ⟨y0, y1⟩ := y
    unfold eqF
    by_cases e : (S35.mk x0 x1) = ⟨y0, y1⟩
    · cases e; rw [if_pos (by simp)]; congr 1; simp only [List.cons.injEq, true_and]
    · have : ¬ ((x0 == y0 && decide (x1 = y1)) = true) := fun h => e (by simp at h; rw [h.1, h.2])
      rw [if_neg this]; congr 1; symm; apply decide_eq_false; simp only [List.cons.injEq]; intro h; exact e h.1

def Fits (a : List S35) : Prop := a.length ≤ maxLen ∧ ∀ x ∈ a, x.f1.length ≤ maxLen

theorem SameP_spec (a b : List S35) (ha : Fits a) (hb : Fits b) (m : Nat) (hm : ∀ x ∈ a, x.f1.length < m) (k : Nat) (hk : a.length + m + 10 < k) : trace_Same.f k a b = some (decide (a = b)) := by
  unfold trace_Same.f api_Step_20_at_21.f
  have la := ha.1; have lb := hb.1
  unfold maxLen at la lb
  by_cases h : a.length = b.length
  · rw [if_pos (by omega)]
    have := steps_go (fun k i => api_Step_20_at_21.l0 k b a (a.length : Int) i) a b h m (fun k i h1 h2 hk => by
      simp only [api_Step_20_at_21.l0]
      rw [if_pos (by omega), if_pos (by omega), if_pos (by omega), if_pos (by omega), rd_step h1, rd_step h2, w64 (by omega) (by omega)]
      have x1 := ha.2 _ (List.getElem_mem h1)
      have x2 := hb.2 _ (List.getElem_mem h2)
      have x3 := hm _ (List.getElem_mem h1)
      have e : trace_Same_1.f k a[i].f0 a[i].f1 b[i].f0 b[i].f1 = some (eqF a[i] b[i]) := by
        unfold trace_Same_1.f eqF
        cases h : a[i].f0 == b[i].f0 with
        | true => rw [if_pos rfl, Equal_spec _ _ x1 x2 _ (by omega)]; simp
        | false => rw [if_neg (by simp)]; simp
      rw [e]; rfl) (fun k i h => by simp only [api_Step_20_at_21.l0]; rw [if_neg (by omega)]) a.length k 0 (by omega) (by omega)
    have this' : api_Step_20_at_21.l0 k b a (a.length : Int) 0 = some (decide (a = b)) := by simpa using this
    rw [this']; rfl
  · rw [if_neg (by omega), decide_eq_false]
    · rfl
    · intro e; exact h (by rw [e])
theorem SameR_spec (a b : List S35) (ha : Fits a) (hb : Fits b) (m : Nat) (hm : ∀ x ∈ a, x.f1.length < m) (k : Nat) (hk : a.length + m + 10 < k) : fathomref04_Same.f k a b = some (decide (a = b)) := by
  unfold fathomref04_Same.f
  have la := ha.1; have lb := hb.1
  unfold maxLen at la lb
  by_cases h : a.length = b.length
  · rw [if_pos (by omega)]
    have := steps_go (fun k i => fathomref04_Same.l0 k a b i) a b h m (fun k i h1 h2 hk => by
      simp only [fathomref04_Same.l0]
      rw [if_pos (by omega), if_pos (by omega), if_pos (by omega), rd_step h1, rd_step h2, w64 (by omega) (by omega)]
      have x1 := ha.2 _ (List.getElem_mem h1)
      have x2 := hb.2 _ (List.getElem_mem h2)
      have x3 := hm _ (List.getElem_mem h1)
      rw [Ints_spec _ _ x1 x2 _ (by omega)]
      unfold eqF
      cases h : a[i].f0 == b[i].f0 with
      | true =>
        have : (a[i].f0 != b[i].f0) = false := by rw [bne, h]; rfl
        rw [this, if_neg (by simp)]; simp
      | false =>
        have : (a[i].f0 != b[i].f0) = true := by rw [bne, h]; rfl
        rw [this, if_pos rfl]; simp) (fun k i h => by simp only [fathomref04_Same.l0]; rw [if_neg (by omega)]) a.length k 0 (by omega) (by omega)
    simpa using this
  · rw [if_neg (by omega), decide_eq_false]; intro e; exact h (by rw [e])

theorem counts (a : List S35) (la : a.length ≤ maxLen) (n : Nat) : ∀ (i : Nat) (p q : Int), i + n = a.length →
    ∃ u v, (∀ k, n < k → trace_Count.l0 k p q a (a.length : Int) (i : Int) = some (u, v)) ∧ ∀ j, n < j → ∀ b, fathomlaw04_TraceCounts.l0 j a b p q (i : Int) =
      fathomlaw04_TraceCounts.l0 (j - n) a b u v (a.length : Int) := by
  unfold maxLen at la
  induction n with
  | zero =>
    intro i p q hi
    refine ⟨p, q, fun k hk => ?_, fun j hj b => ?_⟩
    · obtain ⟨k, rfl⟩ : ∃ q, k = q + 1 := ⟨k - 1, by omega⟩
      simp only [trace_Count.l0]; rw [if_neg (by omega)]
    · rw [show (i : Int) = (a.length : Int) from by omega]; rfl
  | succ n ih =>
    intro i p q hi
    have h1 : i < a.length := by omega
    have e1 : wrap64 ((i : Int) + 1) = ((i + 1 : Nat) : Int) := by rw [w64 (by omega) (by omega)]; rfl
    obtain ⟨u, v, hu, hv⟩ := ih (i + 1) (if (rd_T35 a (i : Int)).f0 = true then p else wrap64 (p + 1)) (if (rd_T35 a (i : Int)).f0 = true then wrap64 (q + 1) else q) (by omega)
    refine ⟨u, v, fun k hk => ?_, fun j hj b => ?_⟩
    · obtain ⟨k, rfl⟩ : ∃ q, k = q + 1 := ⟨k - 1, by omega⟩
      rw [← hu k (by omega)]
      simp only [trace_Count.l0]
      rw [if_pos (by omega), if_pos (by omega), if_pos (by omega), e1]
      cases h : (rd_T35 a (i : Int)).f0 <;> simp
    · obtain ⟨j, rfl⟩ : ∃ q, j = q + 1 := ⟨j - 1, by omega⟩
      rw [show j + 1 - (n + 1) = j - n from by omega, ← hv j (by omega)]
      conv => lhs; simp only [fathomlaw04_TraceCounts.l0]
      rw [if_pos (by omega), if_pos (by omega), e1]
      cases h : (rd_T35 a (i : Int)).f0 <;> simp

theorem Light_spec (a : List S35) (la : a.length ≤ maxLen) (lx : ∀ x ∈ a, x.f1.length ≤ maxLen) (k : Nat) (hk : 1000 < k) :
    ∃ b, fathomlaw04_Light.f k a = some b ∧ (b = true → a.length ≤ 300 ∧ ∀ x ∈ a, x.f1.length ≤ 5000) := by
  unfold maxLen at la lx
  have go : ∀ (n k i : Nat) (s : Int), i + n = a.length ∨ (i + n = 301 ∧ i ≤ a.length) → i ≤ 301 → 2 * n + 4 < k → (∀ j (h : j < a.length), j < i → a[j].f1.length ≤ 5000) →
      ∃ b, fathomlaw04_Light.l0 k a s (i : Int) = some b ∧ (b = true → a.length ≤ 300 ∧ ∀ x ∈ a, x.f1.length ≤ 5000) := by
    intro n
    induction n with
    | zero =>
      intro k i s hi h3 hk hall
      obtain ⟨k, rfl⟩ : ∃ q, k = q + 2 := ⟨k - 2, by omega⟩
      simp only [fathomlaw04_Light.l0, fathomlaw04_Light.j1]
      have hc : (if (i : Int) < (a.length : Int) then fathomlaw04_Light.j1 (k + 1) a s (i : Int) (decide ((i : Int) ≤ 300)) else fathomlaw04_Light.j1 (k + 1) a s (i : Int) false) = fathomlaw04_Light.j1 (k + 1) a s (i : Int) false := by
        split
        · rw [decide_eq_false (by omega)]
        · rfl
      simp only [fathomlaw04_Light.j1] at hc
      rw [hc, if_neg (by simp)]
      by_cases h4 : (a.length : Int) ≤ 300
      · rw [if_pos h4]
        refine ⟨_, rfl, fun _ => ⟨by omega, fun x hx => ?_⟩⟩
        obtain ⟨j, hj, rfl⟩ := List.getElem_of_mem hx
        exact hall j hj (by omega)
      · rw [if_neg h4]; exact ⟨_, rfl, by simp⟩
    | succ n ih =>
      intro k i s hi h3 hk hall
      obtain ⟨k, rfl⟩ : ∃ q, k = q + 2 := ⟨k - 2, by omega⟩
      by_cases h5 : i < a.length
      · simp only [fathomlaw04_Light.l0, fathomlaw04_Light.j1]
        by_cases h6 : i ≤ 300
        · rw [if_pos (by omega), if_pos (decide_eq_true (by omega)), if_pos (by omega), if_pos (by omega), rd_step h5]
          by_cases h7 : (a[i].f1.length : Int) > 5000
          · rw [if_pos h7]; exact ⟨_, rfl, by simp⟩
          · rw [if_neg h7, w64 (x := (i : Int) + 1) (by omega) (by omega)]
            have := ih k (i + 1) (wrap64 (s + (a[i].f1.length : Int))) (by omega) (by omega) (by omega) (fun j hj hji => by
              by_cases e : j = i
              · subst e; omega
              · exact hall j hj (by omega))
            exact_mod_cast this
        · rw [if_pos (by omega), decide_eq_false (by omega), if_neg (by simp), if_neg (by omega)]; exact ⟨_, rfl, by simp⟩
      · simp only [fathomlaw04_Light.l0, fathomlaw04_Light.j1]
        rw [if_neg (by omega), if_neg (by simp)]
        by_cases h4 : (a.length : Int) ≤ 300
        · rw [if_pos h4]
          refine ⟨_, rfl, fun _ => ⟨by omega, fun x hx => ?_⟩⟩
          obtain ⟨j, hj, rfl⟩ := List.getElem_of_mem hx
          exact hall j hj (by omega)
        · rw [if_neg h4]; exact ⟨_, rfl, by simp⟩
  unfold fathomlaw04_Light.f
  by_cases h : a.length ≤ 301
  · exact go a.length k 0 0 (by omega) (by omega) (by omega) (by omega)
  · exact go 301 k 0 0 (by omega) (by omega) (by omega) (by omega)

theorem TraceCounts (a : List S35) (fa : a.length ≤ maxLen ∧ ∀ x ∈ a, (True ∧ x.f1.length ≤ maxLen ∧ ∀ y ∈ x.f1, (Lit.int .i64 y).wf = true)) (b : List S35) (fb : b.length ≤ maxLen ∧ ∀ x ∈ b, (True ∧ x.f1.length ≤ maxLen ∧ ∀ y ∈ x.f1, (Lit.int .i64 y).wf = true)) :
    ∃ k, fathomlaw04_TraceCounts.f k a b = some true := by
  have ha : Fits a := ⟨fa.1, fun x hx => (fa.2 x hx).2.1⟩
  have hb : Fits b := ⟨fb.1, fun x hx => (fb.2 x hx).2.1⟩
  refine ⟨100000, ?_⟩
  have aw : fathomlaw04_awake.f = some true := by decide +kernel
  have j0 : ∀ k, fathomlaw04_TraceCounts.j0 (k + 1) a b true = some true := fun k => by simp only [fathomlaw04_TraceCounts.j0, if_true, aw]; rfl
  unfold fathomlaw04_TraceCounts.f
  obtain ⟨t, ht, tl⟩ := Light_spec a ha.1 ha.2 100000 (by omega)
  obtain ⟨u, hu, _⟩ := Light_spec b hb.1 hb.2 100000 (by omega)
  rw [ht, hu]
  simp only [Option.bind_some]
  cases t with
  | false => rw [if_neg (by simp)]; exact j0 99999
  | true =>
    rw [if_pos rfl]
    cases u with
    | false => exact j0 99999
    | true =>
      obtain ⟨l1, l2⟩ := tl rfl
      show fathomlaw04_TraceCounts.j0 100000 a b false = some true
      simp only [fathomlaw04_TraceCounts.j0]
      rw [if_neg (by simp)]
      obtain ⟨p, q, h1, h2⟩ := counts a ha.1 a.length 0 0 0 (by omega)
      have h3 := h2 99999 (by omega) b
      obtain ⟨j, hj⟩ : ∃ j, 99999 - a.length = j + 1 := ⟨99999 - a.length - 1, by omega⟩
      have h4 : fathomlaw04_TraceCounts.l0 99999 a b 0 0 0 = fathomlaw04_TraceCounts.l0 (j + 1) a b p q (a.length : Int) := by rw [hj] at h3; simpa using h3
      rw [h4]
      simp only [fathomlaw04_TraceCounts.l0]
      rw [if_neg (by omega)]
      have h5 : trace_Count.f j a = some (p, q) := by
        unfold trace_Count.f
        simpa using h1 j (by omega)
      rw [h5]
      simp only [Option.bind_some, if_true]
      rw [SameP_spec a b ha hb 5001 (fun x hx => by have := l2 x hx; omega) j (by omega), SameR_spec a b ha hb 5001 (fun x hx => by have := l2 x hx; omega) j (by omega), SameP_spec a a ha ha 5001 (fun x hx => by have := l2 x hx; omega) j (by omega)]
      simp [aw]

end Go.Proofs.Ytldpgnkenkkgkaa.Pure
