/-
BintraceEncodes, plainly: a proof's bytes, and that they are decoded, and loaded. No condition.
-/
import Derived.Test.Yteciockojllonaaf5
import Derived.Test.YteciockojllonaaTake
import Derived.Test.YteciockojllonaaH5
namespace Go.Proofs.Yteciockojllonaa.Pure
set_option linter.unusedSimpArgs false
set_option linter.unusedVariables false
open Go.RowKit Go.Proofs.Yteciockojllonaa.G Go.Proofs.YteciockojllonaaW.PrintWords Go.Proofs.YteciockojllonaaW.PrintLast Go.Proofs.Yteciockojllonaa.Pre Go.Proofs.Yteciockojllonaa.Lit Go.Proofs.Yteciockojllonaa.Leb Go.Proofs.Yteciockojllonaa.Take

theorem awake_spec (k : Nat) (hk : 100 ≤ k) : fathomlaw05_awake.f k = some true := ev_at (fun k => fathomlaw05_awake.mono k) 100 (by decide +kernel) k hk

/-- How a slice of steps is read. -/
theorem steps_open : Read.Opens Try.prog 27 (Kd.slice 39 k39) (fun xs => xs.length ≤ maxLen ∧ ∀ x ∈ xs, (True ∧ x.f1.length ≤ maxLen ∧ ∀ y ∈ x.f1, (Lit.int .i64 y).wf = true)) :=
  Read.opens_slice Try.underlying27 (by kernel_rfl) (Read.opens_iso (Read.opens_struct Try.underlying39 (by kernel_rfl)
    (Read.opensF_cons rfl (Read.opens_bool Try.underlying4) (Read.opensF_one rfl (Read.opens_slice (d := Kd.int .i64) Try.underlying37 (by kernel_rfl) (Read.opens_int Try.underlying3))))) _ (fun a => ⟨⟨a.1, a.2⟩, rfl⟩))

theorem rd_step {xs : List S39} {i : Nat} (h : i < xs.length) : rd_T39 xs (i : Int) = xs[i] := by
  unfold rd_T39; rw [Int.toNat_natCast, List.getD_eq_getElem?_getD, List.getElem?_eq_getElem h]; rfl
theorem Ints_l0 (a : List Int) (ha : a.length ≤ 9223372036854775807) (n : Nat) : ∀ (k i : Nat), i + n = a.length → n < k → fathomref01_Ints.l0 k a a (i : Int) = some true := by
  induction n with
  | zero =>
    intro k i hi hk
    obtain ⟨k, rfl⟩ : ∃ q, k = q + 1 := ⟨k - 1, by omega⟩
    simp only [fathomref01_Ints.l0]; rw [if_neg (by omega)]
  | succ n ih =>
    intro k i hi hk
    obtain ⟨k, rfl⟩ : ∃ q, k = q + 1 := ⟨k - 1, by omega⟩
    simp only [fathomref01_Ints.l0]
    rw [if_pos (by omega), if_pos (by omega), if_pos (by omega), if_pos trivial, w64 (by omega) (by omega)]
    have := ih k (i + 1) (by omega) (by omega)
    exact_mod_cast this
theorem Same_l0 (a : List S39) (ha : a.length ≤ 9223372036854775807) (hr : ∀ x ∈ a, x.f1.length ≤ 9223372036854775807) (m : Nat) (hm : ∀ x ∈ a, x.f1.length < m) (n : Nat) : ∀ (k i : Nat), i + n = a.length → n + m < k → fathomref04_Same.l0 k a a (i : Int) = some true := by
  induction n with
  | zero =>
    intro k i hi hk
    obtain ⟨k, rfl⟩ : ∃ q, k = q + 1 := ⟨k - 1, by omega⟩
    simp only [fathomref04_Same.l0]; rw [if_neg (by omega)]
  | succ n ih =>
    intro k i hi hk
    obtain ⟨k, rfl⟩ : ∃ q, k = q + 1 := ⟨k - 1, by omega⟩
    have hlt : i < a.length := by omega
    have h1 := hr _ (List.getElem_mem hlt)
    have h2 := hm _ (List.getElem_mem hlt)
    simp only [fathomref04_Same.l0]
    rw [if_pos (by omega), if_pos (by omega), if_pos (by omega), rd_step hlt, if_neg (by simp)]
    have e : fathomref01_Ints.f k a[i].f1 a[i].f1 = some true := by
      unfold fathomref01_Ints.f; rw [if_pos rfl]
      exact Ints_l0 _ h1 a[i].f1.length k 0 (by omega) (by omega)
    rw [e]; simp only [Option.bind_some, if_true]
    rw [w64 (by omega) (by omega)]
    have := ih k (i + 1) (by omega) (by omega)
    exact_mod_cast this
theorem Same_self (a : List S39) (ha : a.length ≤ 9223372036854775807) (hr : ∀ x ∈ a, x.f1.length ≤ 9223372036854775807) (m : Nat) (hm : ∀ x ∈ a, x.f1.length < m) (k : Nat) (hk : a.length + m < k) : fathomref04_Same.f k a a = some true := by
  unfold fathomref04_Same.f; rw [if_pos rfl]
  exact Same_l0 a ha hr m hm a.length k 0 (by omega) (by omega)


abbrev St := S39
def tot (l : List St) : Nat := (l.map fun x => x.f1.length).sum
theorem tot_take {a : List St} {i : Nat} (h : i < a.length) : tot (a.take (i + 1)) = tot (a.take i) + a[i].f1.length := by
  unfold tot; rw [List.take_add_one, List.getElem?_eq_getElem h, Option.toList_some, List.map_append, List.sum_append]; simp

theorem Light_spec (a : List St) (la : a.length ≤ maxLen) (lx : ∀ x ∈ a, x.f1.length ≤ maxLen) (k : Nat) (hk : 1000 < k) :
    ∃ b, fathomlaw04_Light.f k a = some b ∧ (b = true → a.length ≤ 300 ∧ tot a ≤ 6000) := by
  unfold maxLen at la lx
  have fin : ∀ (i : Nat) (s : Int), (i = a.length ∨ 300 < a.length) → (a.length ≤ 300 → s = (tot (a.take i) : Nat)) → ∃ b, (if (a.length : Int) ≤ 300 then some (decide (s ≤ 6000)) else some false) = some b ∧ (b = true → a.length ≤ 300 ∧ tot a ≤ 6000) := by
    intro i s hi hs
    by_cases h4 : (a.length : Int) ≤ 300
    · rw [if_pos h4]
      refine ⟨_, rfl, fun hb => ⟨by omega, ?_⟩⟩
      have h5 := of_decide_eq_true hb
      have h6 := hs (by omega)
      have h7 : i = a.length := by omega
      rw [h7, List.take_length] at h6
      omega
    · rw [if_neg h4]; exact ⟨_, rfl, by simp⟩
  have go : ∀ (n k i : Nat) (s : Int), (i + n = a.length ∨ (i + n = 301 ∧ i ≤ a.length)) → i ≤ 301 → 2 * n + 4 < k → s = (tot (a.take i) : Nat) → s ≤ 5000 * i → (i ≤ a.length) →
      ∃ b, fathomlaw04_Light.l0 k a s (i : Int) = some b ∧ (b = true → a.length ≤ 300 ∧ tot a ≤ 6000) := by
    intro n
    induction n with
    | zero =>
      intro k i s hi h3 hk hs hs2 hle
      obtain ⟨k, rfl⟩ : ∃ q, k = q + 2 := ⟨k - 2, by omega⟩
      simp only [fathomlaw04_Light.l0, fathomlaw04_Light.j1]
      have hc : (if (i : Int) < (a.length : Int) then fathomlaw04_Light.j1 (k + 1) a s (i : Int) (decide ((i : Int) ≤ 300)) else fathomlaw04_Light.j1 (k + 1) a s (i : Int) false) = fathomlaw04_Light.j1 (k + 1) a s (i : Int) false := by
        split
        · rw [decide_eq_false (by omega)]
        · rfl
      simp only [fathomlaw04_Light.j1] at hc
      rw [hc, if_neg (by simp)]
      exact fin i s (by omega) (fun _ => hs)
    | succ n ih =>
      intro k i s hi h3 hk hs hs2 hle
      obtain ⟨k, rfl⟩ : ∃ q, k = q + 2 := ⟨k - 2, by omega⟩
      by_cases h5 : i < a.length
      · simp only [fathomlaw04_Light.l0, fathomlaw04_Light.j1]
        by_cases h6 : i ≤ 300
        · rw [if_pos (by omega), if_pos (decide_eq_true (by omega)), if_pos (by omega), if_pos (by omega), rd_step h5]
          by_cases h7 : (a[i].f1.length : Int) > 5000
          · rw [if_pos h7]; exact ⟨_, rfl, by simp⟩
          · rw [if_neg h7, w64 (x := (i : Int) + 1) (by omega) (by omega), w64 (x := s + (a[i].f1.length : Int)) (by omega) (by omega)]
            have ht := tot_take h5
            have := ih k (i + 1) (s + (a[i].f1.length : Int)) (by omega) (by omega) (by omega) (by omega) (by omega) (by omega)
            exact_mod_cast this
        · rw [if_pos (by omega), decide_eq_false (by omega), if_neg (by simp)]
          exact fin i s (by omega) (fun _ => hs)
      · simp only [fathomlaw04_Light.l0, fathomlaw04_Light.j1]
        rw [if_neg (by omega), if_neg (by simp)]
        exact fin i s (by omega) (fun _ => hs)
  unfold fathomlaw04_Light.f
  by_cases h : a.length ≤ 301
  · exact go a.length k 0 0 (by omega) (by omega) (by omega) (by simp [tot]) (by omega) (by omega)
  · exact go 301 k 0 0 (by omega) (by omega) (by omega) (by simp [tot]) (by omega) (by omega)

/-- Which proofs there may be. -/
def mayS (l : List St) : Bool := decide (l.length ≤ 262144) && l.all (fun x => mayC x.f1)

theorem Chk1 (x : St) (hx : x.f1.length ≤ 6000) (k : Nat) (hk : 7000 < k) : trace_Check_1.f k x.f0 x.f1 = some (!mayC x.f1) := by
  unfold trace_Check_1.f
  rw [Check_spec _ (by omega) _ (by omega)]
  cases mayC x.f1 <;> rfl
theorem index_spec (l : List St) (hl : l.length ≤ 300) (hx : ∀ x ∈ l, x.f1.length ≤ 6000) (n : Nat) : ∀ (i : Nat), i + n = l.length →
    ∃ r : Int, (∀ k, n + 8000 < k → api_Step_39_at_34.l0 k l (l.length : Int) (i : Int) = some r) ∧ (r ≥ 0 ↔ (l.drop i).all (fun x => mayC x.f1) = false) := by
  induction n with
  | zero =>
    intro i hi
    refine ⟨-1, fun k hk => ?_, ?_⟩
    · obtain ⟨k, rfl⟩ : ∃ q, k = q + 1 := ⟨k - 1, by omega⟩
      simp only [api_Step_39_at_34.l0]; rw [if_neg (by omega)]
    · rw [List.drop_eq_nil_of_le (by omega)]; simp
  | succ n ih =>
    intro i hi
    have h : i < l.length := by omega
    have h2 := hx _ (List.getElem_mem h)
    obtain ⟨r, h3, h4⟩ := ih (i + 1) (by omega)
    rw [List.drop_eq_getElem_cons h]
    have st : ∀ k, n + 1 + 8000 < k + 1 → api_Step_39_at_34.l0 (k + 1) l (l.length : Int) (i : Int) = if (!mayC l[i].f1) = true then some (i : Int) else api_Step_39_at_34.l0 k l (l.length : Int) (((i + 1 : Nat) : Int)) := by
      intro k hk
      simp only [api_Step_39_at_34.l0]
      rw [if_pos (by omega), if_pos (by omega), if_pos (by omega), rd_step h, Chk1 _ h2 _ (by omega), w64 (x := (i : Int) + 1) (by omega) (by omega)]
      rfl
    cases hm : mayC l[i].f1 with
    | false =>
      refine ⟨(i : Int), fun k hk => ?_, ?_⟩
      · obtain ⟨k, rfl⟩ : ∃ q, k = q + 1 := ⟨k - 1, by omega⟩
        rw [st k hk, hm]; simp
      · rw [List.all_cons, hm, Bool.false_and]; exact ⟨fun _ => rfl, fun _ => by omega⟩
    | true =>
      refine ⟨r, fun k hk => ?_, ?_⟩
      · obtain ⟨k, rfl⟩ : ∃ q, k = q + 1 := ⟨k - 1, by omega⟩
        rw [st k hk, hm]; simp only [Bool.not_true, Bool.false_eq_true, if_false]; exact h3 k (by omega)
      · rw [h4, List.all_cons, hm, Bool.true_and]
theorem CheckS_spec (l : List St) (hl : l.length ≤ 300) (hx : ∀ x ∈ l, x.f1.length ≤ 6000) (k : Nat) (hk : 9000 < k) : trace_Check.f k l = some (if mayS l = true then 0 else 1) := by
  unfold trace_Check.f api_Step_33_at_34.f api_Step_39_at_34.f
  obtain ⟨r, h3, h4⟩ := index_spec l hl hx l.length 0 (by omega)
  have h3' := h3 k (by omega)
  rw [if_neg (by omega)]
  have e : api_Step_39_at_34.l0 k l (l.length : Int) 0 = some r := by exact_mod_cast h3'
  rw [e]
  simp only [Option.bind_some, List.drop_zero] at h4 ⊢
  unfold mayS
  rw [decide_eq_true (show l.length ≤ 262144 by omega), Bool.true_and]
  by_cases h : r ≥ 0
  · rw [h4.1 h]; simp [h]
  · have : l.all (fun x => mayC x.f1) = true := by
      cases hh : l.all (fun x => mayC x.f1) with
      | true => rfl
      | false => exact absurd (h4.2 hh) h
    rw [this]; simp [h]

theorem May1_spec (l : List Int) (hl : l.length ≤ 6000) (n : Nat) : ∀ (k i : Nat), i + n = l.length → n < k → fathomref01_May.l0 k l (i : Int) = some ((l.drop i).all isLit && decide (l.length ≤ 4096)) := by
  induction n with
  | zero =>
    intro k i hi hk
    obtain ⟨k, rfl⟩ : ∃ q, k = q + 1 := ⟨k - 1, by omega⟩
    simp only [fathomref01_May.l0]; rw [if_neg (by omega), List.drop_eq_nil_of_le (by omega)]
    congr 1; simp only [List.all_nil, Bool.true_and]; exact decide_eq_decide.2 (by omega)
  | succ n ih =>
    intro k i hi hk
    obtain ⟨k, rfl⟩ : ∃ q, k = q + 1 := ⟨k - 1, by omega⟩
    have h : i < l.length := by omega
    simp only [fathomref01_May.l0]
    rw [if_pos (by omega), if_pos (by omega), rd_nat h, ref_lit, w64 (x := (i : Int) + 1) (by omega) (by omega), List.drop_eq_getElem_cons h]
    have := ih k (i + 1) (by omega) (by omega)
    simp only [Option.bind_some, List.all_cons]
    cases isLit l[i] with
    | true => simp only [if_true, Bool.true_and]; exact_mod_cast this
    | false => simp
theorem May_spec (l : List St) (hl : l.length ≤ 300) (hx : ∀ x ∈ l, x.f1.length ≤ 6000) (n : Nat) : ∀ (k i : Nat), i + n = l.length → n + 7000 < k → fathomref04_May.l0 k l (i : Int) = some ((l.drop i).all (fun x => mayC x.f1)) := by
  induction n with
  | zero =>
    intro k i hi hk
    obtain ⟨k, rfl⟩ : ∃ q, k = q + 1 := ⟨k - 1, by omega⟩
    simp only [fathomref04_May.l0]; rw [if_neg (by omega), List.drop_eq_nil_of_le (by omega), decide_eq_true (by omega)]; rfl
  | succ n ih =>
    intro k i hi hk
    obtain ⟨k, rfl⟩ : ∃ q, k = q + 1 := ⟨k - 1, by omega⟩
    have h : i < l.length := by omega
    have h2 := hx _ (List.getElem_mem h)
    have e : fathomref01_May.f k l[i].f1 = some (mayC l[i].f1) := by
      unfold fathomref01_May.f mayC
      have := May1_spec l[i].f1 h2 l[i].f1.length k 0 (by omega) (by omega)
      rw [List.drop_zero] at this
      rw [Bool.and_comm]; exact_mod_cast this
    simp only [fathomref04_May.l0]
    rw [if_pos (by omega), if_pos (by omega), rd_step h, e, w64 (x := (i : Int) + 1) (by omega) (by omega), List.drop_eq_getElem_cons h]
    have := ih k (i + 1) (by omega) (by omega)
    simp only [Option.bind_some, List.all_cons]
    cases mayC l[i].f1 with
    | true => simp only [if_true, Bool.true_and]; exact_mod_cast this
    | false => simp
theorem MayF_spec (l : List St) (hl : l.length ≤ 300) (hx : ∀ x ∈ l, x.f1.length ≤ 6000) (k : Nat) (hk : 9000 < k) : fathomref04_May.f k l = some (mayS l) := by
  unfold fathomref04_May.f mayS
  have := May_spec l hl hx l.length k 0 (by omega) (by omega)
  rw [List.drop_zero] at this
  rw [decide_eq_true (show l.length ≤ 262144 by omega), Bool.true_and]
  exact_mod_cast this

def litB (l : List Int) : List Int := l.flatMap (fun a => lebs (num a))
def encS (x : St) : List Int := (if x.f0 = true then 100 else 97) :: (litB x.f1 ++ [0])
def encB (l : List St) : List Int := l.flatMap encS
theorem lit_bd {a : Int} (h : isLit a = true) : (lebs (num a)).length ≤ 4 := by
  obtain ⟨h0, h1, h2⟩ := (isLit_iff a).1 h
  have := num_lt a h1 h2
  exact lebs_len 3 (num a) (by omega)
theorem litB_len (l : List Int) (h : l.all isLit = true) : (litB l).length ≤ 4 * l.length := by
  induction l with
  | nil => simp [litB]
  | cons a l ih =>
    rw [List.all_cons, Bool.and_eq_true] at h
    have h1 := lit_bd h.1
    have h2 := ih h.2
    simp only [litB, List.flatMap_cons, List.length_append, List.length_cons] at h2 ⊢
    omega
theorem mayC_all {l : List Int} (h : mayC l = true) : l.length ≤ 4096 ∧ l.all isLit = true := by
  unfold mayC at h; rw [Bool.and_eq_true] at h; exact ⟨of_decide_eq_true h.1, h.2⟩
theorem encB_len (l : List St) (h : l.all (fun x => mayC x.f1) = true) : (encB l).length ≤ 2 * l.length + 4 * tot l := by
  induction l with
  | nil => simp [encB, tot]
  | cons x l ih =>
    rw [List.all_cons, Bool.and_eq_true] at h
    have h1 := litB_len _ (mayC_all h.1).2
    have h2 := ih h.2
    simp only [encB, tot, List.flatMap_cons, List.length_append, encS, List.length_cons, List.map_cons, List.sum_cons, List.length_nil] at h2 ⊢
    omega
theorem litB_range (l : List Int) : ∀ y ∈ litB l, 0 ≤ y ∧ y ≤ 255 := by
  intro y hy
  unfold litB at hy
  rw [List.mem_flatMap] at hy
  obtain ⟨a, _, ha⟩ := hy
  exact lebs_range _ y ha
theorem encB_range (l : List St) : ∀ y ∈ encB l, 0 ≤ y ∧ y ≤ 255 := by
  intro y hy
  unfold encB at hy
  rw [List.mem_flatMap] at hy
  obtain ⟨x, _, hx⟩ := hy
  unfold encS at hx
  rw [List.mem_cons, List.mem_append] at hx
  rcases hx with rfl | hx | hx
  · split <;> omega
  · exact litB_range _ y hx
  · simp at hx; omega

def cost (l : List St) : Nat := 3 * l.length + tot l
theorem cost_cons (x : St) (l : List St) : cost (x :: l) = x.f1.length + 3 + cost l := by simp [cost, tot]; omega

theorem put_lit (a : Int) (h : isLit a = true) (k : Nat) (acc : List Int) (hk : 3000000 < k) (ha : acc.length < 4194304) : bintrace_put.f k acc (num a : Int) = some (acc ++ lebs (num a)) := by
  obtain ⟨h0, h1, h2⟩ := (isLit_iff _).1 h
  have hn := num_lt _ h1 h2
  exact put_f _ _ _ (Nat.lt_of_lt_of_le hn (by omega)) (by omega)
theorem number_lit (a : Int) (h : isLit a = true) : bintrace_number.f a = some (num a : Int) := by
  obtain ⟨h0, h1, h2⟩ := (isLit_iff _).1 h
  exact number_spec _ h1 h2
theorem enc_l1 (L : List St) (N : Int) (p : Int) (q : List Int) (hq : q.length ≤ 6000) (hm : q.all isLit = true) (n : Nat) : ∀ (k i : Nat) (acc : List Int), i + n = q.length → 3000000 < k → acc.length + 4 * n + 10 < 4194304 →
    bintrace_Encode.l1 (k + n + 1) acc L N p q (q.length : Int) (i : Int) = bintrace_Encode.l0 k (acc ++ litB (q.drop i) ++ [0]) L N (wrap64 (p + 1)) := by
  induction n with
  | zero =>
    intro k i acc hi hk ha
    simp only [bintrace_Encode.l1, Nat.add_zero]
    rw [if_neg (by omega), if_pos (by omega), List.drop_eq_nil_of_le (by omega)]
    simp only [Option.bind_some]
    rw [if_neg (by rw [List.length_append, List.length_singleton]; omega)]
    unfold litB; rw [List.flatMap_nil, List.append_nil]
  | succ n ih =>
    intro k i acc hi hk ha
    have h : i < q.length := by omega
    have hl : isLit q[i] = true := List.all_eq_true.1 hm _ (List.getElem_mem h)
    have hb := lit_bd hl
    have hw : Aside0 (wrap64 ((i : Int) + 1) = ((i + 1 : Nat) : Int)) := ⟨w64 (x := (i : Int) + 1) (by omega) (by omega)⟩
    have := ih k (i + 1) (acc ++ lebs (num q[i])) (by omega) hk (by rw [List.length_append]; omega)
    rw [List.drop_eq_getElem_cons h, show litB (q[i] :: q.drop (i + 1)) = lebs (num q[i]) ++ litB (q.drop (i + 1)) from by unfold litB; rw [List.flatMap_cons], ← List.append_assoc, ← this]
    rw [show k + (n + 1) + 1 = (k + n + 1) + 1 from by omega]
    conv => lhs; rw [bintrace_Encode.l1]
    rw [if_pos (by omega), if_pos (by omega), if_pos (by omega), rd_nat h, number_lit _ hl]
    simp only [Option.bind_some]
    rw [put_lit _ hl _ _ (by omega) (by omega), hw.out]
    simp only [Option.bind_some]
theorem enc_l0 (L : List St) (hL : L.length ≤ 300) (hx : ∀ x ∈ L, x.f1.length ≤ 6000 ∧ mayC x.f1 = true) (n : Nat) : ∀ (k i : Nat) (acc : List Int), i + n = L.length → 3000000 < k → acc.length + 2 * n + 4 * tot (L.drop i) + 20 < 4194304 →
    bintrace_Encode.l0 (k + cost (L.drop i) + 1) acc L (L.length : Int) (i : Int) = some (acc ++ encB (L.drop i), 0) := by
  induction n with
  | zero =>
    intro k i acc hi hk ha
    simp only [bintrace_Encode.l0]
    rw [if_neg (by omega), List.drop_eq_nil_of_le (by omega)]; simp [encB]
  | succ n ih =>
    intro k i acc hi hk ha
    have h : i < L.length := by omega
    obtain ⟨h1, h2⟩ := hx _ (List.getElem_mem h)
    rw [List.drop_eq_getElem_cons h] at ha ⊢
    rw [cost_cons]
    have e : tot (L[i] :: L.drop (i + 1)) = L[i].f1.length + tot (L.drop (i + 1)) := by unfold tot; rw [List.map_cons, List.sum_cons]
    rw [e] at ha
    rw [show k + (L[i].f1.length + 3 + cost (L.drop (i + 1))) + 1 = ((k + cost (L.drop (i + 1)) + 1) + L[i].f1.length + 1) + 2 from by omega]
    generalize hK : k + cost (L.drop (i + 1)) + 1 = K
    have hK2 : 3000000 < K := by omega
    have key : ∀ c : Int, bintrace_Encode.j1 (K + L[i].f1.length + 1 + 1) (acc ++ [c]) L (L.length : Int) (i : Int) L[i].f0 L[i].f1 = some (acc ++ (c :: (litB L[i].f1 ++ [0])) ++ encB (L.drop (i + 1)), 0) := by
      intro c
      rw [bintrace_Encode.j1]
      have h3 := enc_l1 L (L.length : Int) (i : Int) L[i].f1 h1 (mayC_all h2).2 L[i].f1.length K 0 (acc ++ [c]) (by omega) hK2 (by simp; omega)
      have h3' : bintrace_Encode.l1 (K + L[i].f1.length + 1) (acc ++ [c]) L (L.length : Int) (i : Int) L[i].f1 (L[i].f1.length : Int) 0 = bintrace_Encode.l0 K (acc ++ [c] ++ litB L[i].f1 ++ [0]) L (L.length : Int) (wrap64 ((i : Int) + 1)) := by
        rw [List.drop_zero] at h3; exact_mod_cast h3
      rw [h3', w64 (x := (i : Int) + 1) (by omega) (by omega), ← hK]
      have hlb := litB_len _ (mayC_all h2).2
      have h4 := ih k (i + 1) (acc ++ [c] ++ litB L[i].f1 ++ [0]) (by omega) hk (by simp; omega)
      have h4' : bintrace_Encode.l0 (k + cost (L.drop (i + 1)) + 1) (acc ++ [c] ++ litB L[i].f1 ++ [0]) L (L.length : Int) ((i : Int) + 1) = some (acc ++ [c] ++ litB L[i].f1 ++ [0] ++ encB (L.drop (i + 1)), 0) := by exact_mod_cast h4
      rw [h4']; simp
    rw [bintrace_Encode.l0]
    rw [if_pos (by omega), if_pos (by omega), if_pos (by omega), rd_step h]
    simp only [encB, List.flatMap_cons, encS] at key ⊢
    cases hf : L[i].f0 with
    | true => rw [if_pos rfl, if_pos (by omega)]; rw [← hf, key 100]; simp [hf]
    | false => rw [if_neg (by simp), if_pos (by omega)]; rw [← hf, key 97]; simp [hf]

theorem renc_l1 (L : List St) (p : Nat) (hp : p < L.length) (hm : L[p].f1.all isLit = true) (hq : L[p].f1.length ≤ 6000) (hL : L.length ≤ 300) (n : Nat) : ∀ (k i : Nat) (acc : List Int), i + n = L[p].f1.length → 3000000 < k → acc.length + 4 * n + 10 < 4194304 →
    fathomref05_Encode.l1 (k + n + 1) L acc (p : Int) (i : Int) = fathomref05_Encode.l0 k L (acc ++ litB (L[p].f1.drop i) ++ [0]) (wrap64 ((p : Int) + 1)) := by
  induction n with
  | zero =>
    intro k i acc hi hk ha
    simp only [fathomref05_Encode.l1, Nat.add_zero]
    rw [if_pos (by omega), if_pos (by omega), rd_step hp, if_neg (by omega), if_pos (by omega), List.drop_eq_nil_of_le (by omega)]; simp [litB]
  | succ n ih =>
    intro k i acc hi hk ha
    have h : i < L[p].f1.length := by omega
    have hl : isLit L[p].f1[i] = true := List.all_eq_true.1 hm _ (List.getElem_mem h)
    obtain ⟨h0, h1, h2⟩ := (isLit_iff _).1 hl
    have hb := lit_bd hl
    rw [show k + (n + 1) + 1 = (k + n + 1) + 1 from by omega]
    rw [fathomref05_Encode.l1]
    rw [if_pos (by omega), if_pos (by omega), rd_step hp, if_pos (by omega), if_pos (by omega), rd_nat h, Literal_spec _ h1 h2 _ (by omega)]
    simp only [Option.bind_some]
    rw [if_pos (by omega), w64 (x := (i : Int) + 1) (by omega) (by omega)]
    have := ih k (i + 1) (acc ++ lebs (num L[p].f1[i])) (by omega) hk (by rw [List.length_append]; omega)
    rw [List.drop_eq_getElem_cons h]
    simp only [litB, List.flatMap_cons] at this ⊢
    rw [List.append_assoc acc] at this
    exact_mod_cast this
theorem renc_l0 (L : List St) (hL : L.length ≤ 300) (hx : ∀ x ∈ L, x.f1.length ≤ 6000 ∧ mayC x.f1 = true) (n : Nat) : ∀ (k i : Nat) (acc : List Int), i + n = L.length → 3000000 < k → acc.length + 2 * n + 4 * tot (L.drop i) + 20 < 4194304 →
    fathomref05_Encode.l0 (k + cost (L.drop i) + 1) L acc (i : Int) = some (acc ++ encB (L.drop i)) := by
  induction n with
  | zero =>
    intro k i acc hi hk ha
    simp only [fathomref05_Encode.l0]
    rw [if_neg (by omega), List.drop_eq_nil_of_le (by omega)]; simp [encB]
  | succ n ih =>
    intro k i acc hi hk ha
    have h : i < L.length := by omega
    obtain ⟨h1, h2⟩ := hx _ (List.getElem_mem h)
    rw [List.drop_eq_getElem_cons h] at ha ⊢
    rw [cost_cons]
    have e : tot (L[i] :: L.drop (i + 1)) = L[i].f1.length + tot (L.drop (i + 1)) := by unfold tot; rw [List.map_cons, List.sum_cons]
    rw [e] at ha
    rw [show k + (L[i].f1.length + 3 + cost (L.drop (i + 1))) + 1 = ((k + cost (L.drop (i + 1)) + 1) + L[i].f1.length + 1) + 2 from by omega]
    generalize hK : k + cost (L.drop (i + 1)) + 1 = K
    have hK2 : 3000000 < K := by omega
    have key : ∀ c : Int, fathomref05_Encode.j1 (K + L[i].f1.length + 1 + 1) L (acc ++ [c]) (i : Int) = some (acc ++ (c :: (litB L[i].f1 ++ [0])) ++ encB (L.drop (i + 1))) := by
      intro c
      rw [fathomref05_Encode.j1]
      have h3 := renc_l1 L i h (mayC_all h2).2 h1 hL L[i].f1.length K 0 (acc ++ [c]) (by omega) hK2 (by simp; omega)
      have h3' : fathomref05_Encode.l1 (K + L[i].f1.length + 1) L (acc ++ [c]) (i : Int) 0 = fathomref05_Encode.l0 K L (acc ++ [c] ++ litB L[i].f1 ++ [0]) (wrap64 ((i : Int) + 1)) := by
        rw [List.drop_zero] at h3; exact_mod_cast h3
      rw [h3', w64 (x := (i : Int) + 1) (by omega) (by omega), ← hK]
      have hlb := litB_len _ (mayC_all h2).2
      have h4 := ih k (i + 1) (acc ++ [c] ++ litB L[i].f1 ++ [0]) (by omega) hk (by simp; omega)
      have h4' : fathomref05_Encode.l0 (k + cost (L.drop (i + 1)) + 1) L (acc ++ [c] ++ litB L[i].f1 ++ [0]) ((i : Int) + 1) = some (acc ++ [c] ++ litB L[i].f1 ++ [0] ++ encB (L.drop (i + 1))) := by exact_mod_cast h4
      rw [h4']; simp
    rw [fathomref05_Encode.l0]
    rw [if_pos (by omega), if_pos (by omega), rd_step h]
    simp only [encB, List.flatMap_cons, encS] at key ⊢
    cases hf : L[i].f0 with
    | true => rw [if_pos rfl, if_pos (by omega), key 100]; simp
    | false => rw [if_neg (by simp), if_pos (by omega), key 97]; simp

theorem lebs_head (n : Nat) (hn : n ≠ 0) : ∃ c t, lebs n = c :: t ∧ c ≠ 0 := by
  by_cases h : n < 128
  · exact ⟨(n : Int), [], lebs_small h, by omega⟩
  · exact ⟨_, _, lebs_big h, by omega⟩
theorem at_drop {l : List Int} {p : Nat} {c : Int} {t : List Int} (h : l.drop p = c :: t) : p < l.length ∧ rd l (p : Int) = c ∧ l.drop (p + 1) = t := by
  have hlt : p < l.length := by
    apply Classical.byContradiction; intro hn
    rw [List.drop_eq_nil_of_le (by omega)] at h; cases h
  rw [List.drop_eq_getElem_cons hlt] at h
  injection h with h1 h2
  exact ⟨hlt, by rw [rd_nat hlt, h1], h2⟩

theorem dec_l0 (l : List Int) (hb : ∀ x ∈ l, 0 ≤ x ∧ x ≤ 255) (hl : l.length ≤ 100000) (del : Bool) (q : List Int) : ∀ (p : Nat) (acc rest : List Int), l.drop p = litB q ++ 0 :: rest → q.all isLit = true → acc.length + q.length ≤ 4096 →
    ∀ k, 2 * q.length + 100 < k → bintrace_step.l0 k l (p : Int) del acc = some (del, acc ++ q, ((p + (litB q).length + 1 : Nat) : Int), 0) := by
  induction q with
  | nil =>
    intro p acc rest hd _ _ k hk
    obtain ⟨k, rfl⟩ : ∃ m, k = m + 2 := ⟨k - 2, by omega⟩
    have hd' : l.drop p = 0 :: rest := by rw [hd]; rfl
    obtain ⟨hlt, h0, _⟩ := at_drop hd'
    have hw : Aside0 (wrap64 ((p : Int) + 1) = ((p + 1 : Nat) : Int)) := ⟨w64 (x := (p : Int) + 1) (by omega) (by omega)⟩
    simp only [bintrace_step.l0, bintrace_step.j2]
    rw [if_pos (by omega), if_pos (by omega), h0, if_neg (by decide), if_neg (by omega), hw.out]
    simp [litB]
  | cons a q ih =>
    intro p acc rest hd ha hc k hk
    obtain ⟨k, rfl⟩ : ∃ m, k = m + 2 := ⟨k - 2, by omega⟩
    rw [List.all_cons, Bool.and_eq_true] at ha
    have e : litB (a :: q) = lebs (num a) ++ litB q := by unfold litB; rw [List.flatMap_cons]
    rw [e, List.append_assoc] at hd
    obtain ⟨h0, h1, h2⟩ := (isLit_iff a).1 ha.1
    have hn0 : num a ≠ 0 := by unfold num; split <;> omega
    obtain ⟨c, t, e1, e2⟩ := lebs_head (num a) hn0
    have hd1 : l.drop p = c :: (t ++ (litB q ++ 0 :: rest)) := by rw [hd, e1]; rfl
    obtain ⟨hlt, h3, _⟩ := at_drop hd1
    have hbd := lit_bd ha.1
    have hlen : l.length - p = (lebs (num a)).length + (litB q ++ 0 :: rest).length := by rw [← List.length_append, ← hd, List.length_drop]
    have ht := take_leb a ha.1 (litB q ++ 0 :: rest) (fun y hy => hb y (List.mem_of_mem_drop (by rw [hd, List.mem_append]; exact .inr hy))) (by omega) k (by simp at hk; omega)
    have hw : Aside0 (wrap64 ((p : Int) + ((lebs (num a)).length : Int)) = ((p + (lebs (num a)).length : Nat) : Int)) := ⟨w64 (x := (p : Int) + ((lebs (num a)).length : Int)) (by omega) (by omega)⟩
    have hi := ih (p + (lebs (num a)).length) (acc ++ [a]) rest (by rw [← List.drop_drop, hd, List.drop_left]) ha.2 (by simp at hc ⊢; omega) k (by simp at hk; omega)
    simp only [bintrace_step.l0, bintrace_step.j2]
    simp only [List.length_cons] at hc
    rw [if_pos (by omega), if_pos (by omega), h3, if_pos (bne_iff_ne.2 e2), if_pos (by omega), if_pos (by omega), Int.toNat_natCast, hd, ht]
    simp only [Option.bind_some]
    rw [if_pos trivial, if_neg (by omega), if_pos (by omega), hw.out, hi, e]
    simp only [List.append_assoc, List.singleton_append, List.length_append]
    congr 4; omega

theorem decode_l0 (l : List Int) (hb : ∀ x ∈ l, 0 ≤ x ∧ x ≤ 255) (hl : l.length ≤ 100000) (R : List St) : ∀ (p : Nat) (L : List St), l.drop p = encB R → R.all (fun x => mayC x.f1) = true → L.length + R.length ≤ 300 →
    ∀ k, 20000 + 20 * R.length < k → bintrace_Decode.l0 k l L (p : Int) = some (L ++ R, 0, 0) := by
  induction R with
  | nil =>
    intro p L hd _ _ k hk
    obtain ⟨k, rfl⟩ : ∃ m, k = m + 1 := ⟨k - 1, by omega⟩
    have hd' : l.drop p = [] := by rw [hd]; rfl
    have := List.drop_eq_nil_iff.1 hd'
    simp only [bintrace_Decode.l0]
    rw [if_neg (by omega), List.append_nil]
  | cons x R ih =>
    intro p L hd ha hc k hk
    obtain ⟨k, rfl⟩ : ∃ m, k = m + 3 := ⟨k - 3, by omega⟩
    rw [List.all_cons, Bool.and_eq_true] at ha
    simp only [List.length_cons] at hc hk
    obtain ⟨m1, m2⟩ := mayC_all ha.1
    have e : encB (x :: R) = (if x.f0 = true then 100 else 97) :: (litB x.f1 ++ 0 :: encB R) := by
      unfold encB; rw [List.flatMap_cons]; unfold encS; simp
    rw [e] at hd
    obtain ⟨hlt, h3, h4⟩ := at_drop hd
    have hlen : l.length - (p + 1) = (litB x.f1).length + (1 + (encB R).length) := by rw [← List.length_drop, h4]; simp; omega
    have hw : Aside0 (wrap64 ((p : Int) + 1) = ((p + 1 : Nat) : Int)) := ⟨w64 (x := (p : Int) + 1) (by omega) (by omega)⟩
    have hs := dec_l0 l hb hl x.f0 x.f1 (p + 1) [] (encB R) h4 m2 (by simp; omega) k (by omega)
    have hi := ih (p + 1 + (litB x.f1).length + 1) (L ++ [x]) (by
      rw [show p + 1 + (litB x.f1).length + 1 = (p + 1) + ((litB x.f1).length + 1) from by omega, ← List.drop_drop, h4, ← List.drop_drop, List.drop_left]; rfl) ha.2 (by simp; omega) (k + 1) (by omega)
    have hst : bintrace_step.f (k + 1) l (p : Int) = some (x.f0, x.f1, ((p + 1 + (litB x.f1).length + 1 : Nat) : Int), 0) := by
      unfold bintrace_step.f
      rw [if_pos (by omega), if_pos (by omega), h3]
      cases hf : x.f0 with
      | true =>
        rw [hf] at hs
        rw [if_pos rfl, if_pos rfl]
        simp only [bintrace_step.j0]
        rw [if_neg (by simp), hw.out]; simpa using hs
      | false =>
        rw [hf] at hs
        rw [if_neg (by simp), if_neg (by decide)]
        simp only [bintrace_step.j0]
        rw [if_neg (by decide), hw.out]; simpa using hs
    simp only [bintrace_Decode.l0, bintrace_Decode.j1]
    rw [if_pos (by omega), if_neg (by omega), if_neg (by simp), hst]
    simp only [Option.bind_some]
    rw [if_pos trivial, if_pos (by omega)]
    rw [List.append_assoc] at hi
    exact hi

theorem mem_tot : ∀ (l : List St) (x : St), x ∈ l → x.f1.length ≤ tot l
  | [], x, h => by cases h
  | y :: l, x, h => by
    rw [List.mem_cons] at h
    have e : tot (y :: l) = y.f1.length + tot l := by unfold tot; rw [List.map_cons, List.sum_cons]
    rcases h with rfl | h
    · omega
    · have := mem_tot l x h; omega
theorem bin_true (t : List Int) (k : Nat) (hk : 2 < k) : bintrace_Binary.f k (97 :: t) = some true := by
  obtain ⟨k, rfl⟩ : ∃ m, k = m + 1 := ⟨k - 1, by omega⟩
  unfold bintrace_Binary.f
  have hm : 1 ≤ mn 10 ((97 :: t).length : Int) ∧ mn 10 ((97 :: t).length : Int) ≤ ((97 :: t).length : Int) := by
    have hL : ((97 :: t).length : Int) = (t.length : Int) + 1 := by simp
    unfold mn; split <;> omega
  generalize mn 10 ((97 :: t).length : Int) = n at hm
  rw [if_pos (by omega), if_pos hm.2]
  obtain ⟨j, hj⟩ : ∃ j, n.toNat = j + 1 := ⟨n.toNat - 1, by omega⟩
  rw [hj, List.take_succ_cons]
  have h0 : rd (97 :: List.take j t) 0 = 97 := rfl
  have hi : strings_IndexByte.f (⟨#[32, 9, 10, 13, 45, 48, 49, 50, 51, 52, 53, 54, 55, 56, 57, 100]⟩ : ByteArray) 97 = some (-1) := by decide +kernel
  simp only [bintrace_Binary.l0]
  rw [if_pos (by simp <;> omega), if_pos (by omega), if_pos (by simp <;> omega), h0, hi]
  rfl
theorem bin_nil (k : Nat) (hk : 2 < k) : bintrace_Binary.f k [] = some false := by
  obtain ⟨k, rfl⟩ : ∃ m, k = m + 1 := ⟨k - 1, by omega⟩
  rfl

theorem BintraceEncodes (l : List St) (fl : l.length ≤ maxLen ∧ ∀ x ∈ l, (True ∧ x.f1.length ≤ maxLen ∧ ∀ y ∈ x.f1, (Lit.int .i64 y).wf = true)) : ∃ k, fathomlaw05_BintraceEncodes.f k l = some true := by
  obtain ⟨K, hK⟩ : ∃ K : Nat, K = 3500000 := ⟨_, rfl⟩
  refine ⟨K, ?_⟩
  unfold fathomlaw05_BintraceEncodes.f
  obtain ⟨t, ht, tl⟩ := Light_spec l fl.1 (fun x hx => (fl.2 x hx).2.1) K (by omega)
  rw [ht]
  simp only [Option.bind_some]
  cases t with
  | false => rw [if_neg (by simp), awake_spec _ (by omega)]; rfl
  | true =>
    obtain ⟨l1, l2⟩ := tl rfl
    have hx : ∀ x ∈ l, x.f1.length ≤ 6000 := fun x hx => by
      have : x.f1.length ≤ tot l := mem_tot l x hx
      omega
    rw [if_pos rfl, MayF_spec l l1 hx _ (by omega), awake_spec _ (by omega)]
    unfold bintrace_Encode.f
    rw [CheckS_spec l l1 hx _ (by omega)]
    cases hm : mayS l with
    | false => simp
    | true =>
      have hall : l.all (fun x => mayC x.f1) = true := by unfold mayS at hm; rw [Bool.and_eq_true] at hm; exact hm.2
      have hx2 : ∀ x ∈ l, x.f1.length ≤ 6000 ∧ mayC x.f1 = true := fun x h => ⟨hx x h, List.all_eq_true.1 hall x h⟩
      have hcost : cost l ≤ 6900 := by unfold cost; omega
      obtain ⟨k1, hk1⟩ : ∃ k1, K = k1 + cost l + 1 := ⟨K - cost l - 1, by omega⟩
      have e1 : bintrace_Encode.l0 K [] l (l.length : Int) 0 = some (encB l, 0) := by
        have := enc_l0 l l1 hx2 l.length k1 0 [] (by omega) (by omega) (by simp; omega)
        rw [List.drop_zero, List.nil_append, ← hk1] at this
        exact_mod_cast this
      have e2 : fathomref05_Encode.f K l = some (encB l) := by
        unfold fathomref05_Encode.f
        have := renc_l0 l l1 hx2 l.length k1 0 [] (by omega) (by omega) (by simp; omega)
        rw [List.drop_zero, List.nil_append, ← hk1] at this
        exact_mod_cast this
      simp only [Option.bind_some, if_true]
      rw [e1]
      simp only [Option.bind_some, if_true]
      rw [e2]
      simp only [Option.bind_some]
      have hne : ((strOfNums (encB l)).toList != (strOfNums (encB l)).toList) = false := by simp
      rw [hne]
      have hlen := encB_len l hall
      have hdec : ∀ k, 30000 < k → bintrace_Decode.f k (encB l) = some (l, 0, 0) := fun k hk => by
        unfold bintrace_Decode.f
        rw [if_neg (by omega)]
        have := decode_l0 (encB l) (encB_range l) (by omega) l 0 [] (by rw [List.drop_zero]) hall (by simp; omega) k (by omega)
        rw [List.nil_append] at this
        exact_mod_cast this
      have hsame : ∀ k, 10000 < k → fathomref04_Same.f k l l = some true := fun k hk =>
        Same_self l (by omega) (fun x h => by have := hx x h; omega) 6001 (fun x h => by have := hx x h; omega) _ (by omega)
      obtain ⟨k2, hk2⟩ : ∃ k2, K = k2 + 3 := ⟨K - 3, by omega⟩
      rw [hk2]
      simp only [fathomlaw05_BintraceEncodes.j0]
      rw [if_neg (by simp), hdec _ (by omega)]
      simp only [Option.bind_some, if_true]
      rw [hsame _ (by omega)]
      simp only [Option.bind_some, Bool.not_true, fathomlaw05_BintraceEncodes.j1]
      rw [if_neg (by simp)]
      have hload : (∀ x t, l = x :: t → x.f0 = false) → bintrace_Load.f k2 (encB l) = some (l, 0, 0) := by
        intro hf
        unfold bintrace_Load.f
        cases l with
        | nil =>
          rw [show encB [] = [] from rfl, bin_nil _ (by omega)]
          simp only [Option.bind_some]
          rw [if_neg (by simp)]
          rfl
        | cons x t =>
          have h97 : ∃ u, encB (x :: t) = 97 :: u := by
            refine ⟨litB x.f1 ++ [0] ++ encB t, ?_⟩
            unfold encB; rw [List.flatMap_cons]; unfold encS; rw [hf x t rfl]; simp
          obtain ⟨u, hu⟩ := h97
          have hd := hdec k2 (by omega)
          rw [hu] at hd ⊢
          rw [bin_true _ _ (by omega)]
          simp only [Option.bind_some, if_true]
          rw [hd]; rfl
      have j2f : (∀ x t, l = x :: t → x.f0 = false) → fathomlaw05_BintraceEncodes.j2 (k2 + 1) l (encB l) false = some true := by
        intro hf
        simp only [fathomlaw05_BintraceEncodes.j2]
        rw [if_neg (by simp), hload hf]
        simp only [Option.bind_some, if_true]
        rw [hsame _ (by omega), awake_spec _ (by omega)]; rfl
      have j2t : fathomlaw05_BintraceEncodes.j2 (k2 + 1) l (encB l) true = some true := by
        simp only [fathomlaw05_BintraceEncodes.j2]
        rw [if_pos trivial, awake_spec _ (by omega)]; rfl
      by_cases h0 : (l.length : Int) > 0
      · rw [if_pos h0, if_pos (by omega)]
        have hr : rd_T39 l 0 = l[0]'(by omega) := rd_step (i := 0) (by omega)
        rw [hr]
        cases hf : (l[0]'(by omega)).f0 with
        | true => exact j2t
        | false =>
          apply j2f
          intro x t e
          subst e
          simpa using hf
      · rw [if_neg h0]
        apply j2f
        intro x t e
        subst e
        simp at h0

end Go.Proofs.Yteciockojllonaa.Pure
