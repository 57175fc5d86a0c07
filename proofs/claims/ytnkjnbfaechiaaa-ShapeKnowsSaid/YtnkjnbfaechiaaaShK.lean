/-
Shapes: what is known ahead of all runs.
-/
import Derived.Test.YtnkjnbfaechiaaaShO
set_option linter.unusedVariables false
set_option linter.unusedSimpArgs false
set_option maxRecDepth 100000
namespace Go.Proofs.Ytnkjnbfaechiaaa.M
open Go Go.Proofs.Ytnkjnbfaechiaaa.Vm Go.Proofs.Ytnkjnbfaechiaaa.Pl
namespace Sh
theorem Path.last {Z : Nat → Nat → Bool} {q : Nat} {a b : Nat} (h : Path Z q a b) : ∃ y, Z y b = true ∧ (y = a ∨ Path Z q a y) := by
  induction h with
  | edge a b h => exact ⟨a, h, .inl rfl⟩
  | via a v b hv h1 _ _ ih =>
    obtain ⟨y, h3, h4 | h4⟩ := ih
    · subst h4; exact ⟨y, h3, .inr h1⟩
    · exact ⟨y, h3, .inr (.via _ v _ hv h1 h4)⟩
def St (ev : List Ev) (st : List Int) (j : Nat) : Int := sSt (ev, st, ()) (sPn (ev, st, ()) j)
theorem st_lt {ev : List Ev} {st : List Int} (hok : OK ev st) {j : Nat} (hj : j < ev.length) (h0 : 0 ≤ St ev st j) : (St ev st j).toNat < j := by
  refine ed_lt hok hj ?_
  unfold sEd
  simp only [Bool.or_eq_true, beq_iff_eq]
  exact .inr (Int.toNat_of_nonneg h0).symm
theorem path_other {ev : List Ev} {st : List Int} (hok : OK ev st) {i : Nat} (hi : i < ev.length) : ∀ (d j : Nat), j ≤ d → (hj : j < ev.length) → Path (sEd (ev, st, ())) ev.length i j → ev[i].1 ≠ ev[j].1 → 0 ≤ St ev st j ∧ ((St ev st j).toNat = i ∨ Path (sEd (ev, st, ())) ev.length i (St ev st j).toNat) := by
  intro d
  induction d with
  | zero =>
    intro j hjd hj h hne
    have := path_lt hok h hj; omega
  | succ d ih =>
    intro j hjd hj h hne
    obtain ⟨y, hy, hyp⟩ := h.last
    have hylt := ed_lt hok hj hy
    have hyn : y < ev.length := by omega
    unfold sEd at hy
    simp only [Bool.or_eq_true, Bool.and_eq_true, decide_eq_true_eq, beq_iff_eq] at hy
    rcases hy with ⟨hp, _⟩ | hy
    · -- the same goroutine
      rw [sPn_of hyn, sPn_of hj] at hp
      have p1 := (hok.evs y _ (List.getElem?_eq_getElem hyn)).p0
      have p2 := (hok.evs j _ (List.getElem?_eq_getElem hj)).p0
      have hpp : ev[y].1 = ev[j].1 := by omega
      have hne' : ev[i].1 ≠ ev[y].1 := by rw [hpp]; exact hne
      have hst : St ev st y = St ev st j := by unfold St; rw [sPn_of hyn, sPn_of hj, hpp]
      rcases hyp with rfl | hyp
      · exact absurd rfl hne'
      · have := ih y (by omega) hyn hyp hne'
        rw [hst] at this; exact this
    · have e : St ev st j = (y : Int) := hy
      rw [e]
      refine ⟨by omega, ?_⟩
      rw [show ((y : Int)).toNat = y from by omega]
      exact hyp
theorem ahead15 {ev : List Ev} {st : List Int} (hok : OK ev st) {i : Nat} (hi : i < ev.length) : ∀ (k j : Nat), j < k → (hj : j < ev.length) → f15 k (ev, st, ()) i j = some ((Cl (ev, st, ()) i j, ()), ()) := by
  intro k
  induction k with
  | zero => intro j h; omega
  | succ k ih =>
    intro j hjk hj
    have hn := hok.n
    rw [f15_succ]
    unfold b15
    have e1 : ∀ {R : Type} {K : Ev → Option R}, ix ev (i : Int) K = K ev[i] := fun {R K} => ix_nat (List.getElem?_eq_getElem hi)
    have e2 : ∀ {R : Type} {K : Ev → Option R}, ix ev (j : Int) K = K ev[j] := fun {R K} => ix_nat (List.getElem?_eq_getElem hj)
    obtain ⟨g1, g2, g3⟩ := st_get hok hj
    have e3 : ∀ {R : Type} {K : Int → Option R}, ix st ev[j].1 K = K (St ev st j) := fun {R K} => ix_get g2 g1
    simp only [e1, e2, e3]
    rw [i_eq, i_eq]
    by_cases hp : ev[i].1 = ev[j].1
    · rw [decide_eq_true hp, cond_true]
      have : Cl (ev, st, ()) i j = decide (i < j) := by
        by_cases hlt : i < j
        · rw [decide_eq_true hlt]
          refine (cl_path (s := (ev, st, ())) hi hj).2 (.edge _ _ ?_)
          unfold sEd
          rw [sPn_of hi, sPn_of hj, hp, decide_eq_true hlt]; simp
        · rw [decide_eq_false hlt]
          cases h : Cl (ev, st, ()) i j with
          | false => rfl
          | true => exact absurd (cl_lt hok hi hj h) hlt
      rw [this]
      by_cases hlt : i < j
      · rw [decide_eq_true hlt, decide_eq_true (by omega : (i : Int) < j)]
      · rw [decide_eq_false hlt, decide_eq_false (by omega : ¬ (i : Int) < j)]
    · rw [decide_eq_false hp, cond_false]
      by_cases h0 : St ev st j ≥ 0
      · rw [decide_eq_true h0, cond_true]
        have hlt := st_lt hok hj h0
        have hed : sEd (ev, st, ()) (St ev st j).toNat j = true := by
          unfold sEd
          simp only [Bool.or_eq_true, beq_iff_eq]
          exact .inr (Int.toNat_of_nonneg h0).symm
        by_cases hs : St ev st j = (i : Int)
        · rw [decide_eq_true hs, cond_true]
          have : Cl (ev, st, ()) i j = true := (cl_path (s := (ev, st, ())) hi hj).2 (.edge _ _ (by rw [hs, show ((i : Int)).toNat = i from by omega] at hed; exact hed))
          rw [this]
        · rw [decide_eq_false hs, cond_false]
          have hrec := ih (St ev st j).toNat (by omega) (by omega)
          rw [show (((St ev st j).toNat : Nat) : Int) = St ev st j from Int.toNat_of_nonneg h0] at hrec
          rw [hrec]
          have : Cl (ev, st, ()) i j = Cl (ev, st, ()) i (St ev st j).toNat := by
            have hsn : (St ev st j).toNat < ev.length := by omega
            rw [Bool.eq_iff_iff, cl_path (s := (ev, st, ())) hi hj, cl_path (s := (ev, st, ())) hi hsn]
            constructor
            · intro h
              rcases (path_other hok hi j j (Nat.le_refl _) hj h hp).2 with h1 | h1
              · exact absurd (by omega) hs
              · exact h1
            · intro h
              exact .via _ _ _ hsn h (.edge _ _ hed)
          rw [this]; rfl
      · rw [decide_eq_false h0, cond_false]
        have : Cl (ev, st, ()) i j = false := by
          cases h : Cl (ev, st, ()) i j with
          | false => rfl
          | true => exact absurd (path_other hok hi j j (Nat.le_refl _) hj ((cl_path (s := (ev, st, ())) hi hj).1 h) hp).1 h0
        rw [this]
/-! ### what may be read from -/
def feedsB (w r : Int) : Bool := cond (decide (r = 1)) (decide (w = 2)) (cond (decide (r = 3) || (decide (r = 5) || decide (r = 6))) (decide (w = 4) || (decide (w = 5) || decide (w = 6))) (cond (decide (r = 10)) (decide (w = 9)) false))
theorem feeds26 (k : Nat) (w r : Int) : f26 k w r = some ((feedsB w r, ()), ()) := by
  unfold f26 feedsB l26_214
  simp only [i_eq]
  cases decide (r = 1) <;> cases decide (r = 3) <;> cases decide (r = 5) <;> cases decide (r = 6) <;> cases decide (r = 10) <;> cases decide (w = 4) <;> cases decide (w = 5) <;> rfl
theorem feeds27 (k : Nat) (w r : Int) : f27 k w r = some ((feedsB w r, ()), ()) := by
  unfold f27 feedsB
  simp only [i_eq]
  by_cases h1 : r = 1
  · rw [decide_eq_true h1]; rfl
  · rw [decide_eq_false h1]
    by_cases h10 : r = 10
    · subst h10; rfl
    · rw [decide_eq_false h10]
      cases decide (r = 3) <;> cases decide (r = 5) <;> cases decide (r = 6) <;> cases decide (w = 4) <;> cases decide (w = 5) <;> rfl
def srcB (ev : List Ev) (C : Nat → Nat → Bool) (i j : Nat) : Bool := match ev[i]?, ev[j]? with
  | some a, some b => !decide (i = j) && (decide (a.2.2.2.1 = b.2.2.2.1) && (feedsB b.2.2.1 a.2.2.1 && !C i j))
  | _, _ => false
theorem source16 {ev : List Ev} {st : List Int} (hok : OK ev st) {k : Nat} (hk : 61 ≤ k) {i j : Nat} (hi : i < ev.length) (hj : j < ev.length) : f16 k (ev, st, ()) i j = some ((srcB ev (Cl (ev, st, ())) i j, ()), ()) := by
  have hn := hok.n
  unfold f16 srcB
  have e1 : ∀ {R : Type} {K : Ev → Option R}, ix ev (i : Int) K = K ev[i] := fun {R K} => ix_nat (List.getElem?_eq_getElem hi)
  have e2 : ∀ {R : Type} {K : Ev → Option R}, ix ev (j : Int) K = K ev[j] := fun {R K} => ix_nat (List.getElem?_eq_getElem hj)
  simp only [e1, e2]
  rw [List.getElem?_eq_getElem hi, List.getElem?_eq_getElem hj, i_ne, i_eq, feeds27, ahead15 hok hi k j (by omega) hj]
  simp only [Option.bind_some]
  have e3 : decide ((i : Int) ≠ (j : Int)) = !decide (i = j) := by
    by_cases h : i = j
    · subst h; simp
    · rw [decide_eq_false h, decide_eq_true (by omega)]; rfl
  rw [e3]
  cases decide (i = j) <;> cases decide (ev[i].2.2.2.1 = ev[j].2.2.2.1) <;> cases feedsB ev[j].2.2.1 ev[i].2.2.1 <;> rfl
def rvlB (ev : List Ev) (C : Nat → Nat → Bool) (i j : Nat) : Bool := match ev[i]? with
  | some a => plainB a.2.2.1 && rivB ev C i j
  | none => false
theorem plain_le {ev : List Ev} {st : List Int} (hok : OK ev st) {i : Nat} (hi : i < ev.length) : decide (ev[i].2.2.1 ≤ 2) = plainB ev[i].2.2.1 := by
  have h := (hok.evs i _ (List.getElem?_eq_getElem hi)).k1
  unfold plainB
  by_cases h1 : ev[i].2.2.1 = 1
  · rw [decide_eq_true h1, decide_eq_true (by omega)]; rfl
  · rw [decide_eq_false h1]
    by_cases h2 : ev[i].2.2.1 = 2
    · rw [decide_eq_true h2, decide_eq_true (by omega)]; rfl
    · rw [decide_eq_false h2, decide_eq_false (by omega)]; rfl
theorem rival17 {ev : List Ev} {st : List Int} (hok : OK ev st) {k : Nat} (hk : 61 ≤ k) {i j : Nat} (hi : i < ev.length) (hj : j < ev.length) : f17 k (ev, st, ()) i j = some ((rvlB ev (Cl (ev, st, ())) i j, ()), ()) := by
  have hn := hok.n
  unfold f17 rvlB rivB
  have e1 : ∀ {R : Type} {K : Ev → Option R}, ix ev (i : Int) K = K ev[i] := fun {R K} => ix_nat (List.getElem?_eq_getElem hi)
  have e2 : ∀ {R : Type} {K : Ev → Option R}, ix ev (j : Int) K = K ev[j] := fun {R K} => ix_nat (List.getElem?_eq_getElem hj)
  simp only [e1, e2]
  rw [List.getElem?_eq_getElem hi, List.getElem?_eq_getElem hj, i_ne, i_eq, i_eq, i_eq, ahead15 hok hi k j (by omega) hj, ahead15 hok hj k i (by omega) hi]
  simp only [Option.bind_some]
  rw [plain_le hok hi, plain_le hok hj]
  have e3 : decide (ev[i].1 ≠ ev[j].1) = !decide (ev[j].1 = ev[i].1) := by
    by_cases h : ev[i].1 = ev[j].1
    · rw [decide_eq_false (by simpa using h), decide_eq_true h.symm]; rfl
    · rw [decide_eq_true h, decide_eq_false (fun h' => h h'.symm)]; rfl
  have e4 : decide (ev[i].2.2.2.1 = ev[j].2.2.2.1) = decide (ev[j].2.2.2.1 = ev[i].2.2.2.1) := by
    by_cases h : ev[i].2.2.2.1 = ev[j].2.2.2.1
    · rw [decide_eq_true h, decide_eq_true h.symm]
    · rw [decide_eq_false h, decide_eq_false (fun h' => h h'.symm)]
  rw [e3, e4]
  cases plainB ev[i].2.2.1 <;> cases plainB ev[j].2.2.1 <;> cases decide (ev[j].1 = ev[i].1) <;> cases decide (ev[j].2.2.2.1 = ev[i].2.2.2.1) <;> cases decide (ev[i].2.2.1 = 2) <;> cases decide (ev[j].2.2.1 = 2) <;> cases Cl (ev, st, ()) i j <;> cases Cl (ev, st, ()) j i <;> rfl
theorem sources_loop (k : Nat) {ev : List Ev} {st : List Int} {C : Nat → Nat → Bool} (hn : ev.length ≤ 40) {i : Nat} (hi : i < ev.length) : ∀ (q t : Nat) (acc : List Int), ev.length - t = q → acc.length ≤ t → ∀ j, q < j →
    l14_250 k j i acc (mat ev.length C) ev (ev.length : Int) t ev st = some ((acc ++ sel (srcB ev C i) q t, ()), ((ev, st, ()), ())) := by
  intro q
  induction q with
  | zero =>
    intro t acc ht hacc j hj
    obtain ⟨j, rfl, _⟩ := succ_of (n := 0) (by omega : 0 + 1 ≤ j)
    show b14_250 k (l14_250 k j) _ _ _ _ _ _ _ _ = _
    unfold b14_250 sel
    rw [decide_eq_false (by omega : ¬ (t : Int) < ev.length), List.append_nil]; rfl
  | succ q ih =>
    intro t acc ht hacc j hj
    obtain ⟨j, rfl, hj2⟩ := succ_of (by omega : q + 1 + 1 ≤ j)
    have hlt : t < ev.length := by omega
    show b14_250 k (l14_250 k j) _ _ _ _ _ _ _ _ = _
    unfold b14_250
    have e1 : ∀ {R : Type} {K : Ev → Option R}, ix ev (i : Int) K = K ev[i] := fun {R K} => ix_nat (List.getElem?_eq_getElem hi)
    have e2 : ∀ {R : Type} {K : Ev → Option R}, ix ev (t : Int) K = K ev[t] := fun {R K} => ix_nat (List.getElem?_eq_getElem hlt)
    have e3 : ∀ {R : Type} {K : Bool → Option R}, (ix (mat ev.length C) (i : Int) fun e => ix e (t : Int) K) = K (C i t) := fun {R K} => mat_ix hi hlt
    rw [decide_eq_true (by omega : (t : Int) < ev.length), cond_true]
    simp only [e1, e2, e3]
    rw [i_ne, i_eq, feeds26, w1 (by omega)]
    simp only [Option.bind_some]
    rw [ih (t + 1) acc (by omega) (by omega) j hj2]
    have hgd : ∀ {R : Type} {o : Option R}, gd (decide ((acc.length + 1) * 8 ≤ room)) o = o := fun {R o} => gd_dec (by unfold room; omega)
    rw [ih (t + 1) (acc ++ [(t : Int)]) (by omega) (by simp; omega) j hj2]
    simp only [hgd]
    rw [show sel (srcB ev C i) (q + 1) t = cond (srcB ev C i t) ((t : Int) :: sel (srcB ev C i) q (t + 1)) (sel (srcB ev C i) q (t + 1)) from rfl]
    have e4 : srcB ev C i t = (!decide (i = t) && (decide (ev[i].2.2.2.1 = ev[t].2.2.2.1) && (feedsB ev[t].2.2.1 ev[i].2.2.1 && !C i t))) := by
      unfold srcB; rw [List.getElem?_eq_getElem hi, List.getElem?_eq_getElem hlt]
    have e5 : decide ((t : Int) ≠ (i : Int)) = !decide (i = t) := by
      by_cases h : i = t
      · subst h; simp
      · rw [decide_eq_false h, decide_eq_true (by omega)]; rfl
    have e6 : decide (ev[t].2.2.2.1 = ev[i].2.2.2.1) = decide (ev[i].2.2.2.1 = ev[t].2.2.2.1) := by
      by_cases h : ev[i].2.2.2.1 = ev[t].2.2.2.1
      · rw [decide_eq_true h, decide_eq_true h.symm]
      · rw [decide_eq_false h, decide_eq_false (fun h' => h h'.symm)]
    rw [e4, e5, e6]
    cases decide (i = t) <;> cases decide (ev[i].2.2.2.1 = ev[t].2.2.2.1) <;> cases feedsB ev[t].2.2.1 ev[i].2.2.1 <;> cases C i t <;> simp
theorem sources14 {ev : List Ev} {st : List Int} (hok : OK ev st) {k : Nat} (hk : 61 ≤ k) {i : Nat} (hi : i < ev.length) : f14 k (ev, st, ()) i = some ((sel (srcB ev (Cl (ev, st, ())) i) ev.length 0, ()), ()) := by
  have hn := hok.n
  unfold f14
  rw [there20 hok hk, decide_eq_true (by omega)]
  simp only [Option.bind_some, Bool.not_true, cond_false]
  rw [ahead8 hok hk]
  simp only [Option.bind_some]
  have := sources_loop k (st := st) (C := Cl (ev, st, ())) hn hi ev.length 0 [] (by omega) (by simp) k (by omega)
  rw [show ((0 : Nat) : Int) = 0 from rfl, List.nil_append] at this
  rw [this]; rfl
theorem same_k {ev : List Ev} {st : List Int} (hok : OK ev st) {k : Nat} (hk : 61 ≤ k) {i : Nat} (hi : i < ev.length) : ∀ (q t : Nat), ev.length - t = q → ∀ j, q < j → l5_32038 k j (mat ev.length (Cl (ev, st, ()))) i t ev st = some (.inl ((), ((ev, st, ()), ()))) := by
  have hn := hok.n
  intro q
  induction q with
  | zero =>
    intro t ht j hj
    obtain ⟨j, rfl, _⟩ := succ_of (n := 0) (by omega : 0 + 1 ≤ j)
    show b5_32038 k (l5_32038 k j) _ _ _ _ _ = _
    unfold b5_32038
    rw [mat_len, decide_eq_false (by omega : ¬ (t : Int) < ev.length)]; rfl
  | succ q ih =>
    intro t ht j hj
    obtain ⟨j, rfl, hj2⟩ := succ_of (by omega : q + 1 + 1 ≤ j)
    have hlt : t < ev.length := by omega
    show b5_32038 k (l5_32038 k j) _ _ _ _ _ = _
    unfold b5_32038
    have e3 : ∀ {R : Type} {K : Bool → Option R}, (ix (mat ev.length (Cl (ev, st, ()))) (i : Int) fun e => ix e (t : Int) K) = K (Cl (ev, st, ()) i t) := fun {R K} => mat_ix hi hlt
    rw [mat_len, decide_eq_true (by omega : (t : Int) < ev.length), cond_true]
    simp only [e3]
    rw [ahead15 hok hi k t (by omega) hlt, w1 (by omega), ih (t + 1) (by omega) j hj2]
    simp only [Option.bind_some, beq_self_eq_true]; rfl
theorem same_i {ev : List Ev} {st : List Int} (hok : OK ev st) {k : Nat} (hk : 61 ≤ k) : ∀ (q t : Nat), ev.length - t = q → ∀ j, q < j → l5_250 k j (mat ev.length (Cl (ev, st, ()))) t ev st = some (.inl ((), ((ev, st, ()), ()))) := by
  have hn := hok.n
  intro q
  induction q with
  | zero =>
    intro t ht j hj
    obtain ⟨j, rfl, _⟩ := succ_of (n := 0) (by omega : 0 + 1 ≤ j)
    show b5_250 k (l5_250 k j) _ _ _ _ = _
    unfold b5_250
    rw [mat_len, decide_eq_false (by omega : ¬ (t : Int) < ev.length)]; rfl
  | succ q ih =>
    intro t ht j hj
    obtain ⟨j, rfl, hj2⟩ := succ_of (by omega : q + 1 + 1 ≤ j)
    have hlt : t < ev.length := by omega
    have h1 : (mat ev.length (Cl (ev, st, ())))[t]? = some ((List.range ev.length).map (Cl (ev, st, ()) t)) := by unfold mat; rw [List.getElem?_map, List.getElem?_range hlt]; rfl
    show b5_250 k (l5_250 k j) _ _ _ _ = _
    unfold b5_250
    have h2 := same_k hok hk hlt ev.length 0 (by omega) k (by omega)
    rw [show ((0 : Nat) : Int) = 0 from rfl] at h2
    rw [mat_len, decide_eq_true (by omega : (t : Int) < ev.length), cond_true, ix_nat h1, i_ne, decide_eq_false (by simp), cond_false, h2]
    simp only [Option.bind_some]
    rw [w1 (by omega), ih (t + 1) (by omega) j hj2]; rfl
theorem both_loop {ev : List Ev} {st : List Int} (hok : OK ev st) {k : Nat} (hk : 61 ≤ k) {i : Nat} (hi : i < ev.length) : ∀ (q t : Nat) (p r : List Int), ev.length - t = q → p.length ≤ t → r.length ≤ t → ∀ j, q < j →
    l5_2042 k j i p r t ev st = some ((p ++ sel (srcB ev (Cl (ev, st, ())) i) q t, r ++ sel (rvlB ev (Cl (ev, st, ())) i) q t, ()), ((ev, st, ()), ())) := by
  have hn := hok.n
  intro q
  induction q with
  | zero =>
    intro t p r ht hp hr j hj
    obtain ⟨j, rfl, _⟩ := succ_of (n := 0) (by omega : 0 + 1 ≤ j)
    show b5_2042 k (l5_2042 k j) _ _ _ _ _ _ = _
    unfold b5_2042 sel
    rw [decide_eq_false (by omega : ¬ (t : Int) < ev.length), List.append_nil, List.append_nil]; rfl
  | succ q ih =>
    intro t p r ht hp hr j hj
    obtain ⟨j, rfl, hj2⟩ := succ_of (by omega : q + 1 + 1 ≤ j)
    have hlt : t < ev.length := by omega
    show b5_2042 k (l5_2042 k j) _ _ _ _ _ _ = _
    unfold b5_2042
    rw [decide_eq_true (by omega : (t : Int) < ev.length), cond_true, decide_eq_true (by omega : (i : Int) ≥ 0), cond_true, decide_eq_true (by omega : (i : Int) < ev.length), cond_true, source16 hok hk hi hlt, rival17 hok hk hi hlt, w1 (by omega)]
    simp only [Option.bind_some]
    have hgd : ∀ {R : Type} {o : Option R}, gd (decide ((p.length + 1) * 8 ≤ room)) o = o := fun {R o} => gd_dec (by unfold room; omega)
    have hgr : ∀ {R : Type} {o : Option R}, gd (decide ((r.length + 1) * 8 ≤ room)) o = o := fun {R o} => gd_dec (by unfold room; omega)
    simp only [hgd, hgr]
    rw [ih (t + 1) p r (by omega) (by omega) (by omega) j hj2, ih (t + 1) (p ++ [(t : Int)]) r (by omega) (by simp; omega) (by omega) j hj2, ih (t + 1) p (r ++ [(t : Int)]) (by omega) (by omega) (by simp; omega) j hj2, ih (t + 1) (p ++ [(t : Int)]) (r ++ [(t : Int)]) (by omega) (by simp; omega) (by simp; omega) j hj2]
    rw [show ∀ p : Nat → Bool, sel p (q + 1) t = cond (p t) ((t : Int) :: sel p q (t + 1)) (sel p q (t + 1)) from fun _ => rfl, show ∀ p : Nat → Bool, sel p (q + 1) t = cond (p t) ((t : Int) :: sel p q (t + 1)) (sel p q (t + 1)) from fun _ => rfl]
    cases srcB ev (Cl (ev, st, ())) i t <;> cases rvlB ev (Cl (ev, st, ())) i t <;> simp
theorem both_none {ev : List Ev} {st : List Int} (k : Nat) (e : Int) (he : ¬ (0 ≤ e ∧ e < (ev.length : Int))) {j : Nat} (hj : 0 < j) : l5_2042 k j e [] [] 0 ev st = some (([], [], ()), ((ev, st, ()), ())) := by
  obtain ⟨j, rfl, _⟩ := succ_of (n := 0) (by omega : 0 + 1 ≤ j)
  show b5_2042 k (l5_2042 k j) _ _ _ _ _ _ = _
  unfold b5_2042
  cases decide ((0 : Int) < (ev.length : Int)) with
  | false => rfl
  | true =>
    by_cases h1 : e ≥ 0
    · rw [decide_eq_true h1, decide_eq_false (fun h2 => he ⟨h1, h2⟩)]; rfl
    · rw [decide_eq_false h1]; rfl
theorem sel_congr {p r : Nat → Bool} : ∀ (q i : Nat), (∀ j, i ≤ j → j < i + q → p j = r j) → sel p q i = sel r q i
  | 0, i, _ => rfl
  | q + 1, i, h => by
    unfold sel
    rw [h i (Nat.le_refl _) (by omega), sel_congr q (i + 1) fun j h1 h2 => h j (by omega) (by omega)]
theorem sel_none {p : Nat → Bool} : ∀ (q i : Nat), (∀ j, i ≤ j → j < i + q → p j = false) → sel p q i = []
  | 0, i, _ => rfl
  | q + 1, i, h => by
    unfold sel
    rw [h i (Nat.le_refl _) (by omega), sel_none q (i + 1) fun j h1 h2 => h j (by omega) (by omega)]; rfl
end Sh
open Sh
namespace Pure
theorem ShapeKnows (s : D_Shape) (hf : Fit T_Shape s) (e : Int) (he : Fit i64 e) : ∃ k, f5 k s e = some ((true, ()), ()) := by
  refine ⟨100, ?_⟩
  obtain ⟨ev, st, ⟨⟩⟩ := s
  unfold f5
  rw [awake7]
  by_cases h1 : (ev.length : Int) > 60
  · rw [decide_eq_true h1]; rfl
  by_cases h2 : (st.length : Int) > 60
  · rw [decide_eq_false h1, decide_eq_true h2]; rfl
  rw [decide_eq_false h1, decide_eq_false h2]
  simp only [cond_false]
  obtain ⟨x, hx, hxi⟩ := may6 100 (by omega) ev st
  rw [hx]
  cases x with
  | false => rfl
  | true =>
    have hok := hxi.1 rfl
    have hn := hok.n
    simp only [Option.bind_some, Bool.not_true, cond_false]
    rw [ahead8 hok (by omega)]
    simp only [Option.bind_some]
    rw [mat_len, i_ne, decide_eq_false (by simp), cond_false]
    have h3 := same_i hok (k := 100) (by omega) ev.length 0 (by omega) 100 (by omega)
    rw [show ((0 : Nat) : Int) = 0 from rfl] at h3
    rw [h3]
    simp only [Option.bind_some]
    by_cases hr : 0 ≤ e ∧ e < (ev.length : Int)
    · obtain ⟨i, rfl⟩ := Int.eq_ofNat_of_zero_le hr.1
      have hi : i < ev.length := by have := hr.2; omega
      have h4 := both_loop hok (k := 100) (by omega) hi ev.length 0 [] [] (by omega) (by simp) (by simp) 100 (by omega)
      rw [show ((0 : Nat) : Int) = 0 from rfl, List.nil_append, List.nil_append] at h4
      rw [sources14 hok (by omega) hi, rivals10 hok (by omega) (List.getElem?_eq_getElem hi), h4]
      simp only [Option.bind_some]
      have hl1 := sel_len (p := srcB ev (Cl (ev, st, ())) i) ev.length 0
      rw [ints18 100 (by omega) (by omega), decide_eq_true rfl]
      simp only [Option.bind_some, cond_true]
      have hsame : cond (plainB ev[i].2.2.1) (sel (rivB ev (Cl (ev, st, ())) i) ev.length 0) [] = sel (rvlB ev (Cl (ev, st, ())) i) ev.length 0 := by
        cases hp : plainB ev[i].2.2.1 with
        | true => exact sel_congr _ _ fun j _ _ => by unfold rvlB; rw [List.getElem?_eq_getElem hi]; simp only [hp, Bool.true_and]
        | false => exact (sel_none _ _ fun j _ _ => by unfold rvlB; rw [List.getElem?_eq_getElem hi]; simp only [hp, Bool.false_and]).symm
      have hl2 := sel_len (p := rvlB ev (Cl (ev, st, ())) i) ev.length 0
      rw [hsame, ints18 100 (by omega) (by omega), decide_eq_true rfl]; rfl
    · have h4 := both_none (ev := ev) (st := st) 100 e hr (j := 100) (by omega)
      unfold f14 f10
      rw [there20 hok (by omega), decide_eq_false hr, h4]
      simp only [Option.bind_some, Bool.not_false, cond_true]
      rw [ints18 100 (by simp) (by simp), decide_eq_true rfl]; rfl
end Pure
end Go.Proofs.Ytnkjnbfaechiaaa.M
