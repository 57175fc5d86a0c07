/-
Programs as trees: what the program checks and counts is what the reference counts. The plain law.
-/
import Derived.Test.YticelgnmcjkknaaTb
set_option linter.unusedVariables false
set_option linter.unusedSimpArgs false
set_option maxRecDepth 100000
namespace Go.Proofs.Yticelgnmcjkknaa.M
open Go Go.Proofs.Yticelgnmcjkknaa.Vm Go.Proofs.Yticelgnmcjkknaa.Pl
namespace Tree
open Lex
/-! ### declarations -/
def declB (d : D_Decl) : Bool := decide (d.1 ≥ 1) && (decide (d.1 ≤ 4) && (nameS (L d.2.1) && (decide (d.2.2.1 ≥ 0) && (decide (d.2.2.1 ≤ 65535) && (d.1 != 3 || d.2.2.1 == 0)))))
theorem decl106 (k : Nat) (d : D_Decl) (hn : f19 k d.2.1 = some ((nameS (L d.2.1), ()), ())) : f106 k d = some ((declB d, ()), ()) := by
  unfold f106 declB
  rw [hn]
  simp only [Option.bind_some]
  cases decide (d.1 ≥ 1) <;> cases decide (d.1 ≤ 4) <;> cases nameS (L d.2.1) <;> cases decide (d.2.2.1 ≥ 0) <;> cases decide (d.2.2.1 ≤ 65535) <;> cases (d.1 != 3) <;> rfl
theorem decl_loop (k : Nat) {l : List D_Decl} (hl : l.length ≤ 12) (hr : ∀ d ∈ l, f19 k d.2.1 = some ((nameS (L d.2.1), ()), ())) : ∀ (q i : Nat), l.length - i = q → ∀ j, q < j →
    ((l.drop i).all declB = true ∧ l87_26 k j l l.length i = some (.inl ((), ()))) ∨ ((l.drop i).all declB = false ∧ ∃ t : Nat, l87_26 k j l l.length i = some (.inr (((t : Int), ()), ()))) := by
  intro q
  induction q with
  | zero =>
    intro i hi j hj
    obtain ⟨j, rfl, _⟩ := succ_of (n := 0) (by omega : 0 + 1 ≤ j)
    refine .inl ⟨by rw [List.drop_of_length_le (by omega)]; rfl, ?_⟩
    show b87_26 k (l87_26 k j) l l.length i = _
    unfold b87_26
    rw [decide_eq_false (by omega : ¬ (i : Int) < l.length)]; rfl
  | succ q ih =>
    intro i hi j hj
    obtain ⟨j, rfl, hj2⟩ := succ_of (by omega : q + 1 + 1 ≤ j)
    have hlt : i < l.length := by omega
    have hx : l[i]? = some l[i] := List.getElem?_eq_getElem hlt
    have h106 := decl106 k _ (hr _ (List.getElem_mem hlt))
    have h105 : f105 k l[i] = some ((!declB l[i], ()), ()) := by unfold f105; rw [h106]; rfl
    have e0 : l87_26 k (j + 1) l l.length i = b87_26 k (l87_26 k j) l l.length i := rfl
    have hd : (l.drop i).all declB = (declB l[i] && (l.drop (i + 1)).all declB) := by rw [List.drop_eq_getElem_cons hlt, List.all_cons]
    rw [hd, e0]
    unfold b87_26
    rw [decide_eq_true (by omega : (i : Int) < l.length), cond_true, ix_nat hx, h105]
    simp only [Option.bind_some]
    cases hb : declB l[i] with
    | false => exact .inr ⟨rfl, i, rfl⟩
    | true =>
      simp only [Bool.not_true, cond_false, Bool.true_and]
      rw [w_one hlt (by unfold mx; omega)]
      rcases ih (i + 1) (by omega) j hj2 with ⟨h1, h2⟩ | ⟨h1, t, h2⟩
      · rw [h2]; exact .inl ⟨h1, rfl⟩
      · rw [h2]; exact .inr ⟨h1, t, rfl⟩
theorem decl104 (k : Nat) (hk : 20 ≤ k) {l : List D_Decl} (hl : l.length ≤ 12) (hr : ∀ d ∈ l, f19 k d.2.1 = some ((nameS (L d.2.1), ()), ())) : f104 k l = some ((!l.all declB, ()), ()) := by
  have h := decl_loop k hl hr l.length 0 (by omega) k (by omega)
  rw [show ((0 : Nat) : Int) = 0 from rfl, List.drop_zero] at h
  unfold f104 f87
  rcases h with ⟨h1, h2⟩ | ⟨h1, t, h2⟩
  · rw [h1, h2]; rfl
  · rw [h1, h2]
    simp only [Option.bind_some]
    rw [decide_eq_true (by omega : (t : Int) ≥ 0)]; rfl
theorem rdecl_loop (k : Nat) {l : List D_Decl} (hl : l.length ≤ 12) (hr : ∀ d ∈ l, f20 k d.2.1 = some ((nameS (L d.2.1), ()), ())) {w : Int} {ps : List D_Proc} : ∀ (q i : Nat), l.length - i = q → ∀ j, q < j →
    l32_58 k j i w l ps = cond ((l.drop i).all declB) (some (.inl ((), ((w, l, ps, ()), ())))) (some (.inr ((-1, 0, ()), ((w, l, ps, ()), ())))) := by
  intro q
  induction q with
  | zero =>
    intro i hi j hj
    obtain ⟨j, rfl, _⟩ := succ_of (n := 0) (by omega : 0 + 1 ≤ j)
    rw [List.drop_of_length_le (by omega)]
    show b32_58 k (l32_58 k j) i w l ps = _
    unfold b32_58
    rw [decide_eq_false (by omega : ¬ (i : Int) < l.length)]; rfl
  | succ q ih =>
    intro i hi j hj
    obtain ⟨j, rfl, hj2⟩ := succ_of (by omega : q + 1 + 1 ≤ j)
    have hlt : i < l.length := by omega
    have hx : l[i]? = some l[i] := List.getElem?_eq_getElem hlt
    have hn := hr _ (List.getElem_mem hlt)
    have e0 : l32_58 k (j + 1) i w l ps = b32_58 k (l32_58 k j) i w l ps := rfl
    have hd : (l.drop i).all declB = (declB l[i] && (l.drop (i + 1)).all declB) := by rw [List.drop_eq_getElem_cons hlt, List.all_cons]
    rw [hd, e0]
    unfold b32_58
    rw [decide_eq_true (by omega : (i : Int) < l.length), cond_true, ix_nat hx, hn, w_one hlt (by unfold mx; omega), ih (i + 1) (by omega) j hj2]
    simp only [Option.bind_some]
    generalize (l.drop (i + 1)).all declB = rest
    unfold declB
    have a1 : decide (l[i].1 < 1) = !decide (l[i].1 ≥ 1) := by
      by_cases h : l[i].1 < 1
      · rw [decide_eq_true h, decide_eq_false (by omega : ¬ l[i].1 ≥ 1)]; rfl
      · rw [decide_eq_false h, decide_eq_true (by omega : l[i].1 ≥ 1)]; rfl
    have a2 : decide (l[i].1 > 4) = !decide (l[i].1 ≤ 4) := by
      by_cases h : l[i].1 > 4
      · rw [decide_eq_true h, decide_eq_false (by omega : ¬ l[i].1 ≤ 4)]; rfl
      · rw [decide_eq_false h, decide_eq_true (by omega : l[i].1 ≤ 4)]; rfl
    have a3 : decide (l[i].2.2.1 < 0) = !decide (l[i].2.2.1 ≥ 0) := by
      by_cases h : l[i].2.2.1 < 0
      · rw [decide_eq_true h, decide_eq_false (by omega : ¬ l[i].2.2.1 ≥ 0)]; rfl
      · rw [decide_eq_false h, decide_eq_true (by omega : l[i].2.2.1 ≥ 0)]; rfl
    have a4 : decide (l[i].2.2.1 > 65535) = !decide (l[i].2.2.1 ≤ 65535) := by
      by_cases h : l[i].2.2.1 > 65535
      · rw [decide_eq_true h, decide_eq_false (by omega : ¬ l[i].2.2.1 ≤ 65535)]; rfl
      · rw [decide_eq_false h, decide_eq_true (by omega : l[i].2.2.1 ≤ 65535)]; rfl
    rw [a1, a2, a3, a4]
    unfold bne
    cases decide (l[i].1 ≥ 1) <;> cases decide (l[i].1 ≤ 4) <;> cases nameS (L l[i].2.1) <;> cases decide (l[i].2.2.1 ≥ 0) <;> cases decide (l[i].2.2.1 ≤ 65535) <;> cases (l[i].1 == 3) <;> cases (l[i].2.2.1 == 0) <;> cases rest <;> rfl
/-! ### procedures -/
def oneP (p : D_Proc) : Option (Nat × Nat) := if nameS (L p.1) = true then cntS 12 p.2.1 else none
def sumP : List D_Proc → Option (Nat × Nat)
  | [] => some (0, 0)
  | p :: l => (oneP p).bind fun a => (sumP l).map fun b => (a.1 + b.1, a.2 + b.2)
structure PrFact (k : Nat) (p : D_Proc) : Prop where
  n1 : f19 k p.1 = some ((nameS (L p.1), ()), ())
  n2 : f20 k p.1 = some ((nameS (L p.1), ()), ())
  st : StOk k 12 p.2.1
  rf : f72 k p.2.1 12 = some (ref2 (cntS 12 p.2.1), ())
theorem procs_loop (k : Nat) {l : List D_Proc} (hl : l.length ≤ 6) (hr : ∀ p ∈ l, PrFact k p) : ∀ (q i s x : Nat), l.length - i = q → s ≤ 200 → x ≤ 8192 → ∀ j, q < j →
    ∃ s' x', (l71_250 k j l l.length i s x = some (.inl ((), ((s', x', ()), ()))) ∧ Res2 s x (sumP (l.drop i)) true s' x') ∨
      (l71_250 k j l l.length i s x = some (.inr (((), false, ()), ((s', x', ()), ()))) ∧ Res2 s x (sumP (l.drop i)) false s' x') := by
  intro q
  induction q with
  | zero =>
    intro i s x hi hs hx8 j hj
    obtain ⟨j, rfl, _⟩ := succ_of (n := 0) (by omega : 0 + 1 ≤ j)
    refine ⟨s, x, .inl ⟨?_, ?_⟩⟩
    · show b71_250 k (l71_250 k j) l l.length i s x = _
      unfold b71_250
      rw [decide_eq_false (by omega : ¬ (i : Int) < l.length)]; rfl
    · rw [List.drop_of_length_le (by omega)]
      show (if s + 0 ≤ 200 ∧ x + 0 ≤ 8192 then _ else _)
      rw [if_pos ⟨by omega, by omega⟩]
      exact ⟨rfl, by simp, by simp⟩
  | succ q ih =>
    intro i s x hi hs hx8 j hj
    obtain ⟨j, rfl, hj2⟩ := succ_of (by omega : q + 1 + 1 ≤ j)
    have hlt : i < l.length := by omega
    have hx : l[i]? = some l[i] := List.getElem?_eq_getElem hlt
    obtain ⟨hn1, _, hst, _⟩ := hr _ (List.getElem_mem hlt)
    have e0 : l71_250 k (j + 1) l l.length i s x = b71_250 k (l71_250 k j) l l.length i s x := rfl
    have hsum : sumP (l.drop i) = (oneP l[i]).bind fun a => (sumP (l.drop (i + 1))).map fun b => (a.1 + b.1, a.2 + b.2) := by
      rw [List.drop_eq_getElem_cons hlt]; rfl
    have stop : ∀ s' x' : Int, (∀ a, oneP l[i] = some a → 200 < s + a.1 ∨ 8192 < x + a.2) → Res2 s x (sumP (l.drop i)) false s' x' := by
      intro s' x' h
      rw [hsum]
      cases ho : oneP l[i] with
      | none => rfl
      | some a =>
        have h1 := h a ho
        simp only [Option.bind_some]
        cases sumP (l.drop (i + 1)) with
        | none => rfl
        | some b =>
          simp only [Option.map_some]
          show (if s + (a.1 + b.1) ≤ 200 ∧ x + (a.2 + b.2) ≤ 8192 then _ else _)
          rw [if_neg (by omega)]
    rw [e0]
    unfold b71_250
    rw [decide_eq_true (by omega : (i : Int) < l.length), cond_true, ix_nat hx, hn1]
    simp only [Option.bind_some]
    cases hnm : nameS (L l[i].1) with
    | false => exact ⟨_, _, .inr ⟨rfl, stop _ _ fun a ha => by unfold oneP at ha; rw [hnm] at ha; cases ha⟩⟩
    | true =>
      have hone : oneP l[i] = cntS 12 l[i].2.1 := by unfold oneP; rw [if_pos hnm]
      obtain ⟨b, s1, x1, h107, hres⟩ := hst s x hs hx8
      rw [show ((12 : Nat) : Int) = 12 from rfl] at h107
      simp only [Bool.not_true, cond_false]
      rw [h107]
      simp only [Option.bind_some]
      cases hc : cntS 12 l[i].2.1 with
      | none =>
        rw [hc] at hres
        cases hres
        exact ⟨_, _, .inr ⟨rfl, stop _ _ fun a ha => by rw [hone, hc] at ha; cases ha⟩⟩
      | some c =>
        rw [hc] at hres
        unfold Res2 at hres
        dsimp only at hres
        split at hres
        · rename_i hle
          obtain ⟨rfl, rfl, rfl⟩ := hres
          simp only [Bool.not_true, cond_false]
          rw [w_one hlt (by unfold mx; omega)]
          obtain ⟨s', x', hih⟩ := ih (i + 1) (s + c.1) (x + c.2) (by omega) hle.1 hle.2 j hj2
          have conv : ∀ b, Res2 (s + c.1) (x + c.2) (sumP (l.drop (i + 1))) b s' x' → Res2 s x (sumP (l.drop i)) b s' x' := by
            intro b hb
            rw [hsum, hone, hc]
            simp only [Option.bind_some]
            cases hS : sumP (l.drop (i + 1)) with
            | none => rw [hS] at hb; exact hb
            | some p =>
              rw [hS] at hb
              unfold Res2 at hb ⊢
              simp only [Option.map_some] at hb ⊢
              rw [show s + (c.1 + p.1) = s + c.1 + p.1 by omega, show x + (c.2 + p.2) = x + c.2 + p.2 by omega]
              exact hb
          rcases hih with ⟨h4, h5⟩ | ⟨h4, h5⟩
          · rw [h4]; exact ⟨s', x', .inl ⟨rfl, conv true h5⟩⟩
          · rw [h4]; exact ⟨s', x', .inr ⟨rfl, conv false h5⟩⟩
        · rename_i hle
          subst hres
          exact ⟨_, _, .inr ⟨rfl, stop _ _ fun a ha => by
            rw [hone, hc] at ha
            cases ha
            omega⟩⟩
theorem rprocs_loop (k : Nat) {l : List D_Proc} (hl : l.length ≤ 6) (hr : ∀ p ∈ l, PrFact k p) {w : Int} {ds : List D_Decl} : ∀ (q i n m : Nat), l.length - i = q → n ≤ 200 * i → m ≤ 8192 * i → ∀ j, q < j →
    (∃ a, sumP (l.drop i) = some a ∧ l32_250 k j n m i w ds l = some (.inl ((((n + a.1 : Nat) : Int), ((m + a.2 : Nat) : Int), ()), ((w, ds, l, ()), ())))) ∨
      ((∀ a, sumP (l.drop i) = some a → 200 < a.1 ∨ 8192 < a.2) ∧ l32_250 k j n m i w ds l = some (.inr ((-1, 0, ()), ((w, ds, l, ()), ())))) := by
  intro q
  induction q with
  | zero =>
    intro i n m hi hn hm j hj
    obtain ⟨j, rfl, _⟩ := succ_of (n := 0) (by omega : 0 + 1 ≤ j)
    refine .inl ⟨(0, 0), by rw [List.drop_of_length_le (by omega)]; rfl, ?_⟩
    show b32_250 k (l32_250 k j) n m i w ds l = _
    unfold b32_250
    rw [decide_eq_false (by omega : ¬ (i : Int) < l.length)]; rfl
  | succ q ih =>
    intro i n m hi hn hm j hj
    obtain ⟨j, rfl, hj2⟩ := succ_of (by omega : q + 1 + 1 ≤ j)
    have hlt : i < l.length := by omega
    have hx : l[i]? = some l[i] := List.getElem?_eq_getElem hlt
    obtain ⟨_, hn2, _, hrf⟩ := hr _ (List.getElem_mem hlt)
    have e0 : l32_250 k (j + 1) n m i w ds l = b32_250 k (l32_250 k j) n m i w ds l := rfl
    have hsum : sumP (l.drop i) = (oneP l[i]).bind fun a => (sumP (l.drop (i + 1))).map fun b => (a.1 + b.1, a.2 + b.2) := by
      rw [List.drop_eq_getElem_cons hlt]; rfl
    have stop : (∀ a, oneP l[i] = some a → 200 < a.1 ∨ 8192 < a.2) → ∀ a, sumP (l.drop i) = some a → 200 < a.1 ∨ 8192 < a.2 := by
      intro h a ha
      rw [hsum] at ha
      obtain ⟨c, h1, ha⟩ := Option.bind_eq_some_iff.1 ha
      obtain ⟨c2, _, rfl⟩ := Option.map_eq_some_iff.1 ha
      have := h c h1
      dsimp only
      omega
    rw [e0]
    unfold b32_250
    rw [decide_eq_true (by omega : (i : Int) < l.length), cond_true, ix_nat hx, hrf]
    simp only [Option.bind_some]
    by_cases hB : ∃ b, cntS 12 l[i].2.1 = some b ∧ (b.1 ≤ 200 ∧ b.2 ≤ 8192)
    case neg =>
      have hr1 : ref2 (cntS 12 l[i].2.1) = (-1, 0, ()) := by
        cases hcb : cntS 12 l[i].2.1 with
        | none => rfl
        | some b => exact ref2_big fun h => hB ⟨b, hcb, h⟩
      rw [hr1]
      refine .inr ⟨stop fun a ha => ?_, rfl⟩
      unfold oneP at ha
      split at ha
      · have : ¬ (a.1 ≤ 200 ∧ a.2 ≤ 8192) := fun h => hB ⟨a, ha, h⟩
        omega
      · cases ha
    obtain ⟨b, hcb, hble⟩ := hB
    rw [hcb, ref2_some hble]
    dsimp only
    rw [decide_eq_false (by omega : ¬ (b.1 : Int) < 0), cond_false, ix_nat hx, hn2]
    simp only [Option.bind_some]
    cases hnm : nameS (L l[i].1) with
    | false => exact .inr ⟨stop fun a ha => by { unfold oneP at ha; rw [hnm] at ha; cases ha }, rfl⟩
    | true =>
      have hone : oneP l[i] = some b := by unfold oneP; rw [if_pos hnm, hcb]
      have w1 : w64 ((n : Int) + (b.1 : Int)) = ((n + b.1 : Nat) : Int) := by rw [w64_id (by omega) (by omega)]; omega
      have w2 : w64 ((m : Int) + (b.2 : Int)) = ((m + b.2 : Nat) : Int) := by rw [w64_id (by omega) (by omega)]; omega
      simp only [Bool.not_true, cond_false]
      rw [w1, w2, w_one hlt (by unfold mx; omega)]
      rcases ih (i + 1) (n + b.1) (m + b.2) (by omega) (by omega) (by omega) j hj2 with ⟨a, h1, h2⟩ | ⟨h1, h2⟩
      · rw [h2]
        refine .inl ⟨(b.1 + a.1, b.2 + a.2), by rw [hsum, hone, h1]; rfl, ?_⟩
        simp only [Option.bind_some]
        rw [show n + (b.1 + a.1) = n + b.1 + a.1 by omega, show m + (b.2 + a.2) = m + b.2 + a.2 by omega]
      · rw [h2]
        refine .inr ⟨fun a ha => ?_, rfl⟩
        rw [hsum, hone] at ha
        obtain ⟨c2, h3, rfl⟩ := Option.map_eq_some_iff.1 ha
        have := h1 c2 h3
        dsimp only
        omega
/-! ### a program -/
theorem both71 {p : D_Prog} (hf : Fit T_Prog p) : E fun k => ∃ ok s x, f71 k p = some (((), ok, ()), ((s, x, ()), ())) ∧ f32 k p = some ((cond ok s (-1), cond ok x 0, ()), ()) ∧ (ok = true → 0 ≤ s) := by
  obtain ⟨w, ds, ps, u⟩ := p
  have hd : Fit (.slice T_Decl) ds := hf.inv.2.inv.1
  have hp : Fit (.slice T_Proc) ps := hf.inv.2.inv.2.inv.1
  obtain ⟨_, hds⟩ := fit_list hd
  obtain ⟨_, hps⟩ := fit_list hp
  have key1 : ∀ d ∈ ds, E fun k => f19 k d.2.1 = some ((nameS (L d.2.1), ()), ()) ∧ f20 k d.2.1 = some ((nameS (L d.2.1), ()), ()) := fun d hm => by
    have : d.2.1.size ≤ mx := (hds d hm).inv.2.inv.1.inv
    exact nameE d.2.1 this
  have key2 : ∀ q ∈ ps, E fun k => PrFact k q := fun q hq => by
    have h1 : q.1.size ≤ mx := (hps q hq).inv.1.inv
    have h2 : Fit (.slice (.rc 1)) q.2.1 := (hps q hq).inv.2.inv.1
    exact ((nameE q.1 h1).and ((all107 12 (Nat.le_refl _) q.2.1 h2).and (ref72 12 (Nat.le_refl _) q.2.1 h2))).mono fun k ⟨⟨a, b⟩, c, d⟩ => ⟨a, b, c, d⟩
  refine ((E_list ds key1).and ((E_list ps key2).and (E.ge 100))).mono fun k ⟨h1, h2, h3⟩ => ?_
  unfold f71 f32
  dsimp only
  cases c1 : decide (w < 0) with
  | true => exact ⟨false, _, _, rfl, rfl, fun h => by cases h⟩
  | false =>
  cases c2 : decide (w > 65535) with
  | true => exact ⟨false, _, _, rfl, rfl, fun h => by cases h⟩
  | false =>
  cases c3 : decide ((ds.length : Int) > 12) with
  | true => exact ⟨false, _, _, rfl, rfl, fun h => by cases h⟩
  | false =>
  cases c4 : decide ((ps.length : Int) < 1) with
  | true => exact ⟨false, _, _, rfl, rfl, fun h => by cases h⟩
  | false =>
  cases c5 : decide ((ps.length : Int) > 6) with
  | true => exact ⟨false, _, _, rfl, rfl, fun h => by cases h⟩
  | false =>
  have hdl := of_decide_eq_false c3
  have hpl := of_decide_eq_false c5
  rw [decl104 k (by omega) (by omega) fun d hm => (h1 d hm).1]
  have hrd := rdecl_loop k (by omega) (fun d hm => (h1 d hm).2) (w := w) (ps := ps) ds.length 0 (by omega) k (by omega)
  rw [show ((0 : Nat) : Int) = 0 from rfl, List.drop_zero] at hrd
  rw [hrd]
  simp only [Option.bind_some, cond_false]
  cases hda : ds.all declB with
  | false => exact ⟨false, _, _, rfl, rfl, fun h => by cases h⟩
  | true =>
  simp only [Bool.not_true, cond_false, cond_true, Option.bind_some]
  obtain ⟨s', x', hA⟩ := procs_loop k (by omega) h2 ps.length 0 0 0 (by omega) (by omega) (by omega) k (by omega)
  have hB := rprocs_loop k (by omega) h2 (w := w) (ds := ds) ps.length 0 0 0 (by omega) (by omega) (by omega) k (by omega)
  rw [show ((0 : Nat) : Int) = 0 from rfl, List.drop_zero] at hA hB
  rcases hB with ⟨a, e1, e2⟩ | ⟨e1, e2⟩
  · rw [e2]
    rw [e1] at hA
    unfold Res2 at hA
    dsimp only at hA
    simp only [Option.bind_some]
    by_cases hin : a.1 ≤ 200 ∧ a.2 ≤ 8192
    · rw [if_pos (by omega), if_pos (by omega)] at hA
      rcases hA with ⟨g1, _, rfl, rfl⟩ | ⟨_, g2, _⟩
      · rw [g1]
        rw [decide_eq_false (by omega : ¬ ((0 + a.1 : Nat) : Int) > 200), decide_eq_false (by omega : ¬ ((0 + a.2 : Nat) : Int) > 8192)]
        exact ⟨true, _, _, rfl, rfl, fun _ => show (0 : Int) ≤ ((0 + a.1 : Nat) : Int) by omega⟩
      · cases g2
    · rw [if_neg (by omega), if_neg (by omega)] at hA
      rcases hA with ⟨_, g2⟩ | ⟨g1, _⟩
      · cases g2
      · rw [g1]
        refine ⟨false, _, _, rfl, ?_, fun h => by cases h⟩
        by_cases h200 : a.1 ≤ 200
        · rw [decide_eq_false (by omega : ¬ ((0 + a.1 : Nat) : Int) > 200), decide_eq_true (by omega : ((0 + a.2 : Nat) : Int) > 8192)]; rfl
        · rw [decide_eq_true (by omega : ((0 + a.1 : Nat) : Int) > 200)]; rfl
  · rw [e2]
    rcases hA with ⟨g1, g2⟩ | ⟨g1, _⟩
    · exfalso
      cases hS : sumP ps with
      | none => rw [hS] at g2; cases g2
      | some a =>
        have := e1 a hS
        rw [hS] at g2
        unfold Res2 at g2
        dsimp only at g2
        rw [if_neg (by omega)] at g2
        cases g2
    · rw [g1]
      exact ⟨false, _, _, rfl, rfl, fun h => by cases h⟩
end Tree
end Go.Proofs.Yticelgnmcjkknaa.M
