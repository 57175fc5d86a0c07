/-
The theorem of which words there may be: the plain law. For every input, no condition.
-/
import Derived.Test.YtgljnnokifggkaaChk
set_option linter.unusedVariables false
set_option linter.unusedSimpArgs false
set_option maxRecDepth 100000
namespace Go.Proofs.Ytgljnnokifggkaa.M
open Go Go.Proofs.Ytgljnnokifggkaa.Vm Go.Proofs.Ytgljnnokifggkaa.Pl
namespace Vec
open Aig
variable {g : List D_Gate} {m : Mp} {ins : List Bool}
theorem ref67 (k : Nat) (hg : g.length ≤ 1048576) (l : Int) : f67 k g l = some ((isL g l, ()), ()) := is24 (m := []) k hg l
/-- May a word be? -/
def chkB (g : List D_Gate) (a : List Int) : Bool := decide (1 ≤ a.length) && decide (a.length ≤ 16) && a.all (isL g)
def pairB (g : List D_Gate) (a b : List Int) : Bool := decide (a.length = b.length) && chkB g a && chkB g b
theorem chkB_iff {a : List Int} : chkB g a = true ↔ 1 ≤ a.length ∧ a.length ≤ 16 ∧ ∀ x ∈ a, isL g x = true := by
  unfold chkB
  simp only [Bool.and_eq_true, decide_eq_true_eq, List.all_eq_true, and_assoc]
theorem bad_loop (k : Nat) (hg : g.length ≤ 1048576) {a : List Int} (ha : a.length ≤ 1000) : ∀ (d i : Nat), a.length - i = d → (a.drop i).all (isL g) = false → ∀ j, d < j → ∃ q : Nat, l113_26 k j a a.length i g m = some (.inr (((q : Int), ()), ((), (), (), ()))) := by
  intro d
  induction d with
  | zero =>
    intro i hi hb
    rw [List.drop_of_length_le (by omega)] at hb; cases hb
  | succ d ih =>
    intro i hi hb j hj
    obtain ⟨j, rfl, hj2⟩ := succ_of (by omega : d + 1 + 1 ≤ j)
    have hw1 : w64 ((i : Int) + 1) = ((i + 1 : Nat) : Int) := by rw [w_id (by omega) (by omega)]; omega
    have hlt : i < a.length := by omega
    have hx : a[i]? = some a[i] := List.getElem?_eq_getElem hlt
    rw [List.drop_eq_getElem_cons hlt, List.all_cons] at hb
    have hu : l113_26 k (j + 1) a a.length i g m = b113_26 k (l113_26 k j) a a.length i g m := rfl
    rw [hu]
    unfold b113_26
    rw [decide_eq_true (by omega : (i : Int) < a.length), cond_true, ix_nat hx, chk107 k hg]
    simp only [Option.bind_some]
    cases hl : isL g a[i] with
    | false => exact ⟨i, rfl⟩
    | true =>
      rw [hl, Bool.true_and] at hb
      obtain ⟨q, hq⟩ := ih (i + 1) (by omega) hb j hj2
      refine ⟨q, ?_⟩
      simp only [Bool.not_true, cond_false]
      rw [hw1, hq]; rfl
theorem any68 (k : Nat) (hk : 20 < k) (hg : g.length ≤ 1048576) (a : List Int) : f68 k a g m = some ((if chkB g a then 0 else 1, ()), ()) := by
  cases hc : chkB g a with
  | true =>
    obtain ⟨h1, h2, h3⟩ := chkB_iff.1 hc
    exact check68 k hk hg h1 h2 h3
  | false =>
    rw [if_neg (by simp)]
    unfold f68
    by_cases h1 : (a.length : Int) < 1
    · rw [decide_eq_true h1]; rfl
    · by_cases h2 : (a.length : Int) > 16
      · rw [decide_eq_false h1, decide_eq_true h2]; rfl
      · have hb : a.all (isL g) = false := by
          unfold chkB at hc
          rw [decide_eq_true (by omega), decide_eq_true (by omega)] at hc
          simpa using hc
        obtain ⟨q, hq⟩ := bad_loop (m := m) k hg (a := a) (by omega) a.length 0 (by omega) (by rw [List.drop_zero]; exact hb) k (by omega)
        rw [show ((0 : Nat) : Int) = 0 from rfl] at hq
        rw [decide_eq_false h1, decide_eq_false h2, cond_false, cond_false]
        unfold f106 f113
        rw [hq]
        simp only [Option.bind_some]
        rw [decide_eq_true (by omega : (q : Int) ≥ 0)]; rfl
theorem any95 (k : Nat) (hk : 20 < k) (hg : g.length ≤ 1048576) (a b : List Int) : f95 k a b g m = some ((pairB g a b, ()), ()) := by
  unfold f95 pairB
  rw [beq_int, any68 k hk hg, any68 k hk hg]
  by_cases h : a.length = b.length
  · rw [decide_eq_true (by omega : (a.length : Int) = b.length), decide_eq_true h]
    cases chkB g a <;> cases chkB g b <;> rfl
  · rw [decide_eq_false (by omega : ¬ (a.length : Int) = b.length), decide_eq_false h]; rfl
theorem lits506 (k : Nat) (hg : g.length ≤ 1048576) {a : List Int} (ha : a.length ≤ 1000) : ∀ (d i : Nat) (may : Bool), a.length - i = d → ∀ j, d < j → l13_506 k j g a may i = some ((may && (a.drop i).all (isL g), ()), ()) := by
  intro d
  induction d with
  | zero =>
    intro i may hi j hj
    obtain ⟨j, rfl, _⟩ := succ_of (n := 0) (by omega : 0 + 1 ≤ j)
    show b13_506 k (l13_506 k j) g a may i = _
    unfold b13_506
    rw [decide_eq_false (by omega : ¬ (i : Int) < a.length), List.drop_of_length_le (by omega)]
    cases may <;> rfl
  | succ d ih =>
    intro i may hi j hj
    obtain ⟨j, rfl, hj2⟩ := succ_of (by omega : d + 1 + 1 ≤ j)
    show b13_506 k (l13_506 k j) g a may i = _
    have hw1 : w64 ((i : Int) + 1) = ((i + 1 : Nat) : Int) := by rw [w_id (by omega) (by omega)]; omega
    have hlt : i < a.length := by omega
    have hx : a[i]? = some a[i] := List.getElem?_eq_getElem hlt
    unfold b13_506
    rw [decide_eq_true (by omega : (i : Int) < a.length), cond_true, List.drop_eq_getElem_cons hlt, List.all_cons]
    cases may with
    | true =>
      rw [cond_true, ix_nat hx, ref67 k hg]
      simp only [Option.bind_some]
      rw [hw1, ih (i + 1) _ (by omega) j hj2]; rfl
    | false =>
      rw [cond_false, hw1, ih (i + 1) _ (by omega) j hj2]; rfl
theorem lits2042 (k : Nat) (hg : g.length ≤ 1048576) {a : List Int} (ha : a.length ≤ 1000) : ∀ (d i : Nat) (may : Bool), a.length - i = d → ∀ j, d < j → l13_2042 k j g a may i = some ((may && (a.drop i).all (isL g), ()), ()) := by
  intro d
  induction d with
  | zero =>
    intro i may hi j hj
    obtain ⟨j, rfl, _⟩ := succ_of (n := 0) (by omega : 0 + 1 ≤ j)
    show b13_2042 k (l13_2042 k j) g a may i = _
    unfold b13_2042
    rw [decide_eq_false (by omega : ¬ (i : Int) < a.length), List.drop_of_length_le (by omega)]
    cases may <;> rfl
  | succ d ih =>
    intro i may hi j hj
    obtain ⟨j, rfl, hj2⟩ := succ_of (by omega : d + 1 + 1 ≤ j)
    show b13_2042 k (l13_2042 k j) g a may i = _
    have hw1 : w64 ((i : Int) + 1) = ((i + 1 : Nat) : Int) := by rw [w_id (by omega) (by omega)]; omega
    have hlt : i < a.length := by omega
    have hx : a[i]? = some a[i] := List.getElem?_eq_getElem hlt
    unfold b13_2042
    rw [decide_eq_true (by omega : (i : Int) < a.length), cond_true, List.drop_eq_getElem_cons hlt, List.all_cons]
    cases may with
    | true =>
      rw [cond_true, ix_nat hx, ref67 k hg]
      simp only [Option.bind_some]
      rw [hw1, ih (i + 1) _ (by omega) j hj2]; rfl
    | false =>
      rw [cond_false, hw1, ih (i + 1) _ (by omega) j hj2]; rfl
theorem word_any {a : List Int} (h : ∀ x ∈ a, isL g x = true) : Word ins g a (bitsB a.length (num (a.map (Aig.val ins g)))) := by
  rw [← word_bits (bs := a.map (Aig.val ins g)) (List.length_map ..) ?_]
  · exact ⟨h, rfl⟩
  · have h0 := num_nonneg (a.map (Aig.val ins g))
    have h1 := num_lt (a.map (Aig.val ins g))
    rw [List.length_map] at h1
    exact (Int.emod_eq_of_lt h0 h1).symm
theorem both254 (k : Nat) (a b : List Int) : ∃ r, l13_254 k a b (a.all (isL g)) = some ((r, ()), ()) ∧ (r && b.all (isL g)) = pairB g a b := by
  unfold l13_254 pairB chkB
  rw [beq_int]
  by_cases h1 : 1 ≤ a.length
  · by_cases h2 : a.length ≤ 16
    · by_cases h3 : a.length = b.length
      · refine ⟨a.all (isL g), ?_, ?_⟩
        · rw [decide_eq_true (by omega : (a.length : Int) ≥ 1), decide_eq_true (by omega : (a.length : Int) ≤ 16), decide_eq_true (by omega : (a.length : Int) = b.length)]; rfl
        · rw [decide_eq_true h3, decide_eq_true h1, decide_eq_true h2, decide_eq_true (by omega : 1 ≤ b.length), decide_eq_true (by omega : b.length ≤ 16)]
          simp
      · refine ⟨false, ?_, ?_⟩
        · rw [decide_eq_true (by omega : (a.length : Int) ≥ 1), decide_eq_true (by omega : (a.length : Int) ≤ 16), decide_eq_false (by omega : ¬ (a.length : Int) = b.length)]; rfl
        · rw [decide_eq_false h3]; rfl
    · refine ⟨false, ?_, ?_⟩
      · rw [decide_eq_true (by omega : (a.length : Int) ≥ 1), decide_eq_false (by omega : ¬ (a.length : Int) ≤ 16)]; rfl
      · rw [decide_eq_false h2]; simp
  · refine ⟨false, ?_, ?_⟩
    · rw [decide_eq_false (by omega : ¬ (a.length : Int) ≥ 1)]; rfl
    · rw [decide_eq_false h1]; simp
theorem own2044 (k : Nat) (hk : 20 < k) (hg : g.length ≤ 1048576) (a : List Int) : l13_1022 k a (a.all (isL g)) g m = some (.inl ((), ((g, (), ()), m, ()))) := by
  unfold l13_1022 l13_2044
  rw [any68 k hk hg]
  simp only [Option.bind_some]
  unfold chkB
  by_cases h1 : 1 ≤ a.length
  · by_cases h2 : a.length ≤ 16
    · rw [decide_eq_true (by omega : (a.length : Int) ≥ 1), decide_eq_true (by omega : (a.length : Int) ≤ 16), decide_eq_true h1, decide_eq_true h2]
      cases a.all (isL g) <;> rfl
    · rw [decide_eq_true (by omega : (a.length : Int) ≥ 1), decide_eq_false (by omega : ¬ (a.length : Int) ≤ 16), decide_eq_false h2]
      cases a.all (isL g) <;> cases decide (1 ≤ a.length) <;> rfl
  · rw [decide_eq_false (by omega : ¬ (a.length : Int) ≥ 1), decide_eq_false h1]
    cases a.all (isL g) <;> rfl
theorem none24 (k : Nat) (hg : g.length ≤ 1048576) : f24 k (-1) g m = some ((false, ()), ()) := by
  rw [is24 k hg]
  have : isL g (-1) = false := by
    cases h : isL g (-1) with
    | false => rfl
    | true => have := (isL_iff.1 h).1; omega
  rw [this]
end Vec
open Aig Vec in
theorem Pure.VecChecks (g : List D_Gate) (_ : Fit (.slice T_Gate) g) (a : List Int) (_ : Fit (.slice i64) a) (b : List Int) (_ : Fit (.slice i64) b) : ∃ k, f13 k g a b = some ((true, ()), ()) := by
  by_cases h1 : (g.length : Int) > 12
  · refine (awake40E.mono fun k e2 => ?_).ex
    unfold f13; rw [decide_eq_true h1, cond_true, e2]; rfl
  by_cases h2 : (a.length : Int) > 40
  · refine (awake40E.mono fun k e2 => ?_).ex
    unfold f13; rw [decide_eq_false h1, cond_false, decide_eq_true h2, cond_true, e2]; rfl
  by_cases h3 : (b.length : Int) > 40
  · refine (awake40E.mono fun k e2 => ?_).ex
    unfold f13; rw [decide_eq_false h1, cond_false, decide_eq_false h2, cond_false, decide_eq_true h3, cond_true, e2]; rfl
  cases hok : okFrom 0 g with
  | false =>
    refine (awake40E.mono2 (E.ge 100) fun k e2 hk => ?_).ex
    unfold f13; rw [decide_eq_false h1, cond_false, decide_eq_false h2, cond_false, decide_eq_false h3, cond_false, may32 k (by omega) (by omega), hok]
    simp only [Option.bind_some, Bool.not_false, cond_true]
    rw [e2]; rfl
  | true =>
    have hv := valid_iff.1 hok
    obtain ⟨m, hm, h4⟩ := load30 hv (by omega)
    have lits : ∀ k, 100 < k → l13_506 k k g a true 0 = some ((a.all (isL g), ()), ()) := fun k hk => by
      have := lits506 k (g := g) (by omega) (a := a) (by omega) a.length 0 true (by omega) k (by omega)
      rw [show ((0 : Nat) : Int) = 0 from rfl, List.drop_zero, Bool.true_and] at this; exact this
    have lits2 : ∀ k (r : Bool), 100 < k → l13_510 k g b r = some ((r && b.all (isL g), ()), ()) := fun k r hk => by
      have := lits2042 k (g := g) (by omega) (a := b) (by omega) b.length 0 r (by omega) k (by omega)
      rw [show ((0 : Nat) : Int) = 0 from rfl, List.drop_zero] at this
      unfold l13_510 l13_1020
      simp only [Option.bind_some]
      rw [this]; rfl
    cases hp : pairB g a b with
    | false =>
      refine (awake40E.mono2 (E.ge 200) fun k e2 hk => ?_).ex
      have p95 := any95 (m := m) k (by omega) (by omega : g.length ≤ 1048576) a b
      rw [hp] at p95
      obtain ⟨r, hr1, hr2⟩ := both254 (g := g) k a b
      have is1 : f24 k 1 g m = some ((true, ()), ()) := by
        rw [is24 k (by omega)]
        have : isL g 1 = true := isL_iff.2 (by omega)
        rw [this]
      unfold f13
      rw [decide_eq_false h1, cond_false, decide_eq_false h2, cond_false, decide_eq_false h3, cond_false, may32 k (by omega) (by omega), hok]
      simp only [Option.bind_some, Bool.not_true, cond_false]
      rw [h4 k (by omega)]
      simp only [Option.bind_some, bne_self_eq_false, cond_false]
      rw [lits k (by omega)]
      simp only [Option.bind_some]
      rw [hr1]
      simp only [Option.bind_some]
      rw [lits2 k r (by omega), hr2, hp]
      simp only [Option.bind_some]
      rw [own2044 k (by omega) (by omega)]
      simp only [Option.bind_some]
      unfold l13_2046 f60
      rw [p95]
      simp only [Option.bind_some, Bool.not_false, cond_true]
      have e4094 : l13_4094s0 k false [] [] = some (.inl ((), ())) := rfl
      have c1 : f46 k a b g m = some (.inl (((), ()), ((g, (), ()), m, ()))) := by unfold f46; rw [p95]; rfl
      have c2 : f47 k a b g m = some (([], ()), ((g, (), ()), m, ())) := by unfold f47; rw [p95]; rfl
      have c3 : f50 k a b g m = some (([], ()), ((g, (), ()), m, ())) := by unfold f50 f97v4; rw [p95]; rfl
      have c4 : f56 k a b g m = some (.inl (([], ()), ((g, (), ()), m, ()))) := by unfold f56 f99; rw [p95]; rfl
      have c5 : f63 k 1 a b g m = some (([], ()), ((g, (), ()), m, ())) := by unfold f63 f97; rw [is1, p95]; rfl
      have c6 : f64 k a b g m = some ((-1, ()), ((g, (), ()), m, ())) := by unfold f64 f53 f97v2; rw [p95]; rfl
      have c7 : f65 k a b g m = some ((-1, ()), ((g, (), ()), m, ())) := by unfold f65; rw [p95]; rfl
      have c8 : f63 k (-1) a b g m = some (([], ()), ((g, (), ()), m, ())) := by unfold f63; rw [none24 k (by omega)]; rfl
      rw [e4094]
      simp only [Option.bind_some]
      unfold l13_8190 l13_16380
      rw [c1]
      simp only [Option.bind_some, beq_self_eq_true, Bool.not_true, cond_false]
      rw [c2]
      simp only [Option.bind_some, List.length_nil, show decide (((0 : Nat) : Int) > 0) = false from rfl, beq_self_eq_true, Bool.not_true, cond_false]
      rw [c3]
      simp only [Option.bind_some, List.length_nil, show decide (((0 : Nat) : Int) > 0) = false from rfl, beq_self_eq_true, Bool.not_true, cond_false]
      rw [c4]
      simp only [Option.bind_some, List.length_nil, show decide (((0 : Nat) : Int) > 0) = false from rfl, beq_self_eq_true, Bool.not_true, cond_false]
      rw [c5]
      simp only [Option.bind_some, List.length_nil, show decide (((0 : Nat) : Int) > 0) = false from rfl, beq_self_eq_true, Bool.not_true, cond_false]
      rw [c6]
      simp only [Option.bind_some, show decide ((-1 : Int) ≥ 0) = false from rfl, beq_self_eq_true, cond_true]
      rw [c7]
      simp only [Option.bind_some, show decide ((-1 : Int) ≥ 0) = false from rfl, beq_self_eq_true, cond_true]
      rw [c8]
      simp only [Option.bind_some, List.length_nil, show (((0 : Nat) : Int) == 0) = true from rfl, cond_true]
      rw [e2]; rfl
    | true =>
      have hp' := hp
      unfold pairB at hp'
      obtain ⟨hp1, hcb⟩ := Bool.and_eq_true_iff.1 hp'
      obtain ⟨hl, hca⟩ := Bool.and_eq_true_iff.1 hp1
      have hl := of_decide_eq_true hl
      obtain ⟨wa1, wa2, wa3⟩ := chkB_iff.1 hca
      obtain ⟨wb1, wb2, wb3⟩ := chkB_iff.1 hcb
      have hwa := word_any (ins := []) wa3
      have hwb := word_any (ins := []) wb3
      rw [← hl] at hwb
      have xa0 := num_nonneg (a.map (Aig.val [] g))
      have xa1 := num_lt (a.map (Aig.val [] g))
      have xb0 := num_nonneg (b.map (Aig.val [] g))
      have xb1 := num_lt (b.map (Aig.val [] g))
      rw [List.length_map] at xa1 xb1
      rw [← hl] at xb1
      generalize num (a.map (Aig.val [] g)) = x at *
      generalize num (b.map (Aig.val [] g)) = y at *
      generalize hw : a.length = w at *
      obtain ⟨g1, m1, qa, rest, he1, hv1, hm1, hl1, hwq, hwr, hE1⟩ := div60 (ins := []) hv hm (by omega) xa0 xa1 xb0 xb1 wa1 (by omega) hwa hwb
      obtain ⟨g2, m2, o2, he2, hv2, hm2, hl2, w2, hE2⟩ := add46 (ins := []) hv1 hm1 (by omega) wa1 wa2 (old_word he1 hwa) (old_word he1 hwb)
      have x2 := ext_trans he1 he2
      obtain ⟨g3, m3, o3, he3, hv3, hm3, hl3, w3, hE3⟩ := sub47 (ins := []) hv2 hm2 (by omega) wa1 wa2 (old_word x2 hwa) (old_word x2 hwb)
      have x3 := ext_trans x2 he3
      obtain ⟨g4, m4, o4, he4, hv4, hm4, hl4, w4, hE4⟩ := and50 (ins := []) hv3 hm3 (by omega) (old_word x3 hwa) (old_word x3 hwb) (by omega) (by omega) (by omega)
      have x4 := ext_trans x3 he4
      obtain ⟨g5, m5, o5, he5, hv5, hm5, hl5, w5, hE5⟩ := shl56 (ins := []) hv4 hm4 (by omega) wa1 wa2 (old_word x4 hwa) (old_word x4 hwb)
      have x5 := ext_trans x4 he5
      obtain ⟨g6, m6, o6, he6, hv6, hm6, hl6, w6, hE6⟩ := ite63 (ins := []) hv5 hm5 (by omega) (isL_iff.2 (by omega) : isL g5 1 = true) val_one (old_word x5 hwa) (old_word x5 hwb) (by omega) (by omega) (by omega)
      have x6 := ext_trans x5 he6
      obtain ⟨g7, m7, r7, he7, hv7, hm7, hl7, l7, v7, hE7⟩ := eq64 (ins := []) hv6 hm6 (by omega) (old_word x6 hwa) (old_word x6 hwb) (by omega) (by omega) (by omega)
      have x7 := ext_trans x6 he7
      obtain ⟨g8, m8, r8, he8, hv8, hm8, hl8, l8, v8, hE8⟩ := less65 (ins := []) hv7 hm7 (by omega) (old_word x7 hwa) (old_word x7 hwb) (by omega) (by omega) (by omega)
      refine (((hE1.and hE2).and (hE3.and hE4)).mono3 ((hE5.and hE6).and (hE7.and hE8)) (awake40E.and (E.ge 20000)) fun k e e' e'' => ?_).ex
      obtain ⟨⟨e1, e2⟩, e3, e4⟩ := e
      obtain ⟨⟨e5, e6⟩, e7, e8⟩ := e'
      obtain ⟨e9, hk⟩ := e''
      dsimp only at e3 e4 e5 e6 e7 e8
      have hg8 : g8.length ≤ 1048576 := by omega
      have i7 := (isL_iff.1 l7).1
      have i8 := (isL_iff.1 l8).1
      have n2 : o2.length = w := by rw [w2.len, bitsB_len]
      have n3 : o3.length = w := by rw [w3.len, bitsB_len]
      have n4 : o4.length = w := by rw [w4.len, zipB_len _ _ _ (by rw [bitsB_len, bitsB_len]), bitsB_len]
      have n5 : o5.length = w := by rw [w5.len, bitsB_len]
      have n6 : o6.length = w := by rw [w6.len, cond_true, bitsB_len]
      have c8 : f63 k (-1) a b g8 m8 = some (([], ()), ((g8, (), ()), m8, ())) := by unfold f63; rw [none24 k hg8]; rfl
      have gt : decide ((w : Int) > 0) = true := decide_eq_true (by omega)
      have e4094 : l13_4094s2 k true w w qa rest = some (.inl ((), (qa, rest, ()))) := by
        unfold l13_4094s2 l13_8188s2
        rw [gt]; rfl
      obtain ⟨r, hr1, hr2⟩ := both254 (g := g) k a b
      unfold f13
      rw [decide_eq_false h1, cond_false, decide_eq_false (by omega), cond_false, decide_eq_false h3, cond_false, may32 k (by omega) (by omega), hok]
      simp only [Option.bind_some, Bool.not_true, cond_false]
      rw [h4 k (by omega)]
      simp only [Option.bind_some, bne_self_eq_false, cond_false]
      rw [lits k (by omega)]
      simp only [Option.bind_some]
      rw [hr1]
      simp only [Option.bind_some]
      rw [lits2 k r (by omega), hr2, hp]
      simp only [Option.bind_some]
      rw [own2044 k (by omega) (by omega)]
      simp only [Option.bind_some]
      unfold l13_2046
      rw [e1]
      simp only [Option.bind_some]
      rw [e4094]
      simp only [Option.bind_some]
      unfold l13_8190 l13_16380
      rw [e2]
      simp only [Option.bind_some, n2, gt, beq_self_eq_true, Bool.not_true, cond_false]
      rw [e3]
      simp only [Option.bind_some, n3, gt, beq_self_eq_true, Bool.not_true, cond_false]
      rw [e4]
      simp only [Option.bind_some, n4, gt, beq_self_eq_true, Bool.not_true, cond_false]
      rw [e5]
      simp only [Option.bind_some, n5, gt, beq_self_eq_true, Bool.not_true, cond_false]
      rw [e6]
      simp only [Option.bind_some, n6, gt, beq_self_eq_true, Bool.not_true, cond_false]
      rw [e7]
      simp only [Option.bind_some, decide_eq_true (show r7 ≥ 0 from i7), beq_self_eq_true, cond_true]
      rw [e8]
      simp only [Option.bind_some, decide_eq_true (show r8 ≥ 0 from i8), beq_self_eq_true, cond_true]
      rw [c8]
      simp only [Option.bind_some, List.length_nil, show (((0 : Nat) : Int) == 0) = true from rfl, cond_true]
      rw [e9]; rfl
end Go.Proofs.Ytgljnnokifggkaa.M
