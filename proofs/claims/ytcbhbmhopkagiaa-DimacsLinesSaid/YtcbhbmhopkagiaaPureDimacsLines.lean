/-
The theorem of lines: the plain law. For every input, no condition.
-/
import Derived.Test.YtcbhbmhopkagiaaDimR
set_option linter.unusedVariables false
set_option linter.unusedSimpArgs false
set_option maxRecDepth 100000
namespace Go.Proofs.Ytcbhbmhopkagiaa.M
open Go Go.Proofs.Ytcbhbmhopkagiaa.Vm Go.Proofs.Ytcbhbmhopkagiaa.Pl
namespace Dim
open Num Str
theorem awake5 (k : Nat) : f5 (k + 40) () = some ((true, ()), ()) := by kernel_rfl
theorem awake5E : E fun k => f5 k () = some ((true, ()), ()) := ⟨40, fun k hk => by obtain ⟨j, rfl⟩ : ∃ j, k = j + 40 := ⟨k - 40, by omega⟩; exact awake5 j⟩
/-! ### which formulas -/
def total (cls : List (List Int)) : Nat := (cls.map List.length).sum
theorem light_loop (k : Nat) {v : Int} {cls : List (List Int)} : ∀ (d i n : Nat), 301 - i = d → n ≤ 5000 * i → ∀ j, d + 1 < j →
    l9_58 k j n i v cls = some (.inr ((false, ()), ((v, cls, ()), ()))) ∨ ∃ n' : Nat, l9_58 k j n i v cls = some (.inl (((n' : Int), ()), ((v, cls, ()), ()))) ∧ (cls.length ≤ 300 → n' = n + total (cls.drop i)) := by
  intro d
  induction d with
  | zero =>
    intro i n hi hn j hj
    obtain ⟨j, rfl, _⟩ := succ_of (n := 0) (by omega : 0 + 1 ≤ j)
    refine .inr ⟨n, ?_, fun h => by rw [List.drop_of_length_le (by omega)]; rfl⟩
    show b9_58 k (l9_58 k j) n i v cls = _
    unfold b9_58
    by_cases hlt : i < cls.length
    · rw [decide_eq_true (by omega : (i : Int) < cls.length), decide_eq_false (by omega : ¬ (i : Int) ≤ 300)]; rfl
    · rw [decide_eq_false (by omega : ¬ (i : Int) < cls.length)]; rfl
  | succ d ih =>
    intro i n hi hn j hj
    obtain ⟨j, rfl, hj2⟩ := succ_of (by omega : d + 1 + 1 + 1 ≤ j)
    have e0 : l9_58 k (j + 1) n i v cls = b9_58 k (l9_58 k j) n i v cls := rfl
    rw [e0]
    unfold b9_58
    by_cases hlt : i < cls.length
    · have hx : cls[i]? = some cls[i] := List.getElem?_eq_getElem hlt
      rw [decide_eq_true (by omega : (i : Int) < cls.length), decide_eq_true (by omega : (i : Int) ≤ 300), cond_true, cond_true, ix_nat hx, ix_nat hx]
      by_cases hbig : (cls[i].length : Int) > 5000
      · rw [decide_eq_true hbig]; exact .inl rfl
      · have hw : w64 ((n : Int) + (cls[i].length : Int)) = ((n + cls[i].length : Nat) : Int) := by rw [w_id (by omega) (by omega)]; omega
        rw [decide_eq_false hbig, cond_false, hw, w_one (by omega)]
        rcases ih (i + 1) (n + cls[i].length) (by omega) (by omega) j (by omega) with h | ⟨n', h, h2⟩
        · rw [h]; exact .inl rfl
        · rw [h]
          refine .inr ⟨n', rfl, fun h3 => ?_⟩
          rw [h2 h3, List.drop_eq_getElem_cons hlt]
          unfold total
          rw [List.map_cons, List.sum_cons]; omega
    · rw [decide_eq_false (by omega : ¬ (i : Int) < cls.length)]
      exact .inr ⟨n, rfl, fun h => by rw [List.drop_of_length_le (by omega)]; rfl⟩
theorem light9 (k : Nat) (hk : 400 < k) {v : Int} {cls : List (List Int)} {u : Unit} : ∃ b, f9 k (v, cls, u) = some ((b, ()), ()) ∧ (b = true → cls.length ≤ 300 ∧ total cls ≤ 6000) := by
  unfold f9
  dsimp only
  rcases light_loop k (v := v) (cls := cls) 301 0 0 (by omega) (by omega) k (by omega) with h | ⟨n', h, h2⟩
  · rw [show ((0 : Nat) : Int) = 0 from rfl] at h
    rw [h]
    exact ⟨false, rfl, fun h => by cases h⟩
  · rw [show ((0 : Nat) : Int) = 0 from rfl] at h
    rw [h]
    simp only [Option.bind_some]
    by_cases h3 : (cls.length : Int) ≤ 300
    · rw [decide_eq_true h3]
      refine ⟨_, rfl, fun h4 => ?_⟩
      have h4 := of_decide_eq_true h4
      have := h2 (by omega)
      rw [List.drop_zero] at this
      omega
    · rw [decide_eq_false h3]
      exact ⟨false, rfl, fun h => by cases h⟩
theorem total_mem : ∀ (cls : List (List Int)) (c : List Int), c ∈ cls → c.length ≤ total cls
  | [], _, h => by cases h
  | d :: cls, c, h => by
    have e : total (d :: cls) = d.length + total cls := by unfold total; rw [List.map_cons, List.sum_cons]
    rw [e]
    rcases List.mem_cons.1 h with rfl | h
    · omega
    · have := total_mem cls c h; omega
def litOk (v l : Int) : Prop := l ≠ 0 ∧ -1048576 ≤ l ∧ l ≤ 1048576 ∧ l ≤ v ∧ -l ≤ v
theorem lit18 (k : Nat) (l : Int) : ∃ b, f18 k l = some ((b, ()), ()) ∧ (b = true → l ≠ 0 ∧ -1048576 ≤ l ∧ l ≤ 1048576) := by
  unfold f18
  by_cases h0 : l = 0
  · rw [show (l != 0) = false from by simp [h0]]; exact ⟨false, rfl, fun h => by cases h⟩
  · rw [show (l != 0) = true from by simp [h0], cond_true]
    by_cases h1 : l ≥ -1048576
    · rw [decide_eq_true h1, cond_true]
      exact ⟨_, rfl, fun h => ⟨h0, h1, of_decide_eq_true h⟩⟩
    · rw [decide_eq_false h1]; exact ⟨false, rfl, fun h => by cases h⟩
theorem may_loop (k : Nat) {c : List Int} (hc : c.length ≤ 1000000) : ∀ (d i : Nat), c.length - i = d → ∀ j, d < j →
    l13_26 k j c i = some (.inr ((false, ()), ())) ∨ (l13_26 k j c i = some (.inl ((), ())) ∧ ∀ l ∈ c.drop i, l ≠ 0 ∧ -1048576 ≤ l ∧ l ≤ 1048576) := by
  intro d
  induction d with
  | zero =>
    intro i hi j hj
    obtain ⟨j, rfl, _⟩ := succ_of (n := 0) (by omega : 0 + 1 ≤ j)
    refine .inr ⟨?_, fun l hl => by rw [List.drop_of_length_le (by omega)] at hl; cases hl⟩
    show b13_26 k (l13_26 k j) c i = _
    unfold b13_26
    rw [decide_eq_false (by omega : ¬ (i : Int) < c.length)]; rfl
  | succ d ih =>
    intro i hi j hj
    obtain ⟨j, rfl, hj2⟩ := succ_of (by omega : d + 1 + 1 ≤ j)
    have hlt : i < c.length := by omega
    have hx : c[i]? = some c[i] := List.getElem?_eq_getElem hlt
    have e0 : l13_26 k (j + 1) c i = b13_26 k (l13_26 k j) c i := rfl
    rw [e0]
    unfold b13_26
    obtain ⟨b, hb, hb2⟩ := lit18 k c[i]
    rw [decide_eq_true (by omega : (i : Int) < c.length), cond_true, ix_nat hx, hb]
    simp only [Option.bind_some]
    cases b with
    | false => exact .inl rfl
    | true =>
      simp only [Bool.not_true, cond_false]
      rw [w_one (by omega)]
      rcases ih (i + 1) (by omega) j hj2 with h | ⟨h, h2⟩
      · rw [h]; exact .inl rfl
      · rw [h]
        refine .inr ⟨rfl, fun l hl => ?_⟩
        rw [List.drop_eq_getElem_cons hlt] at hl
        rcases List.mem_cons.1 hl with rfl | hl
        · exact hb2 rfl
        · exact h2 l hl
theorem may13 (k : Nat) {c : List Int} (hc : c.length ≤ 1000000) (hk : c.length < k) : ∃ b, f13 k c = some ((b, ()), ()) ∧ (b = true → c.length ≤ 4096 ∧ ∀ l ∈ c, l ≠ 0 ∧ -1048576 ≤ l ∧ l ≤ 1048576) := by
  unfold f13
  rcases may_loop k hc c.length 0 (by omega) k (by omega) with h | ⟨h, h2⟩
  · rw [show ((0 : Nat) : Int) = 0 from rfl] at h
    rw [h]; exact ⟨false, rfl, fun h => by cases h⟩
  · rw [show ((0 : Nat) : Int) = 0 from rfl] at h
    rw [h]
    refine ⟨_, rfl, fun h3 => ⟨?_, by rw [List.drop_zero] at h2; exact h2⟩⟩
    have := of_decide_eq_true h3
    omega
theorem vars_loop (k : Nat) {v : Int} {cls : List (List Int)} {i : Nat} {c : List Int} (hx : cls[i]? = some c) (hc : c.length ≤ 1000000) (hr : ∀ l ∈ c, -1048576 ≤ l ∧ l ≤ 1048576) : ∀ (d q : Nat), c.length - q = d → ∀ j, d < j →
    l10_7462 k j i q v cls = some (.inr ((false, ()), ((v, cls, ()), ()))) ∨ (l10_7462 k j i q v cls = some (.inl ((), ((v, cls, ()), ()))) ∧ ∀ l ∈ c.drop q, l ≤ v ∧ -l ≤ v) := by
  intro d
  induction d with
  | zero =>
    intro q hq j hj
    obtain ⟨j, rfl, _⟩ := succ_of (n := 0) (by omega : 0 + 1 ≤ j)
    refine .inr ⟨?_, fun l hl => by rw [List.drop_of_length_le (by omega)] at hl; cases hl⟩
    show b10_7462 k (l10_7462 k j) i q v cls = _
    unfold b10_7462
    rw [ix_nat hx, decide_eq_false (by omega : ¬ (q : Int) < c.length)]; rfl
  | succ d ih =>
    intro q hq j hj
    obtain ⟨j, rfl, hj2⟩ := succ_of (by omega : d + 1 + 1 ≤ j)
    have hlt : q < c.length := by omega
    have hy : c[q]? = some c[q] := List.getElem?_eq_getElem hlt
    have hr' := hr _ (List.getElem_mem hlt)
    have e0 : l10_7462 k (j + 1) i q v cls = b10_7462 k (l10_7462 k j) i q v cls := rfl
    rw [e0]
    have h14 : f14 k c[q] = some (((if c[q] < 0 then -c[q] else c[q]), ()), ()) := by
      unfold f14
      by_cases h : c[q] < 0
      · rw [decide_eq_true h, if_pos h, w_id (by omega) (by omega), Int.zero_sub]; rfl
      · rw [decide_eq_false h, if_neg h]; rfl
    unfold b10_7462
    rw [ix_nat hx, decide_eq_true (by omega : (q : Int) < c.length), cond_true, ix_nat hx, ix_nat hy, h14]
    simp only [Option.bind_some]
    by_cases hv : (if c[q] < 0 then -c[q] else c[q]) > v
    · rw [decide_eq_true hv]; exact .inl rfl
    · rw [decide_eq_false hv, cond_false, w_one (by omega)]
      rcases ih (q + 1) (by omega) j hj2 with h | ⟨h, h2⟩
      · rw [h]; exact .inl rfl
      · rw [h]
        refine .inr ⟨rfl, fun l hl => ?_⟩
        rw [List.drop_eq_getElem_cons hlt] at hl
        rcases List.mem_cons.1 hl with rfl | hl
        · split at hv <;> omega
        · exact h2 l hl
theorem cnf_loop (k : Nat) (hk : 2000000 < k) {v : Int} {cls : List (List Int)} (hl : cls.length ≤ 1000) (hc : ∀ c ∈ cls, c.length ≤ 1000000) : ∀ (d i : Nat), cls.length - i = d → ∀ j, d < j →
    l10_58 k j i v cls = some (.inr ((false, ()), ((v, cls, ()), ()))) ∨ (l10_58 k j i v cls = some (.inl ((), ((v, cls, ()), ()))) ∧ ∀ c ∈ cls.drop i, c.length ≤ 4096 ∧ ∀ l ∈ c, litOk v l) := by
  intro d
  induction d with
  | zero =>
    intro i hi j hj
    obtain ⟨j, rfl, _⟩ := succ_of (n := 0) (by omega : 0 + 1 ≤ j)
    refine .inr ⟨?_, fun l hl => by rw [List.drop_of_length_le (by omega)] at hl; cases hl⟩
    show b10_58 k (l10_58 k j) i v cls = _
    unfold b10_58
    rw [decide_eq_false (by omega : ¬ (i : Int) < cls.length)]; rfl
  | succ d ih =>
    intro i hi j hj
    obtain ⟨j, rfl, hj2⟩ := succ_of (by omega : d + 1 + 1 ≤ j)
    have hlt : i < cls.length := by omega
    have hx : cls[i]? = some cls[i] := List.getElem?_eq_getElem hlt
    have hcl := hc _ (List.getElem_mem hlt)
    have e0 : l10_58 k (j + 1) i v cls = b10_58 k (l10_58 k j) i v cls := rfl
    rw [e0]
    unfold b10_58
    obtain ⟨b, hb, hb2⟩ := may13 k hcl (by omega)
    rw [decide_eq_true (by omega : (i : Int) < cls.length), cond_true, ix_nat hx, hb]
    simp only [Option.bind_some]
    cases b with
    | false => exact .inl rfl
    | true =>
      have hb2 := hb2 rfl
      simp only [Bool.not_true, cond_false]
      rcases vars_loop k (v := v) hx hcl (fun l hl => (hb2.2 l hl).2) cls[i].length 0 (by omega) k (by omega) with h | ⟨h, h2⟩
      · rw [show ((0 : Nat) : Int) = 0 from rfl] at h
        rw [h]; exact .inl rfl
      · rw [show ((0 : Nat) : Int) = 0 from rfl] at h
        rw [h]
        simp only [Option.bind_some]
        rw [w_one (by omega)]
        rcases ih (i + 1) (by omega) j hj2 with h3 | ⟨h3, h4⟩
        · rw [h3]; exact .inl rfl
        · rw [h3]
          refine .inr ⟨rfl, fun c hc' => ?_⟩
          rw [List.drop_eq_getElem_cons hlt] at hc'
          rcases List.mem_cons.1 hc' with rfl | hc'
          · refine ⟨hb2.1, fun l hl => ?_⟩
            have a1 := hb2.2 l hl
            have a2 := h2 l (by rw [List.drop_zero]; exact hl)
            exact ⟨a1.1, a1.2.1, a1.2.2, a2.1, a2.2⟩
          · exact h4 c hc'
theorem cnf10 (k : Nat) (hk : 2000000 < k) {v : Int} {cls : List (List Int)} {u : Unit} (hl : cls.length ≤ 300) (hc : ∀ c ∈ cls, c.length ≤ 1000000) : ∃ b, f10 k (v, cls, u) = some ((b, ()), ()) ∧ (b = true → 0 ≤ v ∧ v ≤ 1048576 ∧ ∀ c ∈ cls, c.length ≤ 4096 ∧ ∀ l ∈ c, litOk v l) := by
  unfold f10
  dsimp only
  by_cases h1 : v < 0
  · rw [decide_eq_true h1]; exact ⟨false, rfl, fun h => by cases h⟩
  by_cases h2 : v > 1048576
  · rw [decide_eq_false h1, decide_eq_true h2]; exact ⟨false, rfl, fun h => by cases h⟩
  rw [decide_eq_false h1, decide_eq_false h2, decide_eq_false (by omega : ¬ (cls.length : Int) > 262144), cond_false, cond_false, cond_false]
  rcases cnf_loop k hk (v := v) (by omega) hc cls.length 0 (by omega) k (by omega) with h | ⟨h, h3⟩
  · rw [show ((0 : Nat) : Int) = 0 from rfl] at h
    rw [h]; exact ⟨false, rfl, fun h => by cases h⟩
  · rw [show ((0 : Nat) : Int) = 0 from rfl] at h
    rw [h]
    exact ⟨true, rfl, fun _ => ⟨by omega, by omega, by rw [List.drop_zero] at h3; exact h3⟩⟩
/-! ### the same formula is the same -/
theorem ints_loop (k : Nat) {c : List Int} (hc : c.length ≤ 1000000) : ∀ (d i : Nat), c.length - i = d → ∀ j, d < j → l23_58 k j c c i = some (.inl ((), ())) := by
  intro d
  induction d with
  | zero =>
    intro i hi j hj
    obtain ⟨j, rfl, _⟩ := succ_of (n := 0) (by omega : 0 + 1 ≤ j)
    show b23_58 k (l23_58 k j) c c i = _
    unfold b23_58
    rw [decide_eq_false (by omega : ¬ (i : Int) < c.length)]; rfl
  | succ d ih =>
    intro i hi j hj
    obtain ⟨j, rfl, hj2⟩ := succ_of (by omega : d + 1 + 1 ≤ j)
    have hx : c[i]? = some c[i] := List.getElem?_eq_getElem (by omega)
    show b23_58 k (l23_58 k j) c c i = _
    unfold b23_58
    rw [decide_eq_true (by omega : (i : Int) < c.length), cond_true, ix_nat hx, ix_nat hx, bne_self_eq_false, cond_false, w_one (by omega), ih (i + 1) (by omega) j hj2]
    rfl
theorem lists_loop (k : Nat) (hk : 2000000 < k) {cls : List (List Int)} (hl : cls.length ≤ 1000) (hc : ∀ c ∈ cls, c.length ≤ 1000000) : ∀ (d i : Nat), cls.length - i = d → ∀ j, d < j → l17_58 k j cls cls i = some (.inl ((), ())) := by
  intro d
  induction d with
  | zero =>
    intro i hi j hj
    obtain ⟨j, rfl, _⟩ := succ_of (n := 0) (by omega : 0 + 1 ≤ j)
    show b17_58 k (l17_58 k j) cls cls i = _
    unfold b17_58
    rw [decide_eq_false (by omega : ¬ (i : Int) < cls.length)]; rfl
  | succ d ih =>
    intro i hi j hj
    obtain ⟨j, rfl, hj2⟩ := succ_of (by omega : d + 1 + 1 ≤ j)
    have hlt : i < cls.length := by omega
    have hx : cls[i]? = some cls[i] := List.getElem?_eq_getElem hlt
    have hcl := hc _ (List.getElem_mem hlt)
    have h23 : f23 k cls[i] cls[i] = some ((true, ()), ()) := by
      have := ints_loop k hcl cls[i].length 0 (by omega) k (by omega)
      rw [show ((0 : Nat) : Int) = 0 from rfl] at this
      unfold f23
      rw [bne_self_eq_false, cond_false, this]; rfl
    show b17_58 k (l17_58 k j) cls cls i = _
    unfold b17_58
    rw [decide_eq_true (by omega : (i : Int) < cls.length), cond_true, ix_nat hx, ix_nat hx, h23]
    simp only [Option.bind_some, Bool.not_true, cond_false]
    rw [w_one (by omega), ih (i + 1) (by omega) j hj2]
    rfl
theorem same12 (k : Nat) (hk : 2000000 < k) {v : Int} {cls : List (List Int)} (hl : cls.length ≤ 1000) (hc : ∀ c ∈ cls, c.length ≤ 1000000) : f12 k (v, cls, ()) (v, cls, ()) = some ((true, ()), ()) := by
  have := lists_loop k hk hl hc cls.length 0 (by omega) k (by omega)
  rw [show ((0 : Nat) : Int) = 0 from rfl] at this
  unfold f12 f17
  dsimp only
  rw [beq_self_eq_true, cond_true, bne_self_eq_false, cond_false, this]; rfl
/-! ### the numbers of a formula -/
def nums (cls : List (List Int)) : List Int := cls.flatMap fun c => c ++ [0]
theorem run_clause {V W : Int} : ∀ (c op : List Int) (cls : List (List Int)) (inn : Bool), (∀ l ∈ c, litOk V l) → op.length + c.length ≤ 4096 → cls.length ≤ 1000 → (cls.length : Int) < W →
    RunOk ⟨V, cls, true, W, op, inn⟩ (c ++ [0]) ∧ run ⟨V, cls, true, W, op, inn⟩ (c ++ [0]) = ⟨V, cls ++ [op ++ c], true, W, [], false⟩
  | [], op, cls, inn, _, h1, h2, h3 => by
    refine ⟨⟨⟨by dsimp only; omega, by simpa using h1, by omega, by omega, fun _ => by dsimp only; omega, fun h => absurd rfl h⟩, True.intro⟩, ?_⟩
    show num1 _ 0 = _
    unfold num1
    rw [if_pos rfl, List.append_nil]
  | l :: c, op, cls, inn, hl, h1, h2, h3 => by
    obtain ⟨a1, a2, a3, a4, a5⟩ := hl l (List.mem_cons_self ..)
    rw [List.length_cons] at h1
    have e : num1 ⟨V, cls, true, W, op, inn⟩ l = ⟨V, cls, true, W, op ++ [l], true⟩ := by unfold num1; rw [if_neg a1]
    obtain ⟨k1, k2⟩ := run_clause c (op ++ [l]) cls true (fun q hq => hl q (List.mem_cons_of_mem _ hq)) (by simp; omega) h2 h3
    refine ⟨⟨⟨by dsimp only; omega, by dsimp only; omega, by omega, by omega, fun _ => by dsimp only; omega, fun _ => ⟨a4, a5, by dsimp only; omega⟩⟩, by rw [e]; exact k1⟩, ?_⟩
    show run (num1 _ l) (c ++ [0]) = _
    rw [e, k2, List.append_assoc]; rfl
theorem run_clauses {V W : Int} : ∀ (cs cls : List (List Int)), (∀ c ∈ cs, c.length ≤ 4096 ∧ ∀ l ∈ c, litOk V l) → cls.length + cs.length ≤ 1000 → ((cls.length + cs.length : Nat) : Int) = W →
    RunOk ⟨V, cls, true, W, [], false⟩ (nums cs) ∧ run ⟨V, cls, true, W, [], false⟩ (nums cs) = ⟨V, cls ++ cs, true, W, [], false⟩
  | [], cls, _, _, _ => ⟨True.intro, by simp [nums, run]⟩
  | c :: cs, cls, hc, h1, h2 => by
    rw [List.length_cons] at h1 h2
    obtain ⟨k1, k2⟩ := run_clause (W := W) c [] cls false (hc c (List.mem_cons_self ..)).2 (by simpa using (hc c (List.mem_cons_self ..)).1) (by omega) (by omega)
    obtain ⟨j1, j2⟩ := run_clauses (V := V) (W := W) cs (cls ++ [c]) (fun q hq => hc q (List.mem_cons_of_mem _ hq)) (by simp; omega) (by simp; omega)
    rw [List.nil_append] at k2
    have e : nums (c :: cs) = (c ++ [0]) ++ nums cs := by unfold nums; rw [List.flatMap_cons]
    rw [e]
    refine ⟨(runOk_append _ _ _).2 ⟨k1, by rw [k2]; exact j1⟩, ?_⟩
    rw [run_append, k2, j2, List.append_assoc]; rfl
theorem nums_len : ∀ cls : List (List Int), (nums cls).length = total cls + cls.length
  | [] => rfl
  | c :: cs => by
    have := nums_len cs
    unfold nums total at this ⊢
    rw [List.flatMap_cons, List.length_append, List.length_append, this, List.map_cons, List.sum_cons, List.length_cons]
    simp; omega
/-! ### the text is made -/
def gapsB : List ByteArray := [(ByteArray.mk #[32]), (ByteArray.mk #[10]), s_1, (ByteArray.mk #[13, 10]), s_2, (ByteArray.mk #[10, 10])]
theorem gap_get {x : List Int} {e : Int} {k : Nat} (hx : x[k]? = some e) (he : 0 ≤ e) : ∃ g, gapsB[(e % 6).toNat]? = some g ∧ bytesD g = gapAt x k ∧ g.size ≤ 10 := by
  have h : (e % 6).toNat < 6 := by omega
  unfold gapAt
  rw [hx]
  have key : ∀ m, m < 6 → ∃ g, gapsB[m]? = some g ∧ bytesD g = gaps.getD m [] ∧ g.size ≤ 10 := fun m hm =>
    match m, hm with
    | 0, _ => ⟨_, rfl, rfl, by decide⟩
    | 1, _ => ⟨_, rfl, rfl, by decide⟩
    | 2, _ => ⟨_, rfl, rfl, by decide⟩
    | 3, _ => ⟨_, rfl, rfl, by decide⟩
    | 4, _ => ⟨_, rfl, rfl, by decide⟩
    | 5, _ => ⟨_, rfl, rfl, by decide⟩
  exact key _ h
theorem digs_len {n : Int} (h1 : -9999999999 ≤ n) (h2 : n ≤ 9999999999) : (digs n).length ≤ 30 := by
  unfold digs
  have hl := digN_len 19 n.natAbs (by omega)
  split
  · rw [List.length_cons]; omega
  · omega
theorem inner_loop (k : Nat) (hk : 20000000000 ≤ k) {x : List Int} (hx : ∀ e ∈ x, 0 ≤ e ∧ e ≤ 255) (hxl : x.length ≤ 1000) {v : Int} {cls : List (List Int)} {i : Nat} {c : List Int} (hi : cls[i]? = some c) (hc : c.length ≤ 5000) (hr : ∀ l ∈ c, -1048576 ≤ l ∧ l ≤ 1048576) :
    ∀ (d q kk : Nat) (s : ByteArray), c.length + 1 - q = d → q ≤ c.length + 1 → kk + d ≤ 10000000 → s.size + 40 * d ≤ 1000000000 → ∀ j, d < j →
      ∃ s', l4_16018 k j x s kk i q v cls = some ((s', ((kk + d : Nat) : Int), ()), ((v, cls, ()), ())) ∧ bytesD s' = bytesD s ++ textOf x kk ((c ++ [0]).drop q) ∧ s'.size ≤ s.size + 40 * d := by
  intro d
  induction d with
  | zero =>
    intro q kk s hq hq2 hkk hs j hj
    obtain ⟨j, rfl, _⟩ := succ_of (n := 0) (by omega : 0 + 1 ≤ j)
    refine ⟨s, ?_, by rw [List.drop_of_length_le (by simp; omega)]; simp [textOf], by omega⟩
    show b4_16018 k (l4_16018 k j) x s kk i q v cls = _
    unfold b4_16018
    rw [ix_nat hi, decide_eq_false (by omega : ¬ (q : Int) ≤ c.length)]; rfl
  | succ d ih =>
    intro q kk s hq hq2 hkk hs j hj
    obtain ⟨j, rfl, hj2⟩ := succ_of (by omega : d + 1 + 1 ≤ j)
    have e0 : l4_16018 k (j + 1) x s kk i q v cls = b4_16018 k (l4_16018 k j) x s kk i q v cls := rfl
    rw [e0]
    -- one word and its gap
    have step : ∀ (w g : ByteArray) (n : Int), (c ++ [0])[q]? = some n → bytesD w = digs n → w.size ≤ 30 → bytesD g = gapAt x kk → g.size ≤ 10 →
        ∃ s', ((gd (decide (s.size + w.size ≤ 9223372036854775807)) <|
        gd (decide ((s ++ w).size + g.size ≤ 9223372036854775807)) <|
        (l4_16018 k j x ((s ++ w) ++ g) (w64 ((kk : Int) + 1)) i (w64 ((q : Int) + 1)) v cls).bind fun y8 =>
        (some ((y8.1.1, y8.1.2.1, ()), ((y8.2.1.1, y8.2.1.2.1, ()), ())) : Option R4_16018))) = some ((s', ((kk + (d + 1) : Nat) : Int), ()), ((v, cls, ()), ())) ∧ bytesD s' = bytesD s ++ textOf x kk ((c ++ [0]).drop q) ∧ s'.size ≤ s.size + 40 * (d + 1) := by
      intro w g n hn hw hws hg hgs
      have z1 : (s ++ w).size = s.size + w.size := ByteArray.size_append
      have z2 : ((s ++ w) ++ g).size = s.size + w.size + g.size := by rw [ByteArray.size_append, z1]
      obtain ⟨s', h1, h2, h3⟩ := ih (q + 1) (kk + 1) ((s ++ w) ++ g) (by omega) (by omega) (by omega) (by omega) j hj2
      rw [z1, gd_dec (by omega), gd_dec (by omega), w_one (by omega), w_one (by omega), h1]
      rw [show kk + 1 + d = kk + (d + 1) by omega]
      refine ⟨s', rfl, ?_, by omega⟩
      · obtain ⟨hlt, hge⟩ := List.getElem?_eq_some_iff.1 hn
        rw [h2, bytes_append, bytes_append, hw, hg, List.drop_eq_getElem_cons hlt, hge, textOf]
        simp [List.append_assoc]
    -- its gap
    have both : ∀ (w : ByteArray) (n : Int), (c ++ [0])[q]? = some n → bytesD w = digs n → w.size ≤ 30 →
        ∃ s', (cond (decide ((kk : Int) < (x.length : Int)))
        (ix x (kk : Int) fun e6 =>
        ix gapsB (Int.tmod e6 6) fun e7 =>
        gd (decide (s.size + w.size ≤ 9223372036854775807)) <|
        gd (decide ((s ++ w).size + e7.size ≤ 9223372036854775807)) <|
        (l4_16018 k j x ((s ++ w) ++ e7) (w64 ((kk : Int) + 1)) i (w64 ((q : Int) + 1)) v cls).bind fun y8 =>
        (some ((y8.1.1, y8.1.2.1, ()), ((y8.2.1.1, y8.2.1.2.1, ()), ())) : Option R4_16018))
        (gd (decide (s.size + w.size ≤ 9223372036854775807)) <|
        gd (decide ((s ++ w).size + (ByteArray.mk #[32]).size ≤ 9223372036854775807)) <|
        (l4_16018 k j x ((s ++ w) ++ (ByteArray.mk #[32])) (w64 ((kk : Int) + 1)) i (w64 ((q : Int) + 1)) v cls).bind fun y9 =>
        (some ((y9.1.1, y9.1.2.1, ()), ((y9.2.1.1, y9.2.1.2.1, ()), ())) : Option R4_16018))) = some ((s', ((kk + (d + 1) : Nat) : Int), ()), ((v, cls, ()), ())) ∧ bytesD s' = bytesD s ++ textOf x kk ((c ++ [0]).drop q) ∧ s'.size ≤ s.size + 40 * (d + 1) := by
      intro w n hn hw hws
      by_cases hkx : kk < x.length
      · have hxk : x[kk]? = some x[kk] := List.getElem?_eq_getElem hkx
        have hxr := hx _ (List.getElem_mem hkx)
        obtain ⟨g, hg1, hg2, hg3⟩ := gap_get hxk hxr.1
        have ht : Int.tmod x[kk] 6 = x[kk] % 6 := Int.tmod_eq_emod_of_nonneg hxr.1
        rw [decide_eq_true (by omega : (kk : Int) < (x.length : Int)), cond_true, ix_nat hxk, ht, ix_get (by omega) hg1]
        exact step w g n hn hw hws hg2 hg3
      · rw [decide_eq_false (by omega : ¬ (kk : Int) < (x.length : Int)), cond_false]
        refine step w (ByteArray.mk #[32]) n hn hw hws ?_ (by decide)
        unfold gapAt
        rw [List.getElem?_eq_none (by omega)]; rfl
    unfold b4_16018
    rw [ix_nat hi, decide_eq_true (by omega : (q : Int) ≤ (c.length : Int)), cond_true, ix_nat hi]
    by_cases hqc : q < c.length
    · have hy : c[q]? = some c[q] := List.getElem?_eq_getElem hqc
      have hr' := hr _ (List.getElem_mem hqc)
      obtain ⟨w, h8, hw⟩ := digits_spec c[q] (by omega) (by omega) k (by omega)
      have hws : w.size ≤ 30 := by rw [size_nat, hw]; exact digs_len (by omega) (by omega)
      have hb := both w c[q] (by rw [List.getElem?_append_left hqc, hy]) hw hws
      rw [decide_eq_true (by omega : (q : Int) < (c.length : Int)), cond_true, ix_nat hi, ix_nat hy, h8]
      simp only [Option.bind_some]
      exact hb
    · have hqe : q = c.length := by omega
      have hb := both (ByteArray.mk #[48]) 0 (by rw [hqe, List.getElem?_append_right (Nat.le_refl _)]; simp) (by decide +kernel) (by decide)
      rw [decide_eq_false (by omega : ¬ (q : Int) < (c.length : Int)), cond_false]
      exact hb
theorem outer_loop (k : Nat) (hk : 20000000000 ≤ k) {x : List Int} (hx : ∀ e ∈ x, 0 ≤ e ∧ e ≤ 255) (hxl : x.length ≤ 1000) {v : Int} {cls : List (List Int)} (hl : cls.length ≤ 1000) (hc : ∀ c ∈ cls, c.length ≤ 4096 ∧ ∀ l ∈ c, -1048576 ≤ l ∧ l ≤ 1048576) :
    ∀ (d i kk : Nat) (s : ByteArray), cls.length - i = d → i ≤ cls.length → kk ≤ 4200 * i → s.size ≤ 1000 + 200000 * i → ∀ j, d < j →
      ∃ s', l4_250 k j x s kk i v cls = some ((s', ()), ((v, cls, ()), ())) ∧ bytesD s' = bytesD s ++ textOf x kk (nums (cls.drop i)) := by
  intro d
  induction d with
  | zero =>
    intro i kk s hi hi2 hkk hs j hj
    obtain ⟨j, rfl, _⟩ := succ_of (n := 0) (by omega : 0 + 1 ≤ j)
    refine ⟨s, ?_, by rw [List.drop_of_length_le (by omega)]; simp [nums, textOf]⟩
    show b4_250 k (l4_250 k j) x s kk i v cls = _
    unfold b4_250
    rw [decide_eq_false (by omega : ¬ (i : Int) < cls.length)]; rfl
  | succ d ih =>
    intro i kk s hi hi2 hkk hs j hj
    obtain ⟨j, rfl, hj2⟩ := succ_of (by omega : d + 1 + 1 ≤ j)
    have hlt : i < cls.length := by omega
    have hxi : cls[i]? = some cls[i] := List.getElem?_eq_getElem hlt
    have hci := hc _ (List.getElem_mem hlt)
    obtain ⟨s1, h1, h2, h3⟩ := inner_loop k hk hx hxl (v := v) hxi (by omega) hci.2 (cls[i].length + 1) 0 kk s (by omega) (by omega) (by omega) (by omega) k (by omega)
    rw [show ((0 : Nat) : Int) = 0 from rfl] at h1
    obtain ⟨s2, k1, k2⟩ := ih (i + 1) (kk + (cls[i].length + 1)) s1 (by omega) (by omega) (by omega) (by omega) j hj2
    refine ⟨s2, ?_, ?_⟩
    · show b4_250 k (l4_250 k j) x s kk i v cls = _
      unfold b4_250
      rw [decide_eq_true (by omega : (i : Int) < cls.length), cond_true, h1]
      simp only [Option.bind_some]
      rw [w_one (by omega), k1]; rfl
    · have e : nums (cls.drop i) = (cls[i] ++ [0]) ++ nums (cls.drop (i + 1)) := by
        rw [List.drop_eq_getElem_cons hlt]; unfold nums; rw [List.flatMap_cons]
      rw [k2, h2, e, textOf_append, List.drop_zero, List.append_assoc]
      congr 3
      simp
theorem textOf_len (x : List Int) : ∀ (ns : List Int) (k : Nat), (∀ n ∈ ns, -9999999999 ≤ n ∧ n ≤ 9999999999) → (textOf x k ns).length ≤ 40 * ns.length
  | [], _, _ => by simp [textOf]
  | n :: ns, k, h => by
    have ih := textOf_len x ns (k + 1) fun m hm => h m (List.mem_cons_of_mem _ hm)
    have h1 := h n (List.mem_cons_self ..)
    have h2 := digs_len h1.1 h1.2
    have h3 : (gapAt x k).length ≤ 7 := by
      have := gap_mem x k
      unfold gaps at this
      simp only [List.mem_cons, List.not_mem_nil, or_false] at this
      rcases this with e | e | e | e | e | e <;> rw [e] <;> decide
    rw [textOf, List.length_append, List.length_append, List.length_cons]
    omega
end Dim
open Dim Num Str in
theorem Pure.DimacsLines (f : D_Cnf) (hf : Fit T_Cnf f) (x : List Int) (hx : Fit (.slice (.int .u8)) x) : ∃ k, f4 k f x = some ((true, ()), ()) := by
  obtain ⟨v, cls, u⟩ := f
  have hcl : ∀ c ∈ cls, c.length ≤ 9223372036854775807 := fun c hc => by
    have h1 := hf.inv.2.inv.1.inv
    have h2 := (h1.2 c hc).inv.1
    exact h2
  have hxr : ∀ y ∈ x, 0 ≤ y ∧ y ≤ 255 := fun y hy => by
    have h1 := (hx.inv.2 y hy).inv
    have h1 : (Lit.int .u8 y).wf = true := h1
    simp [Lit.wf, show IntKind.u8.min = 0 from by decide, show IntKind.u8.max = 255 from by decide] at h1
    exact h1
  refine (awake5E.mono2 (E.ge 30000000000) fun k e hk => ?_).ex
  obtain ⟨b, hb, hb2⟩ := light9 k (by omega) (v := v) (cls := cls) (u := u)
  unfold f4
  rw [hb]
  simp only [Option.bind_some]
  cases b with
  | false => simp only [Bool.not_false, cond_true]; rw [e]; rfl
  | true =>
    obtain ⟨l1, l2⟩ := hb2 rfl
    have hc6 : ∀ c ∈ cls, c.length ≤ 6000 := fun c hc => by
      have : c.length ≤ total cls := by
        exact total_mem cls c hc
      omega
    obtain ⟨b', hb', hb3⟩ := cnf10 k (by omega) (v := v) (cls := cls) (u := u) l1 fun c hc => by have := hc6 c hc; omega
    simp only [Bool.not_true, cond_false]
    rw [hb']
    simp only [Option.bind_some]
    cases b' with
    | false => simp only [Bool.not_false, cond_true]; rw [e]; rfl
    | true =>
      obtain ⟨v0, v1, hcs⟩ := hb3 rfl
      simp only [Bool.not_true, cond_false]
      by_cases h400 : (x.length : Int) > 400
      · rw [decide_eq_true h400, e]; rfl
      · rw [decide_eq_false h400, cond_false]
        obtain ⟨w1, d1, d2⟩ := digits_spec v (by omega) (by omega) k (by omega)
        obtain ⟨w2, d3, d4⟩ := digits_spec (cls.length : Int) (by omega) (by omega) k (by omega)
        have z1 : w1.size ≤ 30 := by rw [size_nat, d2]; exact digs_len (by omega) (by omega)
        have z2 : w2.size ≤ 30 := by rw [size_nat, d4]; exact digs_len (by omega) (by omega)
        have z0 : s_0.size = 21 := rfl
        have y1 : (s_0 ++ w1).size = 21 + w1.size := by rw [ByteArray.size_append, z0]
        have z32 : (ByteArray.mk #[32]).size = 1 := rfl
        have z3210 : (ByteArray.mk #[32, 10]).size = 2 := rfl
        have y2 : ((s_0 ++ w1) ++ (ByteArray.mk #[32])).size = 22 + w1.size := by rw [ByteArray.size_append, y1, z32]; omega
        have y3 : (((s_0 ++ w1) ++ (ByteArray.mk #[32])) ++ w2).size = 22 + w1.size + w2.size := by rw [ByteArray.size_append, y2]
        have y4 : ((((s_0 ++ w1) ++ (ByteArray.mk #[32])) ++ w2) ++ (ByteArray.mk #[32, 10])).size = 24 + w1.size + w2.size := by rw [ByteArray.size_append, y3, z3210]; omega
        rw [d1]
        simp only [Option.bind_some]
        rw [y1, z0, z32, gd_dec (by omega), gd_dec (by omega), d3]
        simp only [Option.bind_some]
        rw [y3, y2, z3210, gd_dec (by omega), gd_dec (by omega)]
        have hcs' : ∀ c ∈ cls, c.length ≤ 4096 ∧ ∀ l ∈ c, -1048576 ≤ l ∧ l ≤ 1048576 := fun c hc => ⟨(hcs c hc).1, fun l hl => ⟨((hcs c hc).2 l hl).2.1, ((hcs c hc).2 l hl).2.2.1⟩⟩
        obtain ⟨s', o1, o2⟩ := outer_loop k (by omega) hxr (by omega) (v := v) (cls := cls) (by omega) hcs' cls.length 0 0 ((((s_0 ++ w1) ++ (ByteArray.mk #[32])) ++ w2) ++ (ByteArray.mk #[32, 10])) (by omega) (by omega) (by omega) (by omega) k (by omega)
        rw [show ((0 : Nat) : Int) = 0 from rfl] at o1
        rw [o1]
        simp only [Option.bind_some]
        have hbytes : bytesD s' = headT v cls.length ++ textOf x 0 (nums cls) := by
          rw [o2, List.drop_zero]
          congr 1
          rw [bytes_append, bytes_append, bytes_append, bytes_append, d2, d4]; rfl
        obtain ⟨ro, rr⟩ := run_clauses (V := v) (W := (cls.length : Int)) cls [] hcs (by simp; omega) (by simp)
        rw [List.nil_append] at rr
        have hread := read_all x v0 v1 (by omega : (0 : Int) ≤ (cls.length : Int)) (by omega) ro
        rw [rr, ← hbytes] at hread
        have hnl : ∀ n ∈ nums cls, -9999999999 ≤ n ∧ n ≤ 9999999999 := fun n hn => by
          unfold nums at hn
          obtain ⟨c, hc, hn⟩ := List.mem_flatMap.1 hn
          rcases List.mem_append.1 hn with hn | hn
          · have := (hcs' c hc).2 n hn; omega
          · rw [List.mem_singleton.1 hn]; omega
        have hlen : (bytesD s').length ≤ 300000 := by
          have h1 := textOf_len x (nums cls) 0 hnl
          rw [nums_len] at h1
          have h2 : (headT v cls.length).length ≤ 100 := by
            unfold headT
            have a1 := digs_len (n := v) (by omega) (by omega)
            have a2 := digs_len (n := (cls.length : Int)) (by omega) (by omega)
            simp; omega
          rw [hbytes, List.length_append]; omega
        have hloop := read_loop k (b := bytesD s') (by omega) (by omega) (bytes_range s') hread 0 0 (Nat.le_refl _) (by omega) rfl rfl k (by omega)
        have h11 : f11 k (bytesD s') = some (((v, cls, ()), 0, 0, ()), ()) := by
          unfold f11
          rw [decide_eq_false (by omega : ¬ ((bytesD s').length : Int) > 4194304), cond_false]
          have hloop : l11_250 k k (bytesD s') 0 0 0 [] 0 [] false 0 [] false 0 0 = _ := hloop
          rw [hloop]
          simp only [Option.bind_some]
          have h16 : f16 k ((bytesD s').length : Int) v cls true (cls.length : Int) [] false 0 0 = some ((), ((v, cls, true, (cls.length : Int), [], false, 0, 0, ()), ())) := by
            unfold f16
            rw [Bool.not_true, cond_false, cond_false, decide_eq_false (by omega : ¬ (cls.length : Int) < (cls.length : Int)), cond_false]
          show (f16 k ((bytesD s').length : Int) v cls true (cls.length : Int) [] false 0 0).bind _ = _
          rw [h16]; rfl
        rw [h11]
        simp only [Option.bind_some, beq_self_eq_true, cond_true]
        rw [same12 k (by omega) (by omega) fun c hc => by have := hc6 c hc; omega]
        simp only [Option.bind_some, cond_true]
        rw [e]; rfl
end Go.Proofs.Ytcbhbmhopkagiaa.M
