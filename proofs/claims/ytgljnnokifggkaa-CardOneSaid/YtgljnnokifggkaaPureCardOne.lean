/-
The theorem of one: the plain law. For every input, no condition.
-/
import Derived.Test.YtgljnnokifggkaaCardB
set_option linter.unusedVariables false
set_option linter.unusedSimpArgs false
set_option maxRecDepth 100000
namespace Go.Proofs.Ytgljnnokifggkaa.M
open Go Go.Proofs.Ytgljnnokifggkaa.Vm Go.Proofs.Ytgljnnokifggkaa.Pl
namespace Card
open Aig Vec
variable {g : List D_Gate} {m : Mp} {ins : List Bool}
/-- The clauses that say that no two of the first i are true. -/
def pairsS (l : List Int) : Nat → List (List Int)
  | 0 => []
  | i + 1 => pairsS l i ++ (l.take i).map fun b => [nt (l.getD i 0), nt b]
theorem pairsS_len (l : List Int) : ∀ i, i ≤ 64 → (pairsS l i).length ≤ 64 * i
  | 0, _ => by simp [pairsS]
  | i + 1, h => by
    have := pairsS_len l i (by omega)
    rw [pairsS, List.length_append, List.length_map, List.length_take]; omega
theorem pairsS_lit {l : List Int} (h : ∀ x ∈ l, isL g x = true) : ∀ i, i ≤ l.length → ∀ c ∈ pairsS l i, c.length ≤ 1000 ∧ ∀ x ∈ c, isL g x = true
  | 0, _, c, hc => by simp [pairsS] at hc
  | i + 1, hi, c, hc => by
    rw [pairsS] at hc
    rcases List.mem_append.1 hc with hc | hc
    · exact pairsS_lit h i (by omega) c hc
    · obtain ⟨b, hb, rfl⟩ := List.mem_map.1 hc
      refine ⟨by simp, fun x hx => ?_⟩
      have hd : l.getD i 0 ∈ l := by rw [List.getD_eq_getElem?_getD, List.getElem?_eq_getElem (by omega)]; exact List.getElem_mem _
      simp only [List.mem_cons, List.not_mem_nil, or_false] at hx
      rcases hx with rfl | rfl
      · exact isL_nt (h _ hd)
      · exact isL_nt (h _ (List.mem_of_mem_take hb))
theorem inner_loop (k : Nat) (hg : g.length ≤ 1000) {a : Int} (ha : isL g a = true) {t : List Int} (ht : t.length ≤ 100) (h : ∀ x ∈ t, isL g x = true) : ∀ (d i : Nat) (out : List (List Int)), t.length - i = d → out.length ≤ 10000 + i → ∀ j, d < j → l73v2_31334 k j out a t t.length i = some ((out ++ (t.drop i).map fun b => [nt a, nt b], ()), ()) := by
  intro d
  induction d with
  | zero =>
    intro i out hi ho j hj
    obtain ⟨j, rfl, _⟩ := succ_of (n := 0) (by omega : 0 + 1 ≤ j)
    show b73v2_31334 k (l73v2_31334 k j) out a t t.length i = _
    unfold b73v2_31334
    rw [decide_eq_false (by omega : ¬ (i : Int) < t.length), List.drop_of_length_le (by omega)]
    simp
  | succ d ih =>
    intro i out hi ho j hj
    obtain ⟨j, rfl, hj2⟩ := succ_of (by omega : d + 1 + 1 ≤ j)
    show b73v2_31334 k (l73v2_31334 k j) out a t t.length i = _
    have hw1 : w64 ((i : Int) + 1) = ((i + 1 : Nat) : Int) := by rw [w_id (by omega) (by omega)]; omega
    have hlt : i < t.length := by omega
    have hx : t[i]? = some t[i] := List.getElem?_eq_getElem hlt
    unfold b73v2_31334
    rw [decide_eq_true (by omega : (i : Int) < t.length), cond_true, ix_nat hx, gd_dec (by unfold room; omega), xor1w (by omega) ha, xor1w (by omega) (h _ (List.getElem_mem _)), hw1, ih (i + 1) _ (by omega) (by rw [List.length_append]; simp; omega) j hj2, List.drop_eq_getElem_cons hlt, List.map_cons]
    simp
theorem outer_loop (k : Nat) (hk : 200 < k) (hg : g.length ≤ 1000) {l : List Int} (hl : l.length ≤ 64) (h : ∀ x ∈ l, isL g x = true) : ∀ (d i : Nat), l.length - i = d → i ≤ l.length → ∀ j, d < j → l73v2_122 k j l ([l] ++ pairsS l i) l l.length i = some (([l] ++ pairsS l l.length, ()), ()) := by
  intro d
  induction d with
  | zero =>
    intro i hi hil j hj
    obtain ⟨j, rfl, _⟩ := succ_of (n := 0) (by omega : 0 + 1 ≤ j)
    show b73v2_122 k (l73v2_122 k j) l _ l l.length i = _
    unfold b73v2_122
    rw [decide_eq_false (by omega : ¬ (i : Int) < l.length), show i = l.length by omega]; rfl
  | succ d ih =>
    intro i hi hil j hj
    obtain ⟨j, rfl, hj2⟩ := succ_of (by omega : d + 1 + 1 ≤ j)
    show b73v2_122 k (l73v2_122 k j) l _ l l.length i = _
    have hw1 : w64 ((i : Int) + 1) = ((i + 1 : Nat) : Int) := by rw [w_id (by omega) (by omega)]; omega
    have hlt : i < l.length := by omega
    have hx : l[i]? = some l[i] := List.getElem?_eq_getElem hlt
    have hp := pairsS_len l i (by omega)
    have htl : (l.take i).length = i := by rw [List.length_take]; omega
    have hin := inner_loop k hg (h _ (List.getElem_mem hlt)) (t := l.take i) (by omega) (fun x hx => h x (List.mem_of_mem_take hx)) (l.take i).length 0 ([l] ++ pairsS l i) (by omega) (by rw [List.length_append]; simp; omega) k (by omega)
    rw [show ((0 : Nat) : Int) = 0 from rfl, List.drop_zero] at hin
    have hgd : l.getD i 0 = l[i] := by rw [List.getD_eq_getElem?_getD, hx]; rfl
    have hnat : (i : Int).toNat = i := by omega
    unfold b73v2_122
    rw [decide_eq_true (by omega : (i : Int) < l.length), cond_true, ix_nat hx, gd_dec (by omega), gd_dec (by omega), hnat, List.drop_zero, hin]
    simp only [Option.bind_some]
    have e : [l] ++ pairsS l i ++ (l.take i).map (fun b => [nt l[i], nt b]) = [l] ++ pairsS l (i + 1) := by rw [pairsS, hgd, List.append_assoc]
    rw [hw1, e, ih (i + 1) (by omega) (by omega) j hj2]; rfl
theorem one73 (k : Nat) (hk : 200 < k) (hg : g.length ≤ 1000) {l : List Int} (hl : l.length ≤ 100) : f73v2 k l g m = some ((if mayL g l then [l] ++ pairsS l l.length else [], ()), ()) := by
  unfold f73v2
  rw [may109 k hk hg hl]
  simp only [Option.bind_some]
  cases hm : mayL g l with
  | false => rfl
  | true =>
    unfold mayL at hm
    obtain ⟨h1, h2⟩ := Bool.and_eq_true_iff.1 hm
    have h2 : l.length ≤ 64 := of_decide_eq_true h2
    have h1 : ∀ x ∈ l, isL g x = true := fun x hx => List.all_eq_true.1 h1 x hx
    have := outer_loop k hk hg h2 h1 l.length 0 (by omega) (by omega) k (by omega)
    rw [show ((0 : Nat) : Int) = 0 from rfl] at this
    have e0 : [l] ++ pairsS l 0 = [l] := rfl
    rw [e0] at this
    unfold f102 f102v3
    simp only [Bool.not_true, cond_false]
    rw [gd_dec (by unfold room; omega)]
    simp only [Option.bind_some, List.nil_append]
    rw [this]; rfl
theorem all_loop15 (k : Nat) (hv : Valid g) (hg : g.length ≤ 1000) (hk : 5000 ≤ k) {c : List (List Int)} (hc : c.length ≤ 10000) (h : ∀ e ∈ c, e.length ≤ 1000 ∧ ∀ x ∈ e, isL g x = true) : ∀ (d i : Nat) (b : Bool), c.length - i = d → ∀ j, d < j → l15_1018 k j g ins c b i = some ((b && (c.drop i).all fun e => decide (0 < cntL (Aig.val ins g) e), ()), ()) := by
  intro d
  induction d with
  | zero =>
    intro i b hi j hj
    obtain ⟨j, rfl, _⟩ := succ_of (n := 0) (by omega : 0 + 1 ≤ j)
    show b15_1018 k (l15_1018 k j) g ins c b i = _
    unfold b15_1018
    rw [decide_eq_false (by omega : ¬ (i : Int) < c.length), List.drop_of_length_le (by omega)]
    simp
  | succ d ih =>
    intro i b hi j hj
    obtain ⟨j, rfl, hj2⟩ := succ_of (by omega : d + 1 + 1 ≤ j)
    show b15_1018 k (l15_1018 k j) g ins c b i = _
    have hw1 : w64 ((i : Int) + 1) = ((i + 1 : Nat) : Int) := by rw [w_id (by omega) (by omega)]; omega
    have hlt : i < c.length := by omega
    have hx : c[i]? = some c[i] := List.getElem?_eq_getElem hlt
    obtain ⟨h1, h2⟩ := h _ (List.getElem_mem hlt)
    unfold b15_1018
    rw [decide_eq_true (by omega : (i : Int) < c.length), cond_true, ix_nat hx, true75 (ins := ins) k hv hg hk h1 h2, List.drop_eq_getElem_cons hlt, List.all_cons]
    simp only [Option.bind_some]
    rw [hw1, ih (i + 1) _ (by omega) j hj2, ih (i + 1) _ (by omega) j hj2]
    have e : decide (((cntL (Aig.val ins g) c[i] : Nat) : Int) > 0) = decide (0 < cntL (Aig.val ins g) c[i]) := by
      by_cases h : 0 < cntL (Aig.val ins g) c[i]
      · rw [decide_eq_true h, decide_eq_true (by omega)]
      · rw [decide_eq_false h, decide_eq_false (by omega)]
    rw [e]
    cases b <;> simp
theorem two_clause {a b : Int} (ha : isL g a = true) (hb : isL g b = true) : decide (0 < cntL (Aig.val ins g) [nt a, nt b]) = !(Aig.val ins g a && Aig.val ins g b) := by
  rw [cntL_cons, cntL_cons, vnt ha, vnt hb]
  cases Aig.val ins g a <;> cases Aig.val ins g b <;> rfl
theorem zero_count {v : Int → Bool} : ∀ {l : List Int}, cntL v l = 0 ↔ ∀ x ∈ l, v x = false
  | [] => by simp [cntL]
  | x :: l => by
    rw [cntL_cons]
    constructor
    · intro h y hy
      have h1 : v x = false := by cases hx : v x with
        | false => rfl
        | true => rw [hx] at h; simp at h
      rw [h1] at h
      rcases List.mem_cons.1 hy with rfl | hy
      · exact h1
      · exact (zero_count (l := l)).1 (by simpa using h) y hy
    · intro h
      rw [h x (List.mem_cons_self ..), (zero_count (l := l)).2 fun y hy => h y (List.mem_cons_of_mem _ hy)]; rfl
theorem all_mem {α : Type} {f g : α → Bool} : ∀ {l : List α}, (∀ x ∈ l, f x = g x) → l.all f = l.all g
  | [], _ => rfl
  | x :: l, h => by rw [List.all_cons, List.all_cons, h x (List.mem_cons_self ..), all_mem fun y hy => h y (List.mem_cons_of_mem _ hy)]
theorem pairs_all {l : List Int} (h : ∀ x ∈ l, isL g x = true) : ∀ i, i ≤ l.length → (pairsS l i).all (fun e => decide (0 < cntL (Aig.val ins g) e)) = decide (cntL (Aig.val ins g) (l.take i) ≤ 1)
  | 0, _ => by simp [pairsS, cntL]
  | i + 1, hi => by
    have ih := pairs_all h i (by omega)
    have hlt : i < l.length := by omega
    have hgd : l.getD i 0 = l[i] := by rw [List.getD_eq_getElem?_getD, List.getElem?_eq_getElem hlt]; rfl
    have la := h _ (List.getElem_mem hlt)
    rw [pairsS, List.all_append, ih, List.all_map, hgd, List.take_succ_eq_append_getElem hlt, cntL_append, cntL_cons]
    have e0 : cntL (Aig.val ins g) [] = 0 := rfl
    rw [e0]
    have e1 : (l.take i).all ((fun e => decide (0 < cntL (Aig.val ins g) e)) ∘ fun b => [nt l[i], nt b]) = (l.take i).all (fun b => !(Aig.val ins g l[i] && Aig.val ins g b)) := by
      apply all_mem
      intro b hb
      exact two_clause la (h b (List.mem_of_mem_take hb))
    rw [e1]
    generalize l.take i = t
    cases hx : Aig.val ins g l[i] with
    | false =>
      simp only [Bool.false_and, Bool.not_false, List.all_eq_true, implies_true, Bool.false_eq_true, if_false, Nat.add_zero]
      have : (t.all fun _ => true) = true := by simp
      rw [this, Bool.and_true]
    | true =>
      simp only [Bool.true_and, if_true, Nat.add_zero]
      by_cases hz : cntL (Aig.val ins g) t = 0
      · have : (t.all fun b => !Aig.val ins g b) = true := List.all_eq_true.2 fun b hb => by rw [(zero_count.1 hz) b hb]; rfl
        rw [this, hz]; rfl
      · have : (t.all fun b => !Aig.val ins g b) = false := by
          cases ht : t.all fun b => !Aig.val ins g b with
          | false => rfl
          | true =>
            refine absurd (zero_count.2 fun b hb => ?_) hz
            have := List.all_eq_true.1 ht b hb
            simpa using this
        rw [this, Bool.and_false, decide_eq_false (by omega)]
end Card
open Aig Vec Card in
theorem Pure.CardOne (g : List D_Gate) (_ : Fit (.slice T_Gate) g) (ins : List Bool) (_ : Fit (.slice .bool) ins) (l : List Int) (_ : Fit (.slice i64) l) : ∃ k, f15 k g ins l = some ((true, ()), ()) := by
  rcases begin72 (g := g) (l := l) with ⟨m, hm, hv, hg, hl, hE⟩ | hE
  · refine (hE.mono3 awakeE (E.ge 30000) fun k e e2 hk => ?_).ex
    unfold f15 l15_6
    rw [e]
    simp only [Option.bind_some]
    unfold l15_14 l15_28 l15_30s1
    simp only [Option.bind_some, Bool.not_true, cond_false]
    rw [one73 k (by omega) (by omega) (by omega)]
    simp only [Option.bind_some]
    rw [may74 k (by omega) (by omega) hl]
    simp only [Option.bind_some]
    cases hml : mayL g l with
    | false =>
      simp only [Bool.not_false, cond_true, Bool.false_eq_true, if_false, List.length_nil]
      rw [e2]; rfl
    | true =>
      have hml' := hml
      unfold mayL at hml'
      obtain ⟨h1, h2⟩ := Bool.and_eq_true_iff.1 hml'
      have h2 : l.length ≤ 64 := of_decide_eq_true h2
      have h1 : ∀ x ∈ l, isL g x = true := fun x hx => List.all_eq_true.1 h1 x hx
      simp only [Bool.not_true, cond_false, if_true]
      have hp := pairsS_len l l.length (by omega)
      have hc : ∀ e ∈ [l] ++ pairsS l l.length, e.length ≤ 1000 ∧ ∀ x ∈ e, isL g x = true := by
        intro e he
        rcases List.mem_append.1 he with he | he
        · rw [List.mem_singleton.1 he]; exact ⟨by omega, h1⟩
        · exact pairsS_lit h1 l.length (Nat.le_refl _) e he
      have hall := all_loop15 (ins := ins) k hv (by omega) (by omega) (c := [l] ++ pairsS l l.length) (by rw [List.length_append]; simp; omega) hc ([l] ++ pairsS l l.length).length 0 true (by omega) k (by rw [List.length_append]; simp; omega)
      rw [show ((0 : Nat) : Int) = 0 from rfl, List.drop_zero, Bool.true_and, List.all_append, pairs_all h1 l.length (Nat.le_refl _), List.take_length] at hall
      rw [hall, true75 (ins := ins) k hv (by omega) (by omega) (by omega) h1]
      simp only [Option.bind_some]
      have hb : (([l] : List (List Int)).all (fun e => decide (0 < cntL (Aig.val ins g) e)) && decide (cntL (Aig.val ins g) l ≤ 1)) = ((((cntL (Aig.val ins g) l : Nat) : Int) == 1)) := by
        rw [beq_int, List.all_cons, List.all_nil, Bool.and_true]
        by_cases h : cntL (Aig.val ins g) l = 1
        · rw [h]; rfl
        · rw [decide_eq_false (by omega : ¬ ((cntL (Aig.val ins g) l : Nat) : Int) = 1)]
          by_cases h0 : 0 < cntL (Aig.val ins g) l
          · rw [decide_eq_false (by omega : ¬ cntL (Aig.val ins g) l ≤ 1), Bool.and_false]
          · rw [decide_eq_false h0, Bool.false_and]
      rw [hb, beq_self_eq_true, cond_true]
      unfold f20
      simp only [Option.bind_some, beq_self_eq_true, cond_true]
      rw [e2]; rfl
  · refine (hE.mono2 awakeE fun k e e2 => ?_).ex
    unfold f15 l15_6
    rw [e]
    simp only [Option.bind_some]
    unfold l15_14 l15_28
    simp only [Option.bind_some, Bool.not_false, cond_true]
    rw [e2]; rfl
end Go.Proofs.Ytgljnnokifggkaa.M
