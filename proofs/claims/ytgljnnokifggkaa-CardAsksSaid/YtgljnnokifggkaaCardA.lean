/-
Graphs that are loaded; what the reference says of literals; how many bits are enough.
-/
import Derived.Test.YtgljnnokifggkaaVecZ
set_option linter.unusedVariables false
set_option linter.unusedSimpArgs false
set_option maxRecDepth 100000
namespace Go.Proofs.Ytgljnnokifggkaa.M
open Go Go.Proofs.Ytgljnnokifggkaa.Vm Go.Proofs.Ytgljnnokifggkaa.Pl
namespace Aig
section
variable {g : List D_Gate} {m : Mp} {ins : List Bool}
/-- May a node stand at place i? -/
def okAt (i : Nat) (e : D_Gate) : Prop := e = inp ∨ (0 ≤ e.1 ∧ 0 ≤ e.2.1 ∧ e.1 ≤ 2 * i + 1 ∧ e.2.1 ≤ 2 * i + 1)
instance (i : Nat) (e : D_Gate) : Decidable (okAt i e) := by unfold okAt; infer_instance
def okFrom (i : Nat) : List D_Gate → Bool
  | [] => true
  | e :: l => decide (okAt i e) && okFrom (i + 1) l
theorem okFrom_iff : ∀ (l : List D_Gate) (i : Nat), okFrom i l = true ↔ ∀ (j : Nat) (e : D_Gate), l[j]? = some e → okAt (i + j) e
  | [], i => by simp [okFrom]
  | e :: l, i => by
    rw [okFrom, Bool.and_eq_true, decide_eq_true_iff, okFrom_iff l (i + 1)]
    constructor
    · rintro ⟨h1, h2⟩ j e' he
      cases j with
      | zero => simp at he; subst he; exact h1
      | succ j => have := h2 j e' (by simpa using he); rwa [show i + 1 + j = i + (j + 1) by omega] at this
    · intro h
      refine ⟨h 0 e (by simp), fun j e' he => ?_⟩
      have := h (j + 1) e' (by simpa using he)
      rwa [show i + (j + 1) = i + 1 + j by omega] at this
theorem valid_iff : okFrom 0 g = true ↔ Valid g := by
  rw [okFrom_iff]
  unfold Valid okAt
  simp only [Nat.zero_add]
theorem check_loop2 (k : Nat) (hg : g.length ≤ 1048576) : ∀ (d i : Nat), g.length - i = d → ∀ j, d < j → l33_58 k j g g.length i = if okFrom i (g.drop i) then some (.inl ((), ())) else some (.inr ((1, ()), ())) := by
  intro d
  induction d with
  | zero =>
    intro i hi j hj
    obtain ⟨j, rfl, _⟩ := succ_of (n := 0) (by omega : 0 + 1 ≤ j)
    show b33_58 k (l33_58 k j) g g.length i = _
    unfold b33_58
    rw [decide_eq_false (by omega : ¬ (i : Int) < g.length), List.drop_eq_nil_of_le (by omega)]
    rfl
  | succ d ih =>
    intro i hi j hj
    obtain ⟨j, rfl, hj2⟩ := succ_of (by omega : d + 1 + 1 ≤ j)
    show b33_58 k (l33_58 k j) g g.length i = _
    have hlt : i < g.length := by omega
    have hx : g[i]? = some g[i] := List.getElem?_eq_getElem hlt
    have hw : w64 ((i : Int) + 1) = ((i + 1 : Nat) : Int) := by rw [w_id (by omega) (by omega)]; omega
    have hrec := ih (i + 1) (by omega) j hj2
    have hwrap : ∀ (o : Option R33_58), (o.bind fun y3 => match y3 with | .inl y3_0 => some (.inl ((), ())) | .inr y3_1 => some (.inr ((y3_1.1.1, ()), ()))) = o := by
      intro o; cases o with
      | none => rfl
      | some y => cases y <;> rfl
    unfold b33_58
    rw [decide_eq_true (by omega : (i : Int) < g.length)]
    have hf : f88 k () = some ((inp, ()), ()) := rfl
    simp only [cond_true, ix_nat hx, hf, Option.bind_some]
    rw [w_id (n := 2 * (i : Int)) (by omega) (by omega), w_id (n := 2 * (i : Int) + 1) (by omega) (by omega), hw, hrec, beq_inp, List.drop_eq_getElem_cons hlt, okFrom]
    generalize g[i] = e
    by_cases hq : e = inp
    · have hok : okAt i e := .inl hq
      rw [decide_eq_true hq, decide_eq_true hok, Bool.true_and]
      exact hwrap _
    · rw [decide_eq_false hq]
      simp only [Bool.not_false, cond_true, Bool.cond_decide]
      by_cases c1 : e.1 < 0
      · rw [if_pos c1, decide_eq_false (by rintro (h | h); exact hq h; omega)]; rfl
      rw [if_neg c1]
      by_cases c2 : e.2.1 < 0
      · rw [if_pos c2, decide_eq_false (by rintro (h | h); exact hq h; omega)]; rfl
      rw [if_neg c2]
      by_cases c3 : e.1 > 2 * (i : Int) + 1
      · rw [if_pos c3, decide_eq_false (by rintro (h | h); exact hq h; omega)]; rfl
      rw [if_neg c3]
      by_cases c4 : e.2.1 > 2 * (i : Int) + 1
      · rw [if_pos c4, decide_eq_false (by rintro (h | h); exact hq h; omega)]; rfl
      rw [if_neg c4, decide_eq_true (show okAt i e from .inr (by omega)), Bool.true_and]
      exact hwrap _
theorem check33b (k : Nat) (hg : g.length ≤ 1048576) (hk : g.length < k) : f33 k g = if okFrom 0 g then some ((0, ()), ()) else some ((1, ()), ()) := by
  unfold f33
  have := check_loop2 k hg g.length 0 (by omega) k hk
  rw [show ((0 : Nat) : Int) = 0 from rfl, List.drop_zero] at this
  rw [decide_eq_false (by omega : ¬ (g.length : Int) > 1048576), cond_false, this]
  cases okFrom 0 g <;> rfl
theorem may_loop (k : Nat) (hg : g.length ≤ 1048576) : ∀ (d i : Nat), g.length - i = d → ∀ j, d < j → l32_26 k j g i = if okFrom i (g.drop i) then some (.inl ((), ())) else some (.inr ((false, ()), ())) := by
  intro d
  induction d with
  | zero =>
    intro i hi j hj
    obtain ⟨j, rfl, _⟩ := succ_of (n := 0) (by omega : 0 + 1 ≤ j)
    show b32_26 k (l32_26 k j) g i = _
    unfold b32_26
    rw [decide_eq_false (by omega : ¬ (i : Int) < g.length), List.drop_eq_nil_of_le (by omega)]
    rfl
  | succ d ih =>
    intro i hi j hj
    obtain ⟨j, rfl, hj2⟩ := succ_of (by omega : d + 1 + 1 ≤ j)
    show b32_26 k (l32_26 k j) g i = _
    have hlt : i < g.length := by omega
    have hx : g[i]? = some g[i] := List.getElem?_eq_getElem hlt
    have hw : w64 ((i : Int) + 1) = ((i + 1 : Nat) : Int) := by rw [w_id (by omega) (by omega)]; omega
    have hrec := ih (i + 1) (by omega) j hj2
    have hwrap : ∀ (o : Option R32_26), (o.bind fun y3 => match y3 with | .inl y3_0 => some (.inl ((), ())) | .inr y3_1 => some (.inr ((y3_1.1.1, ()), ()))) = o := by
      intro o; cases o with
      | none => rfl
      | some y => cases y <;> rfl
    have hpart : ∀ b : Bool, l32_1682 k g i b = some ((!b && (decide (g[i].1 < 0) || (decide (g[i].2.1 < 0) || (decide (g[i].1 > 2 * (i : Int) + 1) || decide (g[i].2.1 > 2 * (i : Int) + 1)))), ()), ()) := by
      intro b
      unfold l32_1682
      cases b with
      | true => rfl
      | false =>
        simp only [Bool.not_false, cond_true, ix_nat hx]
        rw [w_id (n := 2 * (i : Int)) (by omega) (by omega), w_id (n := 2 * (i : Int) + 1) (by omega) (by omega)]
        generalize g[i] = e
        cases decide (e.1 < 0) <;> cases decide (e.2.1 < 0) <;> cases decide (e.1 > 2 * (i : Int) + 1) <;> rfl
    unfold b32_26
    rw [decide_eq_true (by omega : (i : Int) < g.length)]
    simp only [cond_true, ix_nat hx, hpart, Option.bind_some, beq_int]
    rw [hw, hrec, List.drop_eq_getElem_cons hlt, okFrom]
    have hinp : g[i] = inp ↔ (g[i].1 = -1 ∧ g[i].2.1 = -1) := by
      generalize g[i] = e
      obtain ⟨a, b, u⟩ := e
      constructor
      · intro h; cases h; exact ⟨rfl, rfl⟩
      · rintro ⟨h1, h2⟩; dsimp only at h1 h2; rw [h1, h2]; rfl
    have hokd : decide (okAt i g[i]) = (decide (g[i].1 = -1 ∧ g[i].2.1 = -1) || !(decide (g[i].1 < 0) || (decide (g[i].2.1 < 0) || (decide (g[i].1 > 2 * (i : Int) + 1) || decide (g[i].2.1 > 2 * (i : Int) + 1))))) := by
      unfold okAt
      rw [Bool.eq_iff_iff]
      simp only [decide_eq_true_eq, Bool.or_eq_true, Bool.not_eq_true', Bool.or_eq_false_iff, decide_eq_false_iff_not, hinp]
      omega
    rw [hokd]
    generalize g[i] = e
    by_cases h1 : e.1 = -1
    · by_cases h2 : e.2.1 = -1
      · rw [decide_eq_true h1, decide_eq_true h2, decide_eq_true (show e.1 = -1 ∧ e.2.1 = -1 from ⟨h1, h2⟩)]
        simp only [cond_true, Bool.not_true, Bool.false_and, cond_false, Bool.true_or, Bool.true_and]
        exact hwrap _
      · rw [decide_eq_true h1, decide_eq_false h2, decide_eq_false (show ¬ (e.1 = -1 ∧ e.2.1 = -1) from fun h => h2 h.2), decide_eq_true (show e.1 < 0 by omega)]
        rfl
    · rw [decide_eq_false h1, decide_eq_false (show ¬ (e.1 = -1 ∧ e.2.1 = -1) from fun h => h1 h.1)]
      simp only [cond_false, Bool.not_false, Bool.true_and, Bool.false_or]
      cases (decide (e.1 < 0) || (decide (e.2.1 < 0) || (decide (e.1 > 2 * (i : Int) + 1) || decide (e.2.1 > 2 * (i : Int) + 1)))) with
      | true => rfl
      | false => exact hwrap _
theorem may32 (k : Nat) (hg : g.length ≤ 1048576) (hk : g.length < k) : f32 k g = some ((okFrom 0 g, ()), ()) := by
  unfold f32
  have := may_loop k hg g.length 0 (by omega) k hk
  rw [show ((0 : Nat) : Int) = 0 from rfl, List.drop_zero] at this
  rw [this]
  cases okFrom 0 g with
  | true => simp only [if_true, Option.bind_some, decide_eq_true (show (g.length : Int) ≤ 1048576 by omega)]
  | false => rfl
/-! ### Load -/
theorem fnd_take_succ {i : Nat} {e0 : D_Gate} (hi : g[i]? = some e0) (e : D_Gate) : fnd (g.take (i + 1)) e = match fnd (g.take i) e with | some q => some q | none => if e = e0 then some i else none := by
  have hlt := getElem?_lt hi
  have hlen : (g.take i).length = i := by rw [List.length_take]; omega
  have : g.take (i + 1) = g.take i ++ [e0] := by
    rw [List.take_add_one, hi]; rfl
  rw [this]
  unfold fnd
  rw [List.findIdx?_append]
  cases hf : (g.take i).findIdx? fun x => decide (x = e) with
  | some q => rfl
  | none =>
    by_cases he : e = e0
    · subst he; simp [hlen]
    · rw [if_neg he]; simp [Ne.symm he]
theorem load_loop (k : Nat) (hv : Valid g) (hg : g.length ≤ 1048576) : ∀ (d i : Nat) (m : Mp), g.length - i = d → MapOk (g.take i) m → ∃ m', MapOk g m' ∧ ∀ j, d < j → l30_250 k j g g.length i g m = some ((), ((g, (), ()), m', ())) := by
  intro d
  induction d with
  | zero =>
    intro i m hi hm
    rw [List.take_of_length_le (by omega)] at hm
    refine ⟨m, hm, fun j hj => ?_⟩
    obtain ⟨j, rfl, _⟩ := succ_of (n := 0) (by omega : 0 + 1 ≤ j)
    show b30_250 k (l30_250 k j) g g.length i g m = _
    unfold b30_250
    rw [decide_eq_false (by omega : ¬ (i : Int) < g.length)]
    rfl
  | succ d ih =>
    intro i m hi hm
    have hlt : i < g.length := by omega
    have hx : g[i]? = some g[i] := List.getElem?_eq_getElem hlt
    have hw : w64 ((i : Int) + 1) = ((i + 1 : Nat) : Int) := by rw [w_id (by omega) (by omega)]; omega
    have hw2 : w64 (2 * ((i + 1 : Nat) : Int)) = 2 * (i : Int) + 2 := by rw [w_id (by omega) (by omega)]; omega
    have hts := fnd_take_succ hx
    have hf : f88 k () = some ((inp, ()), ()) := rfl
    by_cases hq : g[i] = inp
    · have hm2 : MapOk (g.take (i + 1)) m := by
        intro e he
        rw [hts, hm e he]
        cases fnd (g.take i) e with
        | some q => rfl
        | none =>
          dsimp only
          rw [if_neg (by intro h; rw [h, hq] at he; exact absurd he (by decide))]
      obtain ⟨m', h1, h2⟩ := ih (i + 1) m (by omega) hm2
      refine ⟨m', h1, fun j hj => ?_⟩
      obtain ⟨j, rfl, hj2⟩ := succ_of (by omega : d + 1 + 1 ≤ j)
      show b30_250 k (l30_250 k j) g g.length i g m = _
      unfold b30_250
      rw [decide_eq_true (by omega : (i : Int) < g.length)]
      simp only [cond_true, ix_nat hx, hf, Option.bind_some]
      rw [beq_inp, decide_eq_true hq, hw, h2 j hj2]
      rfl
    · have hpos : 0 ≤ g[i].1 := by
        rcases hv i _ hx with h | h
        · exact absurd h hq
        · exact h.1
      have hmi := hm g[i] hpos
      cases hfi : fnd (g.take i) g[i] with
      | some q =>
        rw [hfi] at hmi
        have hm2 : MapOk (g.take (i + 1)) m := by
          intro e he
          rw [hts, hm e he]
          cases hfe : fnd (g.take i) e with
          | some q => rfl
          | none =>
            dsimp only
            rw [if_neg (by intro h; rw [h, hfi] at hfe; cases hfe)]
        obtain ⟨m', h1, h2⟩ := ih (i + 1) m (by omega) hm2
        refine ⟨m', h1, fun j hj => ?_⟩
        obtain ⟨j, rfl, hj2⟩ := succ_of (by omega : d + 1 + 1 ≤ j)
        show b30_250 k (l30_250 k j) g g.length i g m = _
        unfold b30_250
        rw [decide_eq_true (by omega : (i : Int) < g.length)]
        simp only [cond_true, ix_nat hx, hf, Option.bind_some]
        rw [beq_inp, decide_eq_false hq, hmi, hw, h2 j hj2]
        rfl
      | none =>
        rw [hfi] at hmi
        have hm2 : MapOk (g.take (i + 1)) (mput T_Gate g[i] (2 * (i : Int) + 2) m) := by
          intro e he
          have hmm := mget_mput (kt := T_Gate) rfl (k := g[i]) (k' := e) (x := (2 * (i : Int) + 2)) m
          rw [hts]
          by_cases h : e = g[i]
          · rw [h, hfi]
            dsimp only
            rw [if_pos rfl]
            have := hmm.1 h
            rw [h] at this
            exact this
          · refine (hmm.2 h).trans ?_
            rw [hm e he]
            cases fnd (g.take i) e with
            | some q => rfl
            | none => dsimp only; rw [if_neg h]
        obtain ⟨m', h1, h2⟩ := ih (i + 1) _ (by omega) hm2
        refine ⟨m', h1, fun j hj => ?_⟩
        obtain ⟨j, rfl, hj2⟩ := succ_of (by omega : d + 1 + 1 ≤ j)
        show b30_250 k (l30_250 k j) g g.length i g m = _
        unfold b30_250
        rw [decide_eq_true (by omega : (i : Int) < g.length)]
        simp only [cond_true, ix_nat hx, hf, Option.bind_some]
        rw [beq_inp, decide_eq_false hq, hmi, hw, hw2, h2 j hj2]
        rfl
theorem load30 (hv : Valid g) (hg : g.length ≤ 1048576) : ∃ m, MapOk g m ∧ ∀ k, g.length < k → f30 k g = some (.inr (((), 0, ()), ((g, (), ()), m, ()))) := by
  have key : ∀ k, ∃ m', MapOk g m' ∧ ∀ j, g.length < j → l30_250 k j g g.length ((0 : Nat) : Int) g [] = some ((), ((g, (), ()), m', ())) := fun k => load_loop k hv hg g.length 0 [] (by omega) (fun e _ => rfl)
  obtain ⟨m, h1, h2⟩ := key 0
  -- the loop calls nothing that takes fuel: the map is the same for any
  have same : ∀ k j (t : List D_Gate) (a b : Int) (o : List D_Gate) (mm : Mp), l30_250 k j t a b o mm = l30_250 0 j t a b o mm := by
    intro k j
    induction j with
    | zero => intro t a b o mm; rfl
    | succ j ih =>
      intro t a b o mm
      show b30_250 k (l30_250 k j) t a b o mm = b30_250 0 (l30_250 0 j) t a b o mm
      have e : l30_250 k j = l30_250 0 j := by funext t a b o mm; exact ih t a b o mm
      rw [e]; rfl
  refine ⟨m, h1, fun k hk => ?_⟩
  unfold f30
  rw [check33 k hv hg hk]
  have hf : f38 k () = some (((), ()), (([], (), ()), [], ())) := rfl
  have hc : f87 k g = some ((g, ()), ()) := by
    unfold f87 f87v3
    rw [gd_dec (by unfold room; omega)]
    rfl
  simp only [Option.bind_some, bne_self_eq_false, cond_false, hf, hc]
  have := h2 k hk
  rw [show ((0 : Nat) : Int) = 0 from rfl] at this
  rw [same, this]
  rfl
/-! ### True, by definition -/
theorem cnt_take_succ {i : Nat} {e : D_Gate} (hi : g[i]? = some e) : cnt (g.take (i + 1)) = cnt (g.take i) + if e = inp then 1 else 0 := by
  unfold cnt
  rw [List.take_add_one, hi, List.filter_append]
  by_cases h : e = inp <;> simp [h]
theorem cnt_le (i : Nat) : cnt (g.take i) ≤ i := by
  unfold cnt
  have := List.length_filter_le (fun e => decide (e = inp)) (g.take i)
  rw [List.length_take] at this; omega
theorem count_loop (k : Nat) (r : T35) (hv : Valid g) (hg : g.length ≤ 1048576) {l : Int} {n : Nat} (hl : w64 (w64 (Int.tdiv l 2) - 1) = n) (hn : n ≤ g.length) : ∀ (d i : Nat), n - i = d → ∀ (q j : Nat), q ≤ i → d < j → l35_4026 k r j g l q i = some ((((q + (cnt (g.take n) - cnt (g.take i)) : Nat) : Int), ()), ()) := by
  have mono : ∀ i, i ≤ n → cnt (g.take i) ≤ cnt (g.take n) := by
    intro i hi
    unfold cnt
    have : g.take i = (g.take n).take i := by rw [List.take_take, Nat.min_eq_left hi]
    rw [this]
    exact (List.Sublist.filter _ (List.take_sublist _ _)).length_le
  intro d
  induction d with
  | zero =>
    intro i hi q j hq hj
    obtain ⟨j, rfl, _⟩ := succ_of (n := 0) (by omega : 0 + 1 ≤ j)
    show b35_4026 k r (l35_4026 k r j) g l q i = _
    unfold b35_4026
    rw [hl, decide_eq_false (by omega : ¬ (i : Int) < n)]
    have h1 : cnt (g.take n) - cnt (g.take i) = 0 := by
      have h2 : cnt (g.take i) ≥ cnt (g.take n) := by
        unfold cnt
        have : g.take n = (g.take i).take n := by rw [List.take_take, Nat.min_eq_left (by omega)]
        rw [this]
        exact (List.Sublist.filter _ (List.take_sublist _ _)).length_le
      omega
    rw [h1]; rfl
  | succ d ih =>
    intro i hi q j hq hj
    obtain ⟨j, rfl, hj2⟩ := succ_of (by omega : d + 1 + 1 ≤ j)
    show b35_4026 k r (l35_4026 k r j) g l q i = _
    have hlt : i < g.length := by omega
    have hx : g[i]? = some g[i] := List.getElem?_eq_getElem hlt
    have hw : w64 ((i : Int) + 1) = ((i + 1 : Nat) : Int) := by rw [w_id (by omega) (by omega)]; omega
    have hwq : w64 ((q : Int) + 1) = ((q + 1 : Nat) : Int) := by rw [w_id (by omega) (by omega)]; omega
    have hc := cnt_take_succ hx
    have hm := mono (i + 1) (by omega)
    unfold b35_4026
    rw [hl, decide_eq_true (by omega : (i : Int) < n)]
    simp only [cond_true, ix_nat hx, hw]
    by_cases hneg : g[i].1 < 0
    · have he : g[i] = inp := by rcases hv i _ hx with h | h; exact h; omega
      rw [if_pos he] at hc
      rw [decide_eq_true hneg, cond_true, hwq, ih (i + 1) (by omega) (q + 1) j (by omega) hj2, Option.bind_some]
      rw [show q + 1 + (cnt (g.take n) - cnt (g.take (i + 1))) = q + (cnt (g.take n) - cnt (g.take i)) by omega]
    · have he : ¬ g[i] = inp := by intro h; rw [h] at hneg; exact hneg (by decide)
      rw [if_neg he] at hc
      rw [decide_eq_false hneg, cond_false, ih (i + 1) (by omega) q j (by omega) hj2, Option.bind_some]
      rw [show cnt (g.take (i + 1)) = cnt (g.take i) by omega]
theorem true35 (hv : Valid g) (hg : g.length ≤ 1048576) : ∀ (n : Nat) (l : Int), 0 ≤ l → l ≤ 2 * g.length + 1 → l.toNat < n → ∀ k, n + g.length + 2 ≤ k → f35 k g ins l = some ((val ins g l, ()), ()) := by
  intro n
  induction n with
  | zero => intro l _ _ h; omega
  | succ n ih =>
    intro l h0 h1 hn k hk
    obtain ⟨k, rfl, hk2⟩ := succ_of (by omega : (n + g.length + 2) + 1 ≤ k)
    rw [f35_succ]; unfold b35
    rw [Bool.cond_decide]
    by_cases h2 : l < 2
    · rw [if_pos h2, beq_int]
      have : val ins g l = decide (l = 1) := by
        unfold val value
        rw [if_neg (by have := Ev_len (g := g) (ins := ins); omega), if_pos h2]
      rw [this]
    · rw [if_neg h2]
      have hidx : (l / 2 - 1).toNat < g.length := by omega
      have hx : g[(l / 2 - 1).toNat]? = some g[(l / 2 - 1).toNat] := List.getElem?_eq_getElem hidx
      have hhalf := half (l := l) (by omega) (by omega)
      have hl : isL g l = true := isL_iff.2 ⟨h0, h1⟩
      rw [hhalf, ix_get (by omega) hx, mod2 h0, beq_int]
      generalize hge : g[(l / 2 - 1).toNat] = e at hx
      rcases hv _ _ hx with he | he
      · subst he
        rw [decide_eq_false (by decide : ¬ (inp.1 ≥ 0)), cond_false]
        have hcl := count_loop k (f35 k) hv hg (l := l) (n := (l / 2 - 1).toNat) (by rw [hhalf]; omega) (by omega) (l / 2 - 1).toNat 0 (by omega) 0 k (by omega) (by omega)
        rw [show ((0 : Nat) : Int) = 0 from rfl] at hcl
        have hc0 : cnt (g.take 0) = 0 := rfl
        rw [hc0, Nat.zero_add, Nat.sub_zero] at hcl
        rw [hcl]
        have hv2 : val ins g l = !(ins.getD (cnt (g.take (l / 2 - 1).toNat)) false == decide (l % 2 = 1)) := by
          unfold val
          rw [value_lit (by omega) (by rw [Ev_len]; omega), val_at hx, if_pos rfl]
        rw [hv2]
        simp only [Option.bind_some]
        generalize cnt (g.take (l / 2 - 1).toNat) = q
        by_cases hq : q < ins.length
        · have hy : ins[q]? = some ins[q] := List.getElem?_eq_getElem hq
          rw [decide_eq_true (by omega : (q : Int) < ins.length), cond_true, ix_nat hy, List.getD_eq_getElem?_getD, hy]
          rfl
        · rw [decide_eq_false (by omega : ¬ (q : Int) < ins.length), cond_false, List.getD_eq_getElem?_getD, List.getElem?_eq_none (by omega)]
          rfl
      · have hk2' : kid g l = some (e.1, e.2.1) := by unfold kid; rw [if_neg h2, hx]; simp only [Option.bind_some]; rw [if_neg (by omega)]
        have hA := ih e.1 he.1 (by omega) (by omega) k (by omega)
        have hB := ih e.2.1 he.2.1 (by omega) (by omega) k (by omega)
        rw [decide_eq_true (show e.1 ≥ 0 from he.1), cond_true, hA, val_kid hv hl hk2']
        simp only [Option.bind_some]
        cases val ins g e.1 with
        | true => rw [cond_true, hB]; rfl
        | false => rfl
end
end Aig
namespace Card
section
theorem awake71 (k : Nat) : f71 (k + 30) () = some ((true, ()), ()) := by kernel_rfl
theorem awake71E : E fun k => f71 k () = some ((true, ()), ()) := ⟨30, fun k hk => by obtain ⟨j, rfl⟩ : ∃ j, k = j + 30 := ⟨k - 30, by omega⟩; exact awake71 j⟩
/-- The table's entry is the least number of bits. -/
def tabOk (i : Nat) : Bool := match s_0.data.toList[i]? with
  | some c => decide ((i = 0 ∧ c.toNat = 0) ∨ (0 < i ∧ 1 ≤ c.toNat ∧ c.toNat ≤ 8 ∧ 2 ^ (c.toNat - 1) ≤ i ∧ i < 2 ^ c.toNat))
  | none => false
theorem tab_all : (List.range 256).all tabOk = true := by decide +kernel
theorem tab_at {i : Nat} (h : i < 256) : ∃ c : UInt8, s_0.data.toList[i]? = some c ∧ ((i = 0 ∧ c.toNat = 0) ∨ (0 < i ∧ 1 ≤ c.toNat ∧ c.toNat ≤ 8 ∧ 2 ^ (c.toNat - 1) ≤ i ∧ i < 2 ^ c.toNat)) := by
  have := List.all_eq_true.1 tab_all i (List.mem_range.2 h)
  unfold tabOk at this
  split at this
  · rename_i c hc
    exact ⟨c, hc, of_decide_eq_true this⟩
  · cases this
theorem ixs_at {R : Type} {s : ByteArray} {i : Nat} {c : UInt8} {K : Int → Option R} (h : s.data.toList[i]? = some c) : ixs s (i : Int) K = K (c.toNat : Int) := by
  unfold ixs
  rw [decide_eq_true (by omega), Int.toNat_natCast, h]; rfl
theorem u8_id {n : Int} (h : 0 ≤ n) (h' : n ≤ 255) : IntKind.u8.wrap n = n := by
  simp [IntKind.wrap, IntKind.signed, IntKind.bits]; omega
theorem u64_id {n : Int} (h : 0 ≤ n) (h' : n ≤ 65535) : IntKind.u64.wrap n = n := by
  simp [IntKind.wrap, IntKind.signed, IntKind.bits]; omega
/-- Bits of a number. -/
def Bits (n : Nat) (r : Nat) : Prop := (n = 0 ∧ r = 0) ∨ (0 < n ∧ 1 ≤ r ∧ r ≤ 16 ∧ 2 ^ (r - 1) ≤ n ∧ n < 2 ^ r)
theorem len115 (k : Nat) {n : Nat} (h : n ≤ 65535) : ∃ r : Nat, Bits n r ∧ f115 k (n : Int) = some (((r : Int), ()), ()) := by
  unfold f115 l115_14 l115_60
  rw [decide_eq_false (by omega : ¬ (n : Int) ≥ 4294967296), decide_eq_false (by omega : ¬ (n : Int) ≥ 65536)]
  simp only [cond_false, Option.bind_some]
  by_cases h2 : n < 256
  · rw [decide_eq_false (by omega : ¬ (n : Int) ≥ 256), cond_false, u8_id (by omega) (by omega)]
    obtain ⟨c, hc, hb⟩ := tab_at h2
    have hc8 : c.toNat ≤ 8 := by omega
    refine ⟨c.toNat, ?_, ?_⟩
    · unfold Bits; omega
    · rw [ixs_at hc, w64_id (n := (c.toNat : Int)) (by omega) (by omega), w64_id (by omega) (by omega), Int.zero_add]
  · have hf : Int.fdiv (n : Int) (2 ^ 8) = ((n / 256 : Nat) : Int) := by
      rw [Int.fdiv_eq_ediv_of_nonneg _ (by decide)]; omega
    rw [decide_eq_true (by omega : (n : Int) ≥ 256), cond_true, hf, u8_id (by omega) (by omega)]
    obtain ⟨c, hc, hb⟩ := tab_at (i := n / 256) (by omega)
    have hc8 : c.toNat ≤ 8 := by omega
    refine ⟨c.toNat + 8, ?_, ?_⟩
    · rcases hb with hb | ⟨b1, b2, b3, b4, b5⟩
      · omega
      · right
        have e1 : 2 ^ (c.toNat + 8 - 1) = 2 ^ (c.toNat - 1) * 256 := by
          rw [show c.toNat + 8 - 1 = (c.toNat - 1) + 8 by omega, Nat.pow_add]
        have e2 : 2 ^ (c.toNat + 8) = 2 ^ c.toNat * 256 := by rw [Nat.pow_add]
        rw [e1, e2]
        generalize 2 ^ (c.toNat - 1) = p at b4
        generalize 2 ^ c.toNat = q at b5
        omega
    · rw [ixs_at hc, w64_id (n := (c.toNat : Int)) (by omega) (by omega), w64_id (n := (0 : Int) + 8) (by omega) (by omega), w64_id (by omega) (by omega)]
      congr 4; omega
theorem enough_loop (k : Nat) {n r : Nat} (hn : n ≤ 65535) (hr : r ≤ 16) (hp : ∀ i, 1 ≤ i → i < r → 2 ^ i ≤ n) (hlt : n < 2 ^ r) : ∀ (d w : Nat), r - w = d → w ≤ r → ∀ j, d < j → (1 ≤ w → l70_60 k j (n : Int) (w : Int) = some (((r : Int), ()), ())) := by
  intro d
  induction d with
  | zero =>
    intro w hw hle j hj h1
    obtain ⟨j, rfl, _⟩ := succ_of (n := 0) (by omega : 0 + 1 ≤ j)
    show b70_60 k (l70_60 k j) (n : Int) (w : Int) = _
    obtain rfl : w = r := by omega
    have hmin : min ((w : Int).toNat) 64 = w := by omega
    have hb := Nat.pow_le_pow_right (show 0 < 2 by omega) hr
    have e : ((2 : Int) ^ w) = ((2 ^ w : Nat) : Int) := by simp
    generalize 2 ^ w = q at hb e hlt
    unfold b70_60
    rw [decide_eq_false (by omega : ¬ (w : Int) < 0), cond_false, hmin, e, Int.one_mul, w64_id (n := (q : Int)) (by omega) (by omega), decide_eq_false (by omega), cond_false]
  | succ d ih =>
    intro w hw hle j hj h1
    obtain ⟨j, rfl, hj2⟩ := succ_of (by omega : d + 1 + 1 ≤ j)
    show b70_60 k (l70_60 k j) (n : Int) (w : Int) = _
    have hmin : min ((w : Int).toNat) 64 = w := by omega
    have hb := hp w h1 (by omega)
    have e : ((2 : Int) ^ w) = ((2 ^ w : Nat) : Int) := by simp
    generalize 2 ^ w = q at hb e
    have hw1 : w64 ((w : Int) + 1) = ((w + 1 : Nat) : Int) := by rw [w64_id (by omega) (by omega)]; omega
    unfold b70_60
    rw [decide_eq_false (by omega : ¬ (w : Int) < 0), cond_false, hmin, e, Int.one_mul, w64_id (n := (q : Int)) (by omega) (by omega), decide_eq_true (by omega), cond_true, hw1, ih (w + 1) (by omega) (by omega) j hj2 (by omega)]
    rfl
theorem enough (k : Nat) (n : Int) (hk : 20 ≤ k) : ∃ r : Int, f69 k n = some ((r, ()), ()) ∧ f70 k n = some ((r, ()), ()) := by
  unfold f69 f70
  by_cases h0 : n < 0
  · rw [decide_eq_true h0]; exact ⟨0, rfl, rfl⟩
  · rw [decide_eq_false h0]
    by_cases h1 : n > 65535
    · rw [decide_eq_true h1]; exact ⟨0, rfl, rfl⟩
    · rw [decide_eq_false h1]
      obtain ⟨m, rfl⟩ : ∃ m : Nat, n = m := ⟨n.toNat, by omega⟩
      obtain ⟨r, hb, hr⟩ := len115 k (n := m) (by omega)
      have hmm : minmax true 1 (r : Int) = ((max 1 r : Nat) : Int) := by
        unfold minmax; simp only [if_true]; split <;> omega
      refine ⟨((max 1 r : Nat) : Int), ?_, ?_⟩
      · simp only [cond_false]
        unfold f108
        rw [u64_id (by omega) (by omega), hr]
        simp only [Option.bind_some, hmm]
      · have := enough_loop k (n := m) (r := max 1 r) (by omega) (by unfold Bits at hb; omega) (fun i h1i hi => by
            rcases hb with ⟨rfl, rfl⟩ | ⟨b1, b2, b3, b4, b5⟩
            · omega
            · exact Nat.le_trans (Nat.pow_le_pow_right (by omega) (by omega)) b4) (by
            rcases hb with ⟨rfl, rfl⟩ | ⟨b1, b2, b3, b4, b5⟩
            · decide
            · rw [show max 1 r = r by omega]; exact b5) (max 1 r - 1) 1 rfl (by omega) k (by unfold Bits at hb; omega) (by omega)
        rw [show ((1 : Nat) : Int) = 1 from rfl] at this
        simp only [cond_false]
        rw [this]
        rfl
end
end Card
end Go.Proofs.Ytgljnnokifggkaa.M
