/-
Words of bits: the program's words: what each function makes.
-/
import Derived.Test.YtgljnnokifggkaaVecW
set_option linter.unusedVariables false
set_option linter.unusedSimpArgs false
set_option maxRecDepth 100000
namespace Go.Proofs.Ytgljnnokifggkaa.M
open Go Go.Proofs.Ytgljnnokifggkaa.Vm Go.Proofs.Ytgljnnokifggkaa.Pl
namespace Vec
open Aig
variable {g : List D_Gate} {m : Mp} {ins : List Bool}

/-! ### what is checked -/
theorem chk107 (k : Nat) (hg : g.length ≤ 1048576) (l : Int) : f107 k l g m = some ((!isL g l, ()), ()) := by
  unfold f107; rw [is24 k hg]; rfl
theorem chk_loop (k : Nat) (hg : g.length ≤ 1048576) {a : List Int} (ha : a.length ≤ 1000) (h : ∀ x ∈ a, isL g x = true) : ∀ (d i : Nat), a.length - i = d → ∀ j, d < j → l113_26 k j a a.length i g m = some (.inl ((), ((), (), (), ()))) := by
  intro d
  induction d with
  | zero =>
    intro i hi j hj
    obtain ⟨j, rfl, _⟩ := succ_of (n := 0) (by omega : 0 + 1 ≤ j)
    show b113_26 k (l113_26 k j) a a.length i g m = _
    unfold b113_26
    rw [decide_eq_false (by omega : ¬ (i : Int) < a.length)]; rfl
  | succ d ih =>
    intro i hi j hj
    obtain ⟨j, rfl, hj2⟩ := succ_of (by omega : d + 1 + 1 ≤ j)
    show b113_26 k (l113_26 k j) a a.length i g m = _
    have hw1 : w64 ((i : Int) + 1) = ((i + 1 : Nat) : Int) := by rw [w_id (by omega) (by omega)]; omega
    have hx : a[i]? = some a[i] := List.getElem?_eq_getElem (by omega)
    unfold b113_26
    rw [decide_eq_true (by omega : (i : Int) < a.length), cond_true, ix_nat hx, chk107 k hg, h _ (List.getElem_mem _)]
    simp only [Option.bind_some, Bool.not_true, cond_false]
    rw [hw1, ih (i + 1) (by omega) j hj2]; rfl
theorem check68 (k : Nat) (hk : 20 < k) (hg : g.length ≤ 1048576) {a : List Int} (h1 : 1 ≤ a.length) (h2 : a.length ≤ 16) (h : ∀ x ∈ a, isL g x = true) : f68 k a g m = some ((0, ()), ()) := by
  unfold f68 f106 f113
  have := chk_loop (m := m) k hg (by omega) h a.length 0 (by omega) k (by omega)
  rw [show ((0 : Nat) : Int) = 0 from rfl] at this
  rw [decide_eq_false (by omega : ¬ (a.length : Int) < 1), decide_eq_false (by omega : ¬ (a.length : Int) > 16), cond_false, cond_false, this]
  rfl
theorem pair95 (k : Nat) (hk : 20 < k) (hg : g.length ≤ 1048576) {a b : List Int} (he : a.length = b.length) (h1 : 1 ≤ a.length) (h2 : a.length ≤ 16) (ha : ∀ x ∈ a, isL g x = true) (hb : ∀ x ∈ b, isL g x = true) : f95 k a b g m = some ((true, ()), ()) := by
  unfold f95
  rw [he, beq_self_eq_true, cond_true, check68 k hk hg h1 h2 ha, check68 k hk hg (by omega) (by omega) hb]
  rfl
theorem index_loop (k : Nat) {a : List Int} (ha : a.length ≤ 16) (h : ∀ x ∈ a, x ≠ -1) : ∀ (d i : Nat), a.length - i = d → ∀ j, d < j → l118_26 k j a (-1) a.length i = some (.inl ((), ())) := by
  intro d
  induction d with
  | zero =>
    intro i hi j hj
    obtain ⟨j, rfl, _⟩ := succ_of (n := 0) (by omega : 0 + 1 ≤ j)
    show b118_26 k (l118_26 k j) a (-1) a.length i = _
    unfold b118_26
    rw [decide_eq_false (by omega : ¬ (i : Int) < a.length)]
    rfl
  | succ d ih =>
    intro i hi j hj
    obtain ⟨j, rfl, hj2⟩ := succ_of (by omega : d + 1 + 1 ≤ j)
    show b118_26 k (l118_26 k j) a (-1) a.length i = _
    have hw1 : w64 ((i : Int) + 1) = ((i + 1 : Nat) : Int) := by rw [w_id (by omega) (by omega)]; omega
    have hx : a[i]? = some a[i] := List.getElem?_eq_getElem (by omega)
    have hne := h a[i] (List.getElem_mem _)
    unfold b118_26
    rw [decide_eq_true (by omega : (i : Int) < a.length), cond_true, ix_nat hx, beq_int, decide_eq_false (by omega : ¬ (-1 : Int) = a[i]), cond_false, hw1, ih (i + 1) (by omega) j hj2]
    rfl
theorem whole92 (k : Nat) {a : List Int} (ha : a.length ≤ 16) (h : ∀ x ∈ a, isL g x = true) (hk : 16 < k) : f92 k a = some (.inr ((a, ()), ())) := by
  unfold f92 f112 f118
  have := index_loop k ha (fun x hx => by have := (isL_iff.1 (h x hx)).1; omega) a.length 0 (by omega) k (by omega)
  rw [show ((0 : Nat) : Int) = 0 from rfl] at this
  rw [this]
  rfl

/-! ### what a word's number is -/
theorem two_pow16 {i : Nat} (h : i ≤ 16) : (0 : Int) < 2 ^ i ∧ (2 : Int) ^ i ≤ 65536 := by
  refine ⟨Int.pow_pos (by decide), ?_⟩
  have := Nat.pow_le_pow_right (show 0 < 2 by omega) h
  have e2 : ((2 : Int) ^ i) = ((2 ^ i : Nat) : Int) := by simp
  rw [e2]; omega
theorem ibits_or_pow {a : Int} {i : Nat} (h0 : 0 ≤ a) (h : a < 2 ^ i) (hi : i ≤ 16) : ibits .or .i64 a (2 ^ i) = a + 2 ^ i := by
  obtain ⟨n, rfl⟩ := Int.eq_ofNat_of_zero_le h0
  have hn : n < 2 ^ i := by exact_mod_cast h
  have hp : 2 ^ i ≤ 65536 := by
    have := Nat.pow_le_pow_right (show 0 < 2 by omega) hi
    simpa using this
  have e2 : ((2 : Int) ^ i) = ((2 ^ i : Nat) : Int) := by simp
  rw [e2]
  have e1 : (BitVec.ofInt 64 (n : Int) ||| BitVec.ofInt 64 ((2 ^ i : Nat) : Int)).toNat = n + 2 ^ i := by
    rw [BitVec.toNat_or, BitVec.toNat_ofInt, BitVec.toNat_ofInt]
    have h1 : ((n : Int) % 2 ^ 64).toNat = n := by omega
    have h2 : ((((2 ^ i : Nat) : Int)) % 2 ^ 64).toNat = 2 ^ i := by
      generalize 2 ^ i = q at hp hn; omega
    have c1 : (((2 ^ 64 : Nat)) : Int) = 2 ^ 64 := rfl
    rw [c1, h1, h2, Nat.or_comm, Nat.add_comm]
    have h3 := Nat.two_pow_add_eq_or_of_lt hn 1
    rw [Nat.mul_one] at h3
    exact h3.symm
  show IntKind.i64.wrap ((BitVec.ofInt 64 (n : Int) ||| BitVec.ofInt 64 ((2 ^ i : Nat) : Int)).toNat : Int) = _
  rw [e1]
  have := w64_id (n := ((n + 2 ^ i : Nat) : Int)) (by omega) (by generalize 2 ^ i = q at hp hn; omega)
  unfold w64 at this
  rw [this]; simp
theorem number_loop (k : Nat) {v : List Bool} {a : List Int} (ha : a.length ≤ 16) (h : ∀ x ∈ a, I64 x) : ∀ (d i : Nat), a.length - i = d → i ≤ a.length → ∀ j, d < j → l43_122 k j v (num ((a.take i).map (value v))) a a.length i = some ((num (a.map (value v)), ()), ()) := by
  intro d
  induction d with
  | zero =>
    intro i hi hia j hj
    obtain ⟨j, rfl, _⟩ := succ_of (n := 0) (by omega : 0 + 1 ≤ j)
    show b43_122 k (l43_122 k j) v _ a a.length i = _
    unfold b43_122
    rw [decide_eq_false (by omega : ¬ (i : Int) < a.length), List.take_of_length_le (by omega)]; rfl
  | succ d ih =>
    intro i hi hia j hj
    obtain ⟨j, rfl, hj2⟩ := succ_of (by omega : d + 1 + 1 ≤ j)
    show b43_122 k (l43_122 k j) v _ a a.length i = _
    have hw1 : w64 ((i : Int) + 1) = ((i + 1 : Nat) : Int) := by rw [w_id (by omega) (by omega)]; omega
    have hlt : i < a.length := by omega
    have hx : a[i]? = some a[i] := List.getElem?_eq_getElem hlt
    have hrec := ih (i + 1) (by omega) (by omega) j hj2
    have hl : ((a.take i).map (value v)).length = i := by rw [List.length_map, List.length_take]; omega
    have hs : num ((a.take (i + 1)).map (value v)) = num ((a.take i).map (value v)) + 2 ^ i * (if value v a[i] then 1 else 0) := by
      rw [List.take_succ_eq_append_getElem hlt, List.map_append, num_append, hl]
      simp [num]
    have hp := two_pow16 (i := i) (by omega)
    have hmin : min ((i : Int).toNat) 64 = i := by omega
    have hn0 := num_nonneg ((a.take i).map (value v))
    have hn1 := num_lt ((a.take i).map (value v))
    rw [hl] at hn1
    rw [hs] at hrec
    unfold b43_122
    rw [decide_eq_true (by omega : (i : Int) < a.length), cond_true, ix_nat hx, value34 k (h _ (List.getElem_mem _))]
    simp only [Option.bind_some]
    cases hv : value v a[i] with
    | true =>
      rw [hv] at hrec
      simp only [if_true, Int.mul_one] at hrec
      rw [cond_true, decide_eq_false (by omega : ¬ (i : Int) < 0), cond_false, hmin, Int.one_mul, w_id (n := 2 ^ i) (by omega) (by omega), ibits_or_pow hn0 hn1 (by omega), hw1, hrec]; rfl
    | false =>
      rw [hv] at hrec
      simp only [Bool.false_eq_true, if_false, Int.mul_zero, Int.add_zero] at hrec
      rw [cond_false, hw1, hrec]; rfl
theorem number43 (k : Nat) (hk : 20 < k) {v : List Bool} {a : List Int} (ha : a.length ≤ 16) (h : ∀ x ∈ a, I64 x) : f43 k v a = some ((num (a.map (value v)), ()), ()) := by
  unfold f43
  have := number_loop k (v := v) ha h a.length 0 (by omega) (by omega) k (by omega)
  rw [show ((0 : Nat) : Int) = 0 from rfl, List.take_zero] at this
  have e : num ([].map (value v)) = 0 := rfl
  rw [e] at this
  rw [decide_eq_false (by omega : ¬ (a.length : Int) > 16), cond_false, this]; rfl
/-- A word has this number. -/
theorem is45 (k : Nat) (hk : g.length + 20 < k) (hv : Valid g) (hg : g.length ≤ 1000000) {a : List Int} {bs : List Bool} (h : Word ins g a bs) {w : Nat} (hw1 : 1 ≤ w) (hw2 : w ≤ 16) (hl : bs.length = w) {n : Int} (hn : n = num bs) : f45 k ins a w n g m = some ((true, ()), ()) := by
  have hal : a.length = w := by rw [h.len, hl]
  unfold f45
  rw [hal, beq_self_eq_true, cond_true, check68 k (by omega) (by omega) (by omega) (by omega) h.lit]
  simp only [Option.bind_some, beq_self_eq_true, cond_true]
  rw [nodes23 k (by omega)]
  simp only [Option.bind_some]
  rw [eval31 (ins := ins) k hv (by omega) (by omega)]
  simp only [Option.bind_some]
  rw [number43 k (by omega) (by omega) (fun x hx => lit_i64 (by omega) (h.lit x hx))]
  have e : a.map (value (Ev g ins)) = bs := h.val
  rw [e, hn]
  simp
end Vec
end Go.Proofs.Ytgljnnokifggkaa.M
