/-
Words of bits: what words are by inputs; numbers; sums; the law's own words.
-/
import Derived.Test.YtepfhidiahleiaaVecA
set_option linter.unusedVariables false
set_option linter.unusedSimpArgs false
set_option maxRecDepth 100000
namespace Go.Proofs.Ytepfhidiahleiaa.M
open Go Go.Proofs.Ytepfhidiahleiaa.Vm Go.Proofs.Ytepfhidiahleiaa.Pl
namespace Vec
open Aig
variable {g : List D_Gate} {m : Mp} {ins : List Bool}

/-! ### plain bits -/
def num : List Bool → Int
  | [] => 0
  | b :: r => (if b then 1 else 0) + 2 * num r
def bitsB : Nat → Int → List Bool
  | 0, _ => []
  | w + 1, n => decide (n % 2 = 1) :: bitsB w (n / 2)
theorem bitsB_len : ∀ (w : Nat) (n : Int), (bitsB w n).length = w
  | 0, _ => rfl
  | w + 1, n => by rw [bitsB, List.length_cons, bitsB_len w]
theorem num_bits : ∀ (w : Nat) (n : Int), num (bitsB w n) = n % 2 ^ w
  | 0, n => by simp [bitsB, num, Int.emod_one]
  | w + 1, n => by
    rw [bitsB, num, num_bits w]
    have hp : (0 : Int) < 2 ^ w := Int.pow_pos (by decide)
    have e1 := Int.mul_ediv_add_emod (n / 2) (2 ^ w)
    have e2 := Int.mul_ediv_add_emod n 2
    have h0 := Int.emod_nonneg (n / 2) (Int.ne_of_gt hp)
    have h1 := Int.emod_lt_of_pos (n / 2) hp
    have hb : (if decide (n % 2 = 1) = true then (1 : Int) else 0) = n % 2 := by
      by_cases h : n % 2 = 1
      · rw [decide_eq_true h, if_pos rfl, h]
      · rw [decide_eq_false h, if_neg (by simp)]; omega
    rw [hb]
    have key : n = (n % 2 + 2 * (n / 2 % 2 ^ w)) + 2 ^ (w + 1) * (n / 2 / 2 ^ w) := by
      have e4 : (2 : Int) ^ (w + 1) * (n / 2 / 2 ^ w) = 2 * (2 ^ w * (n / 2 / 2 ^ w)) := by rw [Int.pow_succ, Int.mul_comm (2 ^ w) 2, Int.mul_assoc]
      rw [e4]
      generalize 2 ^ w * (n / 2 / 2 ^ w) = q at e1
      omega
    conv => rhs; rw [key]
    rw [Int.add_mul_emod_self_left]
    symm
    apply Int.emod_eq_of_lt
    · omega
    · rw [Int.pow_succ]; omega
theorem num_nonneg : ∀ b : List Bool, 0 ≤ num b
  | [] => Int.le_refl _
  | b :: r => by have := num_nonneg r; rw [num]; split <;> omega
theorem num_lt : ∀ b : List Bool, num b < 2 ^ b.length
  | [] => by simp [num]
  | b :: r => by
    have := num_lt r
    rw [num, List.length_cons, Int.pow_succ]
    split <;> omega
theorem num_inj : ∀ a b : List Bool, a.length = b.length → num a = num b → a = b
  | [], [], _, _ => rfl
  | [], _ :: _, h, _ => by simp at h
  | _ :: _, [], h, _ => by simp at h
  | x :: a, y :: b, h, hn => by
    rw [num, num] at hn
    have hx : (if x = true then (1 : Int) else 0) = 0 ∨ (if x = true then (1 : Int) else 0) = 1 := by split <;> simp
    have hy : (if y = true then (1 : Int) else 0) = 0 ∨ (if y = true then (1 : Int) else 0) = 1 := by split <;> simp
    have h1 : (if x = true then (1 : Int) else 0) = (if y = true then (1 : Int) else 0) := by omega
    have h2 : num a = num b := by omega
    rw [num_inj a b (by simpa using h) h2]
    have : x = y := by cases x <;> cases y <;> simp at h1 <;> rfl
    rw [this]
theorem num_append : ∀ a b : List Bool, num (a ++ b) = num a + 2 ^ a.length * num b
  | [], b => by simp [num]
  | x :: a, b => by
    rw [List.cons_append, num, num, num_append a b, List.length_cons, Int.pow_succ, Int.mul_add, Int.mul_comm (2 ^ a.length) 2, Int.mul_assoc]
    omega
/-- A sum, and what is carried out of it. -/
def addS : List Bool → List Bool → Bool → List Bool × Bool
  | x :: xs, y :: ys, c => ((!((!(x == y)) == c)) :: (addS xs ys ((x && y) || ((!(x == y)) && c))).1, (addS xs ys ((x && y) || ((!(x == y)) && c))).2)
  | _, _, c => ([], c)
theorem addS_len : ∀ (a b : List Bool) (c : Bool), a.length = b.length → (addS a b c).1.length = a.length
  | [], [], c, _ => rfl
  | [], _ :: _, c, h => by simp at h
  | _ :: _, [], c, h => by simp at h
  | x :: a, y :: b, c, h => by rw [addS, List.length_cons, List.length_cons, addS_len a b _ (by simpa using h)]
theorem addS_num : ∀ (a b : List Bool) (c : Bool), a.length = b.length → num (addS a b c).1 + 2 ^ a.length * (if (addS a b c).2 then 1 else 0) = num a + num b + (if c then 1 else 0)
  | [], [], c, _ => by cases c <;> simp [addS, num]
  | [], _ :: _, c, h => by simp at h
  | _ :: _, [], c, h => by simp at h
  | x :: a, y :: b, c, h => by
    have ih := addS_num a b ((x && y) || ((!(x == y)) && c)) (by simpa using h)
    rw [addS, num, num, num, List.length_cons, Int.pow_succ, Int.mul_comm (2 ^ a.length) 2, Int.mul_assoc]
    generalize 2 ^ a.length * (if (addS a b ((x && y) || ((!(x == y)) && c))).2 = true then (1 : Int) else 0) = q at ih ⊢
    generalize num (addS a b ((x && y) || ((!(x == y)) && c))).1 = p at ih ⊢
    cases x <;> cases y <;> cases c <;> simp at ih ⊢ <;> omega
def notS (b : List Bool) : List Bool := b.map (!·)
theorem num_not : ∀ b : List Bool, num (notS b) = 2 ^ b.length - 1 - num b
  | [] => by simp [notS, num]
  | x :: b => by
    have ih := num_not b
    unfold notS at ih ⊢
    rw [List.map_cons, num, num, ih, List.length_cons, Int.pow_succ]
    cases x <;> simp <;> omega
theorem less_carry {a b : List Bool} (h : a.length = b.length) : (addS a (notS b) true).2 = decide (num b ≤ num a) := by
  have h1 := addS_num a (notS b) true (by unfold notS; simpa using h)
  rw [num_not, ← h] at h1
  have h2 := addS_len a (notS b) true (by unfold notS; simpa using h)
  have h3 := num_lt (addS a (notS b) true).1
  have h4 := num_nonneg (addS a (notS b) true).1
  have h5 := num_lt a
  have h6 := num_lt b
  rw [h2] at h3
  rw [← h] at h6
  generalize (2 : Int) ^ a.length = q at h1 h3 h5 h6
  generalize num (addS a (notS b) true).1 = p at h1 h3 h4
  cases hc : (addS a (notS b) true).2 with
  | true =>
    rw [hc] at h1
    symm; apply decide_eq_true
    simp at h1; omega
  | false =>
    rw [hc] at h1
    symm; apply decide_eq_false
    simp at h1; omega

/-! ### words in a graph -/
structure Word (ins : List Bool) (g : List D_Gate) (a : List Int) (bs : List Bool) : Prop where
  lit : ∀ x ∈ a, isL g x = true
  val : a.map (Aig.val ins g) = bs
theorem Word.len {a : List Int} {bs : List Bool} (h : Word ins g a bs) : a.length = bs.length := by rw [← h.val, List.length_map]
theorem Word.ext {a : List Int} {bs : List Bool} (h : Word ins g a bs) (e : List D_Gate) : Word ins (g ++ e) a bs :=
  ⟨fun x hx => isL_ext (h.lit x hx), by
    rw [← h.val]
    exact List.map_congr_left fun x hx => val_ext e (isL_iff.1 (h.lit x hx)).2⟩
theorem Word.nil : Word ins g [] [] := ⟨fun x hx => (by cases hx), rfl⟩
theorem Word.snoc {a : List Int} {bs : List Bool} (h : Word ins g a bs) {x : Int} {b : Bool} (hx : isL g x = true) (hv : Aig.val ins g x = b) : Word ins g (a ++ [x]) (bs ++ [b]) :=
  ⟨fun y hy => by
    rcases List.mem_append.1 hy with hy | hy
    · exact h.lit y hy
    · rw [List.mem_singleton.1 hy]; exact hx, by rw [List.map_append, h.val, List.map_cons, hv]; rfl⟩
theorem Word.get {a : List Int} {bs : List Bool} (h : Word ins g a bs) {i : Nat} (hi : i < a.length) : ∃ x b, a[i]? = some x ∧ bs[i]? = some b ∧ isL g x = true ∧ Aig.val ins g x = b := by
  have hb : i < bs.length := by rw [← h.len]; exact hi
  refine ⟨a[i], bs[i], List.getElem?_eq_getElem hi, List.getElem?_eq_getElem hb, h.lit _ (List.getElem_mem _), ?_⟩
  have := h.val
  have e : (a.map (Aig.val ins g))[i]? = bs[i]? := by rw [this]
  rw [List.getElem?_map, List.getElem?_eq_getElem hi, List.getElem?_eq_getElem hb] at e
  simpa using e
theorem Word.nots {a : List Int} {bs : List Bool} (h : Word ins g a bs) : Word ins g (a.map nt) (notS bs) :=
  ⟨fun y hy => by obtain ⟨x, hx, rfl⟩ := List.mem_map.1 hy; exact isL_nt (h.lit x hx), by
    unfold notS
    rw [← h.val, List.map_map, List.map_map]
    exact List.map_congr_left fun x hx => vnt (h.lit x hx)⟩
theorem lit_i64 (hg : g.length ≤ 1048576) {x : Int} (h : isL g x = true) : I64 x := by
  have := isL_iff.1 h
  exact ⟨by omega, by omega⟩
end Vec
end Go.Proofs.Ytepfhidiahleiaa.M
/-
Words of bits: the program's words: what each function makes.
-/
set_option linter.unusedVariables false
set_option linter.unusedSimpArgs false
set_option maxRecDepth 100000
namespace Go.Proofs.Ytepfhidiahleiaa.M
open Go Go.Proofs.Ytepfhidiahleiaa.Vm Go.Proofs.Ytepfhidiahleiaa.Pl
namespace Vec
open Aig
variable {g : List D_Gate} {m : Mp} {ins : List Bool}

/-! ### what is checked -/
theorem chk107 (k : Nat) (hg : g.length ≤ 1048576) (l : Int) : f107 k l g m = some ((!isL g l, ()), ()) := by
  unfold f107; rw [is24 k hg]; rfl
theorem chk_loop (k : Nat) (hg : g.length ≤ 1048576) {a : List Int} (ha : a.length ≤ 1000) (h : ∀ x ∈ a, isL g x = true) : ∀ (d i : Nat), a.length - i = d → ∀ j, d < j → l106_26 k j a a.length i g m = some (.inl ((), ((), (), (), ()))) := by
  intro d
  induction d with
  | zero =>
    intro i hi j hj
    obtain ⟨j, rfl, _⟩ := succ_of (n := 0) (by omega : 0 + 1 ≤ j)
    show b106_26 k (l106_26 k j) a a.length i g m = _
    unfold b106_26
    rw [decide_eq_false (by omega : ¬ (i : Int) < a.length)]; rfl
  | succ d ih =>
    intro i hi j hj
    obtain ⟨j, rfl, hj2⟩ := succ_of (by omega : d + 1 + 1 ≤ j)
    show b106_26 k (l106_26 k j) a a.length i g m = _
    have hw1 : w64 ((i : Int) + 1) = ((i + 1 : Nat) : Int) := by rw [w_id (by omega) (by omega)]; omega
    have hx : a[i]? = some a[i] := List.getElem?_eq_getElem (by omega)
    unfold b106_26
    rw [decide_eq_true (by omega : (i : Int) < a.length), cond_true, ix_nat hx, chk107 k hg, h _ (List.getElem_mem _)]
    simp only [Option.bind_some, Bool.not_true, cond_false]
    rw [hw1, ih (i + 1) (by omega) j hj2]; rfl
theorem check68 (k : Nat) (hk : 20 < k) (hg : g.length ≤ 1048576) {a : List Int} (h1 : 1 ≤ a.length) (h2 : a.length ≤ 16) (h : ∀ x ∈ a, isL g x = true) : f94 k a g m = some ((0, ()), ()) := by
  unfold f94 f86 f106
  have := chk_loop (m := m) k hg (by omega) h a.length 0 (by omega) k (by omega)
  rw [show ((0 : Nat) : Int) = 0 from rfl] at this
  rw [decide_eq_false (by omega : ¬ (a.length : Int) < 1), decide_eq_false (by omega : ¬ (a.length : Int) > 16), cond_false, cond_false, this]
  rfl
theorem pair95 (k : Nat) (hk : 20 < k) (hg : g.length ≤ 1048576) {a b : List Int} (he : a.length = b.length) (h1 : 1 ≤ a.length) (h2 : a.length ≤ 16) (ha : ∀ x ∈ a, isL g x = true) (hb : ∀ x ∈ b, isL g x = true) : f68 k a b g m = some ((true, ()), ()) := by
  unfold f68
  rw [he, beq_self_eq_true, cond_true, check68 k hk hg h1 h2 ha, check68 k hk hg (by omega) (by omega) hb]
  rfl
theorem index_loop (k : Nat) {a : List Int} (ha : a.length ≤ 16) (h : ∀ x ∈ a, x ≠ -1) : ∀ (d i : Nat), a.length - i = d → ∀ j, d < j → l108_26 k j a (-1) a.length i = some (.inl ((), ())) := by
  intro d
  induction d with
  | zero =>
    intro i hi j hj
    obtain ⟨j, rfl, _⟩ := succ_of (n := 0) (by omega : 0 + 1 ≤ j)
    show b108_26 k (l108_26 k j) a (-1) a.length i = _
    unfold b108_26
    rw [decide_eq_false (by omega : ¬ (i : Int) < a.length)]
    rfl
  | succ d ih =>
    intro i hi j hj
    obtain ⟨j, rfl, hj2⟩ := succ_of (by omega : d + 1 + 1 ≤ j)
    show b108_26 k (l108_26 k j) a (-1) a.length i = _
    have hw1 : w64 ((i : Int) + 1) = ((i + 1 : Nat) : Int) := by rw [w_id (by omega) (by omega)]; omega
    have hx : a[i]? = some a[i] := List.getElem?_eq_getElem (by omega)
    have hne := h a[i] (List.getElem_mem _)
    unfold b108_26
    rw [decide_eq_true (by omega : (i : Int) < a.length), cond_true, ix_nat hx, beq_int, decide_eq_false (by omega : ¬ (-1 : Int) = a[i]), cond_false, hw1, ih (i + 1) (by omega) j hj2]
    rfl
theorem whole92 (k : Nat) {a : List Int} (ha : a.length ≤ 16) (h : ∀ x ∈ a, isL g x = true) (hk : 16 < k) : f70 k a = some (.inr ((a, ()), ())) := by
  unfold f70 f97 f108
  have := index_loop k ha (fun x hx => by have := (isL_iff.1 (h x hx)).1; omega) a.length 0 (by omega) k (by omega)
  rw [show ((0 : Nat) : Int) = 0 from rfl] at this
  rw [this]
  rfl

/-! ### what a word's number is -/
theorem two_pow16 {i : Nat} (h : i ≤ 16) : (0 : Int) < 2 ^ i ∧ (2 : Int) ^ i ≤ 65536 := by
  refine ⟨Int.pow_pos (by decide), ?_⟩
  have := Nat.pow_le_pow_right (show 0 < 2 by omega) h
  have e2 : ((2 : Int) ^ i) = ((2 ^ i : Nat) : Int) := by simp
  rw [e2]; omega
theorem ibits_or_pow {a : Int} {i : Nat} (h0 : 0 ≤ a) (h : a < 2 ^ i) (hi : i ≤ 16) : ibits .or .i64 a (2 ^ i) = a + 2 ^ i := by
  obtain ⟨n, rfl⟩ := Int.eq_ofNat_of_zero_le h0
  have hn : n < 2 ^ i := by exact_mod_cast h
  have hp : 2 ^ i ≤ 65536 := by
    have := Nat.pow_le_pow_right (show 0 < 2 by omega) hi
    simpa using this
  have e2 : ((2 : Int) ^ i) = ((2 ^ i : Nat) : Int) := by simp
  rw [e2]
  have e1 : (BitVec.ofInt 64 (n : Int) ||| BitVec.ofInt 64 ((2 ^ i : Nat) : Int)).toNat = n + 2 ^ i := by
    rw [BitVec.toNat_or, BitVec.toNat_ofInt, BitVec.toNat_ofInt]
    have h1 : ((n : Int) % 2 ^ 64).toNat = n := by omega
    have h2 : ((((2 ^ i : Nat) : Int)) % 2 ^ 64).toNat = 2 ^ i := by
      generalize 2 ^ i = q at hp hn; omega
    have c1 : (((2 ^ 64 : Nat)) : Int) = 2 ^ 64 := rfl
    rw [c1, h1, h2, Nat.or_comm, Nat.add_comm]
    have h3 := Nat.two_pow_add_eq_or_of_lt hn 1
    rw [Nat.mul_one] at h3
    exact h3.symm
  show IntKind.i64.wrap ((BitVec.ofInt 64 (n : Int) ||| BitVec.ofInt 64 ((2 ^ i : Nat) : Int)).toNat : Int) = _
  rw [e1]
  have := w64_id (n := ((n + 2 ^ i : Nat) : Int)) (by omega) (by generalize 2 ^ i = q at hp hn; omega)
  unfold w64 at this
  rw [this]; simp
theorem number_loop (k : Nat) {v : List Bool} {a : List Int} (ha : a.length ≤ 16) (h : ∀ x ∈ a, I64 x) : ∀ (d i : Nat), a.length - i = d → i ≤ a.length → ∀ j, d < j → l36_122 k j v (num ((a.take i).map (value v))) a a.length i = some ((num (a.map (value v)), ()), ()) := by
  intro d
  induction d with
  | zero =>
    intro i hi hia j hj
    obtain ⟨j, rfl, _⟩ := succ_of (n := 0) (by omega : 0 + 1 ≤ j)
    show b36_122 k (l36_122 k j) v _ a a.length i = _
    unfold b36_122
    rw [decide_eq_false (by omega : ¬ (i : Int) < a.length), List.take_of_length_le (by omega)]; rfl
  | succ d ih =>
    intro i hi hia j hj
    obtain ⟨j, rfl, hj2⟩ := succ_of (by omega : d + 1 + 1 ≤ j)
    show b36_122 k (l36_122 k j) v _ a a.length i = _
    have hw1 : w64 ((i : Int) + 1) = ((i + 1 : Nat) : Int) := by rw [w_id (by omega) (by omega)]; omega
    have hlt : i < a.length := by omega
    have hx : a[i]? = some a[i] := List.getElem?_eq_getElem hlt
    have hrec := ih (i + 1) (by omega) (by omega) j hj2
    have hl : ((a.take i).map (value v)).length = i := by rw [List.length_map, List.length_take]; omega
    have hs : num ((a.take (i + 1)).map (value v)) = num ((a.take i).map (value v)) + 2 ^ i * (if value v a[i] then 1 else 0) := by
      rw [List.take_succ_eq_append_getElem hlt, List.map_append, num_append, hl]
      simp [num]
    have hp := two_pow16 (i := i) (by omega)
    have hmin : min ((i : Int).toNat) 64 = i := by omega
    have hn0 := num_nonneg ((a.take i).map (value v))
    have hn1 := num_lt ((a.take i).map (value v))
    rw [hl] at hn1
    rw [hs] at hrec
    unfold b36_122
    rw [decide_eq_true (by omega : (i : Int) < a.length), cond_true, ix_nat hx, value34 k (h _ (List.getElem_mem _))]
    simp only [Option.bind_some]
    cases hv : value v a[i] with
    | true =>
      rw [hv] at hrec
      simp only [if_true, Int.mul_one] at hrec
      rw [cond_true, decide_eq_false (by omega : ¬ (i : Int) < 0), cond_false, hmin, Int.one_mul, w_id (n := 2 ^ i) (by omega) (by omega), ibits_or_pow hn0 hn1 (by omega), hw1, hrec]; rfl
    | false =>
      rw [hv] at hrec
      simp only [Bool.false_eq_true, if_false, Int.mul_zero, Int.add_zero] at hrec
      rw [cond_false, hw1, hrec]; rfl
theorem number43 (k : Nat) (hk : 20 < k) {v : List Bool} {a : List Int} (ha : a.length ≤ 16) (h : ∀ x ∈ a, I64 x) : f36 k v a = some ((num (a.map (value v)), ()), ()) := by
  unfold f36
  have := number_loop k (v := v) ha h a.length 0 (by omega) (by omega) k (by omega)
  rw [show ((0 : Nat) : Int) = 0 from rfl, List.take_zero] at this
  have e : num ([].map (value v)) = 0 := rfl
  rw [e] at this
  rw [decide_eq_false (by omega : ¬ (a.length : Int) > 16), cond_false, this]; rfl
end Vec
end Go.Proofs.Ytepfhidiahleiaa.M
/-
Words of bits: what each of the program's functions makes of words.
-/
set_option linter.unusedVariables false
set_option linter.unusedSimpArgs false
set_option maxRecDepth 100000
namespace Go.Proofs.Ytepfhidiahleiaa.M
open Go Go.Proofs.Ytepfhidiahleiaa.Vm Go.Proofs.Ytepfhidiahleiaa.Pl
namespace Vec
open Aig
variable {g : List D_Gate} {m : Mp} {ins : List Bool}

/-! ### one literal is made -/
/-- A literal is made that is so by inputs; the graph is longer by so many nodes at most. -/
def Op (ins : List Bool) (g : List D_Gate) (N : Nat) (f : Nat → Option R72) (w : Bool) : Prop :=
  ∃ (g' : List D_Gate) (m' : Mp) (r : Int), (∃ e, g' = g ++ e) ∧ Valid g' ∧ MapOk g' m' ∧ g'.length ≤ g.length + N ∧ isL g' r = true ∧ Aig.val ins g' r = w ∧ E fun k => f k = some ((r, ()), ((g', (), ()), m', ()))
theorem op_of {f : Nat → Option R72} {p : List D_Gate × Int} {w : Bool} {N : Nat} (h : ProgE f p) (ht : Aig.Told ins g p w) (hl : p.1.length ≤ g.length + N) : Op ins g N f w := by
  obtain ⟨m', h1, h2⟩ := h
  exact ⟨p.1, m', p.2, ht.ext, ht.ok, h1, hl, ht.lit, ht.val, h2⟩
theorem and_op (hv : Valid g) (hm : MapOk g m) (hg : g.length ≤ 1000000) {a b : Int} (ha : isL g a = true) (hb : isL g b = true) : Op ins g 1 (fun k => f72 k a b g m) (Aig.val ins g a && Aig.val ins g b) :=
  op_of (and19E hv hm (by omega) a b) (And_told hv ha hb (by omega)) (And_keeps keeps_valid a b hv).2.2.1
theorem or_op (hv : Valid g) (hm : MapOk g m) (hg : g.length ≤ 1000000) {a b : Int} (ha : isL g a = true) (hb : isL g b = true) : Op ins g 1 (fun k => f96 k a b g m) (Aig.val ins g a || Aig.val ins g b) :=
  op_of (or26E hv hm (by omega) (lit_i64 (by omega) ha) (lit_i64 (by omega) hb)) (Or_told hv ha hb (by omega)) (Or_keeps keeps_valid a b hv).2.2.1
theorem xor_op (hv : Valid g) (hm : MapOk g m) (hg : g.length ≤ 1000000) {a b : Int} (ha : isL g a = true) (hb : isL g b = true) : Op ins g 3 (fun k => f95 k a b g m) (!(Aig.val ins g a == Aig.val ins g b)) :=
  op_of (xor27E hv hm (by omega) (lit_i64 (by omega) ha) (lit_i64 (by omega) hb)) (Xor_told hv ha hb (by omega)) (Xor_keeps keeps_valid a b hv).2.2.1
theorem ite_op (hv : Valid g) (hm : MapOk g m) (hg : g.length ≤ 1000000) {c a b : Int} (hc : isL g c = true) (ha : isL g a = true) (hb : isL g b = true) : Op ins g 3 (fun k => f76 k c a b g m) (cond (Aig.val ins g c) (Aig.val ins g a) (Aig.val ins g b)) :=
  op_of (ite28E hv hm (by omega) (lit_i64 (by omega) hc) (lit_i64 (by omega) ha) (lit_i64 (by omega) hb)) (Ite_told hv hc ha hb (by omega)) (Ite_keeps keeps_valid c a b hv).2.2.1
/-- What was a literal is one, and is as it was. -/
theorem old_lit {g' : List D_Gate} (h : ∃ e, g' = g ++ e) {l : Int} (hl : isL g l = true) : isL g' l = true ∧ Aig.val ins g' l = Aig.val ins g l := by
  obtain ⟨e, rfl⟩ := h
  exact ⟨isL_ext hl, val_ext e (isL_iff.1 hl).2⟩
theorem old_word {g' : List D_Gate} (h : ∃ e, g' = g ++ e) {a : List Int} {bs : List Bool} (hl : Word ins g a bs) : Word ins g' a bs := by
  obtain ⟨e, rfl⟩ := h; exact hl.ext e
theorem ext_trans {g' g'' : List D_Gate} (h : ∃ e, g' = g ++ e) (h' : ∃ e, g'' = g' ++ e) : ∃ e, g'' = g ++ e := by
  obtain ⟨e, rfl⟩ := h
  obtain ⟨e', rfl⟩ := h'
  exact ⟨e ++ e', by rw [List.append_assoc]⟩

/-! ### bit by bit -/
def OpW (ins : List Bool) (g : List D_Gate) (N : Nat) (f : Nat → Option R31) (bs : List Bool) : Prop :=
  ∃ (g' : List D_Gate) (m' : Mp) (out : List Int), (∃ e, g' = g ++ e) ∧ Valid g' ∧ MapOk g' m' ∧ g'.length ≤ g.length + N ∧ Word ins g' out bs ∧ E fun k => f k = some ((out, ()), ((g', (), ()), m', ()))
def zipB (f : Bool → Bool → Bool) : List Bool → List Bool → List Bool
  | x :: xs, y :: ys => f x y :: zipB f xs ys
  | _, _ => []
theorem zipB_len (f : Bool → Bool → Bool) : ∀ a b : List Bool, a.length = b.length → (zipB f a b).length = a.length
  | [], [], _ => rfl
  | [], _ :: _, h => by simp at h
  | _ :: _, [], h => by simp at h
  | x :: a, y :: b, h => by rw [zipB, List.length_cons, List.length_cons, zipB_len f a b (by simpa using h)]
theorem zipB_drop (f : Bool → Bool → Bool) {xs ys : List Bool} {i : Nat} {x y : Bool} (hx : xs[i]? = some x) (hy : ys[i]? = some y) : zipB f (xs.drop i) (ys.drop i) = f x y :: zipB f (xs.drop (i + 1)) (ys.drop (i + 1)) := by
  have h1 := Vm.getElem?_lt hx
  have h2 := Vm.getElem?_lt hy
  rw [List.drop_eq_getElem_cons h1, List.drop_eq_getElem_cons h2, zipB]
  rw [List.getElem?_eq_getElem h1] at hx
  rw [List.getElem?_eq_getElem h2] at hy
  simp only [Option.some.injEq] at hx hy
  rw [hx, hy]
/-! ### negations -/
theorem xor1w {l : Int} (hg : g.length ≤ 1000000) (h : isL g l = true) : ibits .xor .i64 l 1 = nt l := by
  have := isL_iff.1 h
  exact xor1 this.1 (by omega)
theorem not_loop (k : Nat) (hg : g.length ≤ 1000000) {a : List Int} (ha : a.length ≤ 16) (h : ∀ x ∈ a, isL g x = true) : ∀ (d i : Nat) (out : List Int), a.length - i = d → i ≤ a.length → out.length = i → ∀ j, d < j → l98v3_122 k j a a out a.length i = some ((out ++ (a.drop i).map nt, ()), ()) := by
  intro d
  induction d with
  | zero =>
    intro i out hi hia ho j hj
    obtain ⟨j, rfl, _⟩ := succ_of (n := 0) (by omega : 0 + 1 ≤ j)
    show b98v3_122 k (l98v3_122 k j) a a out a.length i = _
    unfold b98v3_122
    rw [decide_eq_false (by omega : ¬ (i : Int) < a.length), List.drop_of_length_le (by omega)]
    simp
  | succ d ih =>
    intro i out hi hia ho j hj
    obtain ⟨j, rfl, hj2⟩ := succ_of (by omega : d + 1 + 1 ≤ j)
    show b98v3_122 k (l98v3_122 k j) a a out a.length i = _
    have hw1 : w64 ((i : Int) + 1) = ((i + 1 : Nat) : Int) := by rw [w_id (by omega) (by omega)]; omega
    have hlt : i < a.length := by omega
    have hx : a[i]? = some a[i] := List.getElem?_eq_getElem hlt
    unfold b98v3_122 f99
    rw [decide_eq_true (by omega : (i : Int) < a.length), cond_true, ix_nat hx, ix_nat hx]
    simp only [Option.bind_some]
    rw [gd_dec (by unfold room; omega), xor1w hg (h _ (List.getElem_mem _)), hw1, ih (i + 1) (out ++ [nt a[i]]) (by omega) (by omega) (by rw [List.length_append, ho]; rfl) j hj2, List.drop_eq_getElem_cons hlt, List.map_cons]
    simp
theorem not54 (k : Nat) (hk : 30 < k) (hg : g.length ≤ 1000000) {a : List Int} (h1 : 1 ≤ a.length) (h2 : a.length ≤ 16) (h : ∀ x ∈ a, isL g x = true) : f71 k a g m = some ((a.map nt, ()), ()) := by
  unfold f71 f98v3
  have e := not_loop k hg h2 h a.length 0 [] (by omega) (by omega) rfl k (by omega)
  rw [show ((0 : Nat) : Int) = 0 from rfl, List.nil_append, List.drop_zero] at e
  rw [pair95 k (by omega) (by omega) rfl h1 h2 h h]
  simp only [Option.bind_some, Bool.not_true, cond_false]
  rw [e]
  simp only [Option.bind_some]
  rw [whole92 (g := g) k (by rw [List.length_map]; omega) (fun y hy => by obtain ⟨x, hx, rfl⟩ := List.mem_map.1 hy; exact isL_nt (h x hx)) (by omega)]
  rfl
theorem turned_loop (k : Nat) (hg : g.length ≤ 1000000) {a : List Int} (ha : a.length ≤ 17) (h : ∀ x ∈ a, isL g x = true) : ∀ (d i : Nat) (out : List Int), a.length - i = d → i ≤ a.length → out.length = i → ∀ j, d < j → l75_58 k j out a a.length i = some ((out ++ (a.drop i).map nt, ()), ()) := by
  intro d
  induction d with
  | zero =>
    intro i out hi hia ho j hj
    obtain ⟨j, rfl, _⟩ := succ_of (n := 0) (by omega : 0 + 1 ≤ j)
    show b75_58 k (l75_58 k j) out a a.length i = _
    unfold b75_58
    rw [decide_eq_false (by omega : ¬ (i : Int) < a.length), List.drop_of_length_le (by omega)]
    simp
  | succ d ih =>
    intro i out hi hia ho j hj
    obtain ⟨j, rfl, hj2⟩ := succ_of (by omega : d + 1 + 1 ≤ j)
    show b75_58 k (l75_58 k j) out a a.length i = _
    have hw1 : w64 ((i : Int) + 1) = ((i + 1 : Nat) : Int) := by rw [w_id (by omega) (by omega)]; omega
    have hlt : i < a.length := by omega
    have hx : a[i]? = some a[i] := List.getElem?_eq_getElem hlt
    unfold b75_58
    rw [decide_eq_true (by omega : (i : Int) < a.length), cond_true, ix_nat hx, gd_dec (by unfold room; omega), xor1w hg (h _ (List.getElem_mem _)), hw1, ih (i + 1) (out ++ [nt a[i]]) (by omega) (by omega) (by rw [List.length_append, ho]; rfl) j hj2, List.drop_eq_getElem_cons hlt, List.map_cons]
    simp
theorem turned104 (k : Nat) (hk : 30 < k) (hg : g.length ≤ 1000000) {a : List Int} (h2 : a.length ≤ 17) (h : ∀ x ∈ a, isL g x = true) : f75 k a = some ((a.map nt, ()), ()) := by
  unfold f75
  have e := turned_loop k hg h2 h a.length 0 [] (by omega) (by omega) rfl k (by omega)
  rw [show ((0 : Nat) : Int) = 0 from rfl, List.nil_append, List.drop_zero] at e
  rw [e]; rfl

/-! ### sums -/
theorem addS_drop {xs ys : List Bool} {i : Nat} {x y : Bool} (hx : xs[i]? = some x) (hy : ys[i]? = some y) (c : Bool) : addS (xs.drop i) (ys.drop i) c = ((!((!(x == y)) == c)) :: (addS (xs.drop (i + 1)) (ys.drop (i + 1)) ((x && y) || ((!(x == y)) && c))).1, (addS (xs.drop (i + 1)) (ys.drop (i + 1)) ((x && y) || ((!(x == y)) && c))).2) := by
  have h1 := Vm.getElem?_lt hx
  have h2 := Vm.getElem?_lt hy
  rw [List.drop_eq_getElem_cons h1, List.drop_eq_getElem_cons h2, addS]
  rw [List.getElem?_eq_getElem h1] at hx
  rw [List.getElem?_eq_getElem h2] at hy
  simp only [Option.some.injEq] at hx hy
  rw [hx, hy]
theorem sum_loop {a b : List Int} {xs ys : List Bool} (hab : a.length = b.length) (ha : a.length ≤ 17) : ∀ (d i : Nat) (g : List D_Gate) (m : Mp) (c : Int) (cb : Bool) (out : List Int) (bs : List Bool), a.length - i = d → i ≤ a.length → Valid g → MapOk g m → g.length + 9 * d ≤ 1000000 →
    Word ins g a xs → Word ins g b ys → isL g c = true → Aig.val ins g c = cb → Word ins g out bs → out.length = i →
    ∃ (g' : List D_Gate) (m' : Mp) (c' : Int) (out' : List Int), (∃ e, g' = g ++ e) ∧ Valid g' ∧ MapOk g' m' ∧ g'.length ≤ g.length + 9 * d ∧ isL g' c' = true ∧ Aig.val ins g' c' = (addS (xs.drop i) (ys.drop i) cb).2 ∧ Word ins g' out' (bs ++ (addS (xs.drop i) (ys.drop i) cb).1) ∧
      E fun k => ∀ j, d < j → l69_58 k j a b c out a.length i g m = some ((c', out', ()), ((g', (), ()), m', ())) := by
  intro d
  induction d with
  | zero =>
    intro i g m c cb out bs hi hia hv hm hg hwa hwb lc vc hwo ho
    have e1 : xs.drop i = [] := List.drop_of_length_le (by have := hwa.len; omega)
    refine ⟨g, m, c, out, ⟨[], by simp⟩, hv, hm, by omega, lc, by rw [e1]; simpa [addS] using vc, by rw [e1]; simpa [addS] using hwo, .all fun k j hj => ?_⟩
    obtain ⟨j, rfl, _⟩ := succ_of (n := 0) (by omega : 0 + 1 ≤ j)
    show b69_58 k (l69_58 k j) a b c out a.length i g m = _
    unfold b69_58
    rw [decide_eq_false (by omega : ¬ (i : Int) < a.length)]; rfl
  | succ d ih =>
    intro i g m c cb out bs hi hia hv hm hg hwa hwb lc vc hwo ho
    have hw1 : w64 ((i : Int) + 1) = ((i + 1 : Nat) : Int) := by rw [w_id (by omega) (by omega)]; omega
    obtain ⟨x, bx, hx, hbx, lx, vx⟩ := hwa.get (i := i) (by omega)
    obtain ⟨y, by_, hy, hby, ly, vy⟩ := hwb.get (i := i) (by omega)
    obtain ⟨g1, m1, h, he1, hv1, hm1, hl1, lh, vh, hE1⟩ := xor_op (ins := ins) hv hm (by omega) lx ly
    have lc1 := old_lit (ins := ins) he1 lc
    obtain ⟨g2, m2, s, he2, hv2, hm2, hl2, ls, vs, hE2⟩ := xor_op (ins := ins) hv1 hm1 (by omega) lh lc1.1
    have lx2 := old_lit (ins := ins) (ext_trans he1 he2) lx
    have ly2 := old_lit (ins := ins) (ext_trans he1 he2) ly
    obtain ⟨g3, m3, p, he3, hv3, hm3, hl3, lp, vp, hE3⟩ := and_op (ins := ins) hv2 hm2 (by omega) lx2.1 ly2.1
    have lh3 := old_lit (ins := ins) (ext_trans he2 he3) lh
    have lc3 := old_lit (ins := ins) (ext_trans (ext_trans he1 he2) he3) lc
    obtain ⟨g4, m4, q, he4, hv4, hm4, hl4, lq, vq, hE4⟩ := and_op (ins := ins) hv3 hm3 (by omega) lh3.1 lc3.1
    have lp4 := old_lit (ins := ins) he4 lp
    obtain ⟨g5, m5, r, he5, hv5, hm5, hl5, lr, vr, hE5⟩ := or_op (ins := ins) hv4 hm4 (by omega) lp4.1 lq
    have he := ext_trans (ext_trans (ext_trans (ext_trans he1 he2) he3) he4) he5
    have ls5 := old_lit (ins := ins) (ext_trans (ext_trans he3 he4) he5) ls
    have hr : Aig.val ins g5 r = ((bx && by_) || ((!(bx == by_)) && cb)) := by rw [vr, lp4.2, vp, lx2.2, ly2.2, vq, lh3.2, vh, lc3.2, vx, vy, vc]
    have hs : Aig.val ins g5 s = (!((!(bx == by_)) == cb)) := by rw [ls5.2, vs, vh, lc1.2, vx, vy, vc]
    obtain ⟨g6, m6, c', out', he6, hv6, hm6, hl6, lc6, vc6, hw6, hE6⟩ := ih (i + 1) g5 m5 r _ (out ++ [s]) (bs ++ [(!((!(bx == by_)) == cb))]) (by omega) (by omega) hv5 hm5 (by omega) (old_word he hwa) (old_word he hwb) lr hr ((old_word he hwo).snoc ls5.1 hs) (by rw [List.length_append, ho]; rfl)
    refine ⟨g6, m6, c', out', ext_trans he he6, hv6, hm6, by omega, lc6, ?_, ?_, ((hE1.and hE2).and (hE3.and hE4)).mono3 hE5 hE6 fun k e e5 e6 j hj => ?_⟩
    · rw [addS_drop hbx hby]; exact vc6
    · rw [addS_drop hbx hby]
      rw [List.append_assoc] at hw6; exact hw6
    · obtain ⟨⟨e1, e2⟩, e3, e4⟩ := e
      dsimp only at e1 e2 e3 e4 e5
      obtain ⟨j, rfl, hj2⟩ := succ_of (by omega : d + 1 + 1 ≤ j)
      show b69_58 k (l69_58 k j) a b c out a.length i g m = _
      unfold b69_58
      rw [decide_eq_true (by omega : (i : Int) < a.length), cond_true, ix_nat hx, ix_nat hy, e1]
      simp only [Option.bind_some]
      rw [e2]
      simp only [Option.bind_some]
      rw [gd_dec (by unfold room; omega), ix_nat hx, ix_nat hy, e3]
      simp only [Option.bind_some]
      rw [e4]
      simp only [Option.bind_some]
      rw [e5]
      simp only [Option.bind_some]
      rw [hw1, e6 j hj2]; rfl
theorem sum96 (hv : Valid g) (hm : MapOk g m) (hg : g.length + 153 ≤ 1000000) {a b : List Int} {xs ys : List Bool} (hwa : Word ins g a xs) (hwb : Word ins g b ys) (hab : a.length = b.length) (h2 : a.length ≤ 17) {c : Int} {cb : Bool} (lc : isL g c = true) (vc : Aig.val ins g c = cb) :
    ∃ (g' : List D_Gate) (m' : Mp) (c' : Int) (out : List Int), (∃ e, g' = g ++ e) ∧ Valid g' ∧ MapOk g' m' ∧ g'.length ≤ g.length + 153 ∧ isL g' c' = true ∧ Aig.val ins g' c' = (addS xs ys cb).2 ∧ Word ins g' out (addS xs ys cb).1 ∧
      E fun k => f69 k a b c g m = some ((out, c', ()), ((g', (), ()), m', ())) := by
  obtain ⟨g', m', c', out, he, hv', hm', hl, lc', vc', hw, hE⟩ := sum_loop (ins := ins) hab h2 a.length 0 g m c cb [] [] (by omega) (by omega) hv hm (by omega) hwa hwb lc vc Word.nil rfl
  rw [List.drop_zero, List.drop_zero] at hw vc'
  rw [List.nil_append] at hw
  refine ⟨g', m', c', out, he, hv', hm', by omega, lc', vc', hw, hE.mono2 (E.ge 30) fun k e hk => ?_⟩
  have e := e k (by omega)
  rw [show ((0 : Nat) : Int) = 0 from rfl] at e
  show f69 k a b c g m = _
  unfold f69
  rw [e]; rfl
end Vec
end Go.Proofs.Ytepfhidiahleiaa.M
/-
Words of bits: questions, one of two words; the law's own words.
-/
set_option linter.unusedVariables false
set_option linter.unusedSimpArgs false
set_option maxRecDepth 100000
namespace Go.Proofs.Ytepfhidiahleiaa.M
open Go Go.Proofs.Ytepfhidiahleiaa.Vm Go.Proofs.Ytepfhidiahleiaa.Pl
namespace Vec
open Aig
variable {g : List D_Gate} {m : Mp} {ins : List Bool}

/-! ### all of some literals -/
theorem AllS_len : ∀ (l : List Int) (g : List D_Gate) (o : Int), Valid g → (AllS g l o).1.length ≤ g.length + l.length ∧ Valid (AllS g l o).1
  | [], g, o, hv => ⟨by simp [AllS], hv⟩
  | x :: l, g, o, hv => by
    have h1 := (And_keeps keeps_valid o x hv)
    have := AllS_len l (And g o x).1 (And g o x).2 h1.1
    rw [AllS, List.length_cons]
    exact ⟨by omega, this.2⟩
theorem all_word {a : List Int} {bs : List Bool} (h : Word ins g a bs) : a.all (Aig.val ins g) = bs.all id := by
  rw [← h.val, List.all_map]; rfl
theorem eq_bits : ∀ xs ys : List Bool, xs.length = ys.length → (notS (zipB (fun x y => !(x == y)) xs ys)).all id = decide (xs = ys)
  | [], [], _ => by simp [zipB, notS]
  | [], _ :: _, h => by simp at h
  | _ :: _, [], h => by simp at h
  | x :: xs, y :: ys, h => by
    have ih := eq_bits xs ys (by simpa using h)
    unfold notS at ih ⊢
    rw [zipB, List.map_cons, List.all_cons, ih]
    cases x <;> cases y <;> simp
theorem none_bits : ∀ xs : List Bool, (notS xs).all id = decide (num xs = 0)
  | [] => by simp [notS, num]
  | x :: xs => by
    have ih := none_bits xs
    have h0 := num_nonneg xs
    unfold notS at ih ⊢
    rw [List.map_cons, List.all_cons, ih, num]
    cases x
    · by_cases h : num xs = 0
      · simp [h]
      · simp [h]
    · have : ¬ (1 + 2 * num xs = 0) := by omega
      simp [this]
/-! ### one of two words -/
theorem zip_pick (c : Bool) : ∀ xs ys : List Bool, xs.length = ys.length → zipB (fun x y => cond c x y) xs ys = cond c xs ys
  | [], [], _ => by cases c <;> rfl
  | [], _ :: _, h => by simp at h
  | _ :: _, [], h => by simp at h
  | x :: xs, y :: ys, h => by
    rw [zipB, zip_pick c xs ys (by simpa using h)]
    cases c <;> rfl
/-! ### the law's words -/
theorem evL_more (t : List Bool) : ∀ (r : List D_Gate) (v : List Bool) (q : Nat), q + cnt r ≤ ins.length → evL (ins ++ t) r v q = evL ins r v q
  | [], v, q, _ => rfl
  | e :: r, v, q, h => by
    by_cases he : e = inp
    · have hc : cnt (e :: r) = cnt r + 1 := by simp [cnt, he]
      rw [evL, if_pos he, evL, if_pos he, evL_more t r _ (q + 1) (by omega)]
      congr 2
      rw [List.getD_eq_getElem?_getD, List.getD_eq_getElem?_getD, List.getElem?_append_left (by omega)]
    · have hc : cnt (e :: r) = cnt r := by simp [cnt, he]
      rw [evL, if_neg he, evL, if_neg he, evL_more t r _ q (by omega)]
theorem val_more (t : List Bool) (h : cnt g ≤ ins.length) (l : Int) : Aig.val (ins ++ t) g l = Aig.val ins g l := by
  unfold Aig.val Ev
  rw [evL_more t g [] 0 (by omega)]
theorem word_more {a : List Int} {bs : List Bool} (hw : Word ins g a bs) (h : cnt g ≤ ins.length) (t : List Bool) : Word (ins ++ t) g a bs :=
  ⟨hw.lit, by rw [← hw.val]; exact List.map_congr_left fun x _ => val_more t h x⟩
theorem in_val (h : cnt g = ins.length) (b : Bool) : isL (g ++ [inp]) (2 * g.length + 2) = true ∧ Aig.val (ins ++ [b]) (g ++ [inp]) (2 * g.length + 2) = b := by
  refine ⟨isL_iff.2 (by rw [List.length_append]; simp; omega), ?_⟩
  unfold Aig.val
  have hl : (Ev (g ++ [inp]) (ins ++ [b])).length = g.length + 1 := by rw [Ev_len]; simp
  rw [value_lit (by omega) (by rw [hl]; omega), Ev_snoc, if_pos rfl]
  have e1 : ((2 * (g.length : Int) + 2) / 2 - 1).toNat = g.length := by omega
  have e2 : ¬ (2 * (g.length : Int) + 2) % 2 = 1 := by omega
  have hE : (Ev g (ins ++ [b])).length = g.length := Ev_len
  rw [e1, List.getD_eq_getElem?_getD, List.getElem?_append_right (by omega), hE, Nat.sub_self, List.getElem?_cons_zero, decide_eq_false e2, h]
  have : (ins ++ [b]).getD ins.length false = b := by
    rw [List.getD_eq_getElem?_getD, List.getElem?_append_right (Nat.le_refl _)]; simp
  rw [Option.getD_some, this]
  cases b <;> rfl
theorem cnt_inp (g : List D_Gate) : cnt (g ++ [inp]) = cnt g + 1 := by unfold cnt; rw [List.filter_append]; simp
def bit (n : Int) (i : Nat) : Int := n / 2 ^ i % 2
theorem power55 (k : Nat) {w : Nat} (hw : w ≤ 16) : f59 k w = some (((2 ^ w : Int), ()), ()) := by
  unfold f59
  have hp := two_pow16 hw
  have hmin : min ((w : Int).toNat) 64 = w := by omega
  rw [decide_eq_false (by omega : ¬ (w : Int) < 0), cond_false, hmin, Int.one_mul, w_id (by omega) (by omega)]
theorem mod42 (k : Nat) {n : Int} (hn : 0 ≤ n) {w : Nat} (hw : w ≤ 16) : f27 k n w = some ((n % 2 ^ w, ()), ()) := by
  unfold f27
  have hp := two_pow16 hw
  rw [power55 k hw]
  simp only [Option.bind_some]
  generalize (2 : Int) ^ w = q at hp
  have h1 := Int.emod_nonneg n (show q ≠ 0 by omega)
  rw [decide_eq_false (by omega : ¬ q = 0), cond_false, tmod_pos hn, decide_eq_false (by omega : ¬ n % q < 0), cond_false]
theorem bit_loop (k : Nat) {b : Nat} (hb : b ≤ 16) : ∀ (d i : Nat) (n : Int), 0 ≤ n → n ≤ 65536 → b - i = d → ∀ j, d < j → l93_26 k j n b i = some ((n / 2 ^ d, ()), ()) := by
  intro d
  induction d with
  | zero =>
    intro i n h0 h1 hi j hj
    obtain ⟨j, rfl, _⟩ := succ_of (n := 0) (by omega : 0 + 1 ≤ j)
    show b93_26 k (l93_26 k j) n b i = _
    unfold b93_26
    rw [decide_eq_false (by omega : ¬ (i : Int) < b)]
    simp
  | succ d ih =>
    intro i n h0 h1 hi j hj
    obtain ⟨j, rfl, hj2⟩ := succ_of (by omega : d + 1 + 1 ≤ j)
    show b93_26 k (l93_26 k j) n b i = _
    have hw1 : w64 ((i : Int) + 1) = ((i + 1 : Nat) : Int) := by rw [w_id (by omega) (by omega)]; omega
    unfold b93_26
    rw [decide_eq_true (by omega : (i : Int) < b), cond_true, tdiv_pos h0, w_id (n := n / 2) (by omega) (by omega), hw1, ih (i + 1) (n / 2) (by omega) (by omega) (by omega) j hj2, Option.bind_some]
    have : n / 2 / 2 ^ d = n / 2 ^ (d + 1) := by
      rw [Int.ediv_ediv_of_nonneg (by decide), Int.pow_succ, Int.mul_comm]
    rw [this]
theorem bit41 (k : Nat) {n : Int} {i : Nat} (h0 : 0 ≤ n) (h1 : n ≤ 65536) (hi : i ≤ 16) (hk : 16 < k) : f93 k n i = some ((bit n i, ()), ()) := by
  unfold f93
  have := bit_loop k hi i 0 n h0 h1 (by omega) k (by omega)
  rw [show ((0 : Nat) : Int) = 0 from rfl] at this
  rw [this]
  simp only [Option.bind_some]
  rw [tmod_pos (Int.ediv_nonneg h0 (Int.le_of_lt (Int.pow_pos (by decide))))]
  rfl
theorem u64_id {n : Int} (h : 0 ≤ n) (h' : n ≤ 1000) : IntKind.u64.wrap n = n := by
  simp [IntKind.wrap, IntKind.signed, IntKind.bits]; omega
/-- Graph and inputs have grown. -/
structure Grow (ins : List Bool) (g : List D_Gate) (ins' : List Bool) (g' : List D_Gate) : Prop where
  gr : ∃ e, g' = g ++ e
  inr : ∃ t, ins' = ins ++ t
theorem Grow.word {ins' : List Bool} {g' : List D_Gate} (h : Grow ins g ins' g') (hc : cnt g ≤ ins.length) {a : List Int} {bs : List Bool} (hw : Word ins g a bs) : Word ins' g' a bs := by
  obtain ⟨t, rfl⟩ := h.inr
  exact old_word h.gr (word_more hw hc t)
end Vec
end Go.Proofs.Ytepfhidiahleiaa.M
/-
Words of literals: sums, differences, products.
-/
set_option linter.unusedVariables false
set_option linter.unusedSimpArgs false
set_option maxRecDepth 100000
namespace Go.Proofs.Ytepfhidiahleiaa.M
open Go Go.Proofs.Ytepfhidiahleiaa.Vm Go.Proofs.Ytepfhidiahleiaa.Pl
namespace Vec
open Aig
variable {g : List D_Gate} {m : Mp} {ins : List Bool}
theorem fit_u16 {n : Int} (h : Fit (.int .u16) n) : 0 ≤ n ∧ n ≤ 65535 := by
  have h : (Lit.int .u16 n).wf = true := h.inv
  simpa [Lit.wf, IntKind.min, IntKind.max, IntKind.signed, IntKind.bits] using h
theorem fit_u8 {n : Int} (h : Fit (.int .u8) n) : 0 ≤ n ∧ n ≤ 255 := by
  have h : (Lit.int .u8 n).wf = true := h.inv
  simpa [Lit.wf, IntKind.min, IntKind.max, IntKind.signed, IntKind.bits] using h
/-- The law's width. -/
theorem width_of {n : Int} (h : Fit (.int .u8) n) : ∃ w : Nat, 1 ≤ w ∧ w ≤ 8 ∧ w64 (1 + (w64 ((Int.tmod n 8)))) = (w : Int) := by
  have h := fit_u8 h
  refine ⟨1 + (n % 8).toNat, by omega, by omega, ?_⟩
  rw [tmod_pos h.1, w_id (n := n % 8) (by omega) (by omega), w_id (by omega) (by omega)]
  omega
theorem mod_any (k : Nat) {n : Int} {w : Nat} (hw : w ≤ 16) : f27 k n w = some ((n % 2 ^ w, ()), ()) := by
  rcases Int.lt_or_le n 0 with hn | hn
  · unfold f27
    have hp := two_pow16 hw
    rw [power55 k hw]
    simp only [Option.bind_some]
    generalize (2 : Int) ^ w = q at hp
    have h1 := Int.emod_nonneg n (show q ≠ 0 by omega)
    have h2 := Int.emod_lt_of_pos n (show 0 < q by omega)
    rw [decide_eq_false (by omega : ¬ q = 0), cond_false, Int.tmod_eq_emod]
    split
    · rw [show (((0 : Nat) : Int)) = 0 from rfl, Int.sub_zero, decide_eq_false (by omega : ¬ n % q < 0), cond_false]
    · have hq : (q.natAbs : Int) = q := by omega
      rw [hq, decide_eq_true (by omega : n % q - q < 0), cond_true, show n % q - q + q = n % q by omega, w_id (by omega) (by omega)]
  · exact mod42 k hn hw

/-! ### words by their numbers -/
theorem pow_pos2 (w : Nat) : (0 : Int) < 2 ^ w := Int.pow_pos (by omega)
theorem word_bits {bs : List Bool} {w : Nat} {n : Int} (hl : bs.length = w) (h : num bs = n % 2 ^ w) : bs = bitsB w n :=
  num_inj _ _ (by rw [hl, bitsB_len]) (by rw [h, num_bits])
theorem bits_congr {w : Nat} {x y : Int} (h : x % 2 ^ w = y % 2 ^ w) : bitsB w x = bitsB w y := word_bits (bitsB_len _ _) (by rw [num_bits, h])
theorem add_bits (w : Nat) (x y : Int) : (addS (bitsB w x) (bitsB w y) false).1 = bitsB w (x + y) := by
  have hl : (bitsB w x).length = (bitsB w y).length := by rw [bitsB_len, bitsB_len]
  have hs := addS_num (bitsB w x) (bitsB w y) false hl
  have hn := addS_len (bitsB w x) (bitsB w y) false hl
  rw [bitsB_len] at hn hs
  have h0 := num_nonneg (addS (bitsB w x) (bitsB w y) false).1
  have h1 := num_lt (addS (bitsB w x) (bitsB w y) false).1
  rw [hn] at h1
  refine word_bits hn ?_
  rw [num_bits, num_bits] at hs
  have hp := pow_pos2 w
  rw [Int.add_emod]
  generalize (2 : Int) ^ w = q at *
  generalize num (addS (bitsB w x) (bitsB w y) false).1 = s at *
  cases hc : (addS (bitsB w x) (bitsB w y) false).2 with
  | true =>
    rw [hc] at hs
    simp only [if_true, Int.mul_one, Bool.false_eq_true, if_false, Int.add_zero] at hs
    rw [← hs, Int.add_emod_right, Int.emod_eq_of_lt h0 h1]
  | false =>
    rw [hc] at hs
    simp only [Int.mul_zero, Bool.false_eq_true, if_false, Int.add_zero] at hs
    rw [← hs, Int.emod_eq_of_lt h0 h1]
theorem sub_bits (w : Nat) (x y : Int) : (addS (bitsB w x) (notS (bitsB w y)) true).1 = bitsB w (x - y) := by
  have hl : (bitsB w x).length = (notS (bitsB w y)).length := by unfold notS; rw [List.length_map, bitsB_len, bitsB_len]
  have hs := addS_num (bitsB w x) (notS (bitsB w y)) true hl
  have hn := addS_len (bitsB w x) (notS (bitsB w y)) true hl
  rw [bitsB_len] at hn hs
  have h0 := num_nonneg (addS (bitsB w x) (notS (bitsB w y)) true).1
  have h1 := num_lt (addS (bitsB w x) (notS (bitsB w y)) true).1
  rw [hn] at h1
  refine word_bits hn ?_
  rw [num_not, num_bits, num_bits, bitsB_len] at hs
  have hp := pow_pos2 w
  rw [Int.sub_emod]
  generalize (2 : Int) ^ w = q at *
  generalize num (addS (bitsB w x) (notS (bitsB w y)) true).1 = s at *
  cases hc : (addS (bitsB w x) (notS (bitsB w y)) true).2 with
  | true =>
    rw [hc] at hs
    simp only [if_true, Int.mul_one] at hs
    rw [show x % q - y % q = s by omega, Int.emod_eq_of_lt h0 h1]
  | false =>
    rw [hc] at hs
    simp only [if_true, Int.mul_zero, Bool.false_eq_true, if_false] at hs
    rw [show x % q - y % q = s - q by omega, Int.sub_emod, Int.emod_self, Int.sub_zero, Int.emod_emod, Int.emod_eq_of_lt h0 h1]
theorem num_zeros (n : Nat) : num (List.replicate n false) = 0 := by
  induction n with
  | zero => rfl
  | succ n ih => rw [List.replicate_succ, num, ih]; rfl
theorem zero_word (w : Nat) : Word ins g (List.replicate w 0) (bitsB w 0) := by
  rw [← word_bits (bs := List.replicate w false) (n := 0) (by simp) (by rw [num_zeros, Int.zero_emod])]
  exact ⟨fun x hx => by rw [(List.mem_replicate.1 hx).2]; exact isL_iff.2 (by omega), by rw [List.map_replicate, val_zero]⟩
theorem zero_const {w : Nat} (h1 : 1 ≤ w) (h2 : w ≤ 16) (k : Nat) : f29o k 0 w = some ((w, ()), (List.replicate w 0, ())) := by
  unfold f29o
  rw [decide_eq_true (by omega : (1 : Int) ≤ w), decide_eq_true (by omega : (w : Int) ≤ 16)]
  have e : constL 0 ((w : Int).toNat) = List.replicate w 0 := by
    unfold constL
    rw [Int.toNat_natCast]
    apply List.ext_getElem
    · simp
    · intro i h _
      simp only [List.getElem_map, List.getElem_replicate]
      unfold cbit
      rw [Int.zero_ediv]; rfl
  rw [e]; rfl
theorem zero_loop (k : Nat) {w : Nat} (hw : w ≤ 16) : ∀ (d : Nat) (i : Nat), w - i = d → i ≤ w → ∀ j, d < j → l29v2_122 k j 0 (List.replicate i 0) w i = some ((List.replicate w 0, ()), ()) := by
  intro d
  induction d with
  | zero =>
    intro i hi hiw j hj
    obtain ⟨j, rfl, _⟩ := succ_of (n := 0) (by omega : 0 + 1 ≤ j)
    show b29v2_122 k (l29v2_122 k j) 0 _ w i = _
    unfold b29v2_122
    rw [decide_eq_false (by omega : ¬ (i : Int) < w), show i = w by omega]; rfl
  | succ d ih =>
    intro i hi hiw j hj
    obtain ⟨j, rfl, hj2⟩ := succ_of (by omega : d + 1 + 1 ≤ j)
    show b29v2_122 k (l29v2_122 k j) 0 _ w i = _
    have hw1 : w64 ((i : Int) + 1) = ((i + 1 : Nat) : Int) := by rw [w_id (by omega) (by omega)]; omega
    unfold b29v2_122
    rw [decide_eq_true (by omega : (i : Int) < w), cond_true, decide_eq_false (by omega : ¬ (i : Int) < 0), cond_false, gd_dec (by rw [List.length_replicate]; unfold room; omega), Int.zero_fdiv]
    have e : List.replicate i (0 : Int) ++ [ibits .and .i64 0 1] = List.replicate (i + 1) 0 := by rw [List.replicate_succ']; rfl
    rw [hw1, e, ih (i + 1) (by omega) (by omega) j hj2]; rfl
theorem zero37 (k : Nat) (hk : 20 < k) {w : Nat} (h1 : 1 ≤ w) (h2 : w ≤ 16) : f29v2 k 0 w = some ((List.replicate w 0, ()), ()) := by
  unfold f29v2
  rw [decide_eq_false (by omega : ¬ (w : Int) < 1), decide_eq_false (by omega : ¬ (w : Int) > 16)]
  have := zero_loop k h2 w 0 (by omega) (by omega) k (by omega)
  rw [show ((0 : Nat) : Int) = 0 from rfl, List.replicate_zero] at this
  simp only [cond_false]
  rw [this]; rfl

/-! ### sums -/
theorem add46 (hv : Valid g) (hm : MapOk g m) (hg : g.length + 153 ≤ 1000000) {a b : List Int} {w : Nat} {x y : Int} (h1 : 1 ≤ w) (h2 : w ≤ 16) (hwa : Word ins g a (bitsB w x)) (hwb : Word ins g b (bitsB w y)) :
    ∃ (g' : List D_Gate) (m' : Mp) (out : List Int), (∃ e, g' = g ++ e) ∧ Valid g' ∧ MapOk g' m' ∧ g'.length ≤ g.length + 153 ∧ Word ins g' out (bitsB w (x + y)) ∧ E fun k => f30 k a b g m = some (.inr ((out, ()), ((g', (), ()), m', ()))) := by
  have la : a.length = w := by rw [hwa.len, bitsB_len]
  have lb : b.length = w := by rw [hwb.len, bitsB_len]
  have lz : isL g 0 = true := isL_iff.2 (by omega)
  obtain ⟨g', m', c', out, he, hv', hm', hl, lc, vc, hw, hE⟩ := sum96 (ins := ins) hv hm hg hwa hwb (by omega) (by omega) lz (cb := false) val_zero
  rw [add_bits] at hw
  refine ⟨g', m', out, he, hv', hm', hl, hw, hE.mono2 (E.ge 40) fun k e hk => ?_⟩
  have hol : out.length = w := by rw [hw.len, bitsB_len]
  unfold f30
  rw [pair95 k (by omega) (by omega) (by omega) (by omega) (by omega) hwa.lit hwb.lit]
  simp only [Option.bind_some, Bool.not_true, cond_false]
  rw [e]
  simp only [Option.bind_some]
  rw [whole92 (g := g') k (by omega) hw.lit (by omega)]
  rfl
theorem sub47 (hv : Valid g) (hm : MapOk g m) (hg : g.length + 153 ≤ 1000000) {a b : List Int} {w : Nat} {x y : Int} (h1 : 1 ≤ w) (h2 : w ≤ 16) (hwa : Word ins g a (bitsB w x)) (hwb : Word ins g b (bitsB w y)) :
    OpW ins g 153 (fun k => f31 k a b g m) (bitsB w (x - y)) := by
  have la : a.length = w := by rw [hwa.len, bitsB_len]
  have lb : b.length = w := by rw [hwb.len, bitsB_len]
  have l1 : isL g 1 = true := isL_iff.2 (by omega)
  obtain ⟨g', m', c', out, he, hv', hm', hl, lc, vc, hw, hE⟩ := sum96 (ins := ins) hv hm hg hwa hwb.nots (by rw [List.length_map]; omega) (by omega) l1 (cb := true) val_one
  rw [sub_bits] at hw
  refine ⟨g', m', out, he, hv', hm', hl, hw, hE.mono2 (E.ge 60) fun k e hk => ?_⟩
  have hol : out.length = w := by rw [hw.len, bitsB_len]
  show f31 k a b g m = _
  unfold f31
  rw [pair95 k (by omega) (by omega) (by omega) (by omega) (by omega) hwa.lit hwb.lit]
  simp only [Option.bind_some, Bool.not_true, cond_false]
  rw [not54 k (by omega) (by omega) (by omega) (by omega) hwb.lit]
  simp only [Option.bind_some]
  rw [e]
  simp only [Option.bind_some]
  rw [whole92 (g := g') k (by omega) hw.lit (by omega)]
  rfl
/-! ### an array for a word -/
section
variable {R A : Type}
theorem ixo {b : List A} {t : Int} {f : A → Option R} : gd (decide (0 ≤ t)) (gd (decide (t.toNat < b.length)) ((b[(0 + t.toNat)]?).bind f)) = ix b t f := by
  unfold gd ix
  cases decide (0 ≤ t) with
  | false => rfl
  | true =>
    rw [Nat.zero_add]
    by_cases h : t.toNat < b.length
    · rw [decide_eq_true h]; rfl
    · rw [decide_eq_false h, List.getElem?_eq_none (by omega)]; rfl
theorem ix_case {b : List A} {t : Int} {f : A → Option R} {r : R} (h : ix b t f = some r) : ∃ e, (∀ (B : Type) (f' : A → Option B), ix b t f' = f' e) ∧ f e = some r := by
  unfold ix at h
  cases hd : decide (0 ≤ t) with
  | false => rw [hd] at h; cases h
  | true =>
    rw [hd] at h
    cases he : b[t.toNat]? with
    | none => rw [he] at h; cases h
    | some e => rw [he] at h; exact ⟨e, fun B f' => by unfold ix; rw [hd, he]; rfl, h⟩
theorem gd_case {c : Bool} {o : Option R} {r : R} (h : gd c o = some r) : c = true ∧ o = some r := by
  cases c with
  | false => cases h
  | true => exact ⟨rfl, h⟩
end
theorem lift96 (k : Nat) : ∀ (j : Nat) (a b : List Int) (c : Int) (out : List Int) (n i : Int) (g : List D_Gate) (m : Mp) (y : R69_58), l69_58 k j a b c out n i g m = some y → l69v3_58 k j a b.length c out n i g m b = some (y.1, (y.2.1, y.2.2.1, b, ())) := by
  intro j
  induction j with
  | zero => intro a b c out n i g m y h; cases h
  | succ j ih =>
    intro a b c out n i g m y h
    have h : b69_58 k (l69_58 k j) a b c out n i g m = some y := h
    show b69v3_58 k (l69v3_58 k j) a b.length c out n i g m b = _
    unfold b69_58 at h
    unfold b69v3_58
    simp only [ixo]
    cases hd : decide (i < n) with
    | false =>
      rw [hd] at h
      obtain rfl := Option.some.inj h
      rfl
    | true =>
      rw [hd, cond_true] at h
      rw [cond_true]
      obtain ⟨e1, q1, h⟩ := ix_case h
      obtain ⟨e2, q2, h⟩ := ix_case h
      obtain ⟨y3, h3, h⟩ := bind_some h
      obtain ⟨y4, h4, h⟩ := bind_some h
      obtain ⟨hr, h⟩ := gd_case h
      rw [q1, q2] at h
      obtain ⟨y7, h7, h⟩ := bind_some h
      obtain ⟨y8, h8, h⟩ := bind_some h
      obtain ⟨y9, h9, h⟩ := bind_some h
      obtain ⟨y10, h10, h⟩ := bind_some h
      obtain rfl := Option.some.inj h
      rw [q1, q2, h3]
      simp only [Option.bind_some]
      rw [h4]
      simp only [Option.bind_some]
      rw [hr, q1, q2, h7]
      simp only [gd_true, Option.bind_some]
      rw [h8]
      simp only [Option.bind_some]
      rw [h9]
      simp only [Option.bind_some]
      rw [ih _ _ _ _ _ _ _ _ _ h10]; rfl
theorem sum96v3 (k : Nat) {a b : List Int} {c : Int} {y : R69} (h : f69 k a b c g m = some y) : f69v3 k a b.length c g m b = some (y.1, (y.2.1, y.2.2.1, b, ())) := by
  unfold f69 at h
  obtain ⟨y1, h1, h⟩ := bind_some h
  obtain rfl := Option.some.inj h
  unfold f69v3
  rw [lift96 k _ _ _ _ _ _ _ _ _ _ h1]; rfl
theorem add46v3 (hv : Valid g) (hm : MapOk g m) (hg : g.length + 153 ≤ 1000000) {a b : List Int} {w : Nat} {x y : Int} (h1 : 1 ≤ w) (h2 : w ≤ 16) (hwa : Word ins g a (bitsB w x)) (hwb : Word ins g b (bitsB w y)) :
    ∃ (g' : List D_Gate) (m' : Mp) (out : List Int), (∃ e, g' = g ++ e) ∧ Valid g' ∧ MapOk g' m' ∧ g'.length ≤ g.length + 153 ∧ Word ins g' out (bitsB w (x + y)) ∧ E fun k => f30v3 k a w g m b = some (.inr ((out, ()), ((g', (), ()), m', b, ()))) := by
  have la : a.length = w := by rw [hwa.len, bitsB_len]
  have lb : b.length = w := by rw [hwb.len, bitsB_len]
  have lz : isL g 0 = true := isL_iff.2 (by omega)
  obtain ⟨g', m', c', out, he, hv', hm', hl, lc, vc, hw, hE⟩ := sum96 (ins := ins) hv hm hg hwa hwb (by omega) (by omega) lz (cb := false) val_zero
  rw [add_bits] at hw
  refine ⟨g', m', out, he, hv', hm', hl, hw, hE.mono2 (E.ge 40) fun k e hk => ?_⟩
  have hol : out.length = w := by rw [hw.len, bitsB_len]
  have e3 := sum96v3 k e
  rw [lb] at e3
  unfold f30v3
  rw [gd_dec (by omega), List.drop_zero, List.take_of_length_le (by omega), pair95 k (by omega) (by omega) (by omega) (by omega) (by omega) hwa.lit hwb.lit]
  simp only [Option.bind_some, Bool.not_true, cond_false]
  rw [e3]
  simp only [Option.bind_some]
  rw [whole92 (g := g') k (by omega) hw.lit (by omega)]
  rfl

/-! ### products -/
theorem row_loop {a b : List Int} {xs : List Bool} {w i : Nat} (hla : a.length = w) (hw : w ≤ 16) (hi : i < w) {y : Int} {yb : Bool} (hy : b[i]? = some y) : ∀ (d k0 : Nat) (g : List D_Gate) (m : Mp) (pre : List Int) (bs : List Bool), w - k0 = d → i ≤ k0 → k0 ≤ w → Valid g → MapOk g m → g.length + d ≤ 1000000 →
    Word ins g a xs → isL g y = true → Aig.val ins g y = yb → Word ins g pre bs → pre.length = k0 →
    ∃ (g' : List D_Gate) (m' : Mp) (out : List Int), (∃ e, g' = g ++ e) ∧ Valid g' ∧ MapOk g' m' ∧ g'.length ≤ g.length + d ∧ Word ins g' out (bs ++ ((xs.drop (k0 - i)).take d).map (· && yb)) ∧
      E fun k => ∀ j, d < j → l32_125338 k j a b i w k0 g m (pre ++ List.replicate d 0) = some ((), ((g', (), ()), m', out, ())) := by
  intro d
  induction d with
  | zero =>
    intro k0 g m pre bs hd hik hkw hv hm hg hwa ly vy hwp hp
    refine ⟨g, m, pre, ⟨[], by simp⟩, hv, hm, by omega, by simpa using hwp, .all fun k j hj => ?_⟩
    obtain ⟨j, rfl, _⟩ := succ_of (n := 0) (by omega : 0 + 1 ≤ j)
    show b32_125338 k (l32_125338 k j) a b i w k0 g m _ = _
    unfold b32_125338
    rw [decide_eq_false (by omega : ¬ (k0 : Int) < a.length), List.replicate_zero, List.append_nil]; rfl
  | succ d ih =>
    intro k0 g m pre bs hd hik hkw hv hm hg hwa ly vy hwp hp
    have hw1 : w64 ((k0 : Int) + 1) = ((k0 + 1 : Nat) : Int) := by rw [w_id (by omega) (by omega)]; omega
    have hw2 : w64 ((k0 : Int) - (i : Int)) = ((k0 - i : Nat) : Int) := by rw [w_id (by omega) (by omega)]; omega
    obtain ⟨x, bx, hx, hbx, lx, vx⟩ := hwa.get (i := k0 - i) (by omega)
    obtain ⟨g1, m1, r, he1, hv1, hm1, hl1, lr, vr, hE1⟩ := and_op (ins := ins) hv hm (by omega) lx ly
    have hwy := old_lit (ins := ins) he1 ly
    obtain ⟨g2, m2, out2, he2, hv2, hm2, hl2, hw2', hE2⟩ := ih (k0 + 1) g1 m1 (pre ++ [r]) (bs ++ [bx && yb]) (by omega) (by omega) (by omega) hv1 hm1 (by omega) (old_word he1 hwa) hwy.1 (by rw [hwy.2, vy]) ((old_word he1 hwp).snoc lr (by rw [vr, vx, vy])) (by rw [List.length_append, hp]; rfl)
    refine ⟨g2, m2, out2, ext_trans he1 he2, hv2, hm2, by omega, ?_, hE1.mono2 hE2 fun k e1 e2 j hj => ?_⟩
    · have hlt := Vm.getElem?_lt hbx
      have hbx' : xs[k0 - i] = bx := by rw [List.getElem?_eq_getElem hlt] at hbx; exact Option.some.inj hbx
      rw [List.drop_eq_getElem_cons hlt, List.take_succ_cons, List.map_cons, hbx']
      rw [List.append_assoc, show k0 + 1 - i = k0 - i + 1 by omega] at hw2'; exact hw2'
    · obtain ⟨j, rfl, hj2⟩ := succ_of (by omega : d + 1 + 1 ≤ j)
      show b32_125338 k (l32_125338 k j) a b i w k0 g m _ = _
      dsimp only at e1
      have hset : (pre ++ List.replicate (d + 1) (0 : Int)).set (0 + (k0 : Int).toNat) r = (pre ++ [r]) ++ List.replicate d 0 := by
        rw [show 0 + (k0 : Int).toNat = pre.length by omega, List.replicate_succ, List.set_append_right _ _ (Nat.le_refl _), Nat.sub_self, List.set_cons_zero, List.append_assoc]; rfl
      unfold b32_125338
      rw [decide_eq_true (by omega : (k0 : Int) < a.length), cond_true, hw2, ix_nat hx, ix_nat hy, e1]
      simp only [Option.bind_some]
      rw [gd_dec (by omega), gd_dec (by omega), gd_dec (by rw [List.length_append, List.length_replicate]; omega), hset, hw1, e2 j hj2]; rfl
/-- A row of the product. -/
theorem row_bits {w i : Nat} (hi : i ≤ w) (x : Int) (yb : Bool) : List.replicate i false ++ ((bitsB w x).take (w - i)).map (· && yb) = bitsB w (x * (2 ^ i * (if yb then 1 else 0))) := by
  refine word_bits ?_ ?_
  · rw [List.length_append, List.length_map, List.length_take, List.length_replicate, bitsB_len]; omega
  · rw [num_append, num_zeros, List.length_replicate, Int.zero_add]
    cases yb with
    | false =>
      have : ((bitsB w x).take (w - i)).map (· && false) = List.replicate (w - i) false := by
        apply List.ext_getElem
        · rw [List.length_map, List.length_take, bitsB_len, List.length_replicate]; omega
        · intro j h1 h2; simp
      rw [this, num_zeros]; simp
    | true =>
      have : ((bitsB w x).take (w - i)).map (· && true) = (bitsB w x).take (w - i) := by simp
      rw [this]
      have hsp : num (bitsB w x) = num ((bitsB w x).take (w - i)) + 2 ^ (w - i) * num ((bitsB w x).drop (w - i)) := by
        conv => lhs; rw [← List.take_append_drop (w - i) (bitsB w x), num_append]
        rw [List.length_take, bitsB_len, show min (w - i) w = w - i by omega]
      have hlt := num_lt ((bitsB w x).take (w - i))
      have h0 := num_nonneg ((bitsB w x).take (w - i))
      rw [List.length_take, bitsB_len, show min (w - i) w = w - i by omega] at hlt
      rw [num_bits] at hsp
      have hq : (2 : Int) ^ w = 2 ^ i * 2 ^ (w - i) := by rw [← Int.pow_add, show i + (w - i) = w by omega]
      simp only [if_true, Int.mul_one]
      rw [Int.mul_emod, ← Int.emod_emod x, ← Int.mul_emod, hsp, Int.add_mul, Int.mul_comm (num _) (2 ^ i), show (2 : Int) ^ (w - i) * num ((bitsB w x).drop (w - i)) * 2 ^ i = 2 ^ w * num ((bitsB w x).drop (w - i)) by rw [hq, Int.mul_comm (2 ^ i) (2 ^ (w - i)), Int.mul_assoc, Int.mul_assoc, Int.mul_comm (num _) (2 ^ i)], Int.add_mul_emod_self_left]
      refine (Int.emod_eq_of_lt (Int.mul_nonneg (Int.le_of_lt (pow_pos2 i)) h0) ?_).symm
      rw [hq]
      exact Int.mul_lt_mul_of_pos_left hlt (pow_pos2 i)
theorem mul_loop {a b : List Int} {w : Nat} {x y : Int} (h1 : 1 ≤ w) (hw : w ≤ 16) : ∀ (d i : Nat) (g : List D_Gate) (m : Mp) (out : List Int), w - i = d → i ≤ w → Valid g → MapOk g m → g.length + 169 * d ≤ 1000000 → Word ins g a (bitsB w x) → Word ins g b (bitsB w y) → Word ins g out (bitsB w (x * num ((bitsB w y).take i))) →
    ∃ (g' : List D_Gate) (m' : Mp) (out' : List Int), (∃ e, g' = g ++ e) ∧ Valid g' ∧ MapOk g' m' ∧ g'.length ≤ g.length + 169 * d ∧ Word ins g' out' (bitsB w (x * y)) ∧
      E fun k => ∀ j, d < j → l32_122 k j a b out a.length i g m = some (.inl ((out', ()), ((g', (), ()), m', ()))) := by
  intro d
  induction d with
  | zero =>
    intro i g m out hd hiw hv hm hg hwa hwb hwo
    have la : a.length = w := by rw [hwa.len, bitsB_len]
    refine ⟨g, m, out, ⟨[], by simp⟩, hv, hm, by omega, ?_, .all fun k j hj => ?_⟩
    · rw [List.take_of_length_le (by rw [bitsB_len]; omega), num_bits] at hwo
      rw [bits_congr (y := x * (y % 2 ^ w)) (by conv => rhs; rw [Int.mul_emod, Int.emod_emod, ← Int.mul_emod])]
      exact hwo
    · obtain ⟨j, rfl, _⟩ := succ_of (n := 0) (by omega : 0 + 1 ≤ j)
      show b32_122 k (l32_122 k j) a b out a.length i g m = _
      unfold b32_122
      rw [decide_eq_false (by omega : ¬ (i : Int) < a.length)]; rfl
  | succ d ih =>
    intro i g m out hd hiw hv hm hg hwa hwb hwo
    have la : a.length = w := by rw [hwa.len, bitsB_len]
    have hw1 : w64 ((i : Int) + 1) = ((i + 1 : Nat) : Int) := by rw [w_id (by omega) (by omega)]; omega
    obtain ⟨yl, yb, hy, hyb, ly, vy⟩ := hwb.get (i := i) (by have := hwb.len; rw [bitsB_len] at this; omega)
    have hz : Word ins g (List.replicate i 0) (List.replicate i false) := ⟨fun x hx => by rw [(List.mem_replicate.1 hx).2]; exact isL_iff.2 (by omega), by rw [List.map_replicate, val_zero]⟩
    obtain ⟨g1, m1, row, he1, hv1, hm1, hl1, hwr, hE1⟩ := row_loop (ins := ins) (b := b) (xs := bitsB w x) la hw (by omega : i < w) hy (w - i) i g m (List.replicate i 0) (List.replicate i false) rfl (Nat.le_refl _) hiw hv hm (by omega) hwa ly vy hz (by simp)
    rw [Nat.sub_self, List.drop_zero, row_bits hiw] at hwr
    obtain ⟨g2, m2, o2, he2, hv2, hm2, hl2, hw2, hE2⟩ := add46v3 (ins := ins) hv1 hm1 (by omega) h1 hw (old_word he1 hwo) hwr
    have hlt := Vm.getElem?_lt hyb
    have hyb' : (bitsB w y)[i] = yb := by rw [List.getElem?_eq_getElem hlt] at hyb; exact Option.some.inj hyb
    have hnum : num ((bitsB w y).take (i + 1)) = num ((bitsB w y).take i) + 2 ^ i * (if yb then 1 else 0) := by
      rw [List.take_succ_eq_append_getElem hlt, num_append, hyb', List.length_take, bitsB_len, show min i w = i by omega]
      congr 2
      cases yb <;> rfl
    rw [← Int.mul_add, ← hnum] at hw2
    obtain ⟨g3, m3, o3, he3, hv3, hm3, hl3, hw3, hE3⟩ := ih (i + 1) g2 m2 o2 (by omega) (by omega) hv2 hm2 (by omega) (old_word (ext_trans he1 he2) hwa) (old_word (ext_trans he1 he2) hwb) hw2
    refine ⟨g3, m3, o3, ext_trans (ext_trans he1 he2) he3, hv3, hm3, by omega, hw3, hE1.mono3 hE2 (hE3.and (E.ge 40)) fun k e1 e2 e3 j hj => ?_⟩
    obtain ⟨e3, hk⟩ := e3
    obtain ⟨j, rfl, hj2⟩ := succ_of (by omega : d + 1 + 1 ≤ j)
    show b32_122 k (l32_122 k j) a b out a.length i g m = _
    have e1 := e1 k (by omega)
    rw [List.replicate_append_replicate, show i + (w - i) = w by omega] at e1
    have ne : o2.isEmpty = false := by
      have : o2.length = w := by rw [hw2.len, bitsB_len]
      cases o2 with
      | nil => simp at this; omega
      | cons => rfl
    unfold b32_122 l32_15666
    rw [decide_eq_true (by omega : (i : Int) < a.length), cond_true, la, zero_const h1 hw]
    simp only [Option.bind_some]
    rw [e1]
    simp only [Option.bind_some]
    rw [e2]
    simp only [Option.bind_some, ne, cond_false]
    rw [la] at e3
    rw [hw1, e3 j hj2]; rfl
theorem mul49 (hv : Valid g) (hm : MapOk g m) (hg : g.length + 2704 ≤ 1000000) {a b : List Int} {w : Nat} {x y : Int} (h1 : 1 ≤ w) (h2 : w ≤ 16) (hwa : Word ins g a (bitsB w x)) (hwb : Word ins g b (bitsB w y)) :
    OpW ins g 2704 (fun k => f32 k a b g m) (bitsB w (x * y)) := by
  have la : a.length = w := by rw [hwa.len, bitsB_len]
  have lb : b.length = w := by rw [hwb.len, bitsB_len]
  obtain ⟨g', m', out, he, hv', hm', hl, hw, hE⟩ := mul_loop (ins := ins) (a := a) (b := b) (x := x) (y := y) h1 h2 w 0 g m (List.replicate w 0) (by omega) (by omega) hv hm (by omega) hwa hwb (by rw [List.take_zero]; simpa [num] using zero_word w)
  refine ⟨g', m', out, he, hv', hm', by omega, hw, hE.mono2 (E.ge 60) fun k e hk => ?_⟩
  show f32 k a b g m = _
  have e := e k (by omega)
  rw [show ((0 : Nat) : Int) = 0 from rfl, la] at e
  unfold f32
  rw [pair95 k (by omega) (by omega) (by omega) (by omega) (by omega) hwa.lit hwb.lit]
  simp only [Option.bind_some, Bool.not_true, cond_false]
  rw [la, zero37 k (by omega) h1 h2]
  simp only [Option.bind_some]
  rw [e]; rfl
end Vec
end Go.Proofs.Ytepfhidiahleiaa.M
