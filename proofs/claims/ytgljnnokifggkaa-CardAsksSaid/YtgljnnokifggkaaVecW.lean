/-
Words of bits: what words are by inputs; numbers; sums; the law's own words.
-/
import Derived.Test.YtgljnnokifggkaaVecA
set_option linter.unusedVariables false
set_option linter.unusedSimpArgs false
set_option maxRecDepth 100000
namespace Go.Proofs.Ytgljnnokifggkaa.M
open Go Go.Proofs.Ytgljnnokifggkaa.Vm Go.Proofs.Ytgljnnokifggkaa.Pl
namespace Vec
open Aig
variable {g : List D_Gate} {m : Mp} {ins : List Bool}

/-! ### plain bits -/
def num : List Bool → Int
  | [] => 0
  | b :: r => (if b then 1 else 0) + 2 * num r
def bitsB : Nat → Int → List Bool
  | 0, _ => []
  | w + 1, n => decide (n % 2 = 1) :: bitsB w (n / 2)
theorem bitsB_len : ∀ (w : Nat) (n : Int), (bitsB w n).length = w
  | 0, _ => rfl
  | w + 1, n => by rw [bitsB, List.length_cons, bitsB_len w]
theorem num_bits : ∀ (w : Nat) (n : Int), num (bitsB w n) = n % 2 ^ w
  | 0, n => by simp [bitsB, num, Int.emod_one]
  | w + 1, n => by
    rw [bitsB, num, num_bits w]
    have hp : (0 : Int) < 2 ^ w := Int.pow_pos (by decide)
    have e1 := Int.mul_ediv_add_emod (n / 2) (2 ^ w)
    have e2 := Int.mul_ediv_add_emod n 2
    have h0 := Int.emod_nonneg (n / 2) (Int.ne_of_gt hp)
    have h1 := Int.emod_lt_of_pos (n / 2) hp
    have hb : (if decide (n % 2 = 1) = true then (1 : Int) else 0) = n % 2 := by
      by_cases h : n % 2 = 1
      · rw [decide_eq_true h, if_pos rfl, h]
      · rw [decide_eq_false h, if_neg (by simp)]; omega
    rw [hb]
    have key : n = (n % 2 + 2 * (n / 2 % 2 ^ w)) + 2 ^ (w + 1) * (n / 2 / 2 ^ w) := by
      have e4 : (2 : Int) ^ (w + 1) * (n / 2 / 2 ^ w) = 2 * (2 ^ w * (n / 2 / 2 ^ w)) := by rw [Int.pow_succ, Int.mul_comm (2 ^ w) 2, Int.mul_assoc]
      rw [e4]
      generalize 2 ^ w * (n / 2 / 2 ^ w) = q at e1
      omega
    conv => rhs; rw [key]
    rw [Int.add_mul_emod_self_left]
    symm
    apply Int.emod_eq_of_lt
    · omega
    · rw [Int.pow_succ]; omega
theorem num_nonneg : ∀ b : List Bool, 0 ≤ num b
  | [] => Int.le_refl _
  | b :: r => by have := num_nonneg r; rw [num]; split <;> omega
theorem num_lt : ∀ b : List Bool, num b < 2 ^ b.length
  | [] => by simp [num]
  | b :: r => by
    have := num_lt r
    rw [num, List.length_cons, Int.pow_succ]
    split <;> omega
theorem num_inj : ∀ a b : List Bool, a.length = b.length → num a = num b → a = b
  | [], [], _, _ => rfl
  | [], _ :: _, h, _ => by simp at h
  | _ :: _, [], h, _ => by simp at h
  | x :: a, y :: b, h, hn => by
    rw [num, num] at hn
    have hx : (if x = true then (1 : Int) else 0) = 0 ∨ (if x = true then (1 : Int) else 0) = 1 := by split <;> simp
    have hy : (if y = true then (1 : Int) else 0) = 0 ∨ (if y = true then (1 : Int) else 0) = 1 := by split <;> simp
    have h1 : (if x = true then (1 : Int) else 0) = (if y = true then (1 : Int) else 0) := by omega
    have h2 : num a = num b := by omega
    rw [num_inj a b (by simpa using h) h2]
    have : x = y := by cases x <;> cases y <;> simp at h1 <;> rfl
    rw [this]
theorem num_append : ∀ a b : List Bool, num (a ++ b) = num a + 2 ^ a.length * num b
  | [], b => by simp [num]
  | x :: a, b => by
    rw [List.cons_append, num, num, num_append a b, List.length_cons, Int.pow_succ, Int.mul_add, Int.mul_comm (2 ^ a.length) 2, Int.mul_assoc]
    omega
/-- A sum, and what is carried out of it. -/
def addS : List Bool → List Bool → Bool → List Bool × Bool
  | x :: xs, y :: ys, c => ((!((!(x == y)) == c)) :: (addS xs ys ((x && y) || ((!(x == y)) && c))).1, (addS xs ys ((x && y) || ((!(x == y)) && c))).2)
  | _, _, c => ([], c)
theorem addS_len : ∀ (a b : List Bool) (c : Bool), a.length = b.length → (addS a b c).1.length = a.length
  | [], [], c, _ => rfl
  | [], _ :: _, c, h => by simp at h
  | _ :: _, [], c, h => by simp at h
  | x :: a, y :: b, c, h => by rw [addS, List.length_cons, List.length_cons, addS_len a b _ (by simpa using h)]
theorem addS_num : ∀ (a b : List Bool) (c : Bool), a.length = b.length → num (addS a b c).1 + 2 ^ a.length * (if (addS a b c).2 then 1 else 0) = num a + num b + (if c then 1 else 0)
  | [], [], c, _ => by cases c <;> simp [addS, num]
  | [], _ :: _, c, h => by simp at h
  | _ :: _, [], c, h => by simp at h
  | x :: a, y :: b, c, h => by
    have ih := addS_num a b ((x && y) || ((!(x == y)) && c)) (by simpa using h)
    rw [addS, num, num, num, List.length_cons, Int.pow_succ, Int.mul_comm (2 ^ a.length) 2, Int.mul_assoc]
    generalize 2 ^ a.length * (if (addS a b ((x && y) || ((!(x == y)) && c))).2 = true then (1 : Int) else 0) = q at ih ⊢
    generalize num (addS a b ((x && y) || ((!(x == y)) && c))).1 = p at ih ⊢
    cases x <;> cases y <;> cases c <;> simp at ih ⊢ <;> omega
def notS (b : List Bool) : List Bool := b.map (!·)
theorem num_not : ∀ b : List Bool, num (notS b) = 2 ^ b.length - 1 - num b
  | [] => by simp [notS, num]
  | x :: b => by
    have ih := num_not b
    unfold notS at ih ⊢
    rw [List.map_cons, num, num, ih, List.length_cons, Int.pow_succ]
    cases x <;> simp <;> omega
theorem less_carry {a b : List Bool} (h : a.length = b.length) : (addS a (notS b) true).2 = decide (num b ≤ num a) := by
  have h1 := addS_num a (notS b) true (by unfold notS; simpa using h)
  rw [num_not, ← h] at h1
  have h2 := addS_len a (notS b) true (by unfold notS; simpa using h)
  have h3 := num_lt (addS a (notS b) true).1
  have h4 := num_nonneg (addS a (notS b) true).1
  have h5 := num_lt a
  have h6 := num_lt b
  rw [h2] at h3
  rw [← h] at h6
  generalize (2 : Int) ^ a.length = q at h1 h3 h5 h6
  generalize num (addS a (notS b) true).1 = p at h1 h3 h4
  cases hc : (addS a (notS b) true).2 with
  | true =>
    rw [hc] at h1
    symm; apply decide_eq_true
    simp at h1; omega
  | false =>
    rw [hc] at h1
    symm; apply decide_eq_false
    simp at h1; omega

/-! ### words in a graph -/
structure Word (ins : List Bool) (g : List D_Gate) (a : List Int) (bs : List Bool) : Prop where
  lit : ∀ x ∈ a, isL g x = true
  val : a.map (Aig.val ins g) = bs
theorem Word.len {a : List Int} {bs : List Bool} (h : Word ins g a bs) : a.length = bs.length := by rw [← h.val, List.length_map]
theorem Word.ext {a : List Int} {bs : List Bool} (h : Word ins g a bs) (e : List D_Gate) : Word ins (g ++ e) a bs :=
  ⟨fun x hx => isL_ext (h.lit x hx), by
    rw [← h.val]
    exact List.map_congr_left fun x hx => val_ext e (isL_iff.1 (h.lit x hx)).2⟩
theorem Word.nil : Word ins g [] [] := ⟨fun x hx => (by cases hx), rfl⟩
theorem Word.snoc {a : List Int} {bs : List Bool} (h : Word ins g a bs) {x : Int} {b : Bool} (hx : isL g x = true) (hv : Aig.val ins g x = b) : Word ins g (a ++ [x]) (bs ++ [b]) :=
  ⟨fun y hy => by
    rcases List.mem_append.1 hy with hy | hy
    · exact h.lit y hy
    · rw [List.mem_singleton.1 hy]; exact hx, by rw [List.map_append, h.val, List.map_cons, hv]; rfl⟩
theorem Word.get {a : List Int} {bs : List Bool} (h : Word ins g a bs) {i : Nat} (hi : i < a.length) : ∃ x b, a[i]? = some x ∧ bs[i]? = some b ∧ isL g x = true ∧ Aig.val ins g x = b := by
  have hb : i < bs.length := by rw [← h.len]; exact hi
  refine ⟨a[i], bs[i], List.getElem?_eq_getElem hi, List.getElem?_eq_getElem hb, h.lit _ (List.getElem_mem _), ?_⟩
  have := h.val
  have e : (a.map (Aig.val ins g))[i]? = bs[i]? := by rw [this]
  rw [List.getElem?_map, List.getElem?_eq_getElem hi, List.getElem?_eq_getElem hb] at e
  simpa using e
theorem Word.nots {a : List Int} {bs : List Bool} (h : Word ins g a bs) : Word ins g (a.map nt) (notS bs) :=
  ⟨fun y hy => by obtain ⟨x, hx, rfl⟩ := List.mem_map.1 hy; exact isL_nt (h.lit x hx), by
    unfold notS
    rw [← h.val, List.map_map, List.map_map]
    exact List.map_congr_left fun x hx => vnt (h.lit x hx)⟩
theorem lit_i64 (hg : g.length ≤ 1048576) {x : Int} (h : isL g x = true) : I64 x := by
  have := isL_iff.1 h
  exact ⟨by omega, by omega⟩
end Vec
end Go.Proofs.Ytgljnnokifggkaa.M
