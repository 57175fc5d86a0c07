/-
Key words and names: names, by the program and by the reference.
-/
import Derived.Test.YticelgnmcjkknaaLexK
set_option linter.unusedVariables false
set_option linter.unusedSimpArgs false
set_option maxRecDepth 100000
namespace Go.Proofs.Yticelgnmcjkknaa.M
open Go Go.Proofs.Yticelgnmcjkknaa.Vm Go.Proofs.Yticelgnmcjkknaa.Pl
namespace Lex
def lt (e : Int) : Bool := decide (97 ≤ e) && decide (e ≤ 122)
def dg (e : Int) : Bool := decide (48 ≤ e) && decide (e ≤ 57)
def ld (e : Int) : Bool := lt e || dg e
theorem cond_and (a b : Bool) : cond a (some ((b, ()), ())) (some ((false, ()), ())) = some (((a && b), ()), ()) := by cases a <;> rfl
theorem f57_eq (k : Nat) (e : Int) : f57 k e = some ((lt e, ()), ()) := by unfold f57 lt; rw [cond_and]
theorem f59_eq (k : Nat) (e : Int) : f59 k e = some ((lt e, ()), ()) := by unfold f59 lt; rw [cond_and]
theorem f96_eq (k : Nat) (e : Int) : f96 k e = some ((dg e, ()), ()) := by unfold f96 dg; rw [cond_and]
theorem f60_eq (k : Nat) (e : Int) : f60 k e = some ((dg e, ()), ()) := by unfold f60 dg; rw [cond_and]
theorem ixs_nat {R : Type} {s : ByteArray} {i : Nat} {c : UInt8} {K : Int → Option R} (h : (L s)[i]? = some c) : ixs s (i : Int) K = K (c.toNat : Int) := by
  unfold ixs
  rw [decide_eq_true (by omega : (0 : Int) ≤ i)]
  have : s.data.toList[(i : Int).toNat]? = some c := h
  rw [this]; rfl
theorem size_L (s : ByteArray) : (s.size : Int) = ((L s).length : Nat) := by unfold L; rw [Array.length_toList]; rfl
theorem bytes_L (s : ByteArray) : bytesD s = (L s).map fun c => (c.toNat : Int) := rfl
theorem bytes_len (s : ByteArray) : (bytesD s).length = (L s).length := by rw [bytes_L, List.length_map]

/-! ### where letters and digits end -/
def runS (b : List Int) (i : Nat) : Nat := i + ((b.drop i).takeWhile ld).length
theorem run_loop (k : Nat) (b : List Int) (hb : b.length ≤ 1000000000) : ∀ (d i : Nat), b.length - i = d → i ≤ b.length → ∀ j, d < j → l58_12 k j b i = some ((((runS b i : Nat) : Int), ()), ()) := by
  intro d
  induction d with
  | zero =>
    intro i hi hib j hj
    obtain ⟨j, rfl, _⟩ := succ_of (n := 0) (by omega : 0 + 1 ≤ j)
    show b58_12 k (l58_12 k j) b i = _
    unfold b58_12 runS
    rw [decide_eq_false (by omega : ¬ (i : Int) < b.length), List.drop_of_length_le (by omega)]
    rfl
  | succ d ih =>
    intro i hi hib j hj
    obtain ⟨j, rfl, hj2⟩ := succ_of (by omega : d + 1 + 1 ≤ j)
    show b58_12 k (l58_12 k j) b i = _
    have hw1 : w64 ((i : Int) + 1) = ((i + 1 : Nat) : Int) := by rw [w_id (by omega) (by omega)]; omega
    have hlt : i < b.length := by omega
    have hx : b[i]? = some b[i] := List.getElem?_eq_getElem hlt
    have hr : runS b i = if ld b[i] then runS b (i + 1) else i := by
      unfold runS
      rw [List.drop_eq_getElem_cons hlt, List.takeWhile_cons]
      split <;> simp <;> omega
    unfold b58_12
    rw [decide_eq_true (by omega : (i : Int) < b.length), cond_true, ix_nat hx, f57_eq]
    simp only [Option.bind_some]
    rw [hw1, ih (i + 1) (by omega) (by omega) j hj2, ix_nat hx, f96_eq]
    simp only [Option.bind_some]
    rw [hr]
    unfold ld
    cases lt b[i] <;> cases dg b[i] <;> rfl
theorem run58 (k : Nat) (b : List Int) (hb : b.length ≤ 1000000000) (hk : b.length < k) {i : Nat} (hi : i ≤ b.length) : f58 k b i = some ((((runS b i : Nat) : Int), ()), ()) := by
  unfold f58
  rw [run_loop k b hb (b.length - i) i rfl hi k (by omega)]
  rfl

/-! ### names -/
def nameS (s : Bs) : Bool := match s with
  | [] => false
  | c :: r => lt (c.toNat : Int) && r.all (fun c => ld (c.toNat : Int)) && decide (s.length ≤ 12) && !decide (s ∈ words)
theorem take_all {A : Type} (p : A → Bool) : ∀ l : List A, ((l.takeWhile p).length == l.length) = l.all p
  | [] => rfl
  | a :: l => by
    rw [List.takeWhile_cons, List.all_cons]
    cases h : p a with
    | true =>
      have := take_all p l
      rw [if_pos rfl, List.length_cons, List.length_cons, Bool.true_and, ← this]
      by_cases e : (List.takeWhile p l).length = l.length
      · simp [e]
      · simp [e]
    | false => rw [if_neg (by simp), Bool.false_and]; simp
theorem beq_int (a b : Int) : (a == b) = decide (a = b) := by
  by_cases h : a = b
  · rw [decide_eq_true h, h]; simp
  · rw [decide_eq_false h]; simp [h]
theorem beq_nat (a b : Nat) : (((a : Nat) : Int) == ((b : Nat) : Int)) = (a == b) := by
  by_cases h : a = b
  · subst h; rw [beq_self_eq_true, beq_self_eq_true]
  · have : ¬ ((a : Int) = b) := by omega
    rw [beq_eq_false_iff_ne.2 this, beq_eq_false_iff_ne.2 h]
theorem name19 (k : Nat) (s : ByteArray) (hs : s.size ≤ 1000000) (hk : s.size < k) : f19 k s = some ((nameS (L s), ()), ()) := by
  have hl := size_L s
  unfold f19
  rw [beqL]
  by_cases h0 : L s = []
  · have : L s = L ByteArray.empty := h0
    rw [decide_eq_true this, h0]; rfl
  · have : ¬ L s = L ByteArray.empty := h0
    rw [decide_eq_false this]
    obtain ⟨c, r, hcr⟩ := List.exists_cons_of_ne_nil h0
    have h00 : (L s)[0]? = some c := by rw [hcr]; rfl
    have h1 : ixs s 0 = ixs s ((0 : Nat) : Int) (R := R19) := rfl
    have hrun := run58 k (bytesD s) (by rw [bytes_len]; omega) (by rw [bytes_len]; omega) (i := 0) (by omega)
    have hr2 : (((runS (bytesD s) 0 : Nat) : Int) == (s.size : Int)) = (L s).all (fun c => ld (c.toNat : Int)) := by
      rw [hl, beq_nat]
      unfold runS
      rw [Nat.zero_add, List.drop_zero]
      have := take_all ld (bytesD s)
      rw [bytes_len] at this
      rw [this, bytes_L, List.all_map]; rfl
    rw [show ((0 : Nat) : Int) = 0 from rfl] at hrun
    rw [h1, ixs_nat h00, f57_eq, hrun, key17 k s hs]
    simp only [Option.bind_some, hr2]
    unfold nameS
    rw [hcr]
    dsimp only
    rw [List.all_cons]
    have hsz : decide ((s.size : Int) ≤ 12) = decide ((c :: r).length ≤ 12) := by
      rw [hl, hcr]
      by_cases h : (c :: r).length ≤ 12
      · rw [decide_eq_true h, decide_eq_true (by omega)]
      · rw [decide_eq_false h, decide_eq_false (by omega)]
    rw [hsz]
    have e : ld (c.toNat : Int) = (lt (c.toNat : Int) || dg (c.toNat : Int)) := rfl
    rw [e]
    simp only [Bool.not_false, cond_true]
    cases lt (c.toNat : Int) <;> cases dg (c.toNat : Int) <;> cases r.all (fun c => ld (c.toNat : Int)) <;> cases decide ((c :: r).length ≤ 12) <;> rfl
theorem name_loop (k : Nat) (s : ByteArray) (hs : s.size ≤ 1000000) : ∀ (d i : Nat), (L s).length - i = d → 1 ≤ i → ∀ j, d < j → l20_26 k j s i = if ((L s).drop i).all (fun c => ld (c.toNat : Int)) then some (.inl ((), ())) else some (.inr ((false, ()), ())) := by
  have hl := size_L s
  intro d
  induction d with
  | zero =>
    intro i hi h1 j hj
    obtain ⟨j, rfl, _⟩ := succ_of (n := 0) (by omega : 0 + 1 ≤ j)
    show b20_26 k (l20_26 k j) s i = _
    unfold b20_26
    rw [decide_eq_false (by omega : ¬ (i : Int) < s.size), List.drop_of_length_le (by omega)]
    rfl
  | succ d ih =>
    intro i hi h1 j hj
    obtain ⟨j, rfl, hj2⟩ := succ_of (by omega : d + 1 + 1 ≤ j)
    show b20_26 k (l20_26 k j) s i = _
    have hw1 : w64 ((i : Int) + 1) = ((i + 1 : Nat) : Int) := by rw [w_id (by omega) (by omega)]; omega
    have hlt : i < (L s).length := by omega
    have hx : (L s)[i]? = some (L s)[i] := List.getElem?_eq_getElem hlt
    have hi0 : ((i : Int) == 0) = false := by rw [beq_int, decide_eq_false (by omega)]
    unfold b20_26
    rw [decide_eq_true (by omega : (i : Int) < s.size), cond_true, ixs_nat hx, f59_eq, hi0, ixs_nat hx, f60_eq, hw1, ih (i + 1) (by omega) (by omega) j hj2, List.drop_eq_getElem_cons hlt, List.all_cons]
    simp only [Option.bind_some]
    have e : ld (((L s)[i]).toNat : Int) = (lt (((L s)[i]).toNat : Int) || dg (((L s)[i]).toNat : Int)) := rfl
    rw [e]
    cases lt (((L s)[i]).toNat : Int) <;> cases dg (((L s)[i]).toNat : Int) <;> cases ((L s).drop (i + 1)).all (fun c => ld (c.toNat : Int)) <;> rfl
theorem name20 (k : Nat) (s : ByteArray) (hs : s.size ≤ 1000000) (hk : s.size + 40 < k) : f20 k s = some ((nameS (L s), ()), ()) := by
  have hl := size_L s
  unfold f20
  obtain ⟨k', rfl⟩ : ∃ k', k = k' + 1 := ⟨k - 1, by omega⟩
  have hstep : l20_26 (k' + 1) (k' + 1) s 0 = b20_26 (k' + 1) (l20_26 (k' + 1) k') s 0 := rfl
  rw [hstep]
  unfold b20_26
  cases hcr : L s with
  | nil =>
    rw [hcr, List.length_nil] at hl
    rw [decide_eq_false (by omega : ¬ (0 : Int) < s.size)]
    simp only [cond_false, Option.bind_some]
    rw [decide_eq_false (by omega : ¬ (s.size : Int) ≥ 1)]
    rfl
  | cons c r =>
    have h00 : (L s)[0]? = some c := by rw [hcr]; rfl
    have hpos : (L s).length = r.length + 1 := by rw [hcr]; rfl
    have h1 : ∀ {R : Type}, ixs s 0 = ixs s ((0 : Nat) : Int) (R := R) := rfl
    have hrec := name_loop (k' + 1) s hs ((L s).length - 1) 1 rfl (by omega) k' (by omega)
    rw [show ((1 : Nat) : Int) = w64 (0 + 1) from rfl] at hrec
    rw [decide_eq_true (by omega : (0 : Int) < s.size), h1, ixs_nat h00, f59_eq, hrec, key18 (k' + 1) s (by omega)]
    have hd : (L s).drop 1 = r := by rw [hcr]; rfl
    rw [hd]
    have hsz : decide ((s.size : Int) ≤ 12) = decide ((c :: r).length ≤ 12) := by
      rw [hl, hcr]
      by_cases h : (c :: r).length ≤ 12
      · rw [decide_eq_true h, decide_eq_true (by omega)]
      · rw [decide_eq_false h, decide_eq_false (by omega)]
    simp only [Option.bind_some, cond_true]
    rw [hsz, decide_eq_true (by omega : (s.size : Int) ≥ 1), hcr]
    unfold nameS
    dsimp only
    cases lt (c.toNat : Int) with
    | false => rfl
    | true =>
      simp only [Bool.not_true, cond_false, Bool.true_and]
      cases r.all (fun c => ld (c.toNat : Int)) with
      | false => rfl
      | true => cases decide ((c :: r).length ≤ 12) <;> rfl
theorem awake14 (k : Nat) : f14 (k + 40) () = some ((true, ()), ()) := by kernel_rfl
theorem awake14E : E fun k => f14 k () = some ((true, ()), ()) := ⟨40, fun k hk => by obtain ⟨j, rfl⟩ : ∃ j, k = j + 40 := ⟨k - 40, by omega⟩; exact awake14 j⟩
end Lex
end Go.Proofs.Yticelgnmcjkknaa.M
