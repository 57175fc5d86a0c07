/-
Plain words for plain laws: what holds from some fuel on; numbers that need no wrap; rows; maps.
-/
import Derived.Test.YticelgnmcjkknaaVm39
set_option linter.unusedVariables false
set_option linter.unusedSimpArgs false
namespace Go.Proofs.Yticelgnmcjkknaa.Pl
open Go Go.Proofs.Yticelgnmcjkknaa.Vm

/-! ### from some fuel on -/
def E (P : Nat → Prop) : Prop := ∃ K, ∀ k, K ≤ k → P k
theorem E.all {P : Nat → Prop} (h : ∀ k, P k) : E P := ⟨0, fun k _ => h k⟩
theorem E.and {P Q : Nat → Prop} (h : E P) (h' : E Q) : E fun k => P k ∧ Q k := by
  obtain ⟨K, hK⟩ := h; obtain ⟨K', hK'⟩ := h'
  exact ⟨K + K', fun k hk => ⟨hK k (by omega), hK' k (by omega)⟩⟩
theorem E.mono {P Q : Nat → Prop} (h : E P) (hi : ∀ k, P k → Q k) : E Q := by
  obtain ⟨K, hK⟩ := h
  exact ⟨K, fun k hk => hi k (hK k hk)⟩
theorem E.mono2 {P P' Q : Nat → Prop} (h : E P) (h' : E P') (hi : ∀ k, P k → P' k → Q k) : E Q := (h.and h').mono fun k ⟨a, b⟩ => hi k a b
theorem E.mono3 {P P' P'' Q : Nat → Prop} (h : E P) (h' : E P') (h'' : E P'') (hi : ∀ k, P k → P' k → P'' k → Q k) : E Q := (h.and (h'.and h'')).mono fun k ⟨a, b, c⟩ => hi k a b c
theorem E.succ {P Q : Nat → Prop} (h : E P) (hi : ∀ k, P k → Q (k + 1)) : E Q := by
  obtain ⟨K, hK⟩ := h
  exact ⟨K + 1, fun k hk => by obtain ⟨j, rfl⟩ : ∃ j, k = j + 1 := ⟨k - 1, by omega⟩; exact hi j (hK j (by omega))⟩
/-- More fuel than any number. -/
theorem E.ge (n : Nat) : E fun k => n ≤ k := ⟨n, fun k h => h⟩
theorem E.ex {P : Nat → Prop} (h : E P) : ∃ k, P k := by obtain ⟨K, hK⟩ := h; exact ⟨K, hK K (Nat.le_refl _)⟩
theorem succ_of {n j : Nat} (h : n + 1 ≤ j) : ∃ i, j = i + 1 ∧ n ≤ i := ⟨j - 1, by omega, by omega⟩

/-! ### numbers -/
theorem w64_id {n : Int} (h : -9223372036854775808 ≤ n) (h' : n ≤ 9223372036854775807) : w64 n = n := by
  show IntKind.i64.wrap n = n
  simp [IntKind.wrap, IntKind.signed, IntKind.bits]
  omega
theorem tdiv_pos {a b : Int} (h : 0 ≤ a) : Int.tdiv a b = a / b := Int.tdiv_eq_ediv_of_nonneg h
theorem tmod_pos {a b : Int} (h : 0 ≤ a) : Int.tmod a b = a % b := Int.tmod_eq_emod_of_nonneg h
theorem xor_one (a : Nat) : a ^^^ 1 = if a % 2 = 0 then a + 1 else a - 1 := by
  have h1 : (a ^^^ 1) % 2 = (a + 1) % 2 := by
    have := Nat.xor_mod_two_pow (a := a) (b := 1) (n := 1)
    simp only [Nat.pow_one] at this
    rw [this]
    rcases Nat.mod_two_eq_zero_or_one a with h | h <;> rw [h] <;> simp <;> omega
  have h2 : (a ^^^ 1) / 2 = a / 2 := by rw [Nat.xor_div_two]; simp
  split <;> omega
theorem ibits_xor1 {a : Int} (h0 : 0 ≤ a) (h : a ≤ 9223372036854775807) : ibits .xor .i64 a 1 = if a % 2 = 0 then a + 1 else a - 1 := by
  obtain ⟨n, rfl⟩ := Int.eq_ofNat_of_zero_le h0
  have e1 : (BitVec.ofInt 64 (n : Int) ^^^ BitVec.ofInt 64 1).toNat = n ^^^ 1 := by
    rw [BitVec.toNat_xor]
    congr 1
    · rw [BitVec.toNat_ofInt]; omega
  show IntKind.i64.wrap ((BitVec.ofInt 64 (n : Int) ^^^ BitVec.ofInt 64 1).toNat : Int) = _
  rw [e1, xor_one]
  have := w64_id (n := ((if n % 2 = 0 then n + 1 else n - 1 : Nat) : Int)) (by omega) (by split <;> omega)
  unfold w64 at this
  rw [this]
  split <;> split <;> omega

/-! ### rows -/
section
variable {A R : Type}
theorem ix_get {xs : List A} {n : Int} {K : A → Option R} {x : A} (h : 0 ≤ n) (hx : xs[n.toNat]? = some x) : ix xs n K = K x := by
  unfold ix; rw [decide_eq_true h, hx]; rfl
theorem ix_nat {xs : List A} {i : Nat} {K : A → Option R} {x : A} (hx : xs[i]? = some x) : ix xs (i : Int) K = K x := ix_get (by omega) (by simpa using hx)
theorem gd_true {o : Option R} : gd true o = o := rfl
theorem gd_dec {p : Prop} [Decidable p] {o : Option R} (h : p) : gd (decide p) o = o := by rw [decide_eq_true h]; rfl
end

/-! ### equal data -/
theorem ba_beq (a b : ByteArray) : (a == b) = true ↔ a = b := by
  rw [beq_toListBytes]
  exact ⟨fun h => ByteArray.ext (Array.toList_inj.1 (by have := beq_iff_eq.1 h; simpa [ByteArray.toList_eq] using this)), fun h => by rw [h]; exact beq_self_eq_true _⟩
theorem beqD_iff : ∀ (t : Ty), eqTy0 t = true → ∀ a b : t.D, beqD t a b = true ↔ a = b := by
  intro t
  induction t with
  | int k => intro _ a b; exact beq_iff_eq (α := Int)
  | bool => intro _ a b; exact beq_iff_eq (α := Bool)
  | str => intro _ a b; exact ba_beq a b
  | unit => intro _ a b; exact ⟨fun _ => rfl, fun _ => rfl⟩
  | pair s t ihs iht =>
    intro h a b
    simp only [eqTy0, Bool.and_eq_true] at h
    obtain ⟨a1, a2⟩ := a
    obtain ⟨b1, b2⟩ := b
    show cond (beqD s a1 b1) (beqD t a2 b2) false = true ↔ _
    have h1 := ihs h.1.1 a1 b1
    have h2 := iht h.1.2 a2 b2
    cases hs : beqD s a1 b1 with
    | true =>
      rw [hs] at h1
      simp only [cond_true]
      rw [h2]
      have := h1.1 rfl
      subst this
      exact ⟨fun h => by rw [h], fun h => (Prod.mk.inj h).2⟩
    | false =>
      rw [hs] at h1
      simp only [cond_false]
      refine ⟨fun h => (by cases h), fun h => ?_⟩
      have h3 := h1.2 (congrArg Prod.fst h)
      cases h3
  | _ => intro h; simp [eqTy0] at h
theorem mget_mput {A : Type} {kt : Ty} (hk : eqTy0 kt = true) {k k' : kt.D} {x : A} : ∀ (l : List (kt.D × A)), (k' = k → mget kt k' (mput kt k x l) = some x) ∧ (k' ≠ k → mget kt k' (mput kt k x l) = mget kt k' l)
  | [] => by
    have e : mget kt k' (mput kt k x []) = cond (beqD kt k' k) (some x) none := rfl
    rw [e]
    refine ⟨fun h => ?_, fun h => ?_⟩
    · rw [(beqD_iff kt hk k' k).2 h]; rfl
    · have : beqD kt k' k = false := by
        cases hb : beqD kt k' k with
        | true => exact absurd ((beqD_iff kt hk k' k).1 hb) h
        | false => rfl
      rw [this]; rfl
  | e :: l => by
    have ih := mget_mput hk (k := k) (k' := k') (x := x) l
    have e1 : mget kt k' (mput kt k x (e :: l)) = mget kt k' (cond (beqD kt k e.1) ((k, x) :: l) (e :: mput kt k x l)) := rfl
    have e2 : mget kt k' (e :: l) = cond (beqD kt k' e.1) (some e.2) (mget kt k' l) := rfl
    rw [e1, e2]
    cases hb : beqD kt k e.1 with
    | true =>
      have hke := (beqD_iff kt hk k e.1).1 hb
      have e3 : mget kt k' ((k, x) :: l) = cond (beqD kt k' k) (some x) (mget kt k' l) := rfl
      simp only [cond_true]
      rw [e3, hke]
      refine ⟨fun h => ?_, fun h => ?_⟩
      · rw [(beqD_iff kt hk k' e.1).2 (by rw [h, ← hke])]; rfl
      · have : beqD kt k' e.1 = false := by
          cases hb' : beqD kt k' e.1 with
          | true => exact absurd ((beqD_iff kt hk k' e.1).1 hb') h
          | false => rfl
        rw [this]; rfl
    | false =>
      have e3 : mget kt k' (e :: mput kt k x l) = cond (beqD kt k' e.1) (some e.2) (mget kt k' (mput kt k x l)) := rfl
      simp only [cond_false]
      rw [e3]
      refine ⟨fun h => ?_, fun h => by rw [ih.2 h]⟩
      rw [ih.1 h, h, hb]; rfl
end Go.Proofs.Yticelgnmcjkknaa.Pl
