/-
Which terms there may be, and each one's value: the plain law. For every input, no condition. (MA: the print of root 3 alone.)
-/
import Derived.Test.YtepfhidiahleiaaTnB
set_option linter.unusedVariables false
set_option linter.unusedSimpArgs false
set_option maxRecDepth 100000
namespace Go.Proofs.Ytepfhidiahleiaa.M
open Go Go.Proofs.Ytepfhidiahleiaa.Vm Go.Proofs.Ytepfhidiahleiaa.Pl
namespace Term
theorem awake8 (k : Nat) : f8 (k + 30) () = some ((true, ()), ()) := by kernel_rfl
theorem awake8E : E fun k => f8 k () = some ((true, ()), ()) := ⟨30, fun k hk => by obtain ⟨j, rfl⟩ : ∃ j, k = j + 30 := ⟨k - 30, by omega⟩; exact awake8 j⟩
def pl (n i : Int) : Bool := decide (0 ≤ n ∧ n < i)
theorem pl_iff {n i : Int} : pl n i = true ↔ 0 ≤ n ∧ n < i := decide_eq_true_iff
theorem q87 (k : Nat) (a i : Int) : f87 k a i = some ((!pl a i, ()), ()) := by
  unfold f87 pl
  by_cases h : a < 0
  · rw [decide_eq_true h, decide_eq_false (by omega : ¬ (0 ≤ a ∧ a < i))]; rfl
  · rw [decide_eq_false h, cond_false]
    by_cases h2 : a < i
    · rw [decide_eq_false (by omega : ¬ a ≥ i), decide_eq_true (by omega : 0 ≤ a ∧ a < i)]; rfl
    · rw [decide_eq_true (by omega : a ≥ i), decide_eq_false (by omega : ¬ (0 ≤ a ∧ a < i))]; rfl
theorem q84 (k : Nat) (a i : Int) : f84 k a i = some ((pl a i, ()), ()) := by
  unfold f84 pl
  by_cases h : 0 ≤ a
  · rw [decide_eq_true (show a ≥ 0 from h), cond_true]
    by_cases h2 : a < i
    · rw [decide_eq_true h2, decide_eq_true (by omega : 0 ≤ a ∧ a < i)]
    · rw [decide_eq_false h2, decide_eq_false (by omega : ¬ (0 ≤ a ∧ a < i))]
  · rw [decide_eq_false (show ¬ a ≥ 0 from h), decide_eq_false (by omega : ¬ (0 ≤ a ∧ a < i))]; rfl
theorem q106 {k : Nat} {s : List Int} {p : Int} (hs : s.length ≤ 100) : ∀ (d i : Nat), s.length - i = d → ∀ j, d < j →
    ((s.drop i).all (fun a => pl a p) = true → l106v2_26 k j s s.length i p = some (.inl ((), ((), ())))) ∧
    ((s.drop i).all (fun a => pl a p) = false → ∃ t : Int, 0 ≤ t ∧ l106v2_26 k j s s.length i p = some (.inr ((t, ()), ((), ())))) := by
  intro d
  induction d with
  | zero =>
    intro i hi j hj
    obtain ⟨j, rfl, _⟩ := succ_of (n := 0) (by omega : 0 + 1 ≤ j)
    show (_ → b106v2_26 k (l106v2_26 k j) s s.length i p = _) ∧ (_ → ∃ t : Int, 0 ≤ t ∧ b106v2_26 k (l106v2_26 k j) s s.length i p = _)
    unfold b106v2_26
    rw [decide_eq_false (by omega : ¬ (i : Int) < s.length), List.drop_eq_nil_of_le (by omega)]
    exact ⟨fun _ => rfl, fun h => by cases h⟩
  | succ d ih =>
    intro i hi j hj
    obtain ⟨j, rfl, hj2⟩ := succ_of (by omega : d + 1 + 1 ≤ j)
    show (_ → b106v2_26 k (l106v2_26 k j) s s.length i p = _) ∧ (_ → ∃ t : Int, 0 ≤ t ∧ b106v2_26 k (l106v2_26 k j) s s.length i p = _)
    have hx : s[i]? = some s[i] := List.getElem?_eq_getElem (by omega)
    have hw : w64 ((i : Int) + 1) = ((i + 1 : Nat) : Int) := by rw [w64_id (by omega) (by omega)]; omega
    obtain ⟨r1, r2⟩ := ih (i + 1) (by omega) j hj2
    unfold b106v2_26
    rw [decide_eq_true (by omega : (i : Int) < s.length), cond_true, ix_nat hx, q87, hw, List.drop_eq_getElem_cons (by omega : i < s.length), List.all_cons]
    cases hb : pl s[i] p with
    | false => exact ⟨fun h => (by cases h), fun _ => ⟨i, by omega, rfl⟩⟩
    | true =>
      refine ⟨fun h => ?_, fun h => ?_⟩
      · rw [r1 (by simpa using h)]; rfl
      · obtain ⟨t, h0, ht⟩ := r2 (by simpa using h)
        exact ⟨t, h0, by rw [ht]; rfl⟩
theorem q85 {k : Nat} (hk : 10000 ≤ k) {s : List Int} (hs : s.length ≤ 100) (p : Int) : f85 k s p = some ((s.all (fun a => pl a p), ()), ()) := by
  obtain ⟨r1, r2⟩ := q106 (k := k) (p := p) hs s.length 0 rfl k (by omega)
  rw [show ((0 : Nat) : Int) = 0 from rfl, List.drop_zero] at r1 r2
  unfold f85 f86v2 f106v2
  cases hb : s.all (fun a => pl a p) with
  | true => rw [r1 hb]; rfl
  | false =>
    obtain ⟨t, h0, ht⟩ := r2 hb
    rw [ht]
    simp only [Option.bind_some]
    rw [decide_eq_true (show t ≥ 0 from h0)]
    rfl
/-- What a term that may stand at a place is. -/
inductive Ok (w : Nat) (p : Int) : D_Term → Prop where
  | num {op n a b c} : Nm w n → Ok w p (1, op, n, a, b, c, ())
  | read {op n a b c} : 0 ≤ n → Ok w p (2, op, n, a, b, c, ())
  | un {op n a b c} : pl a p = true → Ok w p (3, op, n, a, b, c, ())
  | bin {op n a b c} : pl a p = true → pl b p = true → Ok w p (4, op, n, a, b, c, ())
  | ite {op n a b c} : pl a p = true → pl b p = true → pl c p = true → Ok w p (5, op, n, a, b, c, ())
theorem g6 (k : Nat) {w : Nat} (h : Wd w) (kd : Int) (op : ByteArray) (n a b c : Int) : l39_6 k w kd op n a b c = some (((kd == 1 && ((op.toList == ByteArray.empty.toList) && (a == 0 && (b == 0 && (c == 0 && (decide (n ≥ 0) && decide (n < 2 ^ w))))))), ()), ((kd, op, n, a, b, c, ()), ())) := by
  unfold l39_6
  rw [power59 k h.hi]
  simp only [Option.bind_some]
  cases (kd == 1) <;> cases (op.toList == ByteArray.empty.toList) <;> cases (a == 0) <;> cases (b == 0) <;> cases (c == 0) <;> cases decide (n ≥ 0) <;> rfl
theorem g14 (k : Nat) (kd : Int) (op : ByteArray) (n a b c : Int) : l39_14 k kd op n a b c = some (((kd == 2 && ((op.toList == ByteArray.empty.toList) && (a == 0 && (b == 0 && (c == 0 && (decide (n ≥ 0) && decide (n < 64))))))), ()), ((kd, op, n, a, b, c, ()), ())) := by
  unfold l39_14
  cases (kd == 2) <;> cases (op.toList == ByteArray.empty.toList) <;> cases (a == 0) <;> cases (b == 0) <;> cases (c == 0) <;> cases decide (n ≥ 0) <;> rfl
theorem g30 (k : Nat) (p kd : Int) (op : ByteArray) (n a b c : Int) : l39_30 k p kd op n a b c = some (((kd == 3 && (((op.toList == (ByteArray.mk #[45]).toList) || ((op.toList == (ByteArray.mk #[126]).toList) || (op.toList == (ByteArray.mk #[33]).toList))) && (n == 0 && (pl a p && (b == 0 && c == 0))))), ()), ((kd, op, n, a, b, c, ()), ())) := by
  unfold l39_30
  simp only [q84, Option.bind_some]
  cases (kd == 3) <;> cases (op.toList == (ByteArray.mk #[45]).toList) <;> cases (op.toList == (ByteArray.mk #[126]).toList) <;> cases (op.toList == (ByteArray.mk #[33]).toList) <;> cases (n == 0) <;> cases pl a p <;> cases (b == 0) <;> rfl
theorem g62 (k : Nat) (p kd : Int) (op : ByteArray) {sg : Int} (hs : f26 k op = some ((sg, ()), ())) (n a b c : Int) : l39_62 k p kd op n a b c = some (((kd == 4 && (decide (sg > 0) && (n == 0 && (pl a p && (pl b p && c == 0))))), ()), ((kd, op, n, a, b, c, ()), ())) := by
  unfold l39_62
  rw [hs]
  simp only [q84, Option.bind_some]
  cases (kd == 4) <;> cases decide (sg > 0) <;> cases (n == 0) <;> cases pl a p <;> cases pl b p <;> rfl
theorem g126 (k : Nat) (p kd : Int) (op : ByteArray) (n a b c : Int) : l39_126 k p kd op n a b c = some (((kd == 5 && ((op.toList == ByteArray.empty.toList) && (n == 0 && (pl a p && (pl b p && pl c p))))), ()), ((kd, op, n, a, b, c, ()), ())) := by
  unfold l39_126
  simp only [q84, Option.bind_some]
  cases (kd == 5) <;> cases (op.toList == ByteArray.empty.toList) <;> cases (n == 0) <;> cases pl a p <;> cases pl b p <;> rfl
def Qd (kd : Int) (op : ByteArray) (n a b c : Int) (op' : ByteArray) (n' a' b' c' : Int) : Bool := cond (kd == kd) (cond (op == op') (cond (n == n') (cond (a == a') (cond (b == b') (cond (c == c') true false) false) false) false) false) false
theorem x41 (k : Nat) (w p kd : Int) (op : ByteArray) (n a b c : Int) : f41 k w p (kd, op, n, a, b, c, ()) =
    cond (kd == 1) (cond (Qd kd op n a b c ByteArray.empty n 0 0 0) (cond (decide (n ≥ 0)) (cond (decide (w < 0)) none (some ((decide (n < w64 (1 * 2 ^ (min w.toNat 64))), ()), ()))) (some ((false, ()), ()))) (some ((false, ()), ())))
    (cond (kd == 2) (cond (Qd kd op n a b c ByteArray.empty n 0 0 0) (cond (decide (n ≥ 0)) (some ((decide (n < 64), ()), ())) (some ((false, ()), ()))) (some ((false, ()), ())))
    (cond (kd == 3) (cond (Qd kd op n a b c op 0 a 0 0) ((f88 k op).bind fun y1 => cond y1.1.1 ((f85 k [a] p).bind fun y2 => some ((y2.1.1, ()), ())) (some ((false, ()), ()))) (some ((false, ()), ())))
    (cond (kd == 4) (cond (Qd kd op n a b c op 0 a b 0) ((f82 k op).bind fun y3 => cond (decide (y3.1.1 > 0)) ((f85 k [a, b] p).bind fun y4 => some ((y4.1.1, ()), ())) (some ((false, ()), ()))) (some ((false, ()), ())))
    (cond (kd == 5) (cond (op.toList == ByteArray.empty.toList) (cond (n == 0) ((f85 k [a, b, c] p).bind fun y5 => some ((y5.1.1, ()), ())) (some ((false, ()), ()))) (some ((false, ()), ()))) (some ((false, ()), ())))))) := by kernel_rfl
theorem fits_eq {k w : Nat} (hk : 10000 ≤ k) (h : Wd w) (p : Int) (x : D_Term) : ∃ t : Bool, f41 k w p x = some ((t, ()), ()) ∧ f39 k w p x = some ((t, ()), ()) ∧ (t = true → Ok w p x) := by
  obtain ⟨kd, op, n, a, b, c, u⟩ := x
  obtain rfl : u = () := rfl
  obtain ⟨e, h1, h2⟩ := h.pw
  have hmin : min ((w : Int).toNat) 64 = w := by have := h.hi; omega
  have hpw : w64 (1 * 2 ^ (min (w : Int).toNat 64)) = (2 : Int) ^ w := by
    rw [hmin, Int.one_mul, e]
    generalize 2 ^ w = q at h1 h2
    rw [w64_id (by omega) (by omega)]
  have he : (op == ByteArray.empty) = (op.toList == ByteArray.empty.toList) := beq_toListBytes _ _
  have hoo : (op == op) = true := (ba_beq op op).2 rfl
  obtain ⟨sg, s1, s2, _⟩ := sign_eq k (by omega) op
  unfold f39
  dsimp only
  rw [g6 k h, Option.bind_some]
  dsimp only
  rw [g14, Option.bind_some]
  dsimp only
  rw [g30, Option.bind_some]
  dsimp only
  rw [g62 k p kd op s2, Option.bind_some]
  dsimp only
  rw [g126, Option.bind_some]
  rw [x41]
  simp only [Qd, he, hoo, beq_self_eq_true, cond_true]
  rw [decide_eq_false (by omega : ¬ (w : Int) < 0), s1]
  simp only [cond_false, hpw, q85 hk (show [a].length ≤ 100 by simp), q85 hk (show [a, b].length ≤ 100 by simp), q85 hk (show [a, b, c].length ≤ 100 by simp), Option.bind_some, List.all_cons, List.all_nil, Bool.and_true]
  by_cases k1 : kd = 1
  · subst k1
    cases op.toList == ByteArray.empty.toList with
    | false => exact ⟨false, rfl, rfl, nofun⟩
    | true => cases a == 0 with
      | false => exact ⟨false, rfl, rfl, nofun⟩
      | true => cases b == 0 with
        | false => exact ⟨false, rfl, rfl, nofun⟩
        | true => cases c == 0 with
          | false => exact ⟨false, rfl, rfl, nofun⟩
          | true =>
            by_cases hn : n ≥ 0
            · rw [decide_eq_true hn]
              by_cases hn2 : n < 2 ^ w
              · rw [decide_eq_true hn2]; exact ⟨true, rfl, rfl, fun _ => .num ⟨hn, hn2⟩⟩
              · rw [decide_eq_false hn2]; exact ⟨false, rfl, rfl, nofun⟩
            · rw [decide_eq_false hn]; exact ⟨false, rfl, rfl, nofun⟩
  by_cases k2 : kd = 2
  · subst k2
    cases op.toList == ByteArray.empty.toList with
    | false => exact ⟨false, rfl, rfl, nofun⟩
    | true => cases a == 0 with
      | false => exact ⟨false, rfl, rfl, nofun⟩
      | true => cases b == 0 with
        | false => exact ⟨false, rfl, rfl, nofun⟩
        | true => cases c == 0 with
          | false => exact ⟨false, rfl, rfl, nofun⟩
          | true =>
            by_cases hn : n ≥ 0
            · rw [decide_eq_true hn]
              exact ⟨decide (n < 64), rfl, by cases decide (n < 64) <;> rfl, fun _ => .read hn⟩
            · rw [decide_eq_false hn]; exact ⟨false, rfl, rfl, nofun⟩
  by_cases k3 : kd = 3
  · subst k3
    unfold f88
    cases n == 0 with
    | false => exact ⟨false, rfl, by cases op.toList == (ByteArray.mk #[45]).toList <;> cases op.toList == (ByteArray.mk #[126]).toList <;> cases op.toList == (ByteArray.mk #[33]).toList <;> rfl, nofun⟩
    | true => cases b == 0 with
      | false => exact ⟨false, rfl, by cases op.toList == (ByteArray.mk #[45]).toList <;> cases op.toList == (ByteArray.mk #[126]).toList <;> cases op.toList == (ByteArray.mk #[33]).toList <;> cases pl a p <;> rfl, nofun⟩
      | true => cases c == 0 with
        | false => exact ⟨false, rfl, by cases op.toList == (ByteArray.mk #[45]).toList <;> cases op.toList == (ByteArray.mk #[126]).toList <;> cases op.toList == (ByteArray.mk #[33]).toList <;> cases pl a p <;> rfl, nofun⟩
        | true =>
          cases hp : pl a p with
          | false => exact ⟨false, by cases op.toList == (ByteArray.mk #[45]).toList <;> cases op.toList == (ByteArray.mk #[126]).toList <;> cases op.toList == (ByteArray.mk #[33]).toList <;> rfl, by cases op.toList == (ByteArray.mk #[45]).toList <;> cases op.toList == (ByteArray.mk #[126]).toList <;> cases op.toList == (ByteArray.mk #[33]).toList <;> rfl, nofun⟩
          | true =>
            cases op.toList == (ByteArray.mk #[45]).toList with
            | true => exact ⟨true, rfl, rfl, fun _ => .un hp⟩
            | false => cases op.toList == (ByteArray.mk #[126]).toList with
              | true => exact ⟨true, rfl, rfl, fun _ => .un hp⟩
              | false => cases op.toList == (ByteArray.mk #[33]).toList with
                | true => exact ⟨true, rfl, rfl, fun _ => .un hp⟩
                | false => exact ⟨false, rfl, rfl, nofun⟩
  by_cases k4 : kd = 4
  · subst k4
    cases decide (sg > 0) with
    | false => exact ⟨false, by cases n == 0 <;> cases c == 0 <;> rfl, rfl, nofun⟩
    | true => cases n == 0 with
      | false => exact ⟨false, rfl, rfl, nofun⟩
      | true => cases hp : pl a p with
        | false => exact ⟨false, by cases c == 0 <;> rfl, rfl, nofun⟩
        | true => cases hp2 : pl b p with
          | false => exact ⟨false, by cases c == 0 <;> rfl, rfl, nofun⟩
          | true => cases c == 0 with
            | false => exact ⟨false, rfl, rfl, nofun⟩
            | true => exact ⟨true, rfl, rfl, fun _ => .bin hp hp2⟩
  by_cases k5 : kd = 5
  · subst k5
    cases op.toList == ByteArray.empty.toList with
    | false => exact ⟨false, rfl, rfl, nofun⟩
    | true => cases n == 0 with
      | false => exact ⟨false, rfl, rfl, nofun⟩
      | true => cases hp : pl a p with
        | false => exact ⟨false, rfl, rfl, nofun⟩
        | true => cases hp2 : pl b p with
          | false => exact ⟨false, rfl, rfl, nofun⟩
          | true => cases hp3 : pl c p with
            | false => exact ⟨false, rfl, rfl, nofun⟩
            | true => exact ⟨true, rfl, rfl, fun _ => .ite hp hp2 hp3⟩
  refine ⟨false, ?_, ?_, nofun⟩ <;> simp only [beq_int, decide_eq_false k1, decide_eq_false k2, decide_eq_false k3, decide_eq_false k4, decide_eq_false k5, cond_false, Option.bind_some, Bool.false_and]
theorem check_loops {k w : Nat} (hk : 10000 ≤ k) (h : Wd w) {l : List D_Term} (hl : l.length ≤ 100) : ∀ (d i : Nat), l.length - i = d → ∀ j, d < j →
    (l11_58 k j w l l.length i = some (.inl ((), ())) ∧ l10_58 k j w l i = some (.inl ((), ())) ∧ ∀ t x, i ≤ t → l[t]? = some x → Ok w t x) ∨
    (l11_58 k j w l l.length i = some (.inr ((1, ()), ())) ∧ l10_58 k j w l i = some (.inr ((false, ()), ()))) := by
  intro d
  induction d with
  | zero =>
    intro i hi j hj
    obtain ⟨j, rfl, _⟩ := succ_of (n := 0) (by omega : 0 + 1 ≤ j)
    left
    show b11_58 k (l11_58 k j) w l l.length i = _ ∧ b10_58 k (l10_58 k j) w l i = _ ∧ _
    unfold b11_58 b10_58
    rw [decide_eq_false (by omega : ¬ (i : Int) < l.length)]
    refine ⟨rfl, rfl, fun t x ht hx => ?_⟩
    have := getElem?_lt hx; omega
  | succ d ih =>
    intro i hi j hj
    obtain ⟨j, rfl, hj2⟩ := succ_of (by omega : d + 1 + 1 ≤ j)
    have hx : l[i]? = some l[i] := List.getElem?_eq_getElem (by omega)
    have hw : w64 ((i : Int) + 1) = ((i + 1 : Nat) : Int) := by rw [w64_id (by omega) (by omega)]; omega
    obtain ⟨t, e1, e2, e3⟩ := fits_eq (k := k) hk h i l[i]
    have hrec := ih (i + 1) (by omega) j hj2
    show (b11_58 k (l11_58 k j) w l l.length i = _ ∧ b10_58 k (l10_58 k j) w l i = _ ∧ _) ∨ (b11_58 k (l11_58 k j) w l l.length i = _ ∧ b10_58 k (l10_58 k j) w l i = _)
    unfold b11_58 b10_58
    rw [decide_eq_true (by omega : (i : Int) < l.length), cond_true, cond_true, ix_nat hx, ix_nat hx, e1, e2, hw]
    simp only [Option.bind_some]
    cases t with
    | false => exact .inr ⟨rfl, rfl⟩
    | true =>
      rcases hrec with ⟨r1, r2, r3⟩ | ⟨r1, r2⟩
      · left
        rw [r1, r2]
        refine ⟨rfl, rfl, fun t x ht hx' => ?_⟩
        rcases Nat.eq_or_lt_of_le ht with rfl | ht
        · rw [hx] at hx'; cases hx'; exact e3 rfl
        · exact r3 t x ht hx'
      · right
        rw [r1, r2]; exact ⟨rfl, rfl⟩
end Term
end Go.Proofs.Ytepfhidiahleiaa.M
