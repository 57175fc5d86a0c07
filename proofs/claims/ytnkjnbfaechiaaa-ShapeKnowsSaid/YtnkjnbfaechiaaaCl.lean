/-
slices.Clone of booleans, walked: what it hands back is a row of its own.
-/
import Derived.Test.YtnkjnbfaechiaaaProg
import Derived.WalkKit
import Derived.Deep.LoopGhost
import Derived.Laws.AppendOwn
import Derived.Laws.Cover3
import Derived.Deep.OwnRows
import Derived.BigGuard
import Derived.Deep.Cut
import Derived.Laws.OwnMore
set_option linter.unusedVariables false
set_option linter.unusedSimpArgs false
namespace Go.Proofs.Ytnkjnbfaechiaaa.M
open Go Go.Proofs Go.RowKit
theorem infoB : (Try.prog.info? 4).map (fun i => (i.zero, i.size, i.bytes)) = some (some (.bool false), 1, 1) := by kernel_rfl
theorem infoR : (Try.prog.info? 33).map (fun i => (i.zero, i.size, i.bytes)) = some (some (.slice none 0 0), 1, 24) := by kernel_rfl
def bitsV (n : Nat) (B : Nat → Bool) : List Value := (List.range n).map fun i => Value.bool (B i)
theorem bitsV_len (n : Nat) (B : Nat → Bool) : (bitsV n B).length = n := by simp [bitsV]
theorem bitsV_get (n : Nat) (B : Nat → Bool) (i : Nat) (u : Value) : (bitsV n B)[i]? = some u ↔ i < n ∧ u = .bool (B i) := by
  unfold bitsV
  rw [List.getElem?_map]
  rcases Nat.lt_or_ge i n with h | h
  · rw [List.getElem?_range h]; simp [h, eq_comm]
  · rw [List.getElem?_eq_none (by simpa using h)]; simp; omega
set_option maxHeartbeats 1600000 in
set_option maxRecDepth 1000000 in
theorem clone_walk (gb n c : Nat) (B : Nat → Bool) (w : World) (hn : n ≤ 40) (hrow : ∀ i, i < n → w.cell? ⟨gb, i, none⟩ = some (.bool (B i))) :
    Calls Try.prog 29 #[.slice (some ⟨gb, 0, none⟩) n c] w fun e w' => ∃ v, e = .returned v ∧ w'.ownsRow w.heap.size 4 1 v n (bitsV n B) ∧ Below w.heap.size w w' ∧ ¬ v = .slice none 0 0 := by
  obtain ⟨i0, hi, hz0, hz1, hz2⟩ := info_parts infoB
  have hnil : ∀ W : World, (binOp .eql 33 (.slice (some ⟨gb, 0, none⟩) n c) (.slice none 0 0)).run Try.prog W = .ok (.bool false) W := fun W => by
    have := run_equal_slice_nil (P := Try.prog) W 33 4 (some ⟨gb, 0, none⟩) n c Try.underlying33
    simp only [binOp]
    simp [this]
  go_enter Try.func29, Try.ntmps29
  go_wp2_with (at_builtin; refine wpList_append_own _ rfl (.tmp 5) (.tmp 6) 33 rfl w.heap.size 4 i0 (.bool false) 1 1 Try.underlying33 hi hz0 hz1 hz2 rfl (by decide) _ 0 [] rfl (World.ownsRow_made w #[] 0 (Nat.le_refl _) (by decide) rfl) ⟨gb, 0, none⟩ n c (bitsV n B) rfl (by rw [bitsV_len, Nat.mul_one]) ?c1 ?c2 ?b1 ?b2 ?base ?next)
  case c1 =>
    intro i u hu
    obtain ⟨h1, rfl⟩ := (bitsV_get n B i u).1 hu
    have := hrow i h1
    have hadd : (⟨gb, 0, none⟩ : Addr).add i = ⟨gb, i, none⟩ := by unfold Addr.add; split <;> simp_all
    rw [hadd, World.cell?_alloc_old _ _ _ (Nat.ne_of_lt (World.block_lt_of_cell? _ _ this))]
    exact this
  case c2 => intro u hu; simp only [bitsV, List.mem_map] at hu; obtain ⟨i, _, rfl⟩ := hu; rfl
  case b1 => unfold maxLen; omega
  case b2 => omega
  case base => simp
  case next =>
    intro v' w' hown' hgrow hnil
    go_wp2
    go_ret
    exact ⟨v', rfl, hown', ((Below.refl w.heap.size w).alloc (Nat.le_refl _) _).grown hgrow (by simp) (fun k h => by simp [Value.ownBlock] at h; omega), hnil⟩
end Go.Proofs.Ytnkjnbfaechiaaa.M
/-
rank.Closure, walked: rows of its own; the square of what can be reached, as the code computes it.
-/
set_option linter.unusedVariables false
set_option linter.unusedSimpArgs false
namespace Go.Proofs.Ytnkjnbfaechiaaa.M
open Go Go.Proofs Go.RowKit
/-! ### the squares -/
def stepJ (q p : Nat) (M : Nat → Nat → Bool) (c : Nat) : Nat → Nat → Bool := fun a b => if a = p ∧ b = c then M p c || (M p q && M q c) else M a b
def fwJ (q p : Nat) (M : Nat → Nat → Bool) : Nat → Nat → Nat → Bool
  | 0 => M
  | c + 1 => stepJ q p (fwJ q p M c) c
def fwI (n q : Nat) (M : Nat → Nat → Bool) : Nat → Nat → Nat → Bool
  | 0 => M
  | p + 1 => fwJ q p (fwI n q M p) n
def fw (n : Nat) (Z : Nat → Nat → Bool) : Nat → Nat → Nat → Bool
  | 0 => Z
  | q + 1 => fwI n q (fw n Z q) n
/-! ### a row of rows -/
structure Own2 (base n : Nat) (wr : World) (d : Value) (L : List Value) (Q : Nat → Nat → Bool) : Prop where
  top : wr.ownsRow base 33 1 d L.length L
  row : ∀ j v, L[j]? = some v → wr.ownsRow base 4 1 v n (bitsV n (Q j)) ∧ ¬ v = .slice none 0 0
  apart : ∀ (i j : Nat) (u v : Value), L[i]? = some u → L[j]? = some v → i ≠ j → u.ownBlock ≠ v.ownBlock
theorem ownsRow_block {w : World} {base : Nat} {e : TypeId} {v : Value} {n : Nat} {xs : List Value} (h : w.ownsRow base e 1 v n xs) (hn : ¬ v = .slice none 0 0) : ∃ g cap, v = .slice (some ⟨g, 0, none⟩) n cap ∧ base ≤ g ∧ ∃ cur, w.heap[g]? = some (.cells cur e (0, 0)) := by
  rcases h.2 with ⟨h1, _⟩ | ⟨g, cap, cur, h1, h2, h3, _⟩
  · exact absurd h1 hn
  · exact ⟨g, cap, h1, h2, cur, h3⟩
theorem Own2.grown {base n : Nat} {wr w' : World} {d : Value} {L : List Value} {Q : Nat → Nat → Bool} (h : Own2 base n wr d L Q) (hg : wr.grownBy w' none) : Own2 base n w' d L Q :=
  ⟨h.top.kept hg (by cases d.ownBlock <;> simp), fun j v hv => ⟨(h.row j v hv).1.kept hg (by cases v.ownBlock <;> simp), (h.row j v hv).2⟩, h.apart⟩
theorem grown_below {w w' : World} (h : Below w.heap.size w w') : w.grownBy w' none := ⟨h.os, h.tape, h.output, h.size, fun k hk _ => h.block k hk⟩
theorem Own2.off {base n : Nat} {wr : World} {d : Value} {L : List Value} {Q : Nat → Nat → Bool} (h : Own2 base n wr d L Q) {j : Nat} {v : Value} (hv : L[j]? = some v) : d.ownBlock ≠ v.ownBlock := by
  obtain ⟨g, cap, rfl, _, cur, hh⟩ := ownsRow_block (h.row j v hv).1 (h.row j v hv).2
  intro e
  rcases h.top.2 with ⟨rfl, _⟩ | ⟨g2, cap2, cur2, rfl, _, h3, _⟩
  · simp [Value.ownBlock] at e
  · simp [Value.ownBlock] at e
    subst e
    rw [hh] at h3
    injection h3 with h3
    injection h3 with _ h4
    cases h4
/-- One row more: behind the append. -/
theorem Own2.snoc {base n : Nat} {wr w' : World} {d d' v : Value} {L : List Value} {Q : Nat → Nat → Bool} (h : Own2 base n wr d L Q) (hv : wr.ownsRow base 4 1 v n (bitsV n (Q L.length))) (hn : ¬ v = .slice none 0 0)
    (hap : ∀ (j : Nat) (u : Value), L[j]? = some u → u.ownBlock ≠ v.ownBlock) (ht : w'.ownsRow base 33 1 d' (L.length + 1) (L ++ [v])) (hg : wr.grownBy w' d.ownBlock) : Own2 base n w' d' (L ++ [v]) Q := by
  have hd : d.ownBlock ≠ v.ownBlock := by
    obtain ⟨g, cap, rfl, _, cur, hh⟩ := ownsRow_block hv hn
    intro e
    rcases h.top.2 with ⟨rfl, _⟩ | ⟨g2, cap2, cur2, rfl, _, h3, _⟩
    · simp [Value.ownBlock] at e
    · simp [Value.ownBlock] at e
      subst e
      rw [hh] at h3
      injection h3 with h3
      injection h3 with _ h4
      cases h4
  have cases' : ∀ (j : Nat) (u : Value), (L ++ [v])[j]? = some u → L[j]? = some u ∨ (j = L.length ∧ u = v) := by
    intro j u hu
    rcases Nat.lt_or_ge j L.length with hj | hj
    · rw [List.getElem?_append_left hj] at hu; exact .inl hu
    · rw [List.getElem?_append_right hj] at hu
      have h0 : j - L.length = 0 := by
        rcases Nat.eq_zero_or_pos (j - L.length) with h | h
        · exact h
        · rw [List.getElem?_eq_none (by simp; omega)] at hu; cases hu
      rw [h0] at hu
      simp at hu
      exact .inr ⟨by omega, hu.symm⟩
  refine ⟨by rw [List.length_append]; exact ht, fun j u hu => ?_, fun i j u x hu hx hij => ?_⟩
  · rcases cases' j u hu with h1 | ⟨rfl, rfl⟩
    · exact ⟨(h.row j u h1).1.kept hg (.inr (h.off h1).symm), (h.row j u h1).2⟩
    · exact ⟨hv.kept hg (.inr hd.symm), hn⟩
  · rcases cases' i u hu with h1 | ⟨rfl, rfl⟩ <;> rcases cases' j x hx with h2 | ⟨rfl, rfl⟩
    · exact h.apart i j u x h1 h2 hij
    · exact hap i u h1
    · exact (hap j x h2).symm
    · omega
theorem bitsV_set (n c : Nat) (B : Nat → Bool) (b : Bool) : (bitsV n B).set c (.bool b) = bitsV n (fun i => if i = c then b else B i) := by
  apply List.ext_getElem?
  intro i
  rw [List.getElem?_set]
  by_cases h : c = i
  · subst h
    rw [if_pos rfl, bitsV_len]
    split
    · exact ((bitsV_get n _ c _).2 ⟨by assumption, by simp⟩).symm
    · rw [List.getElem?_eq_none (by rw [bitsV_len]; omega)]
  · rw [if_neg h]
    rcases Nat.lt_or_ge i n with hi | hi
    · rw [(bitsV_get n B i _).2 ⟨hi, rfl⟩, (bitsV_get n _ i _).2 ⟨hi, rfl⟩]; simp [Ne.symm h]
    · rw [List.getElem?_eq_none (by rw [bitsV_len]; omega), List.getElem?_eq_none (by rw [bitsV_len]; omega)]
theorem bitsV_congr {n : Nat} {A B : Nat → Bool} (h : ∀ i, i < n → A i = B i) : bitsV n A = bitsV n B := by
  unfold bitsV
  exact List.map_congr_left fun i hi => by rw [h i (List.mem_range.1 hi)]
/-- A store into row p. -/
theorem Own2.store {base n : Nat} {wr : World} {d : Value} {L : List Value} {Q : Nat → Nat → Bool} (h : Own2 base n wr d L Q) {p c g cap : Nat} (hp : L[p]? = some (.slice (some ⟨g, 0, none⟩) n cap)) (b : Bool) :
    Own2 base n (wr.setCell ⟨g, c, none⟩ (.bool b)) d L (fun x y => if x = p ∧ y = c then b else Q x y) ∧ base ≤ g := by
  obtain ⟨h1, h2⟩ := (h.row p _ hp).1.stored c (.bool b)
  have hoff := h.off hp
  have hbg : base ≤ g := ((h.row p _ hp).1.lt g rfl).1
  refine ⟨⟨h.top.kept h2 (.inr hoff), fun j v hv => ?_, h.apart⟩, hbg⟩
  by_cases e : j = p
  · subst e
    obtain rfl : Value.slice (some ⟨g, 0, none⟩) n cap = v := by rw [hp] at hv; exact Option.some.inj hv
    refine ⟨?_, (h.row j _ hv).2⟩
    rw [bitsV_set] at h1
    rw [bitsV_congr (B := fun i => if i = c then b else Q j i) (fun i _ => by simp)]
    exact h1
  · refine ⟨?_, (h.row j v hv).2⟩
    rw [bitsV_congr (B := Q j) (fun i _ => by simp [e])]
    exact (h.row j v hv).1.kept h2 (.inr (h.apart j p v _ hv hp e))
theorem Own2.cell {base n : Nat} {wr : World} {d : Value} {L : List Value} {Q : Nat → Nat → Bool} (h : Own2 base n wr d L Q) {p c g cap : Nat} (hp : L[p]? = some (.slice (some ⟨g, 0, none⟩) n cap)) (hc : c < n) : wr.cell? ⟨g, c, none⟩ = some (.bool (Q p c)) ∧ wr.frozen? ⟨g, c, none⟩ = false :=
  ⟨((h.row p _ hp).1.cellAt c (by omega)).trans ((bitsV_get n _ c _).2 ⟨hc, rfl⟩), (h.row p _ hp).1.frozenAt c⟩
theorem Own2.drew {base n : Nat} {wr : World} {d : Value} {L : List Value} {Q : Nat → Nat → Bool} (h : Own2 base n wr d L Q) : Own2 base n wr.drew d L Q := h.grown ⟨rfl, rfl, rfl, Nat.le_refl _, fun _ _ _ => rfl⟩
theorem Own2.congr {base n : Nat} {wr : World} {d : Value} {L : List Value} {Q Q' : Nat → Nat → Bool} (h : Own2 base n wr d L Q) (e : Q = Q') : Own2 base n wr d L Q' := e ▸ h
theorem below_drew {B : Nat} {a w : World} (h : Below B a w) : Below B a w.drew := h.trans ⟨rfl, rfl, rfl, Nat.le_refl _, fun _ _ => rfl⟩
end Go.Proofs.Ytnkjnbfaechiaaa.M
/-
rank.Closure, walked.
-/
set_option linter.unusedVariables false
set_option linter.unusedSimpArgs false
namespace Go.Proofs.Ytnkjnbfaechiaaa.M
open Go Go.Proofs Go.RowKit
theorem und28 : Try.prog.underlying 28 = some (.slice 33) := Try.underlying28
theorem one_new (w : World) (v : Value) (e : TypeId) : ∀ (j : Nat) (u : Value), ([v] : List Value)[j]? = some u → (w.alloc (.cells #[v] e)).cell? ((⟨w.heap.size, 0, none⟩ : Addr).add j) = some u := by
  intro i u hu
  match i, hu with
  | 0, hu =>
    simp only [List.getElem?_cons_zero, Option.some.injEq] at hu; subst hu
    simp [Addr.add]
  | i + 1, hu => simp at hu
theorem one_cell {w : World} {base : Nat} {e : TypeId} {v : Value} {n : Nat} {xs : List Value} (h : w.ownsRow base e 1 v n xs) (hn : ¬ v = .slice none 0 0) : ∀ u ∈ ([v] : List Value), u.oneCell' = true := by
  intro u hu; rw [List.mem_singleton] at hu; subst hu
  obtain ⟨g, cap, rfl, _⟩ := ownsRow_block h hn
  rfl
theorem ownsRow_mono {w : World} {base base' : Nat} {e : TypeId} {v : Value} {n : Nat} {xs : List Value} (h : w.ownsRow base e 1 v n xs) (hb : base' ≤ base) : w.ownsRow base' e 1 v n xs := by
  refine ⟨h.1, ?_⟩
  rcases h.2 with h1 | ⟨g, cap, cur, h1, h2, h3⟩
  · exact .inl h1
  · exact .inr ⟨g, cap, cur, h1, Nat.le_trans hb h2, h3⟩
set_option maxHeartbeats 6400000 in
set_option maxRecDepth 1000000 in
theorem closure_walk (gb n cc : Nat) (RB CB : Nat → Nat) (Z : Nat → Nat → Bool) (w : World) (hn : n ≤ 40)
    (hrow : ∀ r, r < n → w.cell? ⟨gb, r, none⟩ = some (.slice (some ⟨RB r, 0, none⟩) n (CB r))) (hcell : ∀ r, r < n → ∀ c, c < n → w.cell? ⟨RB r, c, none⟩ = some (.bool (Z r c)))
    (hsq : Calls Try.prog 28 #[.slice (some ⟨gb, 0, none⟩) n cc] w fun e w' => e = .returned (.bool true) ∧ Below w.heap.size w w') :
    Calls Try.prog 19 #[.slice (some ⟨gb, 0, none⟩) n cc] w fun e w' => ∃ d L, e = .returned d ∧ L.length = n ∧ Own2 w.heap.size n w' d L (fw n Z n) ∧ Below w.heap.size w w' := by
  obtain ⟨i0, hi, hz0, hz1, hz2⟩ := info_parts infoR
  go_enter Try.func19, Try.ntmps19
  go_wp2_with (go_at_call 28; refine hsq.mono ?_; rintro e w1 ⟨rfl, hb1⟩)
  clear hsq
  go_loopg [3, 14] n (fun g d i wr => ∃ L : List Value, L.length ≤ n ∧ g = n - L.length ∧ i = .int .i64 (L.length : Int) ∧ Own2 w.heap.size n wr d L Z ∧ Below w.heap.size w wr)
  case atStart => exact ⟨[], Nat.zero_le _, rfl, rfl, ⟨World.ownsRow_nil _ _ _ _, fun j v h => by simp at h, fun i j u v h => by simp at h⟩, hb1⟩
  case round =>
    obtain ⟨L, hL, rfl, rfl, hO, hB⟩ := hrel
    by_cases hlt : L.length < n
    · have hlt' : (L.length : Int) < (n : Int) := by omega
      have hgb : gb < w.heap.size := World.block_lt_of_cell? _ _ (hrow _ hlt)
      have g0 : wr.cell? ⟨gb, L.length, none⟩ = some (.slice (some ⟨RB L.length, 0, none⟩) n (CB L.length)) := by rw [hB.cell (p := ⟨gb, L.length, none⟩) hgb]; exact hrow _ hlt
      have hcl := clone_walk (RB L.length) n (CB L.length) (Z L.length) wr hn (fun i hi => by
        have h := hcell _ hlt i hi
        rw [hB.cell (p := ⟨RB L.length, i, none⟩) (World.block_lt_of_cell? _ _ h)]; exact h)
      go_wp2_with (first
        | (go_at_call 29; refine hcl.mono ?_; rintro e w2 ⟨v, rfl, hv, hb2, hnn⟩; obtain ⟨kb, kc, rfl, hkb, kcur, hkh⟩ := ownsRow_block hv hnn)
        | (at_builtin; refine wpList_append_own _ rfl (.tmp 18) (.tmp 21) 28 rfl w.heap.size 33 i0 (.slice none 0 0) 1 24 Try.underlying28 hi hz0 hz1 hz2 rfl (by decide) _ L.length L rfl ((hO.grown (grown_below hb2)).top.alloc _) ⟨w2.heap.size, 0, none⟩ 1 1 [.slice (some ⟨kb, 0, none⟩) n kc] rfl rfl (one_new _ _ _) (one_cell hv hnn) ?b1 ?b2 ?base ?next))
      case b1 => unfold maxLen; omega
      case b2 => omega
      case base => have := hB.size; have := hb2.size; rw [World.size_alloc]; omega
      case next =>
        intro d' w3 hown hgrow hnil
        have hO2 := hO.grown (grown_below hb2)
        have hB2 : Below w.heap.size w w2 := hB.trans (hb2.mono hB.size)
        have hap : ∀ (j : Nat) (u : Value), L[j]? = some u → u.ownBlock ≠ (Value.slice (some ⟨kb, 0, none⟩) n kc).ownBlock := fun j u hu => by
          obtain ⟨g, cap, rfl, _, _, hh⟩ := ownsRow_block (hO.row j u hu).1 (hO.row j u hu).2
          have := (Array.getElem?_eq_some_iff.1 hh).1
          intro e
          simp [Value.ownBlock] at e
          omega
        have hS := (hO2.grown (World.grownBy_alloc w2 (.cells #[Value.slice (some ⟨kb, 0, none⟩) n kc] 33) none)).snoc ((ownsRow_mono hv hB.size).alloc _) hnn hap hown hgrow
        have hlt2 := hO2.top.lt
        have hB3 : Below w.heap.size w w3 := (hB2.alloc hB2.size _).grown hgrow (by have := hB2.size; rw [World.size_alloc]; omega) (fun k h => (hlt2 k h).1)
        clear hO hO2 hgrow hown hv hkh hcl hb2
        go_wp2
        go_roundg (n - (L.length + 1))
        case measure => omega
        case rel => exact ⟨L ++ [.slice (some ⟨kb, 0, none⟩) n kc], by simp; omega, by simp, by simp, hS, hB3⟩
    · have hz : ¬ (L.length : Int) < (n : Int) := by omega
      have hlen : L.length = n := by omega
      clear hL hlt hrow hcell hz0 hz1 hz2 hi hb1
      subst hlen
      rcases hO.top.2 with ⟨hd, h0⟩ | ⟨db, dcap, _, hd, _⟩
      · subst hd
        obtain rfl : L = [] := List.eq_nil_of_length_eq_zero h0
        simp only [List.length_nil] at *
        go_wp2
        go_loopg [26] 0 (fun g k wx => k = .int .i64 0 ∧ wx = wr)
        case atStart => exact ⟨rfl, rfl⟩
        case round =>
          obtain ⟨rfl, rfl⟩ := hrel
          go_wp2
          go_ret
          first | exact ⟨_, [], rfl, rfl, hO, hB⟩ | exact ⟨[], rfl, hO, hB⟩
      · subst hd
        go_wp2
        clear hz
        go_loopg [26] L.length (fun g k wx => ∃ q : Nat, q ≤ L.length ∧ g = L.length - q ∧ k = .int .i64 (q : Int) ∧ Own2 w.heap.size L.length wx (.slice (some ⟨db, 0, none⟩) L.length dcap) L (fw L.length Z q) ∧ Below w.heap.size w wx)
        case atStart => exact ⟨0, Nat.zero_le _, rfl, rfl, hO, hB⟩
        case round =>
          clear hO hB
          obtain ⟨q, hq, rfl, rfl, hO, hB⟩ := hrel
          by_cases hqn : q < L.length
          · have hqz : (q : Int) < (L.length : Int) := by omega
            go_wp2
            go_loopg [31] L.length (fun g k wx => ∃ p : Nat, p ≤ L.length ∧ g = L.length - p ∧ k = .int .i64 (p : Int) ∧ Own2 w.heap.size L.length wx (.slice (some ⟨db, 0, none⟩) L.length dcap) L (fwI L.length q (fw L.length Z q) p) ∧ Below w.heap.size w wx)
            case atStart => exact ⟨0, Nat.zero_le _, rfl, rfl, hO, hB⟩
            case round =>
              clear hO hB
              obtain ⟨p, hp, rfl, rfl, hO, hB⟩ := hrel
              by_cases hpn : p < L.length
              · have hpz : (p : Int) < (L.length : Int) := by omega
                go_wp2
                go_loopg [36] L.length (fun g k wx => ∃ c : Nat, c ≤ L.length ∧ g = L.length - c ∧ k = .int .i64 (c : Int) ∧ Own2 w.heap.size L.length wx (.slice (some ⟨db, 0, none⟩) L.length dcap) L (fwJ q p (fwI L.length q (fw L.length Z q) p) c) ∧ Below w.heap.size w wx)
                case atStart => exact ⟨0, Nat.zero_le _, rfl, rfl, hO, hB⟩
                case round =>
                  clear hO hB
                  obtain ⟨c, hc, rfl, rfl, hO, hB⟩ := hrel
                  by_cases hcn : c < L.length
                  · have hcz : (c : Int) < (L.length : Int) := by omega
                    obtain ⟨gp, cp, ep, _, _, _⟩ := ownsRow_block (hO.row p _ (List.getElem?_eq_getElem hpn)).1 (hO.row p _ (List.getElem?_eq_getElem hpn)).2
                    obtain ⟨gq, cq, eq, _, _, _⟩ := ownsRow_block (hO.row q _ (List.getElem?_eq_getElem hqn)).1 (hO.row q _ (List.getElem?_eq_getElem hqn)).2
                    have hLp : L[p]? = some (.slice (some ⟨gp, 0, none⟩) L.length cp) := by rw [List.getElem?_eq_getElem hpn, ep]
                    have hLq : L[q]? = some (.slice (some ⟨gq, 0, none⟩) L.length cq) := by rw [List.getElem?_eq_getElem hqn, eq]
                    have t1 : wr.cell? ⟨db, p, none⟩ = some (.slice (some ⟨gp, 0, none⟩) L.length cp) := (hO.top.cellAt p (by omega)).trans hLp
                    have t2 : wr.cell? ⟨db, q, none⟩ = some (.slice (some ⟨gq, 0, none⟩) L.length cq) := (hO.top.cellAt q (by omega)).trans hLq
                    have t3 := (hO.cell hLp hcn).1
                    have t4 := (hO.cell hLp hcn).2
                    have t5 := (hO.cell hLp hqn).1
                    have t6 := (hO.cell hLq hcn).1
                    clear ep eq
                    obtain ⟨M, hM⟩ : ∃ M, fwJ q p (fwI L.length q (fw L.length Z q) p) c = M := ⟨_, rfl⟩
                    rw [hM] at hO t3 t5 t6
                    have fin : ∀ b : Bool, b = (M p c || (M p q && M q c)) → Own2 w.heap.size L.length (wr.setCell ⟨gp, c, none⟩ (.bool b)).drew (.slice (some ⟨db, 0, none⟩) L.length dcap) L (fwJ q p (fwI L.length q (fw L.length Z q) p) (c + 1)) ∧ Below w.heap.size w (wr.setCell ⟨gp, c, none⟩ (.bool b)).drew := fun b hb => by
                      have := hO.store (c := c) hLp b
                      refine ⟨this.1.drew.congr ?_, below_drew (hB.setCell this.2 _)⟩
                      show _ = stepJ q p (fwJ q p (fwI L.length q (fw L.length Z q) p) c) c
                      rw [hM, hb]; rfl
                    clear hO hLp hLq hM
                    go_wp2_with fail
                    cases h1 : M p c
                    · rw [h1] at t3
                      cases h2 : M p q
                      · rw [h2] at t5
                        go_big_region
                        go_wp2
                        go_roundg (L.length - (c + 1))
                        case measure => omega
                        case rel => exact ⟨c + 1, by omega, rfl, by simp, fin _ (by simp [h1, h2])⟩
                      · rw [h2] at t5
                        cases h3 : M q c
                        · rw [h3] at t6
                          go_big_region
                          go_wp2
                          go_roundg (L.length - (c + 1))
                          case measure => omega
                          case rel => exact ⟨c + 1, by omega, rfl, by simp, fin _ (by simp [h1, h2, h3])⟩
                        · rw [h3] at t6
                          go_big_region
                          go_wp2
                          go_roundg (L.length - (c + 1))
                          case measure => omega
                          case rel => exact ⟨c + 1, by omega, rfl, by simp, fin _ (by simp [h1, h2, h3])⟩
                    · rw [h1] at t3
                      go_big_region
                      go_wp2
                      go_roundg (L.length - (c + 1))
                      case measure => omega
                      case rel => exact ⟨c + 1, by omega, rfl, by simp, fin _ (by simp [h1])⟩
                  · have hcz : ¬ (c : Int) < (L.length : Int) := by omega
                    obtain rfl : c = L.length := by omega
                    go_wp2
                    go_roundg (L.length - (p + 1))
                    case measure => omega
                    case rel => exact ⟨p + 1, by omega, rfl, by simp, hO, hB⟩
              · have hpz : ¬ (p : Int) < (L.length : Int) := by omega
                obtain rfl : p = L.length := by omega
                go_wp2
                go_roundg (L.length - (q + 1))
                case measure => omega
                case rel => exact ⟨q + 1, by omega, rfl, by simp, hO, hB⟩
          · have hqz : ¬ (q : Int) < (L.length : Int) := by omega
            obtain rfl : q = L.length := by omega
            go_wp2
            go_ret
            exact ⟨_, rfl, L, rfl, hO, hB⟩
end Go.Proofs.Ytnkjnbfaechiaaa.M
/-
shape.Ahead, walked.
-/
set_option linter.unusedVariables false
set_option linter.unusedSimpArgs false
namespace Go.Proofs.Ytnkjnbfaechiaaa.M
open Go Go.Proofs Go.RowKit
set_option maxHeartbeats 1600000 in
set_option maxRecDepth 1000000 in
theorem ahead_bad (ea sa : Option Addr) (n ce m cs : Nat) (r : Int) (w : World) (hr : r ≠ 0)
    (hck : ∀ w', Below w.heap.size w w' → Calls Try.prog 13 #[.agg #[.slice ea n ce, .slice sa m cs]] w' fun e w'' => e = .returned (.int .i64 r) ∧ Below w'.heap.size w' w'') :
    Calls Try.prog 8 #[.agg #[.slice ea n ce, .slice sa m cs]] w fun e w' => e = .returned (.slice none 0 0) ∧ Below w.heap.size w w' := by
  have hb0 : Below w.heap.size w (w.alloc (.cells #[.slice ea n ce, .slice sa m cs] 25)) := (Below.refl w.heap.size w).alloc (Nat.le_refl _) _
  have hc := hck _ hb0
  clear hck
  go_enter Try.func8, Try.ntmps8
  go_wp2_with (go_at_call 13; refine hc.mono ?_; rintro e w1 ⟨rfl, hb1⟩)
  go_ret
  exact ⟨rfl, hb0.trans (hb1.mono hb0.size)⟩
/-- What holds at the outer loop's head, r rows made: N is the square's own row. -/
structure AOut (N1 N n : Nat) (wa wr : World) (r : Nat) (RB : Nat → Nat) (Z : Nat → Nat → Bool) : Prop where
  since : Below N1 wa wr
  low : N1 ≤ N
  top : wr.rowIs N 33 n (fun j => if j < r then .slice (some ⟨RB j, 0, none⟩) n n else .slice none 0 0)
  done : ∀ j, j < r → N < RB j ∧ wr.rowIs (RB j) 4 n (fun c => .bool (Z j c))
structure AIn (N1 N n : Nat) (wa wi : World) (r c : Nat) (RB : Nat → Nat) (Z : Nat → Nat → Bool) (b5 : Nat) (v5 : List Value) : Prop where
  since : Below N1 wa wi
  low : N1 ≤ N
  top : wi.rowIs N 33 n (fun j => if j < r + 1 then .slice (some ⟨RB j, 0, none⟩) n n else .slice none 0 0)
  done : ∀ j, j < r → N < RB j ∧ RB j < RB r ∧ wi.rowIs (RB j) 4 n (fun c => .bool (Z j c))
  cur : N < RB r ∧ wi.rowIs (RB r) 4 n (fun i => .bool (if i < c then Z r i else false))
  box : b5 < wi.heap.size ∧ b5 ≠ RB r ∧ ∀ (k : Nat) (u : Value), v5[k]? = some u → wi.cell? ⟨b5, k, none⟩ = some u
set_option maxHeartbeats 6400000 in
set_option maxRecDepth 1000000 in
theorem ahead_walk (ea sa : Addr) (eo so : Option Addr) (n ce m cs : Nat) (P : Nat → Nat) (K I O S : Nat → Int) (w : World) (hn : n ≤ 40) (hea : 0 < n → eo = some ea) (hsa : 0 < n → so = some sa)
    (hev : ∀ i, i < n → w.cell? (ea.add (i * 4)) = some (.int .i64 (P i : Int)) ∧ w.cell? ⟨(ea.add (i * 4)).block, (ea.add (i * 4)).off + 1, none⟩ = some (.int .i64 (I i)) ∧ w.cell? ⟨(ea.add (i * 4)).block, (ea.add (i * 4)).off + 2, none⟩ = some (.int .i64 (K i)) ∧ w.cell? ⟨(ea.add (i * 4)).block, (ea.add (i * 4)).off + 3, none⟩ = some (.int .i64 (O i)))
    (hst : ∀ i, i < m → w.cell? (sa.add i) = some (.int .i64 (S i)))
    (hP : ∀ i, i < n → P i < m)
    (hsq : ∀ (wx : World) (gb : Nat) (RB : Nat → Nat) (Z : Nat → Nat → Bool), (∀ r, r < n → wx.cell? ⟨gb, r, none⟩ = some (.slice (some ⟨RB r, 0, none⟩) n n)) → (∀ r, r < n → ∀ c, c < n → wx.cell? ⟨RB r, c, none⟩ = some (.bool (Z r c))) → Calls Try.prog 28 #[.slice (some ⟨gb, 0, none⟩) n n] wx fun e w' => e = .returned (.bool true) ∧ Below wx.heap.size wx w')
    (hck : ∀ w', Below w.heap.size w w' → Calls Try.prog 13 #[.agg #[.slice eo n ce, .slice so m cs]] w' fun e w'' => e = .returned (.int .i64 0) ∧ Below w'.heap.size w' w'') :
    Calls Try.prog 8 #[.agg #[.slice eo n ce, .slice so m cs]] w fun e w' => ∃ d L, e = .returned d ∧ L.length = n ∧ Own2 w.heap.size n w' d L (fw n (fun i k => (P i == P k && decide (i < k)) || S (P k) == (i : Int)) n) ∧ Below w.heap.size w w' := by
  have hb0 : Below w.heap.size w (w.alloc (.cells #[.slice eo n ce, .slice so m cs] 25)) := (Below.refl w.heap.size w).alloc (Nat.le_refl _) _
  have hc := hck _ hb0
  clear hck
  go_enter Try.func8, Try.ntmps8
  obtain ⟨wa, hwa⟩ : ∃ wa, w.alloc (.cells #[.slice eo n ce, .slice so m cs] 25) = wa := ⟨_, rfl⟩
  have hsz : wa.heap.size = w.heap.size + 1 := by rw [← hwa]; simp
  have a0 : wa.cell? ⟨w.heap.size, 0, none⟩ = some (.slice eo n ce) := by rw [← hwa]; simp
  have a1 : wa.cell? ⟨w.heap.size, 1, none⟩ = some (.slice so m cs) := by rw [← hwa]; simp
  rw [hwa] at hb0 hc
  have hmk28 := run_make_row' (P := Try.prog) 28 33 (.slice none 0 0) 24 Try.underlying28 infoR rfl .i64 .i64 n (by omega) (by omega)
  go_wp2_with (first
    | (go_at_call 13; refine hc.mono ?_; rintro e w1 ⟨rfl, hb1⟩; have b0 := (hb1.cell (p := ⟨w.heap.size, 0, none⟩) (by rw [hsz]; exact Nat.lt_succ_self _)).trans a0; have b0' : ∀ o, (w1.alloc o).cell? ⟨w.heap.size, 0, none⟩ = some (.slice eo n ce) := fun o => by rw [World.cell?_alloc_old _ _ _ (Nat.ne_of_lt (World.block_lt_of_cell? _ _ b0))]; exact b0))
  clear hc
  have hN : wa.heap.size ≤ w1.heap.size := hb1.size
  have hO0 : AOut wa.heap.size w1.heap.size n wa (w1.alloc (.cells (madeCells #[.slice none 0 0] n) 33)) 0 (fun _ => 0) (fun i k => (P i == P k && decide (i < k)) || S (P k) == (i : Int)) :=
    ⟨hb1.alloc hN _, hN, (World.rowIs_made w1 _ n 33).congr (fun j _ => by simp), fun j hj => absurd hj (Nat.not_lt_zero _)⟩
  go_loopg [18] n (fun g i wr => ∃ r : Nat, r ≤ n ∧ g = n - r ∧ i = .int .i64 (r : Int) ∧ ∃ RB, AOut wa.heap.size w1.heap.size n wa wr r RB (fun i k => (P i == P k && decide (i < k)) || S (P k) == (i : Int)))
  case atStart => exact ⟨0, Nat.zero_le _, rfl, rfl, _, hO0⟩
  case round =>
    clear hO0 b0 b0' hmk28
    obtain ⟨r, hr, rfl, rfl, RB, hO⟩ := hrel
    have b0 : wr.cell? ⟨w.heap.size, 0, none⟩ = some (.slice eo n ce) := (hO.since.cell (p := ⟨w.heap.size, 0, none⟩) (by rw [hsz]; exact Nat.lt_succ_self _)).trans a0
    have hlow : ∀ (ad : Addr) (v : Value) (wx : World), Below wa.heap.size wa wx → w.cell? ad = some v → wx.cell? ad = some v := fun ad v wx hb h => by
      have hlt := World.block_lt_of_cell? _ _ h
      exact (hb.cell (p := ad) (by rw [hsz]; exact Nat.lt_succ_of_lt hlt)).trans ((hb0.cell (p := ad) hlt).trans h)
    by_cases hrn : r < n
    · obtain rfl := hea (by omega)
      obtain rfl := hsa (by omega)
      obtain ⟨e0, e1, e2, e3⟩ := hev r hrn
      replace e0 := hlow _ _ _ hO.since e0
      replace e1 := hlow _ _ _ hO.since e1
      replace e2 := hlow _ _ _ hO.since e2
      replace e3 := hlow _ _ _ hO.since e3
      have hrz : (r : Int) < (n : Int) := by omega
      have hmk33 := run_make_row' (P := Try.prog) 33 4 (.bool false) 1 Try.underlying33 infoB rfl .i64 .i64 n (by omega) (by omega)
      go_upto_region 7 with fail
      obtain ⟨w5, hw5⟩ : ∃ w5, wr.alloc (.cells #[.int .i64 (P r : Int), .int .i64 (I r), .int .i64 (K r), .int .i64 (O r)] 38) = w5 := ⟨_, rfl⟩
      rw [hw5]
      have hN5 : w1.heap.size < wr.heap.size := hO.top.lt
      have hs5 : w5.heap.size = wr.heap.size + 1 := by rw [← hw5]; simp
      have hB5 : Below wa.heap.size wa w5 := by rw [← hw5]; exact hO.since.alloc hO.since.size _
      have htop5 : w5.rowIs w1.heap.size 33 n (fun j => if j < r then .slice (some ⟨RB j, 0, none⟩) n n else .slice none 0 0) := by rw [← hw5]; exact hO.top.alloc _
      have hdone5 : ∀ j, j < r → w1.heap.size < RB j ∧ RB j < wr.heap.size ∧ w5.rowIs (RB j) 4 n (fun c => .bool ((P j == P c && decide (j < c)) || S (P c) == (j : Int))) := fun j hj => ⟨(hO.done j hj).1, (hO.done j hj).2.lt, by rw [← hw5]; exact (hO.done j hj).2.alloc _⟩
      have hbox5 : ∀ k u, [Value.int .i64 (P r : Int), .int .i64 (I r), .int .i64 (K r), .int .i64 (O r)][k]? = some u → w5.cell? ⟨wr.heap.size, k, none⟩ = some u := fun k u hk => by
        rw [← hw5]
        match k, hk with
        | 0, hk => simp at hk; subst hk; simp
        | 1, hk => simp at hk; subst hk; simp
        | 2, hk => simp at hk; subst hk; simp
        | 3, hk => simp at hk; subst hk; simp
        | k + 4, hk => simp at hk
      clear hw5 e0 e1 e2 e3 b0
      have hlow1 := hO.low
      have f1 : w5.cell? ⟨w.heap.size, 0, none⟩ = some (.slice (some ea) n ce) := (hB5.cell (p := ⟨w.heap.size, 0, none⟩) (by rw [hsz]; exact Nat.lt_succ_self _)).trans a0
      have f2 : ∀ o, (w5.alloc o).cell? ⟨w1.heap.size, r, none⟩ = some (.slice none 0 0) := fun o => by rw [(htop5.alloc o).cell hrn]; simp
      have f3 : ∀ o, (w5.alloc o).frozen? ⟨w1.heap.size, r, none⟩ = false := fun o => (htop5.alloc o).frozen r
      have hB6 : ∀ o v, Below wa.heap.size wa ((w5.alloc o).setCell ⟨w1.heap.size, r, none⟩ v) := fun o v => (hB5.alloc hB5.size o).setCell (p := ⟨w1.heap.size, r, none⟩) hlow1 v
      have f4 : ∀ o v, ((w5.alloc o).setCell ⟨w1.heap.size, r, none⟩ v).cell? ⟨w.heap.size, 0, none⟩ = some (.slice (some ea) n ce) := fun o v => ((hB6 o v).cell (p := ⟨w.heap.size, 0, none⟩) (by rw [hsz]; exact Nat.lt_succ_self _)).trans a0
      have hI0 : AIn wa.heap.size w1.heap.size n wa ((w5.alloc (.cells (madeCells #[.bool false] n) 4)).setCell ⟨w1.heap.size, r, none⟩ (.slice (some ⟨w5.heap.size, 0, none⟩) n n)) r 0 (fun j => if j = r then w5.heap.size else RB j) (fun i k => (P i == P k && decide (i < k)) || S (P k) == (i : Int)) wr.heap.size [Value.int .i64 (P r : Int), .int .i64 (I r), .int .i64 (K r), .int .i64 (O r)] := by
        refine ⟨hB6 _ _, hlow1, ((htop5.alloc _).set r _).congr (fun j _ => ?_), fun j hj => ⟨?_, ?_, ?_⟩, ⟨?_, ?_⟩, ?_, ?_, fun k u hk => ?_⟩
        · by_cases e : j = r
          · subst e; simp
          · rw [if_neg e, if_neg e]
            by_cases h : j < r
            · rw [if_pos h, if_pos (by omega)]
            · rw [if_neg h, if_neg (by omega)]
        · simp only [if_neg (Nat.ne_of_lt hj)]; exact (hdone5 j hj).1
        · simp only [if_neg (Nat.ne_of_lt hj), if_true]; have := (hdone5 j hj).2.1; omega
        · simp only [if_neg (Nat.ne_of_lt hj)]; exact ((hdone5 j hj).2.2.alloc _).setOther (by have := (hdone5 j hj).1; show RB j ≠ w1.heap.size; omega) _
        · simp only [if_true]; omega
        · simp only [if_true]; exact ((World.rowIs_made w5 _ n 4).setOther (by show w5.heap.size ≠ w1.heap.size; omega) _).congr fun i _ => by simp
        · simp; omega
        · simp; omega
        · rw [World.cell?_setCell_other _ _ _ _ (fun e => by have := congrArg Addr.block e; simp at this; omega), World.cell?_alloc_old _ _ _ (by show wr.heap.size ≠ w5.heap.size; omega)]
          exact hbox5 k u hk
      have e56 : ∀ (o : Obj) (v : Value), (w5.alloc o).setCell ⟨w1.heap.size, r, none⟩ v = (w5.setCell ⟨w1.heap.size, r, none⟩ v).alloc o := fun o v => World.setCell_alloc_past o _ _ v (by omega)
      have f5 : ∀ o v, ((w5.setCell ⟨w1.heap.size, r, none⟩ v).alloc o).cell? ⟨w.heap.size, 0, none⟩ = some (.slice (some ea) n ce) := fun o v => by rw [← e56]; exact f4 o v
      rw [e56, hs5] at hI0
      clear hO hB5 htop5 hdone5 hbox5 hB6 f4 e56
      go_wp2
      clear f1 f2 f3 f5 hmk33
      obtain ⟨RB2, hRB2⟩ : ∃ RB2 : Nat → Nat, (fun j => if j = r then wr.heap.size + 1 else RB j) = RB2 := ⟨_, rfl⟩
      rw [hRB2] at hI0
      generalize hb5 : wr.heap.size = b5 at hI0 ⊢
      go_loopg [33] n (fun g k wi => ∃ c : Nat, c ≤ n ∧ g = n - c ∧ k = .int .i64 (c : Int) ∧ AIn wa.heap.size w1.heap.size n wa wi r c RB2 (fun i k => (P i == P k && decide (i < k)) || S (P k) == (i : Int)) b5 [Value.int .i64 (P r : Int), .int .i64 (I r), .int .i64 (K r), .int .i64 (O r)])
      case atStart => exact ⟨0, Nat.zero_le _, rfl, rfl, hI0⟩
      case round =>
        clear hI0
        obtain ⟨c, hc, rfl, rfl, hI⟩ := hrel
        by_cases hcn : c < n
        · obtain ⟨e0, e1, e2, e3⟩ := hev c hcn
          replace e0 := hlow _ _ _ hI.since e0
          replace e1 := hlow _ _ _ hI.since e1
          replace e2 := hlow _ _ _ hI.since e2
          replace e3 := hlow _ _ _ hI.since e3
          have hcz : (c : Int) < (n : Int) := by omega
          go_upto_region 11 with fail
          obtain ⟨w7, hw7⟩ : ∃ w7, wr.alloc (.cells #[.int .i64 (P c : Int), .int .i64 (I c), .int .i64 (K c), .int .i64 (O c)] 38) = w7 := ⟨_, rfl⟩
          rw [hw7]
          have hI7 : AIn wa.heap.size w1.heap.size n wa w7 r c RB2 (fun i k => (P i == P k && decide (i < k)) || S (P k) == (i : Int)) b5 [Value.int .i64 (P r : Int), .int .i64 (I r), .int .i64 (K r), .int .i64 (O r)] := by
            rw [← hw7]
            refine ⟨hI.since.alloc hI.since.size _, hI.low, hI.top.alloc _, fun j hj => ⟨(hI.done j hj).1, (hI.done j hj).2.1, (hI.done j hj).2.2.alloc _⟩, ⟨hI.cur.1, hI.cur.2.alloc _⟩, by have := hI.box.1; rw [World.size_alloc]; omega, hI.box.2.1, fun k u hk => ?_⟩
            rw [World.cell?_alloc_old _ _ _ (Nat.ne_of_lt hI.box.1)]
            exact hI.box.2.2 k u hk
          have t3 : w7.cell? ⟨wr.heap.size, 0, none⟩ = some (.int .i64 (P c : Int)) := by rw [← hw7]; simp
          clear hw7 hI e0 e1 e2 e3
          have t1 : w7.cell? ⟨w1.heap.size, r, none⟩ = some (.slice (some ⟨RB2 r, 0, none⟩) n n) := by rw [hI7.top.cell hrn]; simp
          have t2 : w7.cell? ⟨b5, 0, none⟩ = some (.int .i64 (P r : Int)) := hI7.box.2.2 0 _ rfl
          have t4 : w7.cell? ⟨w.heap.size, 1, none⟩ = some (.slice (some sa) m cs) := (hI7.since.cell (p := ⟨w.heap.size, 1, none⟩) (by rw [hsz]; exact Nat.lt_succ_self _)).trans a1
          have t5 := hlow _ _ _ hI7.since (hst _ (hP c hcn))
          have t6 : w7.cell? ⟨RB2 r, c, none⟩ = some (.bool false) := by rw [hI7.cur.2.cell hcn]; simp
          have t7 : w7.frozen? ⟨RB2 r, c, none⟩ = false := hI7.cur.2.frozen c
          have hPc : (P c : Int) < (m : Int) := by have := hP c hcn; omega
          have fin : ∀ b : Bool, b = ((P r == P c && decide (r < c)) || S (P c) == (r : Int)) → AIn wa.heap.size w1.heap.size n wa (w7.setCell ⟨RB2 r, c, none⟩ (.bool b)).drew r (c + 1) RB2 (fun i k => (P i == P k && decide (i < k)) || S (P k) == (i : Int)) b5 [Value.int .i64 (P r : Int), .int .i64 (I r), .int .i64 (K r), .int .i64 (O r)] := fun b hb => by
            have hc1 := hI7.cur.1
            have hlo := hI7.low
            refine ⟨below_drew (hI7.since.setCell (p := ⟨RB2 r, c, none⟩) (by show wa.heap.size ≤ RB2 r; omega) _), hlo, (hI7.top.setOther (by show w1.heap.size ≠ RB2 r; omega) _).drew, fun j hj => ⟨(hI7.done j hj).1, (hI7.done j hj).2.1, ((hI7.done j hj).2.2.setOther (by have := (hI7.done j hj).2.1; show RB2 j ≠ RB2 r; omega) _).drew⟩, ⟨hc1, ((hI7.cur.2.set c _).congr fun i _ => ?_).drew⟩, ?_, hI7.box.2.1, fun k u hk => ?_⟩
            · by_cases e : i = c
              · subst e; simp [hb]
              · rw [if_neg e]
                by_cases hlt : i < c
                · rw [if_pos hlt, if_pos (by omega)]
                · rw [if_neg hlt, if_neg (by omega)]
            · have := hI7.box.1; simpa using this
            · show (w7.setCell ⟨RB2 r, c, none⟩ (.bool b)).cell? _ = _
              rw [World.cell?_setCell_other _ _ _ _ (fun e => by have := congrArg Addr.block e; exact hI7.box.2.1 this.symm)]
              exact hI7.box.2.2 k u hk
          clear hI7 hst hev hP hsq hc hb0 a0 a1 hRB2 hb5
          go_wp2_with fail
          by_cases hPP : P r = P c
          · have hPPz : ((P r : Int) == (P c : Int)) = true := by simp [hPP]
            by_cases hrc : r < c
            · have hrcz : (r : Int) < (c : Int) := by omega
              replace fin := fun b (hb : b = true) => fin b (hb.trans (by simp [hPP, hrc]))
              clear hPP hrc
              go_big_region
              go_wp2
              go_roundg (n - (c + 1))
              case measure => omega
              case rel => exact ⟨c + 1, by omega, rfl, by simp, fin _ (by simp)⟩
            · have hrcz : ¬ (r : Int) < (c : Int) := by omega
              replace fin := fun b (hb : b = (S (P c) == (r : Int))) => fin b (hb.trans (by simp [hrc]))
              clear hPP hrc
              go_big_region
              go_wp2
              go_roundg (n - (c + 1))
              case measure => omega
              case rel => exact ⟨c + 1, by omega, rfl, by simp, fin _ (by simp)⟩
          · have hPPz : ((P r : Int) == (P c : Int)) = false := by simp; omega
            replace fin := fun b (hb : b = (S (P c) == (r : Int))) => fin b (hb.trans (by simp [hPP]))
            clear hPP
            go_big_region
            go_wp2
            go_roundg (n - (c + 1))
            case measure => omega
            case rel => exact ⟨c + 1, by omega, rfl, by simp, fin _ (by simp)⟩
        · have hcz : ¬ (c : Int) < (n : Int) := by omega
          obtain rfl : c = n := by omega
          go_wp2
          go_roundg (c - (r + 1))
          case measure => omega
          case rel => exact ⟨r + 1, by omega, rfl, by simp, RB2, hI.since, hI.low, hI.top, fun j hj => by
            by_cases e : j = r
            · subst e; exact ⟨hI.cur.1, hI.cur.2.congr fun i hi => by rw [if_pos hi]⟩
            · exact ⟨(hI.done j (by omega)).1, (hI.done j (by omega)).2.2⟩⟩
    · have hrz : ¬ (r : Int) < (n : Int) := by omega
      obtain rfl : r = n := by omega
      have hcells : ∀ x, x < r → wr.cell? ⟨w1.heap.size, x, none⟩ = some (.slice (some ⟨RB x, 0, none⟩) r r) := fun x hx => by rw [hO.top.cell hx]; simp [hx]
      have hbits : ∀ x, x < r → ∀ c, c < r → wr.cell? ⟨RB x, c, none⟩ = some (.bool ((P x == P c && decide (x < c)) || S (P c) == (x : Int))) := fun x hx c hc => (hO.done x hx).2.cell hc
      have hcw := closure_walk w1.heap.size r r RB (fun _ => r) (fun x c => (P x == P c && decide (x < c)) || S (P c) == (x : Int)) wr hn hcells hbits (hsq wr w1.heap.size RB _ hcells hbits)
      have hBe := hO.since
      have hBs := hO.since.size
      clear hcells hbits hsq hO hev hst hP b0 a0 a1
      go_wp2_with (go_at_call 19; refine hcw.mono ?_; rintro e w9 ⟨d, L, rfl, hL, hOw, hB9⟩)
      go_ret
      have hlow9 : w.heap.size ≤ wr.heap.size := by omega
      have hB10 : Below w.heap.size w wr := hb0.trans (hBe.mono (by omega))
      have hfin : Own2 w.heap.size r w9 d L (fw r (fun i k => (P i == P k && decide (i < k)) || S (P k) == (i : Int)) r) := ⟨ownsRow_mono hOw.top hlow9, fun j v hv => ⟨ownsRow_mono (hOw.row j v hv).1 hlow9, (hOw.row j v hv).2⟩, hOw.apart⟩
      first | exact ⟨_, rfl, L, hL, hfin, hB10.trans (hB9.mono hlow9)⟩ | exact ⟨_, L, rfl, hL, hfin, hB10.trans (hB9.mono hlow9)⟩
end Go.Proofs.Ytnkjnbfaechiaaa.M
