/-
BintraceDecodes, plainly: bytes are decoded by the program as by the reference. No condition.
-/
import Derived.Test.Yteciockojllonaaf4
import Derived.Test.YteciockojllonaaTake
namespace Go.Proofs.Yteciockojllonaa.Pure
set_option linter.unusedSimpArgs false
set_option linter.unusedVariables false
open Go.RowKit Go.Proofs.Yteciockojllonaa.G Go.Proofs.YteciockojllonaaW.PrintWords Go.Proofs.YteciockojllonaaW.PrintLast Go.Proofs.Yteciockojllonaa.Pre Go.Proofs.Yteciockojllonaa.Lit Go.Proofs.Yteciockojllonaa.Leb Go.Proofs.Yteciockojllonaa.Take

theorem awake_spec (k : Nat) (hk : 100 ≤ k) : fathomlaw05_awake.f k = some true := ev_at (fun k => fathomlaw05_awake.mono k) 100 (by decide +kernel) k hk

theorem rd_step {xs : List S39} {i : Nat} (h : i < xs.length) : rd_T39 xs (i : Int) = xs[i] := by
  unfold rd_T39; rw [Int.toNat_natCast, List.getD_eq_getElem?_getD, List.getElem?_eq_getElem h]; rfl
theorem Ints_l0 (a : List Int) (ha : a.length ≤ 9223372036854775807) (n : Nat) : ∀ (k i : Nat), i + n = a.length → n < k → fathomref01_Ints.l0 k a a (i : Int) = some true := by
  induction n with
  | zero =>
    intro k i hi hk
    obtain ⟨k, rfl⟩ : ∃ q, k = q + 1 := ⟨k - 1, by omega⟩
    simp only [fathomref01_Ints.l0]; rw [if_neg (by omega)]
  | succ n ih =>
    intro k i hi hk
    obtain ⟨k, rfl⟩ : ∃ q, k = q + 1 := ⟨k - 1, by omega⟩
    simp only [fathomref01_Ints.l0]
    rw [if_pos (by omega), if_pos (by omega), if_pos (by omega), if_pos trivial, w64 (by omega) (by omega)]
    have := ih k (i + 1) (by omega) (by omega)
    exact_mod_cast this
theorem Same_l0 (a : List S39) (ha : a.length ≤ 9223372036854775807) (hr : ∀ x ∈ a, x.f1.length ≤ 9223372036854775807) (m : Nat) (hm : ∀ x ∈ a, x.f1.length < m) (n : Nat) : ∀ (k i : Nat), i + n = a.length → n + m < k → fathomref04_Same.l0 k a a (i : Int) = some true := by
  induction n with
  | zero =>
    intro k i hi hk
    obtain ⟨k, rfl⟩ : ∃ q, k = q + 1 := ⟨k - 1, by omega⟩
    simp only [fathomref04_Same.l0]; rw [if_neg (by omega)]
  | succ n ih =>
    intro k i hi hk
    obtain ⟨k, rfl⟩ : ∃ q, k = q + 1 := ⟨k - 1, by omega⟩
    have hlt : i < a.length := by omega
    have h1 := hr _ (List.getElem_mem hlt)
    have h2 := hm _ (List.getElem_mem hlt)
    simp only [fathomref04_Same.l0]
    rw [if_pos (by omega), if_pos (by omega), if_pos (by omega), rd_step hlt, if_neg (by simp)]
    have e : fathomref01_Ints.f k a[i].f1 a[i].f1 = some true := by
      unfold fathomref01_Ints.f; rw [if_pos rfl]
      exact Ints_l0 _ h1 a[i].f1.length k 0 (by omega) (by omega)
    rw [e]; simp only [Option.bind_some, if_true]
    rw [w64 (by omega) (by omega)]
    have := ih k (i + 1) (by omega) (by omega)
    exact_mod_cast this
theorem Same_self (a : List S39) (ha : a.length ≤ 9223372036854775807) (hr : ∀ x ∈ a, x.f1.length ≤ 9223372036854775807) (m : Nat) (hm : ∀ x ∈ a, x.f1.length < m) (k : Nat) (hk : a.length + m < k) : fathomref04_Same.f k a a = some true := by
  unfold fathomref04_Same.f; rw [if_pos rfl]
  exact Same_l0 a ha hr m hm a.length k 0 (by omega) (by omega)


theorem inner_rel (l : List Int) (hb : ∀ x ∈ l, 0 ≤ x ∧ x ≤ 255) (hl : l.length ≤ 6000) (del : Bool) (n : Nat) : ∀ (p : Nat) (lits : List Int), p + n = l.length → lits.length ≤ 4096 →
    ∃ lits', ∃ p' : Nat, ∃ c : Int, ∃ q : Nat, q ≤ 2 * (p' - p) + 2 ∧ p ≤ p' ∧ p' ≤ l.length ∧ (c = 0 → p < p') ∧ lits'.length ≤ 4096 ∧
      (∀ k, 2 * n + 100 < k → bintrace_step.l0 k l (p : Int) del lits = some (del, lits', (p' : Int), c)) ∧
      (∀ j L, 3000100 ≤ j → L.length ≤ 262143 → fathomref05_Decode.l1 (j + q) l L (p : Int) del lits = if c = 0 then fathomref05_Decode.l0 j l (L ++ [⟨del, lits'⟩]) (p' : Int) else some ([], (p' : Int), c)) := by
  induction n using Nat.strongRecOn with
  | _ n ih =>
    intro p lits hp hW
    have cond : ∀ b : Bool, (∀ k, 2 * n + 99 < k → bintrace_step.l0 (k + 1) l (p : Int) del lits = bintrace_step.j2 k l (p : Int) b del lits) ∧ (∀ k L, fathomref05_Decode.l1 (k + 1) l L (p : Int) del lits = fathomref05_Decode.j3 k l L (p : Int) b del lits) ∨ b ≠ (decide (p < l.length) && (rd l (p : Int) != 0)) := by
      intro b
      by_cases hbb : b = (decide (p < l.length) && (rd l (p : Int) != 0))
      · left
        subst hbb
        constructor
        · intro k _
          simp only [bintrace_step.l0]
          by_cases h : p < l.length
          · rw [if_pos (by omega), if_pos (by omega), decide_eq_true h, Bool.true_and]
          · rw [if_neg (by omega), decide_eq_false h, Bool.false_and]
        · intro k L
          simp only [fathomref05_Decode.l1]
          by_cases h : p < l.length
          · rw [if_pos (by omega), if_pos (by omega), decide_eq_true h, Bool.true_and]
          · rw [if_neg (by omega), decide_eq_false h, Bool.false_and]
      · exact .inr hbb
    rcases cond (decide (p < l.length) && (rd l (p : Int) != 0)) with ⟨hs, hr⟩ | h
    rotate_left
    · exact absurd rfl h
    have hw1 : Aside0 (wrap64 ((p : Int) + 1) = ((p + 1 : Nat) : Int)) := ⟨w64 (x := (p : Int) + 1) (by omega) (by omega)⟩
    cases hc : (decide (p < l.length) && (rd l (p : Int) != 0)) with
    | false =>
      rw [hc] at hs hr
      by_cases he : p = l.length
      · refine ⟨lits, p, 2, 2, by omega, by omega, by omega, by simp, hW, fun k hk => ?_, fun j L hj hL => ?_⟩
        · obtain ⟨k, rfl⟩ : ∃ q, k = q + 2 := ⟨k - 2, by omega⟩
          rw [hs _ (by omega)]; simp only [bintrace_step.j2]; rw [if_neg (by simp), if_pos (by omega)]
        · rw [show j + 2 = (j + 1) + 1 from rfl, hr]; simp only [fathomref05_Decode.j3]; rw [if_neg (by simp), if_pos (by omega), if_neg (by decide)]
      · refine ⟨lits, p + 1, 0, 2, by omega, by omega, by omega, by omega, hW, fun k hk => ?_, fun j L hj hL => ?_⟩
        · obtain ⟨k, rfl⟩ : ∃ q, k = q + 2 := ⟨k - 2, by omega⟩
          rw [hs _ (by omega)]; simp only [bintrace_step.j2]; rw [if_neg (by simp), if_neg (by omega), hw1.out]
        · rw [show j + 2 = (j + 1) + 1 from rfl, hr]; simp only [fathomref05_Decode.j3]; rw [if_neg (by simp), if_neg (by omega), if_pos (by omega), hw1.out, if_pos trivial]
    | true =>
      rw [hc] at hs hr
      have hlt : p < l.length := by
        rw [Bool.and_eq_true] at hc; exact of_decide_eq_true hc.1
      obtain ⟨x, m, ok, g1, g2, g3, g4⟩ := take_both (l.drop p) (fun y hy => hb y (List.mem_of_mem_drop hy)) (by simp; omega)
      have hs1 : ∀ k, 2 * n + 98 < k → bintrace_step.l0 (k + 2) l (p : Int) del lits = if ok = true then (if (lits.length : Int) = 4096 then some (del, lits, (p : Int), 3) else bintrace_step.l0 k l (wrap64 ((p : Int) + (m : Int))) del (lits ++ [x])) else some (del, lits, (p : Int), 2) := by
        intro k hk
        rw [hs _ (by omega)]; simp only [bintrace_step.j2]
        rw [if_pos trivial, if_pos (by omega), if_pos (by omega), Int.toNat_natCast, g1 k (by omega)]
        simp only [Option.bind_some]
        rw [if_pos (show lits.length < 17592186044416 by omega)]
      have hr1 : ∀ k L, 3000010 < k → fathomref05_Decode.l1 (k + 2) l L (p : Int) del lits = if (m : Int) = 0 then some ([], (p : Int), 2) else if (lits.length : Int) = 4096 then some ([], (p : Int), 3) else fathomref05_Decode.l1 k l L (wrap64 ((p : Int) + (m : Int))) del (lits ++ [x]) := by
        intro k L hk
        rw [hr]; simp only [fathomref05_Decode.j3]
        rw [if_pos trivial, if_pos (by omega), if_pos (by omega), Int.toNat_natCast, g2 k (by omega)]
        simp only [Option.bind_some]
        rw [if_pos (show lits.length < 17592186044416 by omega)]
      cases ok with
      | false =>
        have hm := g4 rfl
        subst hm
        refine ⟨lits, p, 2, 2, by omega, by omega, by omega, by simp, hW, fun k hk => ?_, fun j L hj hL => ?_⟩
        · obtain ⟨k, rfl⟩ : ∃ q, k = q + 2 := ⟨k - 2, by omega⟩
          rw [hs1 _ (by omega), if_neg (by simp)]
        · rw [hr1 _ _ (by omega), if_pos (by rfl), if_neg (by decide)]
      | true =>
        obtain ⟨m0, m1, _⟩ := g3 rfl
        rw [List.length_drop] at m1
        by_cases hf : lits.length = 4096
        · refine ⟨lits, p, 3, 2, by omega, by omega, by omega, by simp, hW, fun k hk => ?_, fun j L hj hL => ?_⟩
          · obtain ⟨k, rfl⟩ : ∃ q, k = q + 2 := ⟨k - 2, by omega⟩
            rw [hs1 _ (by omega), if_pos rfl, if_pos (by omega)]
          · rw [hr1 _ _ (by omega), if_neg (by omega), if_pos (by omega), if_neg (by decide)]
        · obtain ⟨lits', p', c, q, i1, i2, i3, i4, i5, i6, i7⟩ := ih (n - m) (by omega) (p + m) (lits ++ [x]) (by omega) (by simp; omega)
          have hw : Aside0 (wrap64 ((p : Int) + (m : Int)) = ((p + m : Nat) : Int)) := ⟨w64 (x := (p : Int) + (m : Int)) (by omega) (by omega)⟩
          refine ⟨lits', p', c, q + 2, by omega, by omega, by omega, fun h => by have := i4 h; omega, i5, fun k hk => ?_, fun j L hj hL => ?_⟩
          · obtain ⟨k, rfl⟩ : ∃ q, k = q + 2 := ⟨k - 2, by omega⟩
            rw [hs1 _ (by omega), if_pos rfl, if_neg (by omega), hw.out, i6 _ (by omega)]
          · rw [show j + (q + 2) = (j + q) + 2 from by omega, hr1 _ _ (by omega), if_neg (by omega), if_neg (by omega), hw.out, i7 _ _ hj hL]

theorem outer_rel (l : List Int) (hb : ∀ x ∈ l, 0 ≤ x ∧ x ≤ 255) (hl : l.length ≤ 6000) (n : Nat) : ∀ (p : Nat) (L : List S39), p + n = l.length → L.length ≤ 262144 → (∀ x ∈ L, x.f1.length ≤ 4096) →
    ∃ r : List S39 × Int × Int, r.1.length ≤ 262144 ∧ (∀ x ∈ r.1, x.f1.length ≤ 4096) ∧ (∀ k, 4 * n + 20000 < k → bintrace_Decode.l0 k l L (p : Int) = some r) ∧ (∀ j, 3000200 + 10 * n < j → fathomref05_Decode.l0 j l L (p : Int) = some r) := by
  induction n using Nat.strongRecOn with
  | _ n ih =>
    intro p L hp hL hX
    by_cases hlt : p < l.length
    rotate_left
    · refine ⟨(L, 0, 0), hL, hX, fun k hk => ?_, fun j hj => ?_⟩
      · obtain ⟨k, rfl⟩ : ∃ q, k = q + 1 := ⟨k - 1, by omega⟩
        simp only [bintrace_Decode.l0]; rw [if_neg (by omega)]
      · obtain ⟨j, rfl⟩ : ∃ q, j = q + 1 := ⟨j - 1, by omega⟩
        simp only [fathomref05_Decode.l0]; rw [if_neg (by omega)]
    generalize hbv : rd l (p : Int) = b
    by_cases hg : b = 97 ∨ b = 100
    rotate_left
    · have h97 : b ≠ 97 := fun h => hg (.inl h)
      have h100 : b ≠ 100 := fun h => hg (.inr h)
      refine ⟨([], (p : Int), 2), by simp, by simp, fun k hk => ?_, fun j hj => ?_⟩
      · obtain ⟨k, rfl⟩ : ∃ q, k = q + 3 := ⟨k - 3, by omega⟩
        have hj1 : bintrace_Decode.j1 (k + 2) l L (p : Int) false = some ([], (p : Int), 2) := by
          simp only [bintrace_Decode.j1]
          rw [if_neg (by simp)]
          unfold bintrace_step.f
          rw [if_pos (by omega), if_pos (by omega), hbv, if_neg h100]
          simp only [bintrace_step.j0]
          rw [if_pos (bne_iff_ne.2 h97)]
          simp only [Option.bind_some]; rw [if_neg (by decide)]
        simp only [bintrace_Decode.l0]
        rw [if_pos (by omega), hbv, if_neg h97, beq_eq_false_iff_ne.2 h100]
        split
        · rw [if_pos (by omega)]; exact hj1
        · exact hj1
      · obtain ⟨j, rfl⟩ : ∃ q, j = q + 2 := ⟨j - 2, by omega⟩
        simp only [fathomref05_Decode.l0, fathomref05_Decode.j1]
        rw [if_pos (by omega), if_pos (by omega), hbv, if_neg h97, if_pos (bne_iff_ne.2 h100)]
    by_cases hf : L.length = 262144
    · refine ⟨([], (p : Int), 3), by simp, by simp, fun k hk => ?_, fun j hj => ?_⟩
      · obtain ⟨k, rfl⟩ : ∃ q, k = q + 3 := ⟨k - 3, by omega⟩
        simp only [bintrace_Decode.l0]
        rw [if_pos (by omega), if_pos (by omega), if_pos (by omega), hbv]
        by_cases h97 : b = 97
        · rw [if_pos h97]; simp only [bintrace_Decode.j1, if_true]
        · rw [if_neg h97, beq_iff_eq.2 (hg.resolve_left h97)]; simp only [bintrace_Decode.j1, if_true]
      · obtain ⟨j, rfl⟩ : ∃ q, j = q + 2 := ⟨j - 2, by omega⟩
        simp only [fathomref05_Decode.l0]
        rw [if_pos (by omega), if_pos (by omega), hbv]
        have hj1 : fathomref05_Decode.j1 (j + 1) l L (p : Int) false = some ([], (p : Int), 3) := by
          simp only [fathomref05_Decode.j1]; rw [if_neg (by simp), if_pos (by omega)]
        by_cases h97 : b = 97
        · rw [if_pos h97]; exact hj1
        · rw [if_neg h97, show (b != 100) = false from by rw [hg.resolve_left h97]; rfl]; exact hj1
    obtain ⟨lits', p', c, q, i1, i2, i3, i4, i5, i6, i7⟩ := inner_rel l hb hl (b == 100) (n - 1) (p + 1) [] (by omega) (by simp)
    have hw : Aside0 (wrap64 ((p : Int) + 1) = ((p + 1 : Nat) : Int)) := ⟨w64 (x := (p : Int) + 1) (by omega) (by omega)⟩
    have hP : ∀ k, 4 * n + 19996 < k → bintrace_Decode.l0 (k + 2) l L (p : Int) = if c = 0 then bintrace_Decode.l0 k l (L ++ [⟨(b == 100), lits'⟩]) (p' : Int) else some ([], (p' : Int), c) := by
      intro k hk
      obtain ⟨k, rfl⟩ : ∃ q, k = q + 1 := ⟨k - 1, by omega⟩
      simp only [bintrace_Decode.l0, bintrace_Decode.j1]
      rw [if_pos (by omega), if_neg (by omega), if_neg (by simp)]
      have hst : bintrace_step.f (k + 1) l (p : Int) = some ((b == 100), lits', (p' : Int), c) := by
        unfold bintrace_step.f
        have hj0 : bintrace_step.j0 (k + 1) l (p : Int) false (b == 100) = some ((b == 100), lits', (p' : Int), c) := by
          simp only [bintrace_step.j0]; rw [if_neg (by simp), hw.out, i6 k (by omega)]
        rw [if_pos (by omega), if_pos (by omega), hbv]
        by_cases h100 : b = 100
        · rw [if_pos h100]; exact hj0
        · rw [if_neg h100, show (b != 97) = false from by rw [hg.resolve_right h100]; rfl]; exact hj0
      rw [hst]
      simp only [Option.bind_some]
      rw [if_pos (show L.length < 4398046511104 by omega)]
    have hR : ∀ j, 3000100 ≤ j → fathomref05_Decode.l0 (j + q + 2) l L (p : Int) = if c = 0 then fathomref05_Decode.l0 j l (L ++ [⟨(b == 100), lits'⟩]) (p' : Int) else some ([], (p' : Int), c) := by
      intro j hj
      simp only [fathomref05_Decode.l0]
      rw [if_pos (by omega), if_pos (by omega), hbv]
      have hj1 : fathomref05_Decode.j1 (j + q + 1) l L (p : Int) false = if c = 0 then fathomref05_Decode.l0 j l (L ++ [⟨(b == 100), lits'⟩]) (p' : Int) else some ([], (p' : Int), c) := by
        simp only [fathomref05_Decode.j1]
        rw [if_neg (by simp), if_neg (by omega), if_pos (by omega), if_pos (by omega), hw.out, hbv]
        exact i7 j L hj (by omega)
      by_cases h97 : b = 97
      · rw [if_pos h97]; exact hj1
      · rw [if_neg h97, show (b != 100) = false from by rw [hg.resolve_left h97]; rfl]; exact hj1
    by_cases hc : c = 0
    · have i4' := i4 hc
      obtain ⟨r, r1, r2, r3, r4⟩ := ih (l.length - p') (by omega) p' (L ++ [⟨(b == 100), lits'⟩]) (by omega) (by simp; omega) (fun y hy => by
        rw [List.mem_append] at hy
        rcases hy with hy | hy
        · exact hX y hy
        · simp at hy; subst hy; exact i5)
      refine ⟨r, r1, r2, fun k hk => ?_, fun j hj => ?_⟩
      · obtain ⟨k, rfl⟩ : ∃ q, k = q + 2 := ⟨k - 2, by omega⟩
        rw [hP k (by omega), if_pos hc]; exact r3 k (by omega)
      · obtain ⟨j', rfl⟩ : ∃ j', j = j' + q + 2 := ⟨j - q - 2, by omega⟩
        rw [hR j' (by omega), if_pos hc]; exact r4 _ (by omega)
    · refine ⟨([], (p' : Int), c), by simp, by simp, fun k hk => ?_, fun j hj => ?_⟩
      · obtain ⟨k, rfl⟩ : ∃ q, k = q + 2 := ⟨k - 2, by omega⟩
        rw [hP k (by omega), if_neg hc]
      · obtain ⟨j', rfl⟩ : ∃ j', j = j' + q + 2 := ⟨j - q - 2, by omega⟩
        rw [hR j' (by omega), if_neg hc]

theorem BintraceDecodes : fathomlaw05_BintraceDecodes.Pure := by
  intro l h1 h2 h3
  refine ⟨4000000, ?_⟩
  unfold fathomlaw05_BintraceDecodes.f
  rw [awake_spec _ (by omega)]
  by_cases hl : (l.length : Int) > 6000
  · rw [if_pos hl]; rfl
  rw [if_neg hl]
  simp only [Option.bind_some, List.nil_append, List.length_nil, Nat.zero_add]
  rw [if_pos (by omega)]
  have hb : ∀ x ∈ l, 0 ≤ x ∧ x ≤ 255 := fun x hx => by
    have := h3 x hx
    simp [Lit.wf, show IntKind.u8.min = 0 from by decide, show IntKind.u8.max = 255 from by decide] at this
    omega
  obtain ⟨r, r1, r2, r3, r4⟩ := outer_rel l hb (by omega) l.length 0 [] (by omega) (by simp) (by simp)
  have e1 : bintrace_Decode.f 4000000 l = some r := by
    unfold bintrace_Decode.f; rw [if_neg (by omega)]; exact_mod_cast r3 4000000 (by omega)
  have e2 : fathomref05_Decode.f 4000000 l = some r := by
    unfold fathomref05_Decode.f; exact_mod_cast r4 4000000 (by omega)
  rw [e1, e2]
  simp only [Option.bind_some, if_true]
  rw [Same_self r.1 (by omega) (fun x hx => by have := r2 x hx; omega) 4097 (fun x hx => by have := r2 x hx; omega) _ (by omega)]
  rfl

end Go.Proofs.Yteciockojllonaa.Pure
