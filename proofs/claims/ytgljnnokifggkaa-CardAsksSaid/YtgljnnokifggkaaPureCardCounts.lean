/-
The theorem of counting: the plain law. For every input, no condition.
-/
import Derived.Test.YtgljnnokifggkaaCardB
set_option linter.unusedVariables false
set_option linter.unusedSimpArgs false
set_option maxRecDepth 100000
namespace Go.Proofs.Ytgljnnokifggkaa.M
open Go Go.Proofs.Ytgljnnokifggkaa.Vm Go.Proofs.Ytgljnnokifggkaa.Pl
namespace Card
open Aig Vec
variable {g : List D_Gate} {m : Mp} {ins : List Bool}
/-- How many bits are enough (for numbers up to 100). -/
def enS (n : Nat) : Nat := if n < 2 then 1 else if n < 4 then 2 else if n < 8 then 3 else if n < 16 then 4 else if n < 32 then 5 else if n < 64 then 6 else 7
theorem enS_le (n : Nat) : 1 ≤ enS n ∧ enS n ≤ 7 := by unfold enS; (repeat' split) <;> omega
theorem enS_mono {a b : Nat} (h : a ≤ b) : enS a ≤ enS b := by unfold enS; (repeat' split) <;> omega
theorem enS_lt {n : Nat} (h : n ≤ 100) : (n : Int) < 2 ^ enS n := by
  unfold enS
  repeat' split
  all_goals (simp; omega)
theorem en69 (k : Nat) (hk : 20 ≤ k) {n : Nat} (h : n ≤ 100) : f69 k n = some ((((enS n : Nat) : Int), ()), ()) ∧ f70 k n = some ((((enS n : Nat) : Int), ()), ()) := by
  have key : f69 k n = some ((((enS n : Nat) : Int), ()), ()) := by
    unfold f69
    rw [decide_eq_false (by omega : ¬ (n : Int) < 0), decide_eq_false (by omega : ¬ (n : Int) > 65535)]
    simp only [cond_false]
    obtain ⟨r, hb, hr⟩ := len115 k (n := n) (by omega)
    unfold f108
    rw [Card.u64_id (by omega) (by omega), hr]
    simp only [Option.bind_some]
    have hmm : minmax true 1 (r : Int) = ((max 1 r : Nat) : Int) := by
      unfold minmax; simp only [if_true]; split <;> omega
    rw [hmm]
    have : max 1 r = enS n := by
      rcases hb with ⟨rfl, rfl⟩ | ⟨b1, b2, b3, b4, b5⟩
      · rfl
      · have hr8 : r < 8 := by
          rcases Nat.lt_or_ge r 8 with h8 | h8
          · exact h8
          · have := Nat.pow_le_pow_right (show 0 < 2 by omega) (show 7 ≤ r - 1 by omega)
            omega
        match r with
        | 0 => omega
        | 1 => simp at b4 b5; unfold enS; (repeat' split) <;> omega
        | 2 => simp at b4 b5; unfold enS; (repeat' split) <;> omega
        | 3 => simp at b4 b5; unfold enS; (repeat' split) <;> omega
        | 4 => simp at b4 b5; unfold enS; (repeat' split) <;> omega
        | 5 => simp at b4 b5; unfold enS; (repeat' split) <;> omega
        | 6 => simp at b4 b5; unfold enS; (repeat' split) <;> omega
        | 7 => simp at b4 b5; unfold enS; (repeat' split) <;> omega
        | r + 8 => omega
    rw [this]
  obtain ⟨r, h1, h2⟩ := Card.enough k n hk
  rw [key] at h1
  simp only [Option.some.injEq, Prod.mk.injEq, and_true] at h1
  rw [← h1] at h2
  exact ⟨key, h2⟩
theorem add46 (hv : Valid g) (hm : MapOk g m) (hg : g.length + 153 ≤ 1000000) {a b : List Int} {xs ys : List Bool} (hwa : Word ins g a xs) (hwb : Word ins g b ys) (hab : a.length = b.length) (h1 : 1 ≤ a.length) (h2 : a.length ≤ 16) :
    ∃ (g' : List D_Gate) (m' : Mp) (out : List Int), (∃ e, g' = g ++ e) ∧ Valid g' ∧ MapOk g' m' ∧ g'.length ≤ g.length + 153 ∧ Word ins g' out (addS xs ys false).1 ∧ E fun k => f46 k a b g m = some (.inr ((out, ()), ((g', (), ()), m', ()))) := by
  have hlen : xs.length = ys.length := by rw [← hwa.len, ← hwb.len]; exact hab
  have lz : isL g 0 = true := isL_iff.2 (by omega)
  obtain ⟨g', m', c', out, he, hv', hm', hl, lc, vc, hw, hE⟩ := sum96 (ins := ins) hv hm hg hwa hwb hab (by omega) lz (cb := false) val_zero
  refine ⟨g', m', out, he, hv', hm', hl, hw, hE.mono2 (E.ge 40) fun k e hk => ?_⟩
  have hol : out.length = a.length := by rw [hw.len, addS_len _ _ _ hlen, hwa.len]
  unfold f46
  rw [pair95 k (by omega) (by omega) hab h1 h2 hwa.lit hwb.lit]
  simp only [Option.bind_some, Bool.not_true, cond_false]
  rw [e]
  simp only [Option.bind_some]
  rw [whole92 (g := g') k (by omega) hw.lit (by omega)]
  rfl
theorem wide_loop (k : Nat) {w : Nat} (hw : w ≤ 100) : ∀ (d : Nat) (a : List Int), w - a.length = d → ∀ j, d < j → l117_12 k j a w = some ((a ++ List.replicate d 0, ()), ()) := by
  intro d
  induction d with
  | zero =>
    intro a ha j hj
    obtain ⟨j, rfl, _⟩ := succ_of (n := 0) (by omega : 0 + 1 ≤ j)
    show b117_12 k (l117_12 k j) a w = _
    unfold b117_12
    rw [decide_eq_false (by omega : ¬ (a.length : Int) < w)]; simp
  | succ d ih =>
    intro a ha j hj
    obtain ⟨j, rfl, hj2⟩ := succ_of (by omega : d + 1 + 1 ≤ j)
    show b117_12 k (l117_12 k j) a w = _
    unfold b117_12
    rw [decide_eq_true (by omega : (a.length : Int) < w), cond_true, gd_dec (by unfold room; omega), ih (a ++ [0]) (by rw [List.length_append]; simp; omega) j hj2]
    simp [List.replicate_succ]
theorem wide117 (k : Nat) (hk : 200 < k) {w : Nat} (hw : w ≤ 100) (a : List Int) : f117 k a w = some ((a ++ List.replicate (w - a.length) 0, ()), ()) := by
  unfold f117
  rw [wide_loop k hw (w - a.length) a rfl k (by omega)]; rfl
theorem word_pad {a : List Int} {xs : List Bool} (h : Word ins g a xs) (n : Nat) : Word ins g (a ++ List.replicate n 0) (xs ++ List.replicate n false) :=
  ⟨fun x hx => by
    rcases List.mem_append.1 hx with hx | hx
    · exact h.lit x hx
    · rw [(List.mem_replicate.1 hx).2]; exact isL_iff.2 (by omega), by
    rw [List.map_append, h.val, List.map_replicate, val_zero]⟩
theorem num_pad (xs : List Bool) (n : Nat) : num (xs ++ List.replicate n false) = num xs := by
  rw [num_append]
  have : ∀ n : Nat, num (List.replicate n false) = 0 := fun n => by
    induction n with
    | zero => rfl
    | succ n ih => rw [List.replicate_succ, num, ih]; rfl
  rw [this]; simp
theorem cntL_old {g' : List D_Gate} (h : ∃ e, g' = g ++ e) : ∀ {l : List Int}, (∀ x ∈ l, isL g x = true) → cntL (Aig.val ins g') l = cntL (Aig.val ins g) l
  | [], _ => rfl
  | x :: l, hl => by
    rw [cntL_cons, cntL_cons, (old_lit h (hl x (List.mem_cons_self ..))).2, cntL_old h fun y hy => hl y (List.mem_cons_of_mem _ hy)]
theorem count110 : ∀ (n : Nat) (l : List Int) (g : List D_Gate) (m : Mp), l.length ≤ n → l.length ≤ 64 → Valid g → MapOk g m → (∀ x ∈ l, isL g x = true) → g.length + 153 * l.length ≤ 900000 →
    ∃ (g' : List D_Gate) (m' : Mp) (out : List Int) (bs : List Bool), (∃ e, g' = g ++ e) ∧ Valid g' ∧ MapOk g' m' ∧ g'.length ≤ g.length + 153 * (l.length - 1) ∧ Word ins g' out bs ∧ num bs = cntL (Aig.val ins g) l ∧ out.length = enS l.length ∧
      E fun k => f110 k l g m = some (.inr ((out, ()), ((g', (), ()), m', ()))) := by
  intro n
  induction n with
  | zero =>
    intro l g m hn _ hv hm hl hg
    have h0 : l = [] := List.eq_nil_of_length_eq_zero (by omega)
    subst h0
    refine ⟨g, m, [0], [false], ⟨[], by simp⟩, hv, hm, by simp, ⟨fun x hx => by rw [List.mem_singleton.1 hx]; exact isL_iff.2 (by omega), by simp [val_zero]⟩, rfl, rfl, ?_⟩
    exact (E.all fun k => trivial).succ (P := fun _ => True) fun k _ => by rw [f110_succ]; rfl
  | succ n ih =>
    intro l g m hn h64 hv hm hl hg
    by_cases h0 : l.length = 0
    · have h0 : l = [] := List.eq_nil_of_length_eq_zero h0
      subst h0
      refine ⟨g, m, [0], [false], ⟨[], by simp⟩, hv, hm, by simp, ⟨fun x hx => by rw [List.mem_singleton.1 hx]; exact isL_iff.2 (by omega), by simp [val_zero]⟩, rfl, rfl, ?_⟩
      exact (E.all fun k => trivial).succ (P := fun _ => True) fun k _ => by rw [f110_succ]; rfl
    by_cases h1 : l.length = 1
    · obtain ⟨x, rfl⟩ := List.length_eq_one_iff.1 h1
      refine ⟨g, m, [x], [Aig.val ins g x], ⟨[], by simp⟩, hv, hm, by simp, ⟨hl, rfl⟩, ?_, rfl, ?_⟩
      · rw [cntL_cons, num]
        cases Aig.val ins g x <;> rfl
      · exact (E.all fun k => trivial).succ (P := fun _ => True) fun k _ => by rw [f110_succ]; rfl
    -- both halves
    have hh : (l.take (l.length / 2)).length = l.length / 2 := by rw [List.length_take]; omega
    have hd : (l.drop (l.length / 2)).length = l.length - l.length / 2 := List.length_drop ..
    obtain ⟨g1, m1, o1, b1, he1, hv1, hm1, hl1, hw1, n1, e1, hE1⟩ := ih (l.take (l.length / 2)) g m (by omega) (by omega) hv hm (fun x hx => hl x (List.mem_of_mem_take hx)) (by omega)
    have hl' : ∀ x ∈ l.drop (l.length / 2), isL g1 x = true := fun x hx => (old_lit (ins := ins) he1 (hl x (List.mem_of_mem_drop hx))).1
    obtain ⟨g2, m2, o2, b2, he2, hv2, hm2, hl2, hw2, n2, e2, hE2⟩ := ih (l.drop (l.length / 2)) g1 m1 (by omega) (by omega) hv1 hm1 hl' (by omega)
    rw [cntL_old he1 fun x hx => hl x (List.mem_of_mem_drop hx)] at n2
    have hen := enS_le l.length
    have s1 : enS (l.take (l.length / 2)).length ≤ enS l.length := enS_mono (by omega)
    have s2 : enS (l.drop (l.length / 2)).length ≤ enS l.length := enS_mono (by omega)
    have w1 := word_pad (old_word he2 hw1) (enS l.length - o1.length)
    have w2 := word_pad hw2 (enS l.length - o2.length)
    have q1 : (o1 ++ List.replicate (enS l.length - o1.length) 0).length = enS l.length := by rw [List.length_append, List.length_replicate]; omega
    have q2 : (o2 ++ List.replicate (enS l.length - o2.length) 0).length = enS l.length := by rw [List.length_append, List.length_replicate]; omega
    obtain ⟨g3, m3, out, he3, hv3, hm3, hl3, hw3, hE3⟩ := add46 (ins := ins) hv2 hm2 (by omega) w1 w2 (by rw [q1, q2]) (by omega) (by omega)
    have hbl : (b1 ++ List.replicate (enS l.length - o1.length) false).length = (b2 ++ List.replicate (enS l.length - o2.length) false).length := by rw [← w1.len, ← w2.len, q1, q2]
    have hsum := addS_num (b1 ++ List.replicate (enS l.length - o1.length) false) (b2 ++ List.replicate (enS l.length - o2.length) false) false hbl
    have hsl := addS_len (b1 ++ List.replicate (enS l.length - o1.length) false) (b2 ++ List.replicate (enS l.length - o2.length) false) false hbl
    rw [num_pad, num_pad, n1, n2, ← w1.len, q1] at hsum
    rw [← w1.len, q1] at hsl
    have hcnt : cntL (Aig.val ins g) l = cntL (Aig.val ins g) (l.take (l.length / 2)) + cntL (Aig.val ins g) (l.drop (l.length / 2)) := by
      conv => lhs; rw [← List.take_append_drop (l.length / 2) l]
      exact cntL_append ..
    have hlt := enS_lt (n := l.length) (by omega)
    have hcl := cntL_le (Aig.val ins g) l
    have hn0 := num_nonneg (addS (b1 ++ List.replicate (enS l.length - o1.length) false) (b2 ++ List.replicate (enS l.length - o2.length) false) false).1
    refine ⟨g3, m3, out, _, ext_trans (ext_trans he1 he2) he3, hv3, hm3, by omega, hw3, ?_, by rw [hw3.len, hsl], ?_⟩
    · rw [hcnt]
      generalize (2 : Int) ^ enS l.length = q at hsum hlt
      generalize num (addS (b1 ++ List.replicate (enS l.length - o1.length) false) (b2 ++ List.replicate (enS l.length - o2.length) false) false).1 = p at hsum hn0 ⊢
      cases hc : (addS (b1 ++ List.replicate (enS l.length - o1.length) false) (b2 ++ List.replicate (enS l.length - o2.length) false) false).2 with
      | true => rw [hc] at hsum; simp at hsum; omega
      | false => rw [hc] at hsum; simp at hsum; omega
    · refine E.succ (P := fun k => (f110 k (l.take (l.length / 2)) g m = some (.inr ((o1, ()), ((g1, (), ()), m1, ()))) ∧ f110 k (l.drop (l.length / 2)) g1 m1 = some (.inr ((o2, ()), ((g2, (), ()), m2, ())))) ∧ f46 k (o1 ++ List.replicate (enS l.length - o1.length) 0) (o2 ++ List.replicate (enS l.length - o2.length) 0) g2 m2 = some (.inr ((out, ()), ((g3, (), ()), m3, ()))) ∧ 300 ≤ k) ((hE1.and hE2).and (hE3.and (E.ge 300))) fun k hk => ?_
      obtain ⟨⟨k1, k2⟩, k3, hk⟩ := hk
      have t1 : w64 (Int.tdiv (l.length : Int) 2) = ((l.length / 2 : Nat) : Int) := by rw [tdiv_pos (by omega), w_id (by omega) (by omega)]; omega
      have t2 : ((l.length / 2 : Nat) : Int).toNat = l.length / 2 := by omega
      have ne1 : o1.isEmpty = false := by cases o1 with
        | nil => have := enS_le (l.take (l.length / 2)).length; rw [List.length_nil] at e1; omega
        | cons => rfl
      have ne2 : o2.isEmpty = false := by cases o2 with
        | nil => have := enS_le (l.drop (l.length / 2)).length; rw [List.length_nil] at e2; omega
        | cons => rfl
      rw [f110_succ]
      unfold b110
      rw [beq_int, beq_int, decide_eq_false (by omega : ¬ (l.length : Int) = 0), decide_eq_false (by omega : ¬ (l.length : Int) = 1)]
      simp only [cond_false]
      rw [(en69 k (by omega) (n := l.length) (by omega)).1]
      simp only [Option.bind_some, t1, t2]
      rw [gd_dec (by omega), gd_dec (by omega), List.drop_zero, k1]
      simp only [Option.bind_some]
      rw [gd_dec (by omega), gd_dec (by omega), k2]
      simp only [Option.bind_some, ne1, ne2, cond_false]
      rw [wide117 k (by omega) (by omega), wide117 k (by omega) (by omega)]
      simp only [Option.bind_some]
      rw [k3]; rfl
end Card
open Aig Vec Card in
theorem Pure.CardCounts (g : List D_Gate) (_ : Fit (.slice T_Gate) g) (ins : List Bool) (_ : Fit (.slice .bool) ins) (l : List Int) (_ : Fit (.slice i64) l) : ∃ k, f17 k g ins l = some ((true, ()), ()) := by
  rcases begin72 (g := g) (l := l) with ⟨m, hm, hv, hg, hl, hE⟩ | hE
  · cases hml : mayL g l with
    | false =>
      refine (hE.mono3 awakeE (E.ge 30000) fun k e e2 hk => ?_).ex
      unfold f17 l17_6
      rw [e]
      simp only [Option.bind_some]
      unfold l17_14 l17_28 l17_30s1
      simp only [Option.bind_some, Bool.not_true, cond_false]
      unfold f79
      rw [may109 k (by omega) (by omega) (by omega), hml]
      simp only [Option.bind_some, Bool.not_false, cond_true]
      unfold l17_62 l17_124
      rw [may74 k (by omega) (by omega) hl, hml]
      simp only [Option.bind_some, Bool.not_false, cond_true]
      rw [e2]; rfl
    | true =>
      have hml' := hml
      unfold mayL at hml'
      obtain ⟨h1, h2⟩ := Bool.and_eq_true_iff.1 hml'
      have h2 : l.length ≤ 64 := of_decide_eq_true h2
      have h1 : ∀ x ∈ l, isL g x = true := fun x hx => List.all_eq_true.1 h1 x hx
      obtain ⟨g', m', out, bs, he, hv', hm', hl', hw, hn, ho, hEc⟩ := count110 (ins := ins) l.length l g m (Nat.le_refl _) h2 hv hm h1 (by omega)
      refine ((hE.and hEc).mono3 awakeE (E.ge 30000) fun k e e2 hk => ?_).ex
      obtain ⟨e, ec⟩ := e
      have hen := enS_le l.length
      unfold f17 l17_6
      rw [e]
      simp only [Option.bind_some]
      unfold l17_14 l17_28 l17_30s1
      simp only [Option.bind_some, Bool.not_true, cond_false]
      unfold f79
      rw [may109 k (by omega) (by omega) (by omega), hml]
      simp only [Option.bind_some, Bool.not_true, cond_false]
      rw [ec]
      simp only [Option.bind_some]
      unfold l17_62 l17_124
      rw [may74 k (by omega) (by omega) hl, hml]
      simp only [Option.bind_some, Bool.not_true, cond_false]
      unfold l17_126 l17_252
      simp only [Option.bind_some]
      rw [(en69 k (by omega) (n := l.length) (by omega)).2]
      have hol : ((out.length : Int) == ((enS l.length : Nat) : Int)) = true := by rw [ho, beq_self_eq_true]
      by_cases h30 : (l.length : Int) > 30
      · rw [decide_eq_true h30, cond_true]
        simp only [Option.bind_some, hol, cond_true]
        rw [e2]; rfl
      · rw [decide_eq_false h30, cond_false]
        simp only [Option.bind_some]
        unfold l17_254s1
        rw [nodes23 k (by omega)]
        simp only [Option.bind_some]
        rw [eval31 (ins := ins) k hv' (by omega) (by omega)]
        simp only [Option.bind_some]
        simp only [hol, cond_true]
        rw [number43 k (by omega) (by omega) (fun x hx => lit_i64 (by omega) (hw.lit x hx))]
        have ev : out.map (value (Ev g' ins)) = bs := hw.val
        simp only [Option.bind_some]
        rw [ev, hn, true75 (ins := ins) k hv (by omega) (by omega) (by omega) h1]
        simp only [Option.bind_some, beq_self_eq_true, cond_true]
        rw [e2]; rfl
  · refine (hE.mono2 awakeE fun k e e2 => ?_).ex
    unfold f17 l17_6
    rw [e]
    simp only [Option.bind_some]
    unfold l17_14 l17_28
    simp only [Option.bind_some, Bool.not_false, cond_true]
    rw [e2]; rfl
end Go.Proofs.Ytgljnnokifggkaa.M
