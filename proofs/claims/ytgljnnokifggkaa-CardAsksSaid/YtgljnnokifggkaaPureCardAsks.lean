/-
The theorem of bounds: the plain law. For every input, no condition.
-/
import Derived.Test.YtgljnnokifggkaaPureCardCounts
set_option linter.unusedVariables false
set_option linter.unusedSimpArgs false
set_option maxRecDepth 100000
namespace Go.Proofs.Ytgljnnokifggkaa.M
open Go Go.Proofs.Ytgljnnokifggkaa.Vm Go.Proofs.Ytgljnnokifggkaa.Pl
namespace Card
open Aig Vec
variable {g : List D_Gate} {m : Mp} {ins : List Bool}
theorem ibits_and1 (x : Int) : ibits .and .i64 x 1 = x % 2 := by
  have e1 : (BitVec.ofInt 64 x &&& BitVec.ofInt 64 1).toNat = (x % 2).toNat := by
    rw [BitVec.toNat_and]
    have h1 : (BitVec.ofInt 64 1).toNat = 1 := rfl
    rw [h1, Nat.and_one_is_mod, BitVec.toNat_ofInt]
    omega
  show IntKind.i64.wrap ((BitVec.ofInt 64 x &&& BitVec.ofInt 64 1).toNat : Int) = _
  rw [e1]
  have := w64_id (n := (((x % 2).toNat : Nat) : Int)) (by omega) (by omega)
  unfold w64 at this
  rw [this]; omega
theorem two_pos (i : Nat) : (0 : Int) < 2 ^ i := Int.pow_pos (by decide)
/-- A number's bits, as literals. -/
def litsB : Nat → Int → List Int
  | 0, _ => []
  | d + 1, n => (n % 2) :: litsB d (n / 2)
theorem litsB_len : ∀ (d : Nat) (n : Int), (litsB d n).length = d
  | 0, _ => rfl
  | d + 1, n => by rw [litsB, List.length_cons, litsB_len d]
theorem litsB_word : ∀ (d : Nat) (n : Int), Word ins g (litsB d n) (bitsB d n)
  | 0, _ => Word.nil
  | d + 1, n => by
    have ih : Word ins g (litsB d (n / 2)) (bitsB d (n / 2)) := litsB_word d (n / 2)
    rcases (by omega : n % 2 = 0 ∨ n % 2 = 1) with h | h
    · refine ⟨fun x hx => ?_, ?_⟩
      · rw [litsB] at hx
        rcases List.mem_cons.1 hx with rfl | hx
        · rw [h]; exact isL_iff.2 (by omega)
        · exact ih.lit x hx
      · rw [litsB, bitsB, List.map_cons, ih.val, h, val_zero]; rfl
    · refine ⟨fun x hx => ?_, ?_⟩
      · rw [litsB] at hx
        rcases List.mem_cons.1 hx with rfl | hx
        · rw [h]; exact isL_iff.2 (by omega)
        · exact ih.lit x hx
      · rw [litsB, bitsB, List.map_cons, ih.val, h, val_one]; rfl
theorem const_loop (k : Nat) (n : Int) {w : Nat} (hw : w ≤ 16) : ∀ (d i : Nat) (a : List Int), w - i = d → a.length = i → i ≤ w → ∀ j, d < j → l37_122 k j n a w i = some ((a ++ litsB d (n / 2 ^ i), ()), ()) := by
  intro d
  induction d with
  | zero =>
    intro i a hi ha hiw j hj
    obtain ⟨j, rfl, _⟩ := succ_of (n := 0) (by omega : 0 + 1 ≤ j)
    show b37_122 k (l37_122 k j) n a w i = _
    unfold b37_122
    rw [decide_eq_false (by omega : ¬ (i : Int) < w)]
    simp [litsB]
  | succ d ih =>
    intro i a hi ha hiw j hj
    obtain ⟨j, rfl, hj2⟩ := succ_of (by omega : d + 1 + 1 ≤ j)
    show b37_122 k (l37_122 k j) n a w i = _
    have hw1 : w64 ((i : Int) + 1) = ((i + 1 : Nat) : Int) := by rw [w_id (by omega) (by omega)]; omega
    have hmin : min ((i : Int).toNat) 64 = i := by omega
    have hdd : n / 2 ^ (i + 1) = n / 2 ^ i / 2 := by rw [Int.pow_succ, Int.ediv_ediv_of_nonneg (Int.le_of_lt (two_pos i))]
    unfold b37_122
    rw [decide_eq_true (by omega : (i : Int) < w), cond_true, decide_eq_false (by omega : ¬ (i : Int) < 0), cond_false, gd_dec (by unfold room; omega), hw1, hmin, ibits_and1, Int.fdiv_eq_ediv_of_nonneg _ (Int.le_of_lt (two_pos i)),
      ih (i + 1) _ (by omega) (by simp; omega) (by omega) j hj2, Option.bind_some, List.append_assoc, hdd]
    rfl
theorem const37 (k : Nat) (n : Int) {w : Nat} (h1 : 1 ≤ w) (hw : w ≤ 16) (hk : 16 < k) : f37 k n w = some ((litsB w n, ()), ()) := by
  unfold f37
  have := const_loop k n hw w 0 [] (by omega) rfl (by omega) k (by omega)
  rw [show ((0 : Nat) : Int) = 0 from rfl] at this
  rw [decide_eq_false (by omega : ¬ (w : Int) < 1), decide_eq_false (by omega : ¬ (w : Int) > 16), cond_false, cond_false, this]
  simp
/-- At least so many. -/
theorem least76 {l : List Int} (hml : mayL g l = true) (hv : Valid g) (hm : MapOk g m) (hg : g.length ≤ 400000) (kk : Int) :
    Vec.Op ins g 9800 (fun k => f76 k l kk g m) (decide (kk ≤ cntL (Aig.val ins g) l)) := by
  have hml' := hml
  unfold mayL at hml'
  obtain ⟨h1, h2⟩ := Bool.and_eq_true_iff.1 hml'
  have h2 : l.length ≤ 64 := of_decide_eq_true h2
  have h1 : ∀ x ∈ l, isL g x = true := fun x hx => List.all_eq_true.1 h1 x hx
  obtain ⟨g', m', out, bs, he, hv', hm', hl', hw, hn, ho, hEc⟩ := count110 (ins := ins) l.length l g m (Nat.le_refl _) h2 hv hm h1 (by omega)
  have hen := enS_le l.length
  have hcl := cntL_le (Aig.val ins g) l
  have hoe : out.isEmpty = false := by cases out with
    | nil => rw [List.length_nil] at ho; omega
    | cons => rfl
  have start : E fun k => f79 k l g m = some (.inr ((out, ()), ((g', (), ()), m', ()))) := hEc.mono2 (E.ge 300) fun k e hk => by
    unfold f79
    rw [may109 k (by omega) (by omega) (by omega), hml]
    simp only [Option.bind_some, Bool.not_true, cond_false]
    rw [e]; rfl
  by_cases hk0 : kk ≤ 0
  · refine ⟨g', m', 1, he, hv', hm', by omega, isL_iff.2 (by omega), ?_, start.mono fun k e => ?_⟩
    · rw [val_one, decide_eq_true (by omega)]
    · show f76 k l kk g m = _
      unfold f76
      rw [e]
      simp only [Option.bind_some, hoe, cond_false]
      rw [decide_eq_true hk0, cond_true]
  by_cases hkl : kk > (l.length : Int)
  · refine ⟨g', m', 0, he, hv', hm', by omega, isL_iff.2 (by omega), ?_, start.mono fun k e => ?_⟩
    · rw [val_zero, decide_eq_false (by omega)]
    · show f76 k l kk g m = _
      unfold f76
      rw [e]
      simp only [Option.bind_some, hoe, cond_false]
      rw [decide_eq_false hk0, decide_eq_true hkl, cond_false, cond_true]
  have hlt := enS_lt (n := l.length) (by omega)
  have hnum : num (bitsB (enS l.length) kk) = kk := by
    rw [num_bits, Int.emod_eq_of_lt (by omega) (by omega)]
  obtain ⟨g2, m2, r, he2, hv2, hm2, hl2, lr, vr, hE2⟩ := less65 (ins := ins) hv' hm' (by omega) hw (litsB_word (enS l.length) kk) (by rw [litsB_len, ho]) (by omega) (by omega)
  rw [hn, hnum] at vr
  have hr := isL_iff.1 lr
  refine ⟨g2, m2, nt r, ext_trans he he2, hv2, hm2, by omega, isL_nt lr, ?_, (start.and hE2).mono2 (E.ge 300) fun k e hk => ?_⟩
  · rw [vnt lr, vr]
    by_cases h : kk ≤ (cntL (Aig.val ins g) l : Int)
    · rw [decide_eq_true h, decide_eq_false (by omega)]; rfl
    · rw [decide_eq_false h, decide_eq_true (by omega)]; rfl
  · obtain ⟨e, e2⟩ := e
    dsimp only at e2
    show f76 k l kk g m = _
    have ec : (out.length : Int) = ((enS l.length : Nat) : Int) := by rw [ho]
    unfold f76
    rw [e]
    simp only [Option.bind_some, hoe, cond_false]
    rw [decide_eq_false hk0, decide_eq_false hkl, cond_false, cond_false, ec, const37 k kk (by omega) (by omega) (by omega)]
    simp only [Option.bind_some]
    rw [e2]
    simp only [Option.bind_some, beq_int]
    rw [decide_eq_false (by omega : ¬ r = -1), cond_false, xor1w (by omega) lr]
/-- At most so many. -/
theorem most77 {l : List Int} (hml : mayL g l = true) (hv : Valid g) (hm : MapOk g m) (hg : g.length ≤ 400000) (kk : Int) :
    Vec.Op ins g 9800 (fun k => f77 k l kk g m) (decide ((cntL (Aig.val ins g) l : Int) ≤ kk)) := by
  have hml' := hml
  unfold mayL at hml'
  have h2 : l.length ≤ 64 := of_decide_eq_true (Bool.and_eq_true_iff.1 hml').2
  have hcl := cntL_le (Aig.val ins g) l
  by_cases hkl : kk ≥ (l.length : Int)
  · obtain ⟨g2, m2, r, he2, hv2, hm2, hl2, lr, vr, hE2⟩ := least76 (ins := ins) hml hv hm hg ((l.length : Int) + 1)
    have hr := isL_iff.1 lr
    refine ⟨g2, m2, nt r, he2, hv2, hm2, hl2, isL_nt lr, ?_, hE2.mono fun k e => ?_⟩
    · rw [vnt lr, vr, decide_eq_false (by omega), decide_eq_true (by omega)]; rfl
    · dsimp only at e
      show f77 k l kk g m = _
      have e1 : w64 (minmax true (l.length : Int) (-1) + 1) = (l.length : Int) + 1 := by
        rw [minmax_max, w_id (by omega) (by omega)]; omega
      unfold f77
      rw [decide_eq_true hkl, cond_true, e1, e]
      simp only [Option.bind_some, beq_int]
      rw [decide_eq_false (by omega : ¬ r = -1), cond_false, xor1w (by omega) lr]
  · obtain ⟨g2, m2, r, he2, hv2, hm2, hl2, lr, vr, hE2⟩ := least76 (ins := ins) hml hv hm hg (max kk (-1) + 1)
    have hr := isL_iff.1 lr
    refine ⟨g2, m2, nt r, he2, hv2, hm2, hl2, isL_nt lr, ?_, hE2.mono fun k e => ?_⟩
    · rw [vnt lr, vr]
      by_cases h : (cntL (Aig.val ins g) l : Int) ≤ kk
      · rw [decide_eq_true h, decide_eq_false (by omega)]; rfl
      · rw [decide_eq_false h, decide_eq_true (by omega)]; rfl
    · dsimp only at e
      show f77 k l kk g m = _
      have e1 : w64 (minmax true kk (-1) + 1) = max kk (-1) + 1 := by
        rw [minmax_max, w_id (by omega) (by omega)]
      unfold f77
      rw [decide_eq_false hkl, cond_false, e1, e]
      simp only [Option.bind_some, beq_int]
      rw [decide_eq_false (by omega : ¬ r = -1), cond_false, xor1w (by omega) lr]
theorem mayL_old {g' : List D_Gate} (h : ∃ e, g' = g ++ e) {l : List Int} (hl : mayL g l = true) : mayL g' l = true := by
  unfold mayL at hl ⊢
  obtain ⟨h1, h2⟩ := Bool.and_eq_true_iff.1 hl
  rw [h2, Bool.and_true]
  exact List.all_eq_true.2 fun x hx => (old_lit (ins := []) h (List.all_eq_true.1 h1 x hx)).1
theorem mayL_lit {l : List Int} (hl : mayL g l = true) : ∀ x ∈ l, isL g x = true := by
  unfold mayL at hl
  exact fun x hx => List.all_eq_true.1 (Bool.and_eq_true_iff.1 hl).1 x hx
/-- Just so many. -/
theorem just78 {l : List Int} (hml : mayL g l = true) (hv : Valid g) (hm : MapOk g m) (hg : g.length ≤ 200000) (kk : Int) :
    Vec.Op ins g 19601 (fun k => f78 k l kk g m) (decide ((cntL (Aig.val ins g) l : Int) = kk)) := by
  obtain ⟨g1, m1, r1, he1, hv1, hm1, hl1, lr1, vr1, hE1⟩ := least76 (ins := ins) hml hv hm (by omega) kk
  obtain ⟨g2, m2, r2, he2, hv2, hm2, hl2, lr2, vr2, hE2⟩ := most77 (ins := ins) (mayL_old he1 hml) hv1 hm1 (by omega) kk
  rw [cntL_old he1 (mayL_lit hml)] at vr2
  have lr1' := old_lit (ins := ins) he2 lr1
  obtain ⟨g3, m3, r3, he3, hv3, hm3, hl3, lr3, vr3, hE3⟩ := and_op (ins := ins) hv2 hm2 (by omega) lr1'.1 lr2
  have h1 := isL_iff.1 lr1
  have h2 := isL_iff.1 lr2
  refine ⟨g3, m3, r3, ext_trans (ext_trans he1 he2) he3, hv3, hm3, by omega, lr3, ?_, hE1.mono3 hE2 hE3 fun k e1 e2 e3 => ?_⟩
  · rw [vr3, lr1'.2, vr1, vr2]
    by_cases h : (cntL (Aig.val ins g) l : Int) = kk
    · rw [decide_eq_true h, decide_eq_true (by omega), decide_eq_true (by omega)]; rfl
    · rw [decide_eq_false h]
      by_cases h' : kk ≤ (cntL (Aig.val ins g) l : Int)
      · rw [decide_eq_true h', decide_eq_false (by omega)]; rfl
      · rw [decide_eq_false h']; rfl
  · dsimp only at e1 e2 e3
    show f78 k l kk g m = _
    unfold f78
    rw [e1]
    simp only [Option.bind_some]
    rw [e2]
    simp only [Option.bind_some, beq_int]
    rw [decide_eq_false (by omega : ¬ r1 = -1), decide_eq_false (by omega : ¬ r2 = -1), cond_false, cond_false]
    rw [e3]; rfl
/-- Where literals can't be counted. -/
theorem no79 (k : Nat) (hk : 200 < k) (hg : g.length ≤ 1000) {l : List Int} (hl : l.length ≤ 100) (hml : mayL g l = false) (kk : Int) :
    f76 k l kk g m = some ((-1, ()), ((g, (), ()), m, ())) ∧ f77 k l kk g m = some ((-1, ()), ((g, (), ()), m, ())) ∧ f78 k l kk g m = some ((-1, ()), ((g, (), ()), m, ())) := by
  have h79 : f79 k l g m = some (.inl (((), ()), ((g, (), ()), m, ()))) := by
    unfold f79
    rw [may109 k hk (by omega) hl, hml]; rfl
  have h76 : ∀ q, f76 k l q g m = some ((-1, ()), ((g, (), ()), m, ())) := fun q => by
    unfold f76
    rw [h79]; rfl
  have h77 : f77 k l kk g m = some ((-1, ()), ((g, (), ()), m, ())) := by
    unfold f77
    rw [h76, h76]
    simp only [Option.bind_some, beq_self_eq_true, cond_true]
    cases decide (kk ≥ (l.length : Int)) <;> rfl
  refine ⟨h76 kk, h77, ?_⟩
  unfold f78
  rw [h76]
  simp only [Option.bind_some]
  rw [h77]
  simp only [Option.bind_some, beq_self_eq_true, cond_true]
end Card
open Aig Vec Card in
theorem Pure.CardAsks (g : List D_Gate) (_ : Fit (.slice T_Gate) g) (ins : List Bool) (_ : Fit (.slice .bool) ins) (q : D_Asked) (_ : Fit T_Asked q) : ∃ k, f16 k g ins q = some ((true, ()), ()) := by
  obtain ⟨l, kk, u⟩ := q
  rcases begin72 (g := g) (l := l) with ⟨m, hm, hv, hg, hl, hE⟩ | hE
  · cases hml : mayL g l with
    | false =>
      refine (hE.mono3 awakeE (E.ge 30000) fun k e e2 hk => ?_).ex
      have hn := no79 (m := m) k (by omega) (by omega : g.length ≤ 1000) hl hml kk
      unfold f16
      dsimp only
      rw [e]
      simp only [Option.bind_some, Bool.not_true, cond_false]
      rw [hn.1]
      simp only [Option.bind_some]
      rw [hn.2.1]
      simp only [Option.bind_some]
      rw [hn.2.2]
      simp only [Option.bind_some]
      rw [may74 k (by omega) (by omega) hl, hml]
      simp only [Option.bind_some, Bool.not_false, cond_true, beq_self_eq_true]
      rw [e2]; rfl
    | true =>
      obtain ⟨g1, m1, r1, he1, hv1, hm1, hl1, lr1, vr1, hE1⟩ := least76 (ins := ins) hml hv hm (by omega) kk
      obtain ⟨g2, m2, r2, he2, hv2, hm2, hl2, lr2, vr2, hE2⟩ := most77 (ins := ins) (mayL_old he1 hml) hv1 hm1 (by omega) kk
      have he12 := ext_trans he1 he2
      obtain ⟨g3, m3, r3, he3, hv3, hm3, hl3, lr3, vr3, hE3⟩ := just78 (ins := ins) (mayL_old he12 hml) hv2 hm2 (by omega) kk
      rw [cntL_old he1 (mayL_lit hml)] at vr2
      rw [cntL_old he12 (mayL_lit hml)] at vr3
      have q1 := old_lit (ins := ins) (ext_trans he2 he3) lr1
      have q2 := old_lit (ins := ins) he3 lr2
      have w1 : value (Ev g3 ins) r1 = decide (kk ≤ (cntL (Aig.val ins g) l : Int)) := q1.2.trans vr1
      have w2 : value (Ev g3 ins) r2 = decide ((cntL (Aig.val ins g) l : Int) ≤ kk) := q2.2.trans vr2
      have w3 : value (Ev g3 ins) r3 = decide ((cntL (Aig.val ins g) l : Int) = kk) := vr3
      have b1 := isL_iff.1 lr1
      have b2 := isL_iff.1 lr2
      have b3 := isL_iff.1 lr3
      refine ((hE.and hE1).mono3 (hE2.and hE3) (awakeE.and (E.ge 100000)) fun k ea eb ec => ?_).ex
      obtain ⟨e, e1⟩ := ea
      obtain ⟨e2, e3⟩ := eb
      dsimp only at e1 e2 e3
      obtain ⟨ew, hk⟩ := ec
      unfold f16
      dsimp only
      rw [e]
      simp only [Option.bind_some, Bool.not_true, cond_false]
      rw [e1]
      simp only [Option.bind_some]
      rw [e2]
      simp only [Option.bind_some]
      rw [e3]
      simp only [Option.bind_some]
      rw [may74 k (by omega) (by omega) hl, hml]
      simp only [Option.bind_some, Bool.not_true, cond_false]
      rw [decide_eq_true (by omega : r1 ≥ 0), decide_eq_true (by omega : r2 ≥ 0), decide_eq_true (by omega : r3 ≥ 0)]
      by_cases h30 : (l.length : Int) > 30
      · rw [decide_eq_true h30, cond_true]
        simp only [cond_true]
        rw [ew]; rfl
      · rw [decide_eq_false h30, cond_false]
        rw [true75 (ins := ins) k hv (by omega) (by omega) (by omega) (mayL_lit hml)]
        simp only [Option.bind_some]
        rw [nodes23 k (by omega)]
        simp only [Option.bind_some]
        rw [eval31 (ins := ins) k hv3 (by omega) (by omega)]
        simp only [Option.bind_some, cond_true]
        rw [value34 k (lit_i64 (by omega) q1.1), value34 k (lit_i64 (by omega) q2.1), value34 k (lit_i64 (by omega) lr3)]
        simp only [Option.bind_some]
        have c1 : (value (Ev g3 ins) r1 == decide ((cntL (Aig.val ins g) l : Int) ≥ kk)) = true := by rw [w1]; exact beq_self_eq_true _
        have c2 : (value (Ev g3 ins) r2 == decide ((cntL (Aig.val ins g) l : Int) ≤ kk)) = true := by rw [w2]; exact beq_self_eq_true _
        have c3 : (value (Ev g3 ins) r3 == ((cntL (Aig.val ins g) l : Int) == kk)) = true := by rw [w3, beq_int]; exact beq_self_eq_true _
        rw [c1, c2, c3]
        simp only [cond_true]
        rw [ew]; rfl
  · refine (hE.mono2 awakeE fun k e e2 => ?_).ex
    unfold f16
    dsimp only
    rw [e]
    simp only [Option.bind_some, Bool.not_false, cond_true]
    rw [e2]; rfl
end Go.Proofs.Ytgljnnokifggkaa.M
