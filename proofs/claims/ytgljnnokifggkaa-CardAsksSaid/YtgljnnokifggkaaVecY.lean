/-
Words of bits: what each of the program's functions makes of words.
-/
import Derived.Test.YtgljnnokifggkaaVecX
set_option linter.unusedVariables false
set_option linter.unusedSimpArgs false
set_option maxRecDepth 100000
namespace Go.Proofs.Ytgljnnokifggkaa.M
open Go Go.Proofs.Ytgljnnokifggkaa.Vm Go.Proofs.Ytgljnnokifggkaa.Pl
namespace Vec
open Aig
variable {g : List D_Gate} {m : Mp} {ins : List Bool}

/-! ### one literal is made -/
/-- A literal is made that is so by inputs; the graph is longer by so many nodes at most. -/
def Op (ins : List Bool) (g : List D_Gate) (N : Nat) (f : Nat → Option R19) (w : Bool) : Prop :=
  ∃ (g' : List D_Gate) (m' : Mp) (r : Int), (∃ e, g' = g ++ e) ∧ Valid g' ∧ MapOk g' m' ∧ g'.length ≤ g.length + N ∧ isL g' r = true ∧ Aig.val ins g' r = w ∧ E fun k => f k = some ((r, ()), ((g', (), ()), m', ()))
theorem op_of {f : Nat → Option R19} {p : List D_Gate × Int} {w : Bool} {N : Nat} (h : ProgE f p) (ht : Aig.Told ins g p w) (hl : p.1.length ≤ g.length + N) : Op ins g N f w := by
  obtain ⟨m', h1, h2⟩ := h
  exact ⟨p.1, m', p.2, ht.ext, ht.ok, h1, hl, ht.lit, ht.val, h2⟩
theorem and_op (hv : Valid g) (hm : MapOk g m) (hg : g.length ≤ 1000000) {a b : Int} (ha : isL g a = true) (hb : isL g b = true) : Op ins g 1 (fun k => f19 k a b g m) (Aig.val ins g a && Aig.val ins g b) :=
  op_of (and19E hv hm (by omega) a b) (And_told hv ha hb (by omega)) (And_keeps keeps_valid a b hv).2.2.1
theorem or_op (hv : Valid g) (hm : MapOk g m) (hg : g.length ≤ 1000000) {a b : Int} (ha : isL g a = true) (hb : isL g b = true) : Op ins g 1 (fun k => f26 k a b g m) (Aig.val ins g a || Aig.val ins g b) :=
  op_of (or26E hv hm (by omega) (lit_i64 (by omega) ha) (lit_i64 (by omega) hb)) (Or_told hv ha hb (by omega)) (Or_keeps keeps_valid a b hv).2.2.1
theorem xor_op (hv : Valid g) (hm : MapOk g m) (hg : g.length ≤ 1000000) {a b : Int} (ha : isL g a = true) (hb : isL g b = true) : Op ins g 3 (fun k => f27 k a b g m) (!(Aig.val ins g a == Aig.val ins g b)) :=
  op_of (xor27E hv hm (by omega) (lit_i64 (by omega) ha) (lit_i64 (by omega) hb)) (Xor_told hv ha hb (by omega)) (Xor_keeps keeps_valid a b hv).2.2.1
theorem ite_op (hv : Valid g) (hm : MapOk g m) (hg : g.length ≤ 1000000) {c a b : Int} (hc : isL g c = true) (ha : isL g a = true) (hb : isL g b = true) : Op ins g 3 (fun k => f28 k c a b g m) (cond (Aig.val ins g c) (Aig.val ins g a) (Aig.val ins g b)) :=
  op_of (ite28E hv hm (by omega) (lit_i64 (by omega) hc) (lit_i64 (by omega) ha) (lit_i64 (by omega) hb)) (Ite_told hv hc ha hb (by omega)) (Ite_keeps keeps_valid c a b hv).2.2.1
/-- What was a literal is one, and is as it was. -/
theorem old_lit {g' : List D_Gate} (h : ∃ e, g' = g ++ e) {l : Int} (hl : isL g l = true) : isL g' l = true ∧ Aig.val ins g' l = Aig.val ins g l := by
  obtain ⟨e, rfl⟩ := h
  exact ⟨isL_ext hl, val_ext e (isL_iff.1 hl).2⟩
theorem old_word {g' : List D_Gate} (h : ∃ e, g' = g ++ e) {a : List Int} {bs : List Bool} (hl : Word ins g a bs) : Word ins g' a bs := by
  obtain ⟨e, rfl⟩ := h; exact hl.ext e
theorem ext_trans {g' g'' : List D_Gate} (h : ∃ e, g' = g ++ e) (h' : ∃ e, g'' = g' ++ e) : ∃ e, g'' = g ++ e := by
  obtain ⟨e, rfl⟩ := h
  obtain ⟨e', rfl⟩ := h'
  exact ⟨e ++ e', by rw [List.append_assoc]⟩

/-! ### bit by bit -/
def OpW (ins : List Bool) (g : List D_Gate) (N : Nat) (f : Nat → Option R53) (bs : List Bool) : Prop :=
  ∃ (g' : List D_Gate) (m' : Mp) (out : List Int), (∃ e, g' = g ++ e) ∧ Valid g' ∧ MapOk g' m' ∧ g'.length ≤ g.length + N ∧ Word ins g' out bs ∧ E fun k => f k = some ((out, ()), ((g', (), ()), m', ()))
def zipB (f : Bool → Bool → Bool) : List Bool → List Bool → List Bool
  | x :: xs, y :: ys => f x y :: zipB f xs ys
  | _, _ => []
theorem zipB_len (f : Bool → Bool → Bool) : ∀ a b : List Bool, a.length = b.length → (zipB f a b).length = a.length
  | [], [], _ => rfl
  | [], _ :: _, h => by simp at h
  | _ :: _, [], h => by simp at h
  | x :: a, y :: b, h => by rw [zipB, List.length_cons, List.length_cons, zipB_len f a b (by simpa using h)]
theorem zipB_drop (f : Bool → Bool → Bool) {xs ys : List Bool} {i : Nat} {x y : Bool} (hx : xs[i]? = some x) (hy : ys[i]? = some y) : zipB f (xs.drop i) (ys.drop i) = f x y :: zipB f (xs.drop (i + 1)) (ys.drop (i + 1)) := by
  have h1 := Vm.getElem?_lt hx
  have h2 := Vm.getElem?_lt hy
  rw [List.drop_eq_getElem_cons h1, List.drop_eq_getElem_cons h2, zipB]
  rw [List.getElem?_eq_getElem h1] at hx
  rw [List.getElem?_eq_getElem h2] at hy
  simp only [Option.some.injEq] at hx hy
  rw [hx, hy]
theorem xor_loop {a b : List Int} {xs ys : List Bool} (hab : a.length = b.length) (ha : a.length ≤ 16) : ∀ (d i : Nat) (g : List D_Gate) (m : Mp) (out : List Int) (bs : List Bool), a.length - i = d → i ≤ a.length → Valid g → MapOk g m → g.length + 3 * d ≤ 1000000 →
    Word ins g a xs → Word ins g b ys → Word ins g out bs → out.length = i →
    ∃ (g' : List D_Gate) (m' : Mp) (out' : List Int), (∃ e, g' = g ++ e) ∧ Valid g' ∧ MapOk g' m' ∧ g'.length ≤ g.length + 3 * d ∧ Word ins g' out' (bs ++ zipB (fun x y => !(x == y)) (xs.drop i) (ys.drop i)) ∧
      E fun k => ∀ j, d < j → l97v2_122 k j a b out a.length i g m = some ((out', ()), ((g', (), ()), m', ())) := by
  intro d
  induction d with
  | zero =>
    intro i g m out bs hi hia hv hm hg hwa hwb hwo ho
    refine ⟨g, m, out, ⟨[], by simp⟩, hv, hm, by omega, ?_, .all fun k j hj => ?_⟩
    · have e1 : xs.drop i = [] := List.drop_of_length_le (by have := hwa.len; omega)
      rw [e1]; simpa [zipB] using hwo
    · obtain ⟨j, rfl, _⟩ := succ_of (n := 0) (by omega : 0 + 1 ≤ j)
      show b97v2_122 k (l97v2_122 k j) a b out a.length i g m = _
      unfold b97v2_122
      rw [decide_eq_false (by omega : ¬ (i : Int) < a.length)]; rfl
  | succ d ih =>
    intro i g m out bs hi hia hv hm hg hwa hwb hwo ho
    have hw1 : w64 ((i : Int) + 1) = ((i + 1 : Nat) : Int) := by rw [w_id (by omega) (by omega)]; omega
    obtain ⟨x, bx, hx, hbx, lx, vx⟩ := hwa.get (i := i) (by omega)
    obtain ⟨y, by_, hy, hby, ly, vy⟩ := hwb.get (i := i) (by omega)
    obtain ⟨g1, m1, r, he1, hv1, hm1, hl1, lr, vr, hE1⟩ := xor_op (ins := ins) hv hm (by omega) lx ly
    obtain ⟨g2, m2, out2, he2, hv2, hm2, hl2, hw2, hE2⟩ := ih (i + 1) g1 m1 (out ++ [r]) (bs ++ [!(bx == by_)]) (by omega) (by omega) hv1 hm1 (by omega) (old_word he1 hwa) (old_word he1 hwb) ((old_word he1 hwo).snoc lr (by rw [vr, vx, vy])) (by rw [List.length_append, ho]; rfl)
    refine ⟨g2, m2, out2, ext_trans he1 he2, hv2, hm2, by omega, ?_, hE1.mono2 hE2 fun k e1 e2 j hj => ?_⟩
    · rw [zipB_drop _ hbx hby]
      rw [List.append_assoc] at hw2; exact hw2
    · obtain ⟨j, rfl, hj2⟩ := succ_of (by omega : d + 1 + 1 ≤ j)
      show b97v2_122 k (l97v2_122 k j) a b out a.length i g m = _
      dsimp only at e1
      unfold b97v2_122
      rw [decide_eq_true (by omega : (i : Int) < a.length), cond_true, ix_nat hx, ix_nat hy, e1]
      simp only [Option.bind_some]
      rw [gd_dec (by unfold room; omega), hw1, e2 j hj2]; rfl
theorem xor53 (hv : Valid g) (hm : MapOk g m) (hg : g.length + 48 ≤ 1000000) {a b : List Int} {xs ys : List Bool} (hwa : Word ins g a xs) (hwb : Word ins g b ys) (hab : a.length = b.length) (h1 : 1 ≤ a.length) (h2 : a.length ≤ 16) :
    OpW ins g 48 (fun k => f53 k a b g m) (zipB (fun x y => !(x == y)) xs ys) := by
  obtain ⟨g', m', out, he, hv', hm', hl, hw, hE⟩ := xor_loop (ins := ins) hab h2 a.length 0 g m [] [] (by omega) (by omega) hv hm (by omega) hwa hwb Word.nil rfl
  rw [List.drop_zero, List.drop_zero, List.nil_append] at hw
  refine ⟨g', m', out, he, hv', hm', by omega, hw, hE.mono2 (E.ge 30) fun k e hk => ?_⟩
  have hol : out.length = a.length := by rw [hw.len, zipB_len _ _ _ (by rw [← hwa.len, ← hwb.len]; exact hab), hwa.len]
  have e := e k (by omega)
  rw [show ((0 : Nat) : Int) = 0 from rfl] at e
  show f53 k a b g m = _
  unfold f53 f97v2
  rw [pair95 k (by omega) (by omega) hab h1 h2 hwa.lit hwb.lit]
  simp only [Option.bind_some, Bool.not_true, cond_false]
  rw [e]
  simp only [Option.bind_some]
  rw [whole92 (g := g') k (by omega) hw.lit (by omega)]
  rfl

/-! ### negations -/
theorem xor1w {l : Int} (hg : g.length ≤ 1000000) (h : isL g l = true) : ibits .xor .i64 l 1 = nt l := by
  have := isL_iff.1 h
  exact xor1 this.1 (by omega)
theorem not_loop (k : Nat) (hg : g.length ≤ 1000000) {a : List Int} (ha : a.length ≤ 16) (h : ∀ x ∈ a, isL g x = true) : ∀ (d i : Nat) (out : List Int), a.length - i = d → i ≤ a.length → out.length = i → ∀ j, d < j → l97v3_122 k j a a out a.length i = some ((out ++ (a.drop i).map nt, ()), ()) := by
  intro d
  induction d with
  | zero =>
    intro i out hi hia ho j hj
    obtain ⟨j, rfl, _⟩ := succ_of (n := 0) (by omega : 0 + 1 ≤ j)
    show b97v3_122 k (l97v3_122 k j) a a out a.length i = _
    unfold b97v3_122
    rw [decide_eq_false (by omega : ¬ (i : Int) < a.length), List.drop_of_length_le (by omega)]
    simp
  | succ d ih =>
    intro i out hi hia ho j hj
    obtain ⟨j, rfl, hj2⟩ := succ_of (by omega : d + 1 + 1 ≤ j)
    show b97v3_122 k (l97v3_122 k j) a a out a.length i = _
    have hw1 : w64 ((i : Int) + 1) = ((i + 1 : Nat) : Int) := by rw [w_id (by omega) (by omega)]; omega
    have hlt : i < a.length := by omega
    have hx : a[i]? = some a[i] := List.getElem?_eq_getElem hlt
    unfold b97v3_122 f98
    rw [decide_eq_true (by omega : (i : Int) < a.length), cond_true, ix_nat hx, ix_nat hx]
    simp only [Option.bind_some]
    rw [gd_dec (by unfold room; omega), xor1w hg (h _ (List.getElem_mem _)), hw1, ih (i + 1) (out ++ [nt a[i]]) (by omega) (by omega) (by rw [List.length_append, ho]; rfl) j hj2, List.drop_eq_getElem_cons hlt, List.map_cons]
    simp
theorem not54 (k : Nat) (hk : 30 < k) (hg : g.length ≤ 1000000) {a : List Int} (h1 : 1 ≤ a.length) (h2 : a.length ≤ 16) (h : ∀ x ∈ a, isL g x = true) : f54 k a g m = some ((a.map nt, ()), ()) := by
  unfold f54 f97v3
  have e := not_loop k hg h2 h a.length 0 [] (by omega) (by omega) rfl k (by omega)
  rw [show ((0 : Nat) : Int) = 0 from rfl, List.nil_append, List.drop_zero] at e
  rw [pair95 k (by omega) (by omega) rfl h1 h2 h h]
  simp only [Option.bind_some, Bool.not_true, cond_false]
  rw [e]
  simp only [Option.bind_some]
  rw [whole92 (g := g) k (by rw [List.length_map]; omega) (fun y hy => by obtain ⟨x, hx, rfl⟩ := List.mem_map.1 hy; exact isL_nt (h x hx)) (by omega)]
  rfl
theorem turned_loop (k : Nat) (hg : g.length ≤ 1000000) {a : List Int} (ha : a.length ≤ 17) (h : ∀ x ∈ a, isL g x = true) : ∀ (d i : Nat) (out : List Int), a.length - i = d → i ≤ a.length → out.length = i → ∀ j, d < j → l104_58 k j out a a.length i = some ((out ++ (a.drop i).map nt, ()), ()) := by
  intro d
  induction d with
  | zero =>
    intro i out hi hia ho j hj
    obtain ⟨j, rfl, _⟩ := succ_of (n := 0) (by omega : 0 + 1 ≤ j)
    show b104_58 k (l104_58 k j) out a a.length i = _
    unfold b104_58
    rw [decide_eq_false (by omega : ¬ (i : Int) < a.length), List.drop_of_length_le (by omega)]
    simp
  | succ d ih =>
    intro i out hi hia ho j hj
    obtain ⟨j, rfl, hj2⟩ := succ_of (by omega : d + 1 + 1 ≤ j)
    show b104_58 k (l104_58 k j) out a a.length i = _
    have hw1 : w64 ((i : Int) + 1) = ((i + 1 : Nat) : Int) := by rw [w_id (by omega) (by omega)]; omega
    have hlt : i < a.length := by omega
    have hx : a[i]? = some a[i] := List.getElem?_eq_getElem hlt
    unfold b104_58
    rw [decide_eq_true (by omega : (i : Int) < a.length), cond_true, ix_nat hx, gd_dec (by unfold room; omega), xor1w hg (h _ (List.getElem_mem _)), hw1, ih (i + 1) (out ++ [nt a[i]]) (by omega) (by omega) (by rw [List.length_append, ho]; rfl) j hj2, List.drop_eq_getElem_cons hlt, List.map_cons]
    simp
theorem turned104 (k : Nat) (hk : 30 < k) (hg : g.length ≤ 1000000) {a : List Int} (h2 : a.length ≤ 17) (h : ∀ x ∈ a, isL g x = true) : f104 k a = some ((a.map nt, ()), ()) := by
  unfold f104
  have e := turned_loop k hg h2 h a.length 0 [] (by omega) (by omega) rfl k (by omega)
  rw [show ((0 : Nat) : Int) = 0 from rfl, List.nil_append, List.drop_zero] at e
  rw [e]; rfl

/-! ### sums -/
theorem addS_drop {xs ys : List Bool} {i : Nat} {x y : Bool} (hx : xs[i]? = some x) (hy : ys[i]? = some y) (c : Bool) : addS (xs.drop i) (ys.drop i) c = ((!((!(x == y)) == c)) :: (addS (xs.drop (i + 1)) (ys.drop (i + 1)) ((x && y) || ((!(x == y)) && c))).1, (addS (xs.drop (i + 1)) (ys.drop (i + 1)) ((x && y) || ((!(x == y)) && c))).2) := by
  have h1 := Vm.getElem?_lt hx
  have h2 := Vm.getElem?_lt hy
  rw [List.drop_eq_getElem_cons h1, List.drop_eq_getElem_cons h2, addS]
  rw [List.getElem?_eq_getElem h1] at hx
  rw [List.getElem?_eq_getElem h2] at hy
  simp only [Option.some.injEq] at hx hy
  rw [hx, hy]
theorem sum_loop {a b : List Int} {xs ys : List Bool} (hab : a.length = b.length) (ha : a.length ≤ 17) : ∀ (d i : Nat) (g : List D_Gate) (m : Mp) (c : Int) (cb : Bool) (out : List Int) (bs : List Bool), a.length - i = d → i ≤ a.length → Valid g → MapOk g m → g.length + 9 * d ≤ 1000000 →
    Word ins g a xs → Word ins g b ys → isL g c = true → Aig.val ins g c = cb → Word ins g out bs → out.length = i →
    ∃ (g' : List D_Gate) (m' : Mp) (c' : Int) (out' : List Int), (∃ e, g' = g ++ e) ∧ Valid g' ∧ MapOk g' m' ∧ g'.length ≤ g.length + 9 * d ∧ isL g' c' = true ∧ Aig.val ins g' c' = (addS (xs.drop i) (ys.drop i) cb).2 ∧ Word ins g' out' (bs ++ (addS (xs.drop i) (ys.drop i) cb).1) ∧
      E fun k => ∀ j, d < j → l96_58 k j a b c out a.length i g m = some ((c', out', ()), ((g', (), ()), m', ())) := by
  intro d
  induction d with
  | zero =>
    intro i g m c cb out bs hi hia hv hm hg hwa hwb lc vc hwo ho
    have e1 : xs.drop i = [] := List.drop_of_length_le (by have := hwa.len; omega)
    refine ⟨g, m, c, out, ⟨[], by simp⟩, hv, hm, by omega, lc, by rw [e1]; simpa [addS] using vc, by rw [e1]; simpa [addS] using hwo, .all fun k j hj => ?_⟩
    obtain ⟨j, rfl, _⟩ := succ_of (n := 0) (by omega : 0 + 1 ≤ j)
    show b96_58 k (l96_58 k j) a b c out a.length i g m = _
    unfold b96_58
    rw [decide_eq_false (by omega : ¬ (i : Int) < a.length)]; rfl
  | succ d ih =>
    intro i g m c cb out bs hi hia hv hm hg hwa hwb lc vc hwo ho
    have hw1 : w64 ((i : Int) + 1) = ((i + 1 : Nat) : Int) := by rw [w_id (by omega) (by omega)]; omega
    obtain ⟨x, bx, hx, hbx, lx, vx⟩ := hwa.get (i := i) (by omega)
    obtain ⟨y, by_, hy, hby, ly, vy⟩ := hwb.get (i := i) (by omega)
    obtain ⟨g1, m1, h, he1, hv1, hm1, hl1, lh, vh, hE1⟩ := xor_op (ins := ins) hv hm (by omega) lx ly
    have lc1 := old_lit (ins := ins) he1 lc
    obtain ⟨g2, m2, s, he2, hv2, hm2, hl2, ls, vs, hE2⟩ := xor_op (ins := ins) hv1 hm1 (by omega) lh lc1.1
    have lx2 := old_lit (ins := ins) (ext_trans he1 he2) lx
    have ly2 := old_lit (ins := ins) (ext_trans he1 he2) ly
    obtain ⟨g3, m3, p, he3, hv3, hm3, hl3, lp, vp, hE3⟩ := and_op (ins := ins) hv2 hm2 (by omega) lx2.1 ly2.1
    have lh3 := old_lit (ins := ins) (ext_trans he2 he3) lh
    have lc3 := old_lit (ins := ins) (ext_trans (ext_trans he1 he2) he3) lc
    obtain ⟨g4, m4, q, he4, hv4, hm4, hl4, lq, vq, hE4⟩ := and_op (ins := ins) hv3 hm3 (by omega) lh3.1 lc3.1
    have lp4 := old_lit (ins := ins) he4 lp
    obtain ⟨g5, m5, r, he5, hv5, hm5, hl5, lr, vr, hE5⟩ := or_op (ins := ins) hv4 hm4 (by omega) lp4.1 lq
    have he := ext_trans (ext_trans (ext_trans (ext_trans he1 he2) he3) he4) he5
    have ls5 := old_lit (ins := ins) (ext_trans (ext_trans he3 he4) he5) ls
    have hr : Aig.val ins g5 r = ((bx && by_) || ((!(bx == by_)) && cb)) := by rw [vr, lp4.2, vp, lx2.2, ly2.2, vq, lh3.2, vh, lc3.2, vx, vy, vc]
    have hs : Aig.val ins g5 s = (!((!(bx == by_)) == cb)) := by rw [ls5.2, vs, vh, lc1.2, vx, vy, vc]
    obtain ⟨g6, m6, c', out', he6, hv6, hm6, hl6, lc6, vc6, hw6, hE6⟩ := ih (i + 1) g5 m5 r _ (out ++ [s]) (bs ++ [(!((!(bx == by_)) == cb))]) (by omega) (by omega) hv5 hm5 (by omega) (old_word he hwa) (old_word he hwb) lr hr ((old_word he hwo).snoc ls5.1 hs) (by rw [List.length_append, ho]; rfl)
    refine ⟨g6, m6, c', out', ext_trans he he6, hv6, hm6, by omega, lc6, ?_, ?_, ((hE1.and hE2).and (hE3.and hE4)).mono3 hE5 hE6 fun k e e5 e6 j hj => ?_⟩
    · rw [addS_drop hbx hby]; exact vc6
    · rw [addS_drop hbx hby]
      rw [List.append_assoc] at hw6; exact hw6
    · obtain ⟨⟨e1, e2⟩, e3, e4⟩ := e
      dsimp only at e1 e2 e3 e4 e5
      obtain ⟨j, rfl, hj2⟩ := succ_of (by omega : d + 1 + 1 ≤ j)
      show b96_58 k (l96_58 k j) a b c out a.length i g m = _
      unfold b96_58
      rw [decide_eq_true (by omega : (i : Int) < a.length), cond_true, ix_nat hx, ix_nat hy, e1]
      simp only [Option.bind_some]
      rw [e2]
      simp only [Option.bind_some]
      rw [gd_dec (by unfold room; omega), ix_nat hx, ix_nat hy, e3]
      simp only [Option.bind_some]
      rw [e4]
      simp only [Option.bind_some]
      rw [e5]
      simp only [Option.bind_some]
      rw [hw1, e6 j hj2]; rfl
theorem sum96 (hv : Valid g) (hm : MapOk g m) (hg : g.length + 153 ≤ 1000000) {a b : List Int} {xs ys : List Bool} (hwa : Word ins g a xs) (hwb : Word ins g b ys) (hab : a.length = b.length) (h2 : a.length ≤ 17) {c : Int} {cb : Bool} (lc : isL g c = true) (vc : Aig.val ins g c = cb) :
    ∃ (g' : List D_Gate) (m' : Mp) (c' : Int) (out : List Int), (∃ e, g' = g ++ e) ∧ Valid g' ∧ MapOk g' m' ∧ g'.length ≤ g.length + 153 ∧ isL g' c' = true ∧ Aig.val ins g' c' = (addS xs ys cb).2 ∧ Word ins g' out (addS xs ys cb).1 ∧
      E fun k => f96 k a b c g m = some ((out, c', ()), ((g', (), ()), m', ())) := by
  obtain ⟨g', m', c', out, he, hv', hm', hl, lc', vc', hw, hE⟩ := sum_loop (ins := ins) hab h2 a.length 0 g m c cb [] [] (by omega) (by omega) hv hm (by omega) hwa hwb lc vc Word.nil rfl
  rw [List.drop_zero, List.drop_zero] at hw vc'
  rw [List.nil_append] at hw
  refine ⟨g', m', c', out, he, hv', hm', by omega, lc', vc', hw, hE.mono2 (E.ge 30) fun k e hk => ?_⟩
  have e := e k (by omega)
  rw [show ((0 : Nat) : Int) = 0 from rfl] at e
  show f96 k a b c g m = _
  unfold f96
  rw [e]; rfl
end Vec
end Go.Proofs.Ytgljnnokifggkaa.M
