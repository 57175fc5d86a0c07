/-
Graphs of "and": what each literal is by inputs; what "and", "or", "xor", "ite", "all" mean.
-/
import Derived.Test.YtgljnnokifggkaaPureAigMakes
set_option linter.unusedVariables false
set_option linter.unusedSimpArgs false
set_option maxRecDepth 100000
namespace Go.Proofs.Ytgljnnokifggkaa.M
open Go Go.Proofs.Ytgljnnokifggkaa.Vm Go.Proofs.Ytgljnnokifggkaa.Pl
namespace Aig
variable {g : List D_Gate} {m : Mp} {ins : List Bool}
def value (v : List Bool) (l : Int) : Bool := if l < 0 ∨ (v.length : Int) < l / 2 then false else if l < 2 then decide (l = 1) else !(v.getD (l / 2 - 1).toNat false == decide (l % 2 = 1))
/-- Of each node whether it is true. -/
def evL (ins : List Bool) : List D_Gate → List Bool → Nat → List Bool
  | [], v, _ => v
  | e :: r, v, q => if e = inp then evL ins r (v ++ [ins.getD q false]) (q + 1) else evL ins r (v ++ [value v e.1 && value v e.2.1]) q
def cnt (g : List D_Gate) : Nat := (g.filter fun e => decide (e = inp)).length
def Ev (g : List D_Gate) (ins : List Bool) : List Bool := evL ins g [] 0
def val (ins : List Bool) (g : List D_Gate) (l : Int) : Bool := value (Ev g ins) l
theorem evL_append : ∀ (r s : List D_Gate) (v : List Bool) (q : Nat), evL ins (r ++ s) v q = evL ins s (evL ins r v q) (q + cnt r)
  | [], s, v, q => by simp [evL, cnt]
  | e :: r, s, v, q => by
    by_cases h : e = inp
    · have hc : cnt (e :: r) = cnt r + 1 := by simp [cnt, h]
      rw [List.cons_append, evL, if_pos h, evL_append r s, evL, if_pos h, hc]
      congr 1; omega
    · have hc : cnt (e :: r) = cnt r := by simp [cnt, h]
      rw [List.cons_append, evL, if_neg h, evL_append r s, evL, if_neg h, hc]
theorem evL_len : ∀ (r : List D_Gate) (v : List Bool) (q : Nat), (evL ins r v q).length = v.length + r.length
  | [], v, q => by simp [evL]
  | e :: r, v, q => by
    rw [evL]; split
    · rw [evL_len r]; simp; omega
    · rw [evL_len r]; simp; omega
theorem evL_pre : ∀ (r : List D_Gate) (v : List Bool) (q : Nat), ∃ t, evL ins r v q = v ++ t
  | [], v, q => ⟨[], by simp [evL]⟩
  | e :: r, v, q => by
    rw [evL]; split
    · obtain ⟨t, h⟩ := evL_pre r (v ++ [ins.getD q false]) (q + 1); exact ⟨_, by rw [h, List.append_assoc]⟩
    · obtain ⟨t, h⟩ := evL_pre r (v ++ [value v e.1 && value v e.2.1]) q; exact ⟨_, by rw [h, List.append_assoc]⟩
theorem Ev_len : (Ev g ins).length = g.length := by unfold Ev; rw [evL_len]; simp
theorem value_pre {v t : List Bool} {l : Int} (h : l ≤ 2 * v.length + 1) : value (v ++ t) l = value v l := by
  unfold value
  by_cases h0 : l < 0
  · rw [if_pos (.inl h0), if_pos (.inl h0)]
  · have c1 : ¬ (l < 0 ∨ (((v ++ t).length : Nat) : Int) < l / 2) := by rw [List.length_append]; omega
    have c2 : ¬ (l < 0 ∨ (v.length : Int) < l / 2) := by omega
    rw [if_neg c1, if_neg c2]
    by_cases h2 : l < 2
    · rw [if_pos h2, if_pos h2]
    · rw [if_neg h2, if_neg h2, List.getD_eq_getElem?_getD, List.getD_eq_getElem?_getD, List.getElem?_append_left (by omega)]
theorem val_ext (h : List D_Gate) {l : Int} (hl : l ≤ 2 * g.length + 1) : val ins (g ++ h) l = val ins g l := by
  unfold val Ev
  rw [evL_append]
  obtain ⟨t, ht⟩ := evL_pre (ins := ins) h (evL ins g [] 0) (0 + cnt g)
  rw [ht, value_pre]
  have := Ev_len (g := g) (ins := ins)
  unfold Ev at this; omega
theorem Ev_snoc (e : D_Gate) : Ev (g ++ [e]) ins = Ev g ins ++ [if e = inp then ins.getD (cnt g) false else val ins g e.1 && val ins g e.2.1] := by
  unfold Ev val
  rw [evL_append, evL, evL, evL]
  split <;> simp [Ev]
theorem value_lit {v : List Bool} {l : Int} (h : 2 ≤ l) (hl : l ≤ 2 * v.length + 1) : value v l = !(v.getD (l / 2 - 1).toNat false == decide (l % 2 = 1)) := by
  unfold value; rw [if_neg (by omega), if_neg (by omega)]
theorem val_at {i : Nat} {e : D_Gate} (hi : g[i]? = some e) : (Ev g ins).getD i false = if e = inp then ins.getD (cnt (g.take i)) false else val ins (g.take i) e.1 && val ins (g.take i) e.2.1 := by
  have hlt := getElem?_lt hi
  have hge : g[i] = e := by rw [List.getElem?_eq_getElem hlt] at hi; simpa using hi
  have hg : g = (g.take i ++ [e]) ++ g.drop (i + 1) := by
    rw [List.append_assoc, ← hge]
    have := List.take_append_drop i g
    rw [List.drop_eq_getElem_cons hlt] at this
    simp
  have hlen : (g.take i).length = i := by rw [List.length_take]; omega
  have : Ev g ins = Ev ((g.take i ++ [e]) ++ g.drop (i + 1)) ins := by rw [← hg]
  rw [this]
  unfold Ev
  rw [evL_append]
  obtain ⟨t, ht⟩ := evL_pre (ins := ins) (g.drop (i + 1)) (evL ins (g.take i ++ [e]) [] 0) (0 + cnt (g.take i ++ [e]))
  rw [ht]
  have h2 := Ev_snoc (g := g.take i) (ins := ins) e
  have h3 := Ev_len (g := g.take i) (ins := ins)
  unfold Ev at h2 h3
  rw [h2, List.getD_eq_getElem?_getD, List.getElem?_append_left (by simp; omega), List.getElem?_append_right (by omega), h3, hlen]
  simp
theorem val_nt {l : Int} (h : 0 ≤ l) (hl : l ≤ 2 * g.length + 1) : val ins g (nt l) = !val ins g l := by
  have hE := Ev_len (g := g) (ins := ins)
  rw [nt_pos h]
  unfold val
  by_cases h2 : l < 2
  · unfold value
    rw [hE]
    rcases (by omega : l = 0 ∨ l = 1) with rfl | rfl
    · have e1 : ¬ ((0 : Int) + 1 < 0 ∨ (g.length : Int) < (0 + 1) / 2) := by omega
      have e2 : ¬ ((0 : Int) < 0 ∨ (g.length : Int) < 0 / 2) := by omega
      simp [e1, e2]
    · have e2 : ¬ ((1 : Int) < 0 ∨ (g.length : Int) < 1 / 2) := by omega
      have e1 : ¬ ((1 : Int) - 1 < 0 ∨ (g.length : Int) < (1 - 1) / 2) := by omega
      simp [e1, e2]
  · split
    · rename_i hm
      rw [value_lit (by omega) (by omega), value_lit (by omega) (by omega)]
      have e1 : (l + 1) / 2 - 1 = l / 2 - 1 := by omega
      have e2 : (l + 1) % 2 = 1 := by omega
      have e3 : ¬ l % 2 = 1 := by omega
      rw [e1]
      simp [e2, e3]
    · rename_i hm
      rw [value_lit (by omega) (by omega), value_lit (by omega) (by omega)]
      have e1 : (l - 1) / 2 - 1 = l / 2 - 1 := by omega
      have e2 : ¬ (l - 1) % 2 = 1 := by omega
      have e3 : l % 2 = 1 := by omega
      rw [e1]
      simp [e2, e3]
theorem val_kid (hv : Valid g) {l c d : Int} (hl : isL g l = true) (h : kid g l = some (c, d)) : val ins g l = !((val ins g c && val ins g d) == decide (l % 2 = 1)) := by
  obtain ⟨i, hi, hgi, hc0, hc1, hd0, hd1⟩ := kid_valid hv h
  have hlt := getElem?_lt hgi
  have hl' := isL_iff.1 hl
  have hE := Ev_len (g := g) (ins := ins)
  have hlen : (g.take i).length = i := by rw [List.length_take]; omega
  unfold val
  rw [value_lit (by omega) (by omega), show (l / 2 - 1).toNat = i by omega, val_at hgi]
  have hne : ¬ ((c, d, ()) : D_Gate) = inp := by
    intro e; have : c = -1 := congrArg (fun x : D_Gate => x.1) e; omega
  rw [if_neg hne]
  dsimp only
  have e1 := val_ext (g := g.take i) (ins := ins) (g.drop i) (l := c) (by omega)
  have e2 := val_ext (g := g.take i) (ins := ins) (g.drop i) (l := d) (by omega)
  rw [List.take_append_drop] at e1 e2
  rw [← e1, ← e2]
  rfl
theorem val_zero : val ins g 0 = false := by
  unfold val value; rw [if_neg (by omega)]; rfl
theorem val_one : val ins g 1 = true := by
  unfold val value; rw [if_neg (by omega)]; rfl

/-! ### what "and" means -/
theorem plS_val (hv : Valid g) {a b r : Int} (ha : isL g a = true) (hb : isL g b = true) (h : plS g a b = some r) : val ins g r = (val ins g a && val ins g b) := by
  have ha' := isL_iff.1 ha
  unfold plS at h
  cases hk : kid g b with
  | none => rw [hk] at h; cases h
  | some p =>
    obtain ⟨c, d⟩ := p
    rw [hk] at h
    have hb2 := val_kid (ins := ins) hv hb hk
    dsimp only at h
    split at h
    · cases h
    · rename_i hodd
      rw [decide_eq_false hodd] at hb2
      split at h
      · rename_i he
        cases h
        rcases he with rfl | rfl
        · rw [hb2]; cases val ins g a <;> cases val ins g d <;> rfl
        · rw [hb2]; cases val ins g a <;> cases val ins g c <;> rfl
      · split at h
        · rename_i he
          cases h
          have hn := val_nt (ins := ins) ha'.1 ha'.2
          rw [val_zero, hb2]
          rcases he with he | he
          · rw [he] at hn; rw [hn]; cases val ins g a <;> cases val ins g d <;> rfl
          · rw [he] at hn; rw [hn]; cases val ins g a <;> cases val ins g c <;> rfl
        · cases h
theorem tuS_val (hv : Valid g) {a b : Int} {p : Int ⊕ Int} (ha : isL g a = true) (hb : isL g b = true) (h : tuS g a b = some p) :
    (∀ r, p = .inl r → val ins g r = (val ins g a && val ins g b)) ∧ (∀ y, p = .inr y → (val ins g a && val ins g y) = (val ins g a && val ins g b)) := by
  have ha' := isL_iff.1 ha
  unfold tuS at h
  cases hk : kid g b with
  | none => rw [hk] at h; cases h
  | some q =>
    obtain ⟨c, d⟩ := q
    obtain ⟨i, hi, hgi, hc0, hc1, hd0, hd1⟩ := kid_valid hv hk
    have hil := getElem?_lt hgi
    rw [hk] at h
    have hb2 := val_kid (ins := ins) hv hb hk
    dsimp only at h
    split at h
    · cases h
    · rename_i hodd
      rw [decide_eq_true (by omega : b % 2 = 1)] at hb2
      split at h
      · rename_i he
        cases h
        refine ⟨fun r hr => ?_, fun y hy => by cases hy⟩
        cases hr
        have hn := val_nt (ins := ins) ha'.1 ha'.2
        rw [hb2]
        rcases he with he | he
        · rw [he] at hn; rw [hn]; cases val ins g a <;> cases val ins g d <;> rfl
        · rw [he] at hn; rw [hn]; cases val ins g a <;> cases val ins g c <;> rfl
      · split at h
        · rename_i he
          cases h
          refine ⟨fun r hr => (by cases hr), fun y hy => ?_⟩
          cases hy
          rw [hb2, val_nt hd0 (by omega), ← he]
          cases val ins g a <;> cases val ins g d <;> rfl
        · split at h
          · rename_i he
            cases h
            refine ⟨fun r hr => (by cases hr), fun y hy => ?_⟩
            cases hy
            rw [hb2, val_nt hc0 (by omega), ← he]
            cases val ins g a <;> cases val ins g c <;> rfl
          · cases h
theorem stS_val (hv : Valid g) {a b : Int} (ha : isL g a = true) (hb : isL g b = true) : (∀ r, stS g a b = .ret r → val ins g r = (val ins g a && val ins g b)) ∧ (∀ x y, stS g a b = .again x y → (val ins g x && val ins g y) = (val ins g a && val ins g b)) := by
  have ha' := isL_iff.1 ha
  unfold stS
  split
  · rename_i h
    refine ⟨fun r hr => ?_, fun x y hr => by cases hr⟩
    cases hr
    rw [val_zero]
    rcases h with h | h
    · rw [h, val_zero]; rfl
    · rw [← h, val_nt ha'.1 ha'.2]; cases val ins g a <;> rfl
  · split
    · rename_i h
      refine ⟨fun r hr => ?_, fun x y hr => by cases hr⟩
      cases hr
      rcases h with h | h
      · rw [h, val_one]; rfl
      · rw [h]; cases val ins g b <;> rfl
    · split
      · rename_i e
        refine ⟨fun r hr => ?_, fun x y hr => by cases hr⟩
        cases hr; exact plS_val hv ha hb e
      · split
        · rename_i e
          refine ⟨fun r hr => ?_, fun x y hr => by cases hr⟩
          cases hr; rw [plS_val hv hb ha e, Bool.and_comm]
        · split
          · rename_i e
            refine ⟨fun r hr => ?_, fun x y hr => by cases hr⟩
            cases hr; exact (tuS_val hv ha hb e).1 _ rfl
          · rename_i e
            refine ⟨fun r hr => (by cases hr), fun x y hr => ?_⟩
            cases hr; exact (tuS_val hv ha hb e).2 _ rfl
          · split
            · rename_i e
              refine ⟨fun r hr => ?_, fun x y hr => by cases hr⟩
              cases hr; rw [(tuS_val hv hb ha e).1 _ rfl, Bool.and_comm]
            · rename_i e
              refine ⟨fun r hr => (by cases hr), fun x y hr => ?_⟩
              cases hr; rw [(tuS_val hv hb ha e).2 _ rfl, Bool.and_comm]
            · exact ⟨fun r hr => (by cases hr), fun x y hr => by cases hr⟩
/-- The graph is longer, and what is told means that. -/
structure Told (ins : List Bool) (g : List D_Gate) (p : List D_Gate × Int) (w : Bool) : Prop where
  ext : ∃ h, p.1 = g ++ h
  ok : Valid p.1
  lit : isL p.1 p.2 = true
  val : val ins p.1 p.2 = w
theorem mm_val {a b : Int} : (val ins g (min a b) && val ins g (max a b)) = (val ins g a && val ins g b) := by
  rcases Int.le_total a b with h | h
  · rw [Int.min_eq_left h, Int.max_eq_right h]
  · rw [Int.min_eq_right h, Int.max_eq_left h, Bool.and_comm]
theorem andS_told : ∀ (n : Nat) (a b : Int), Valid g → isL g a = true → isL g b = true → (a + b).toNat < n → g.length < 1048576 → Told ins g (andS n g a b) (val ins g a && val ins g b) := by
  intro n
  induction n with
  | zero => intro a b _ _ _ h; omega
  | succ n ih =>
    intro a b hv ha hb hn hg
    obtain ⟨h1, h2⟩ := isL_mm ha hb
    have hle : min a b ≤ max a b := by omega
    have hsum : min a b + max a b = a + b := by omega
    rw [andS, ha, hb, ← mm_val]
    generalize min a b = a' at h1 hle hsum
    generalize max a b = b' at h2 hle hsum
    simp only [Bool.and_self, if_true]
    have hval := stS_val (ins := ins) hv h1 h2
    cases hst : stS g a' b' with
    | ret r => exact ⟨⟨[], by simp⟩, hv, stS_ret h1 h2 hst, hval.1 r hst⟩
    | again x y =>
      obtain ⟨_, hy0, hlt, _⟩ := stS_again hv hst
      obtain ⟨k1, k2⟩ := stS_againL hv h1 h2 hst
      have hx0 := (isL_iff.1 k1).1
      have := ih x y hv k1 k2 (by omega) hg
      rw [hval.2 x y hst] at this
      exact this
    | new =>
      obtain ⟨c1, c2, c3, c4, c5, c6, c7⟩ := stS_new h1 h2 hle hst
      dsimp only
      cases hf : fnd g (a', b', ()) with
      | some i =>
        obtain ⟨hi, hp, _⟩ := List.findIdx?_eq_some_iff_getElem.1 hf
        have hgi : g[i]? = some (a', b', ()) := by rw [List.getElem?_eq_getElem hi]; simpa using hp
        have hl : isL g (2 * (i : Int) + 2) = true := isL_iff.2 (by omega)
        have hk : kid g (2 * (i : Int) + 2) = some (a', b') := by
          unfold kid
          rw [if_neg (by omega), show ((2 * (i : Int) + 2) / 2 - 1).toNat = i by omega, hgi]
          simp only [Option.bind_some]
          rw [if_neg (by omega)]
        refine ⟨⟨[], by simp⟩, hv, hl, ?_⟩
        dsimp only
        rw [val_kid hv hl hk, decide_eq_false (by omega)]
        cases (val ins g a' && val ins g b') <;> rfl
      | none =>
        dsimp only
        rw [if_neg (by omega)]
        have hnew : New g a' b' := ⟨h1, h2, c2, c1, c3, c4, c5, c6, c7, hf, hg⟩
        have hv2 := valid_new hv hnew
        have hl : isL (g ++ [(a', b', ())]) (2 * (g.length : Int) + 2) = true := isL_iff.2 (by simp; omega)
        have hgi : (g ++ [(a', b', ())])[g.length]? = some (a', b', ()) := by simp
        have hk : kid (g ++ [(a', b', ())]) (2 * (g.length : Int) + 2) = some (a', b') := by
          unfold kid
          rw [if_neg (by omega), show ((2 * (g.length : Int) + 2) / 2 - 1).toNat = g.length by omega, hgi]
          simp only [Option.bind_some]
          rw [if_neg (by omega)]
        refine ⟨⟨_, rfl⟩, hv2, hl, ?_⟩
        dsimp only
        have l1 := isL_iff.1 h1
        have l2 := isL_iff.1 h2
        rw [val_kid hv2 hl hk, decide_eq_false (by omega), val_ext _ l1.2, val_ext _ l2.2]
        cases (val ins g a' && val ins g b') <;> rfl
theorem And_told (hv : Valid g) {a b : Int} (ha : isL g a = true) (hb : isL g b = true) (hg : g.length < 1048576) : Told ins g (And g a b) (val ins g a && val ins g b) := andS_told _ a b hv ha hb (enough ha hb) hg
theorem isL_nt {l : Int} (h : isL g l = true) : isL g (nt l) = true := by
  have h' := isL_iff.1 h
  have := nt_lt (i := g.length) h'.1 h'.2
  exact isL_iff.2 this
theorem isL_ext {h : List D_Gate} {l : Int} (hl : isL g l = true) : isL (g ++ h) l = true := by
  have h' := isL_iff.1 hl
  exact isL_iff.2 ⟨h'.1, by simp; omega⟩
theorem Told.keep {p : List D_Gate × Int} {w : Bool} (h : Told ins g p w) {l : Int} (hl : isL g l = true) : isL p.1 l = true ∧ Aig.val ins p.1 l = Aig.val ins g l := by
  obtain ⟨e, he⟩ := h.ext
  rw [he]
  exact ⟨isL_ext hl, val_ext e (isL_iff.1 hl).2⟩
theorem Told.trans {p q : List D_Gate × Int} {w w' : Bool} (h : Told ins g p w) (k : Told ins p.1 q w') : Told ins g q w' := by
  obtain ⟨e, he⟩ := h.ext
  obtain ⟨e', he'⟩ := k.ext
  exact ⟨⟨e ++ e', by rw [he', he, List.append_assoc]⟩, k.ok, k.lit, k.val⟩
theorem vnt {l : Int} (h : isL g l = true) : val ins g (nt l) = !val ins g l := val_nt (isL_iff.1 h).1 (isL_iff.1 h).2
theorem Or_told (hv : Valid g) {a b : Int} (ha : isL g a = true) (hb : isL g b = true) (hg : g.length < 1048576) : Told ins g (Or g a b) (val ins g a || val ins g b) := by
  have h := And_told (ins := ins) hv (isL_nt ha) (isL_nt hb) hg
  refine ⟨h.ext, h.ok, isL_nt h.lit, ?_⟩
  show val ins (And g (nt a) (nt b)).1 (nt (And g (nt a) (nt b)).2) = _
  rw [vnt h.lit, h.val, vnt ha, vnt hb]
  cases val ins g a <;> cases val ins g b <;> rfl
theorem Told.len {p : List D_Gate × Int} {w : Bool} (h : Told ins g p w) : g.length ≤ p.1.length := by
  obtain ⟨e, he⟩ := h.ext
  rw [he]; simp
theorem And_len (hv : Valid g) (a b : Int) : (And g a b).1.length ≤ g.length + 1 := (And_keeps keeps_valid a b hv).2.2.1
theorem Xor_told (hv : Valid g) {a b : Int} (ha : isL g a = true) (hb : isL g b = true) (hg : g.length < 1048574) : Told ins g (Xor g a b) (!(val ins g a == val ins g b)) := by
  have h1 := And_told (ins := ins) hv ha (isL_nt hb) (by omega)
  have l1 := And_len hv a (nt b)
  have a1 := h1.keep (isL_nt ha)
  have b1 := h1.keep hb
  have h2 := And_told (ins := ins) h1.ok a1.1 b1.1 (by omega)
  have l2 := And_len h1.ok (nt a) b
  have p2 := h2.keep h1.lit
  have h3 := Or_told (ins := ins) h2.ok p2.1 h2.lit (by omega)
  have h4 := h1.trans (h2.trans h3)
  refine ⟨h4.ext, h4.ok, h4.lit, ?_⟩
  have e : val ins (Xor g a b).1 (Xor g a b).2 = _ := h3.val
  rw [e, p2.2, h1.val, h2.val, a1.2, b1.2, vnt ha, vnt hb]
  cases val ins g a <;> cases val ins g b <;> rfl
theorem Ite_told (hv : Valid g) {c a b : Int} (hc : isL g c = true) (ha : isL g a = true) (hb : isL g b = true) (hg : g.length < 1048574) : Told ins g (Ite g c a b) (cond (val ins g c) (val ins g a) (val ins g b)) := by
  have h1 := And_told (ins := ins) hv hc ha (by omega)
  have l1 := And_len hv c a
  have a1 := h1.keep (isL_nt hc)
  have b1 := h1.keep hb
  have h2 := And_told (ins := ins) h1.ok a1.1 b1.1 (by omega)
  have l2 := And_len h1.ok (nt c) b
  have p2 := h2.keep h1.lit
  have h3 := Or_told (ins := ins) h2.ok p2.1 h2.lit (by omega)
  have h4 := h1.trans (h2.trans h3)
  refine ⟨h4.ext, h4.ok, h4.lit, ?_⟩
  have e : val ins (Ite g c a b).1 (Ite g c a b).2 = _ := h3.val
  rw [e, p2.2, h1.val, h2.val, a1.2, b1.2, vnt hc]
  cases val ins g a <;> cases val ins g b <;> cases val ins g c <;> rfl
def AllS (g : List D_Gate) : List Int → Int → List D_Gate × Int
  | [], o => (g, o)
  | x :: l, o => AllS (And g o x).1 l (And g o x).2
theorem All_told : ∀ (l : List Int) (g : List D_Gate) (o : Int), Valid g → isL g o = true → (∀ x ∈ l, isL g x = true) → g.length + l.length < 1048576 → Told ins g (AllS g l o) (val ins g o && l.all (val ins g)) := by
  intro l
  induction l with
  | nil => intro g o hv ho _ _; exact ⟨⟨[], by simp [AllS]⟩, hv, ho, by simp [AllS]⟩
  | cons x l ih =>
    intro g o hv ho hl hg
    have hx := hl x (List.mem_cons_self ..)
    have h1 := And_told (ins := ins) hv ho hx (by omega)
    have l1 := And_len hv o x
    have hl2 : ∀ y ∈ l, isL (And g o x).1 y = true := fun y hy => (h1.keep (hl y (List.mem_cons_of_mem _ hy))).1
    have h2 := ih (And g o x).1 (And g o x).2 h1.ok h1.lit hl2 (by simp at hg; omega)
    have h3 := h1.trans h2
    refine ⟨h3.ext, h3.ok, h3.lit, ?_⟩
    have e : val ins (AllS g (x :: l) o).1 (AllS g (x :: l) o).2 = _ := h2.val
    rw [e, h1.val, List.all_cons, Bool.and_assoc]
    congr 2
    have : ∀ y ∈ l, val ins (And g o x).1 y = val ins g y := fun y hy => (h1.keep (hl y (List.mem_cons_of_mem _ hy))).2
    clear ih h2 h3 e hl2 hl hg
    induction l with
    | nil => rfl
    | cons y l ih2 =>
      rw [List.all_cons, List.all_cons, this y (List.mem_cons_self ..), ih2 fun z hz => this z (List.mem_cons_of_mem _ hz)]
end Aig
end Go.Proofs.Ytgljnnokifggkaa.M
