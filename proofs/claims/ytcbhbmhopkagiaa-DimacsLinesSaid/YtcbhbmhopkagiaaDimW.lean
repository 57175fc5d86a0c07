/-
Lines and words, plainly: what a line's words are; what the program reads of a text, line by line.
-/
import Derived.Test.YtcbhbmhopkagiaaNumL
set_option linter.unusedVariables false
set_option linter.unusedSimpArgs false
set_option maxRecDepth 100000
namespace Go.Proofs.Ytcbhbmhopkagiaa.M
open Go Go.Proofs.Ytcbhbmhopkagiaa.Vm Go.Proofs.Ytcbhbmhopkagiaa.Pl
namespace Dim
open Num Str
/-! ### words -/
def wgo : List Int → List Int → List (List Int)
  | cur, [] => if cur = [] then [] else [cur]
  | cur, c :: r => if c = 32 ∨ c = 9 then (if cur = [] then wgo [] r else cur :: wgo [] r) else wgo (cur ++ [c]) r
theorem wgo_blank {cur r : List Int} {c : Int} (hc : c = 32 ∨ c = 9) : wgo cur (c :: r) = if cur = [] then wgo [] r else cur :: wgo [] r := by
  conv => lhs; unfold wgo
  rw [if_pos hc]
def tx (w : D_word) : List Int := bytesD w.2.1
theorem w_one {i : Nat} (h : i ≤ 1000000000) : w64 ((i : Int) + 1) = ((i + 1 : Nat) : Int) := by rw [w_id (by omega) (by omega)]; omega
/-- The end of a word. -/
theorem cut24 (k : Nat) {line : List Int} (hl : line.length ≤ 1000000) (hr : ∀ x ∈ line, 0 ≤ x ∧ x ≤ 255) {e : Nat} (he : e ≤ line.length) {b at_ : Int} {ws : List D_word} (hws : ws.length ≤ 1000000) (hb : b < 0 ∨ ∃ q : Nat, b = q ∧ q ≤ e) :
    ∃ ws', f24 k e b ws at_ line = some ((), (((-1), ()), (ws', ()), (at_, ()), (line, ()), ())) ∧ ws'.map tx = ws.map tx ++ (if b < 0 then [] else [(line.take e).drop b.toNat]) ∧ ws'.length ≤ ws.length + 1 := by
  unfold f24
  rcases hb with hb | ⟨q, rfl, hq⟩
  · rw [decide_eq_false (by omega : ¬ b ≥ 0), if_pos hb]
    exact ⟨ws, rfl, by simp, by omega⟩
  · rw [decide_eq_true (by omega : (q : Int) ≥ 0), cond_true, gd_dec (by omega), gd_dec (by omega), gd_true, gd_dec (by omega), gd_dec (by unfold room; omega), if_neg (by omega)]
    refine ⟨_, rfl, ?_, by simp⟩
    rw [List.map_append]
    show _ ++ [bytesD (strOfNums ((line.take (e : Int).toNat).drop (q : Int).toNat))] = _
    rw [bytes_strOf _ fun x hx => hr x (List.mem_of_mem_take (List.mem_of_mem_drop hx))]
    rfl
theorem words_loop (k : Nat) {line : List Int} (hl : line.length ≤ 1000000) (hr : ∀ x ∈ line, 0 ≤ x ∧ x ≤ 255) {at_ : Int} : ∀ (d i : Nat) (b : Int) (ws : List D_word), line.length - i = d → i ≤ line.length → ws.length ≤ i → (b < 0 ∨ ∃ q : Nat, b = q ∧ q < i) → ∀ j, d < j →
    ∃ (b' : Int) (ws' : List D_word), l19_250 k j line line.length i b ws at_ line = some ((), ((b', ()), (ws', ()), (at_, ()), (line, ()), ())) ∧ ws'.length ≤ line.length ∧ (b' < 0 ∨ ∃ q : Nat, b' = q ∧ q ≤ line.length) ∧
      ws'.map tx ++ (if b' < 0 then [] else [line.drop b'.toNat]) = ws.map tx ++ wgo (if b < 0 then [] else (line.take i).drop b.toNat) (line.drop i) := by
  intro d
  induction d with
  | zero =>
    intro i b ws hi hil hws hb j hj
    obtain ⟨j, rfl, _⟩ := succ_of (n := 0) (by omega : 0 + 1 ≤ j)
    refine ⟨b, ws, ?_, by omega, ?_, ?_⟩
    · show b19_250 k (l19_250 k j) line _ i b ws at_ line = _
      unfold b19_250
      rw [decide_eq_false (by omega : ¬ (i : Int) < line.length)]; rfl
    · rcases hb with hb | ⟨q, rfl, hq⟩
      · exact .inl hb
      · exact .inr ⟨q, rfl, by omega⟩
    · rw [List.drop_of_length_le (by omega : line.length ≤ i), List.take_of_length_le (by omega : line.length ≤ i)]
      unfold wgo
      rcases hb with hb | ⟨q, rfl, hq⟩
      · rw [if_pos hb, if_pos hb, if_pos rfl]
      · have hne : line.drop (q : Int).toNat ≠ [] := by
          intro h
          have := congrArg List.length h
          rw [List.length_drop, List.length_nil] at this; omega
        have hq0 : ¬ (q : Int) < 0 := by omega
        simp only [if_neg hq0, if_neg hne]
  | succ d ih =>
    intro i b ws hi hil hws hb j hj
    obtain ⟨j, rfl, hj2⟩ := succ_of (by omega : d + 1 + 1 ≤ j)
    have hlt : i < line.length := by omega
    have hx : line[i]? = some line[i] := List.getElem?_eq_getElem hlt
    have hds := List.drop_eq_getElem_cons hlt
    have hd1 : line.length - (i + 1) = d := by clear hb; omega
    have hd2 : i + 1 ≤ line.length := by clear hb; omega
    have hd3 : ws.length ≤ i + 1 := by clear hb; omega
    have hd4 : i ≤ 1000000000 := by clear hb; omega
    have e0 : l19_250 k (j + 1) line line.length i b ws at_ line = b19_250 k (l19_250 k j) line line.length i b ws at_ line := rfl
    rw [e0]
    -- a blank: the word ends
    have blank : (line[i] = 32 ∨ line[i] = 9) → ∃ (b' : Int) (ws' : List D_word), ((f24 k i b ws at_ line).bind fun y2 =>
        (l19_250 k j line line.length (w64 ((i : Int) + 1)) y2.2.1.1 y2.2.2.1.1 y2.2.2.2.1.1 y2.2.2.2.2.1.1).bind fun y3 =>
        (some ((), ((y3.2.1.1, ()), (y3.2.2.1.1, ()), (y3.2.2.2.1.1, ()), (y3.2.2.2.2.1.1, ()), ())) : Option R19_250)) = some ((), ((b', ()), (ws', ()), (at_, ()), (line, ()), ())) ∧ ws'.length ≤ line.length ∧ (b' < 0 ∨ ∃ q : Nat, b' = q ∧ q ≤ line.length) ∧
        ws'.map tx ++ (if b' < 0 then [] else [line.drop b'.toNat]) = ws.map tx ++ wgo (if b < 0 then [] else (line.take i).drop b.toNat) (line.drop i) := by
      intro hc
      obtain ⟨ws1, h1, h2, h3⟩ := cut24 k hl hr (e := i) hil (b := b) (at_ := at_) (ws := ws) (by clear hb; omega) (by
        rcases hb with hb | ⟨q, rfl, hq⟩
        · exact .inl hb
        · exact .inr ⟨q, rfl, by omega⟩)
      obtain ⟨b', ws', k1, k2, k3, k4⟩ := ih (i + 1) (-1) ws1 hd1 hd2 (Nat.le_trans h3 (Nat.succ_le_succ hws)) (.inl (by decide)) j hj2
      rw [h1, w_one hd4]
      simp only [Option.bind_some]
      rw [k1]
      refine ⟨b', ws', rfl, k2, k3, ?_⟩
      rw [k4, h2, if_pos (by decide : (-1 : Int) < 0), hds]
      conv => rhs; unfold wgo
      rw [if_pos hc]
      rcases hb with hb | ⟨q, rfl, hq⟩
      · rw [if_pos hb, if_pos hb, if_pos rfl, List.append_nil]
      · have hne : (line.take i).drop (q : Int).toNat ≠ [] := by
          intro h
          have := congrArg List.length h
          rw [List.length_drop, List.length_take, List.length_nil] at this; omega
        have hq0 : ¬ (q : Int) < 0 := by omega
        simp only [if_neg hq0, if_neg hne, List.append_assoc]; rfl
    unfold b19_250
    rw [decide_eq_true (by clear hb blank; omega : (i : Int) < line.length), cond_true, ix_nat hx, beq_int, beq_int]
    by_cases h32 : line[i] = 32
    · rw [decide_eq_true h32, cond_true]; exact blank (.inl h32)
    · rw [decide_eq_false h32, cond_false]
      by_cases h9 : line[i] = 9
      · rw [decide_eq_true h9, cond_true]; exact blank (.inr h9)
      · rw [decide_eq_false h9, cond_false]
        have hnb : ¬ (line[i] = 32 ∨ line[i] = 9) := by rintro (h | h); exact h32 h; exact h9 h
        rcases hb with hb | ⟨q, rfl, hq⟩
        · obtain ⟨b', ws', k1, k2, k3, k4⟩ := ih (i + 1) i ws hd1 hd2 hd3 (.inr ⟨i, rfl, Nat.lt_succ_self i⟩) j hj2
          rw [decide_eq_true hb, cond_true, w_one (by omega), k1]
          refine ⟨b', ws', rfl, k2, k3, ?_⟩
          have hq0 : ¬ (i : Int) < 0 := by omega
          rw [k4, hds]
          simp only [if_neg hq0, if_pos hb]
          conv => rhs; unfold wgo
          rw [if_neg hnb]
          have : (line.take (i + 1)).drop (i : Int).toNat = [] ++ [line[i]] := by
            rw [show ((i : Int)).toNat = i by omega, List.take_succ_eq_append_getElem hlt, List.drop_append_of_le_length (by rw [List.length_take]; omega), List.drop_of_length_le (by rw [List.length_take]; omega)]
          rw [this]
        · obtain ⟨b', ws', k1, k2, k3, k4⟩ := ih (i + 1) q ws hd1 hd2 hd3 (.inr ⟨q, rfl, by omega⟩) j hj2
          rw [decide_eq_false (by omega : ¬ (q : Int) < 0), cond_false, w_one (by omega), k1]
          refine ⟨b', ws', rfl, k2, k3, ?_⟩
          have hq0 : ¬ (q : Int) < 0 := by omega
          rw [k4, hds]
          simp only [if_neg hq0]
          conv => rhs; unfold wgo
          rw [if_neg hnb]
          have : (line.take (i + 1)).drop (q : Int).toNat = (line.take i).drop (q : Int).toNat ++ [line[i]] := by
            rw [List.take_succ_eq_append_getElem hlt, List.drop_append_of_le_length (by rw [List.length_take]; omega)]
          rw [this]
theorem words19 (k : Nat) {line : List Int} (hl : line.length ≤ 1000000) (hk : line.length < k) (hr : ∀ x ∈ line, 0 ≤ x ∧ x ≤ 255) (at_ : Int) : ∃ ws, f19 k line at_ = some ((ws, ()), ()) ∧ ws.map tx = wgo [] line := by
  obtain ⟨b', ws', k1, k2, k3, k4⟩ := words_loop k hl hr (at_ := at_) line.length 0 (-1) [] (by omega) (by omega) (by simp) (.inl (by omega)) k (by omega)
  rw [show ((0 : Nat) : Int) = 0 from rfl] at k1
  obtain ⟨ws, h1, h2, _⟩ := cut24 k hl hr (e := line.length) (Nat.le_refl _) (b := b') (at_ := at_) (ws := ws') (by omega) k3
  unfold f19
  rw [k1]
  simp only [Option.bind_some]
  rw [h1]
  refine ⟨ws, rfl, ?_⟩
  rw [h2, List.take_of_length_le (Nat.le_refl _), k4, if_pos (by omega : (-1 : Int) < 0), List.drop_zero]; rfl

/-! ### clean ends: what follows begins anew -/
def Clean (l : List Int) : Prop := ∀ x, wgo [] (l ++ x) = wgo [] l ++ wgo [] x
def Plain (w : List Int) : Prop := ∀ c ∈ w, c ≠ 32 ∧ c ≠ 9
theorem wgo_plain : ∀ (w cur x : List Int), Plain w → wgo cur (w ++ x) = wgo (cur ++ w) x
  | [], cur, x, _ => by simp
  | c :: w, cur, x, h => by
    have hc := h c (List.mem_cons_self ..)
    rw [List.cons_append]
    conv => lhs; unfold wgo
    rw [if_neg (by rintro (h | h); exact hc.1 h; exact hc.2 h), wgo_plain w (cur ++ [c]) x fun d hd => h d (List.mem_cons_of_mem _ hd)]
    congr 1; simp
theorem clean_nil : Clean [] := fun x => rfl
theorem clean_word {l w : List Int} (h : Clean l) (hw : Plain w) (hne : w ≠ []) : wgo [] (l ++ w) = wgo [] l ++ [w] := by
  rw [h w]
  have := wgo_plain w [] [] hw
  rw [List.append_nil, List.nil_append] at this
  rw [this]
  unfold wgo; rw [if_neg hne]
theorem clean_word_blank {l w : List Int} (h : Clean l) (hw : Plain w) (hne : w ≠ []) {c : Int} (hc : c = 32 ∨ c = 9) : Clean (l ++ w ++ [c]) ∧ wgo [] (l ++ w ++ [c]) = wgo [] l ++ [w] := by
  have key : ∀ x, wgo [] (l ++ w ++ [c] ++ x) = wgo [] l ++ [w] ++ wgo [] x := fun x => by
    rw [List.append_assoc, List.append_assoc, h, wgo_plain w [] _ hw, List.nil_append]
    rw [List.cons_append, List.nil_append, wgo_blank hc, if_neg hne, List.append_assoc]; rfl
  have k0 := key []
  rw [List.append_nil] at k0
  have e : wgo [] [] = [] := rfl
  rw [e, List.append_nil] at k0
  exact ⟨fun x => by rw [key x, k0], k0⟩
theorem clean_blank {l : List Int} (h : Clean l) {c : Int} (hc : c = 32 ∨ c = 9) : Clean (l ++ [c]) ∧ wgo [] (l ++ [c]) = wgo [] l := by
  have key : ∀ x, wgo [] (l ++ [c] ++ x) = wgo [] l ++ wgo [] x := fun x => by
    rw [List.append_assoc, h]
    rw [List.cons_append, List.nil_append, wgo_blank hc, if_pos rfl]
  have k0 := key []
  rw [List.append_nil] at k0
  have e : wgo [] [] = [] := rfl
  rw [e, List.append_nil] at k0
  exact ⟨fun x => by rw [key x, k0], k0⟩

/-! ### the reader -/
structure Rd where
  vars : Int
  cls : List (List Int)
  hd : Bool
  want : Int
  op : List Int
  inn : Bool
/-- It reads a number. -/
def num1 (r : Rd) (n : Int) : Rd := if n = 0 then { r with cls := r.cls ++ [r.op], op := [], inn := false } else { r with op := r.op ++ [n], inn := true }
def Ok1 (r : Rd) (n : Int) : Prop := r.cls.length ≤ 1000000 ∧ r.op.length ≤ 4096 ∧ -9999999999 ≤ n ∧ n ≤ 9999999999 ∧ (r.inn = false → (r.cls.length : Int) ≠ r.want) ∧ (n ≠ 0 → n ≤ r.vars ∧ -n ≤ r.vars ∧ r.op.length < 4096)
def run (r : Rd) : List Int → Rd
  | [] => r
  | n :: ns => run (num1 r n) ns
def RunOk (r : Rd) : List Int → Prop
  | [] => True
  | n :: ns => Ok1 r n ∧ RunOk (num1 r n) ns
theorem run_append : ∀ (a b : List Int) (r : Rd), run r (a ++ b) = run (run r a) b
  | [], _, _ => rfl
  | n :: a, b, r => run_append a b (num1 r n)
theorem runOk_append : ∀ (a b : List Int) (r : Rd), RunOk r (a ++ b) ↔ RunOk r a ∧ RunOk (run r a) b
  | [], _, _ => by simp [RunOk, run]
  | n :: a, b, r => by
    have := runOk_append a b (num1 r n)
    show (Ok1 r n ∧ RunOk (num1 r n) (a ++ b)) ↔ ((Ok1 r n ∧ RunOk (num1 r n) a) ∧ RunOk (run (num1 r n) a) b)
    rw [this, and_assoc]
theorem run_hd : ∀ (a : List Int) (r : Rd), (run r a).hd = r.hd ∧ (run r a).vars = r.vars ∧ (run r a).want = r.want
  | [], _ => ⟨rfl, rfl, rfl⟩
  | n :: a, r => by
    have := run_hd a (num1 r n)
    have h2 : (num1 r n).hd = r.hd ∧ (num1 r n).vars = r.vars ∧ (num1 r n).want = r.want := by unfold num1; split <;> exact ⟨rfl, rfl, rfl⟩
    exact ⟨this.1.trans h2.1, this.2.1.trans h2.2.1, this.2.2.trans h2.2.2⟩
abbrev TRd : Type := Int × List (List Int) × Bool × Int × List Int × Bool × Int × Int × Unit
def Rd.t (r : Rd) : TRd := (r.vars, r.cls, r.hd, r.want, r.op, r.inn, 0, 0, ())
theorem number21 (k : Nat) (hk : 20 < k) {w : D_word} {r : Rd} {n : Int} (ht : tx w = digs n) (ho : Ok1 r n) : f21 k w r.vars r.cls r.hd r.want r.op r.inn 0 0 = some ((true, ()), ((num1 r n).t, ())) := by
  obtain ⟨h1, h2, h3, h4, h5, h6⟩ := ho
  have hdl : (digs n).length ≤ 1000 := by
    unfold digs
    have hl := digN_len 19 n.natAbs (by omega)
    split
    · rw [List.length_cons]; omega
    · omega
  have hsz : w.2.1.size ≤ 1000000 := by rw [size_nat]; have : bytesD w.2.1 = digs n := ht; rw [this]; omega
  have hn := number6 k hk w.2.1 hsz
  have ht' : bytesD w.2.1 = digs n := ht
  rw [ht', numSpec_digs n h3 h4] at hn
  unfold f21
  rw [hn]
  simp only [Option.bind_some, Bool.not_true, cond_false]
  have hroom1 : (r.cls.length + 1) * 24 ≤ room := by unfold room; omega
  have hroom2 : (r.op.length + 1) * 8 ≤ room := by unfold room; omega
  have fin : (cond (n == 0)
        (gd (decide ((r.cls.length + 1) * 24 ≤ room)) <|
        some ((true, ()), ((r.vars, (r.cls ++ ([r.op] : List (List Int))), r.hd, r.want, [], false, 0, 0, ()), ())))
        (cond (decide ((minmax true n (w64 (0 - n))) > r.vars))
          ((f22 k w.1 1 r.vars r.cls r.hd r.want r.op r.inn 0 0).bind fun y6 =>
          some ((y6.1.1, ()), ((y6.2.1.1, y6.2.1.2.1, y6.2.1.2.2.1, y6.2.1.2.2.2.1, y6.2.1.2.2.2.2.1, y6.2.1.2.2.2.2.2.1, y6.2.1.2.2.2.2.2.2.1, y6.2.1.2.2.2.2.2.2.2.1, ()), ())))
          (cond ((r.op.length : Int) == 4096)
            ((f22 k w.1 3 r.vars r.cls r.hd r.want r.op r.inn 0 0).bind fun y7 =>
            some ((y7.1.1, ()), ((y7.2.1.1, y7.2.1.2.1, y7.2.1.2.2.1, y7.2.1.2.2.2.1, y7.2.1.2.2.2.2.1, y7.2.1.2.2.2.2.2.1, y7.2.1.2.2.2.2.2.2.1, y7.2.1.2.2.2.2.2.2.2.1, ()), ())))
            (gd (decide ((r.op.length + 1) * 8 ≤ room)) <|
            (some ((true, ()), ((r.vars, r.cls, r.hd, r.want, (r.op ++ ([n] : List Int)), true, 0, 0, ()), ())) : Option R21))))) = some ((true, ()), ((num1 r n).t, ())) := by
    by_cases h0 : n = 0
    · subst h0
      have e : ((0 : Int) == 0) = true := by decide
      rw [e, cond_true, gd_dec hroom1]; rfl
    · have e : (n == 0) = false := by simp [h0]
      have h6 := h6 h0
      have h4096 : ((r.op.length : Int) == 4096) = false := by rw [beq_int, decide_eq_false (by omega)]
      have hmm : minmax true n (w64 (0 - n)) ≤ r.vars := by
        unfold minmax
        rw [w_id (by omega) (by omega)]
        simp only [if_true]
        split <;> omega
      rw [e, cond_false, decide_eq_false (by omega : ¬ minmax true n (w64 (0 - n)) > r.vars), h4096, cond_false, cond_false, gd_dec hroom2]
      unfold num1; rw [if_neg h0]; rfl
  cases hi : r.inn with
  | true =>
    rw [hi] at fin
    simp only [Bool.not_true, cond_false]
    exact fin
  | false =>
    have hw : ((r.cls.length : Int) == r.want) = false := by rw [beq_int, decide_eq_false (h5 hi)]
    rw [hi] at fin
    simp only [Bool.not_false, cond_true, hw, cond_false]
    exact fin
theorem numbers_loop (k : Nat) (hk : 20 < k) {ws : List D_word} {ns : List Int} (hl : ws.length ≤ 1000000) (ht : ws.map tx = ns.map digs) : ∀ (d i : Nat) (r : Rd), ws.length - i = d → RunOk r (ns.drop i) → ∀ j, d < j →
    l15_250 k j ws ws.length i r.vars r.cls r.hd r.want r.op r.inn 0 0 = some (.inl ((), ((run r (ns.drop i)).t, ()))) := by
  have hlen : ns.length = ws.length := by have := congrArg List.length ht; simpa using this.symm
  intro d
  induction d with
  | zero =>
    intro i r hi ho j hj
    obtain ⟨j, rfl, _⟩ := succ_of (n := 0) (by omega : 0 + 1 ≤ j)
    show b15_250 k (l15_250 k j) ws ws.length i r.vars r.cls r.hd r.want r.op r.inn 0 0 = _
    unfold b15_250
    rw [decide_eq_false (by omega : ¬ (i : Int) < ws.length), List.drop_of_length_le (by omega)]; rfl
  | succ d ih =>
    intro i r hi ho j hj
    obtain ⟨j, rfl, hj2⟩ := succ_of (by omega : d + 1 + 1 ≤ j)
    have hlt : i < ws.length := by omega
    have hlt' : i < ns.length := by omega
    have hx : ws[i]? = some ws[i] := List.getElem?_eq_getElem hlt
    have hw : tx ws[i] = digs ns[i] := by
      have := congrArg (fun l => l[i]?) ht
      simp only [List.getElem?_map, hx, List.getElem?_eq_getElem hlt', Option.map_some, Option.some.injEq] at this
      exact this
    rw [List.drop_eq_getElem_cons hlt'] at ho ⊢
    obtain ⟨h1, h2⟩ := ho
    have hih := ih (i + 1) (num1 r ns[i]) (by omega) h2 j hj2
    show b15_250 k (l15_250 k j) ws ws.length i r.vars r.cls r.hd r.want r.op r.inn 0 0 = _
    unfold b15_250
    rw [decide_eq_true (by omega : (i : Int) < ws.length), cond_true, ix_nat hx, number21 k hk hw h1]
    simp only [Option.bind_some, Bool.not_true, cond_false]
    rw [w_one (by omega)]
    have : l15_250 k j ws ws.length ((i + 1 : Nat) : Int) (num1 r ns[i]).t.1 (num1 r ns[i]).t.2.1 (num1 r ns[i]).t.2.2.1 (num1 r ns[i]).t.2.2.2.1 (num1 r ns[i]).t.2.2.2.2.1 (num1 r ns[i]).t.2.2.2.2.2.1 (num1 r ns[i]).t.2.2.2.2.2.2.1 (num1 r ns[i]).t.2.2.2.2.2.2.2.1 = _ := hih
    rw [this]; rfl
/-- A line is read: it says nothing; or numbers. -/
def LineOk (l : List Int) (r r' : Rd) : Prop :=
  (wgo [] l = [] ∧ r' = r) ∨ (∃ ws, wgo [] l = [99] :: ws ∧ r' = r) ∨
  (∃ ns, ns ≠ [] ∧ wgo [] l = ns.map digs ∧ r.hd = true ∧ RunOk r ns ∧ r' = run r ns) ∨
  (∃ a n : Int, wgo [] l = [[112], [99, 110, 102], digs a, digs n] ∧ r.hd = false ∧ 0 ≤ a ∧ a ≤ 1048576 ∧ 0 ≤ n ∧ n ≤ 262144 ∧ r' = { r with vars := a, want := n, hd := true })
theorem digs_head (n : Int) : ∃ c l, digs n = c :: l ∧ (c = 45 ∨ 48 ≤ c ∧ c ≤ 57) := by
  have hn : ∀ m, ∃ c l, digN m = c :: l ∧ (48 ≤ c ∧ c ≤ 57) := fun m => by
    have h1 := digN_all m
    cases h : digN m with
    | nil => exact absurd h (digN_ne m)
    | cons c l =>
      rw [h, List.all_cons] at h1
      have := (isDig_iff c).1 (Bool.and_eq_true_iff.1 h1).1
      exact ⟨c, l, rfl, this⟩
  unfold digs
  split
  · exact ⟨45, _, rfl, .inl rfl⟩
  · obtain ⟨c, l, h, h2⟩ := hn n.natAbs
    exact ⟨c, l, h, .inr h2⟩
theorem begin20 (k : Nat) (hk : 30 < k) {ws : List D_word} {a n : Int} (ht : ws.map tx = [[112], [99, 110, 102], digs a, digs n]) (ha0 : 0 ≤ a) (ha1 : a ≤ 1048576) (hn0 : 0 ≤ n) (hn1 : n ≤ 262144) (line : Int) (r : Rd) :
    f20 k ws line r.vars r.cls r.hd r.want r.op r.inn 0 0 = some ((true, ()), (({ r with vars := a, want := n, hd := true } : Rd).t, ())) := by
  obtain ⟨w0, w1, w2, w3, rfl⟩ : ∃ w0 w1 w2 w3, ws = [w0, w1, w2, w3] := by
    have hl : ws.length = 4 := by have := congrArg List.length ht; simpa using this
    match ws, hl with
    | [w0, w1, w2, w3], _ => exact ⟨w0, w1, w2, w3, rfl⟩
  simp only [List.map_cons, List.map_nil, List.cons.injEq, and_true] at ht
  obtain ⟨t0, t1, t2, t3⟩ := ht
  obtain ⟨k, rfl⟩ : ∃ q, k = q + 4 := ⟨k - 4, by omega⟩
  have dl : ∀ m : Int, 0 ≤ m → m ≤ 1048576 → (digs m).length ≤ 1000 := fun m h0 h1 => by
    unfold digs
    have hl := digN_len 19 m.natAbs (by omega)
    rw [if_neg (by omega)]; omega
  have n6 : ∀ (w : D_word) (m : Int), tx w = digs m → 0 ≤ m → m ≤ 1048576 → f6 (k + 4) w.2.1 = some ((m, true, ()), ()) := fun w m ht h0 h1 => by
    have ht' : bytesD w.2.1 = digs m := ht
    have := number6 (k + 4) (by omega) w.2.1 (by rw [size_nat, ht']; have := dl m h0 h1; omega)
    rw [ht', numSpec_digs m (by omega) (by omega)] at this
    exact this
  have e0 : (w0.2.1.toList == (ByteArray.mk #[112]).toList) = true := by
    rw [beq_str]; have : bytesD w0.2.1 = [112] := t0; rw [this]; decide
  have e1 : (w1.2.1.toList == s_4.toList) = true := by
    rw [beq_str]; have : bytesD w1.2.1 = [99, 110, 102] := t1; rw [this]; decide +kernel
  have hA : l20_26 (k + 4) (k + 4) [w0, w1, w2, w3] line [(ByteArray.mk #[112]), s_4] 2 0 r.vars r.cls r.hd r.want r.op r.inn 0 0 = some (.inl ((), (r.t, ()))) := by
    show b20_26 (k + 4) (l20_26 (k + 4) (k + 3)) _ _ _ 2 0 _ _ _ _ _ _ _ _ = _
    unfold b20_26
    rw [decide_eq_true (by omega : (0 : Int) < 2), cond_true, ix_get (n := 0) (x := ByteArray.mk #[112]) (by decide) rfl, decide_eq_false (by simp : ¬ (0 : Int) ≥ (([w0, w1, w2, w3] : List D_word).length : Int)), cond_false, ix_get (n := 0) (x := w0) (by decide) rfl, e0, Bool.not_true, cond_false, show w64 ((0 : Int) + 1) = 1 from by decide]
    have : l20_26 (k + 4) (k + 3) [w0, w1, w2, w3] line [(ByteArray.mk #[112]), s_4] 2 1 r.vars r.cls r.hd r.want r.op r.inn 0 0 = some (.inl ((), (r.t, ()))) := by
      show b20_26 (k + 4) (l20_26 (k + 4) (k + 2)) _ _ _ 2 1 _ _ _ _ _ _ _ _ = _
      unfold b20_26
      rw [decide_eq_true (by omega : (1 : Int) < 2), cond_true, ix_get (n := 1) (x := s_4) (by decide) rfl, decide_eq_false (by simp : ¬ (1 : Int) ≥ (([w0, w1, w2, w3] : List D_word).length : Int)), cond_false, ix_get (n := 1) (x := w1) (by decide) rfl, e1, Bool.not_true, cond_false, show w64 ((1 : Int) + 1) = 2 from by decide]
      have : l20_26 (k + 4) (k + 2) [w0, w1, w2, w3] line [(ByteArray.mk #[112]), s_4] 2 2 r.vars r.cls r.hd r.want r.op r.inn 0 0 = some (.inl ((), (r.t, ()))) := by
        show b20_26 (k + 4) (l20_26 (k + 4) (k + 1)) _ _ _ 2 2 _ _ _ _ _ _ _ _ = _
        unfold b20_26
        rw [decide_eq_false (by omega : ¬ (2 : Int) < 2)]; rfl
      rw [this]; rfl
    rw [this]; rfl
  have hB : l20_122 (k + 4) (k + 4) [w0, w1, w2, w3] line [1048576, 262144] 2 0 r.vars r.cls r.hd r.want r.op r.inn 0 0 [0, 0] = some (.inl ((), (r.t, [a, n], ()))) := by
    show b20_122 (k + 4) (l20_122 (k + 4) (k + 3)) _ _ _ 2 0 _ _ _ _ _ _ _ _ _ = _
    unfold b20_122
    rw [decide_eq_true (by omega : (0 : Int) < 2), cond_true, ix_get (n := 0) (x := (1048576 : Int)) (by decide) rfl, show w64 (2 + (0 : Int)) = 2 from by decide, decide_eq_false (by simp : ¬ (2 : Int) ≥ (([w0, w1, w2, w3] : List D_word).length : Int)), cond_false, ix_get (n := 2) (x := w2) (by decide) rfl, n6 w2 a t2 ha0 (by omega)]
    simp only [Option.bind_some, Bool.not_true, cond_false]
    rw [decide_eq_false (by omega : ¬ a < 0), decide_eq_false (by omega : ¬ a > 1048576), cond_false, cond_false, gd_dec (by omega), gd_dec (by simp), gd_dec (by simp), show w64 ((0 : Int) + 1) = 1 from by decide]
    have : l20_122 (k + 4) (k + 3) [w0, w1, w2, w3] line [1048576, 262144] 2 1 r.vars r.cls r.hd r.want r.op r.inn 0 0 (([0, 0] : List Int).set (0 : Int).toNat a) = some (.inl ((), (r.t, [a, n], ()))) := by
      show b20_122 (k + 4) (l20_122 (k + 4) (k + 2)) _ _ _ 2 1 _ _ _ _ _ _ _ _ _ = _
      unfold b20_122
      rw [decide_eq_true (by omega : (1 : Int) < 2), cond_true, ix_get (n := 1) (x := (262144 : Int)) (by decide) rfl, show w64 (2 + (1 : Int)) = 3 from by decide, decide_eq_false (by simp : ¬ (3 : Int) ≥ (([w0, w1, w2, w3] : List D_word).length : Int)), cond_false, ix_get (n := 3) (x := w3) (by decide) rfl, n6 w3 n t3 hn0 (by omega)]
      simp only [Option.bind_some, Bool.not_true, cond_false]
      rw [decide_eq_false (by omega : ¬ n < 0), decide_eq_false (by omega : ¬ n > 262144), cond_false, cond_false, gd_dec (by omega), gd_dec (by simp), gd_dec (by simp), show w64 ((1 : Int) + 1) = 2 from by decide]
      have : l20_122 (k + 4) (k + 2) [w0, w1, w2, w3] line [1048576, 262144] 2 2 r.vars r.cls r.hd r.want r.op r.inn 0 0 ((([0, 0] : List Int).set (0 : Int).toNat a).set (1 : Int).toNat n) = some (.inl ((), (r.t, [a, n], ()))) := by
        show b20_122 (k + 4) (l20_122 (k + 4) (k + 1)) _ _ _ 2 2 _ _ _ _ _ _ _ _ _ = _
        unfold b20_122
        rw [decide_eq_false (by omega : ¬ (2 : Int) < 2)]; rfl
      rw [this]; rfl
    rw [this]; rfl
  unfold f20
  rw [hA]
  simp only [Option.bind_some]
  have hB' : l20_122 (k + 4) (k + 4) [w0, w1, w2, w3] line [1048576, 262144] 2 0 r.t.1 r.t.2.1 r.t.2.2.1 r.t.2.2.2.1 r.t.2.2.2.2.1 r.t.2.2.2.2.2.1 r.t.2.2.2.2.2.2.1 r.t.2.2.2.2.2.2.2.1 [0, 0] = _ := hB
  rw [hB']
  simp only [Option.bind_some]
  rw [decide_eq_false (by simp : ¬ (([w0, w1, w2, w3] : List D_word).length : Int) > 4)]
  rfl
theorem line15 (k : Nat) {l : List Int} (hl : l.length ≤ 900000) (hk : l.length + 100 < k) (hr : ∀ x ∈ l, 0 ≤ x ∧ x ≤ 255) (at_ : Int) {r r' : Rd} (h : LineOk l r r') : f15 k l at_ r.vars r.cls r.hd r.want r.op r.inn 0 0 = some ((true, ()), (r'.t, ())) := by
  obtain ⟨ws, h1, h2⟩ := words19 k (by omega) (by omega) hr at_
  have hwl : ws.length ≤ 1000000 ∧ ws.length ≤ l.length + 1 := by
    have : ws.length = (wgo [] l).length := by rw [← h2, List.length_map]
    have hb : ∀ (x cur : List Int), (wgo cur x).length ≤ x.length + 1 := by
      intro x
      induction x with
      | nil => intro cur; unfold wgo; split <;> simp
      | cons c x ih =>
        intro cur
        unfold wgo
        have a1 := ih []
        have a2 := ih (cur ++ [c])
        split
        · split
          · simp; omega
          · simp; omega
        · simp; omega
    have := hb l []
    omega
  unfold f15
  rw [h1]
  simp only [Option.bind_some]
  rcases h with ⟨h3, rfl⟩ | ⟨us, h3, rfl⟩ | ⟨ns, hne, h3, h4, h5, rfl⟩ | ⟨a, n, h3, h4, h5, h6, h7, h8, rfl⟩
  · rw [h3] at h2
    have : ws = [] := List.map_eq_nil_iff.1 h2
    subst this
    rfl
  · rw [h3] at h2
    cases ws with
    | nil => cases h2
    | cons w ws =>
      rw [List.map_cons] at h2
      injection h2 with e1 e2
      have e0 : (((w :: ws).length : Int) == 0) = false := by rw [beq_int, decide_eq_false (by simp; omega)]
      have ec : (w.2.1.toList == (ByteArray.mk #[99]).toList) = true := by
        rw [beq_str]; have : bytesD w.2.1 = [99] := e1; rw [this]; decide
      rw [e0, cond_false, ix_get (n := 0) (x := w) (by decide) rfl, ec, cond_true]; rfl
  · rw [h3] at h2
    cases ns with
    | nil => exact absurd rfl hne
    | cons n ns =>
    cases hws : ws with
    | nil => rw [hws] at h2; cases h2
    | cons w us =>
      rw [hws] at h2
      have h2c := h2
      rw [List.map_cons, List.map_cons] at h2
      injection h2 with e1 e2
      have e0 : (((w :: us).length : Int) == 0) = false := by rw [beq_int, decide_eq_false (by simp; omega)]
      have ec : (w.2.1.toList == (ByteArray.mk #[99]).toList) = false := by
        have t : bytesD w.2.1 = digs n := e1
        obtain ⟨c, q, hc, hc2⟩ := digs_head n
        have b99 : bytesD (ByteArray.mk #[99]) = [99] := rfl
        rw [beq_str, t, hc, b99, decide_eq_false]
        intro e
        injection e with e3 _
        omega
      rw [hws] at hwl
      have hlp := numbers_loop k (by omega) hwl.1 h2c (w :: us).length 0 r (by omega) (by rw [List.drop_zero]; exact h5) k (by omega)
      rw [show ((0 : Nat) : Int) = 0 from rfl, List.drop_zero] at hlp
      rw [e0, cond_false, ix_get (n := 0) (x := w) (by decide) rfl, ec, cond_false, h4, Bool.not_true, cond_false]
      rw [h4] at hlp
      rw [hlp]
      rfl
  · rw [h3] at h2
    have h2c := h2
    cases hws : ws with
    | nil => rw [hws] at h2; cases h2
    | cons w us =>
      rw [hws, List.map_cons] at h2
      injection h2 with e1 e2
      have e0 : (((w :: us).length : Int) == 0) = false := by rw [beq_int, decide_eq_false (by simp; omega)]
      have ec : (w.2.1.toList == (ByteArray.mk #[99]).toList) = false := by
        have t : bytesD w.2.1 = [112] := e1
        rw [beq_str, t]; decide
      rw [e0, cond_false, ix_get (n := 0) (x := w) (by decide) rfl, ec, cond_false]
      have hbg := begin20 k (by omega) h2c h5 h6 h7 h8 at_ r
      rw [hws, h4] at hbg
      rw [h4, Bool.not_false, cond_true, hbg]
      rfl
end Dim
end Go.Proofs.Ytcbhbmhopkagiaa.M
