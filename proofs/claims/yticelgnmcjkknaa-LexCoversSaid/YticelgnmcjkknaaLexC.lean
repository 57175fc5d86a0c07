/-
Tokens, plainly: what a source's bytes are parted into; put together again with one blank ahead of each, they are parted alike.
-/
import Derived.Test.YticelgnmcjkknaaLexN
set_option linter.unusedVariables false
set_option linter.unusedSimpArgs false
set_option maxRecDepth 100000
namespace Go.Proofs.Yticelgnmcjkknaa.M
open Go Go.Proofs.Yticelgnmcjkknaa.Vm Go.Proofs.Yticelgnmcjkknaa.Pl
namespace Lex
/-! ### blanks -/
def blk (c : Int) : Bool := c == 32 || c == 9 || c == 10 || c == 13
/-- How many bytes are blank, or of a note. -/
def st : Bool → List Int → Nat
  | _, [] => 0
  | false, c :: r => if c = 35 then 1 + st true r else if blk c then 1 + st false r else 0
  | true, c :: r => if c = 10 then 1 + st false r else 1 + st true r
theorem st_le : ∀ (n : Bool) (l : List Int), st n l ≤ l.length
  | n, [] => by cases n <;> exact Nat.le_refl _
  | false, c :: r => by
    have h1 := st_le true r
    have h2 := st_le false r
    unfold st
    rw [List.length_cons]
    split
    · omega
    · split <;> omega
  | true, c :: r => by
    have h1 := st_le true r
    have h2 := st_le false r
    unfold st
    rw [List.length_cons]
    split <;> omega
theorem st_note : ∀ l : List Int, st true l = (l.takeWhile (fun c => c != 10)).length + st false (l.drop (l.takeWhile (fun c => c != 10)).length)
  | [] => rfl
  | c :: r => by
    have ih := st_note r
    rw [List.takeWhile_cons]
    by_cases h : c = 10
    · subst h
      have e : ((10 : Int) != 10) = false := by decide
      rw [e, if_neg (by decide), List.length_nil, List.drop_zero]
      have b : blk 10 = true := by decide
      show (if (10 : Int) = 10 then 1 + st false r else 1 + st true r) = 0 + (if (10 : Int) = 35 then 1 + st true r else if blk 10 = true then 1 + st false r else 0)
      rw [if_pos rfl, if_neg (by decide), if_pos b]; omega
    · have e : (c != 10) = true := by simp [h]
      rw [e, if_pos rfl, List.length_cons, List.drop_succ_cons]
      show (if c = 10 then 1 + st false r else 1 + st true r) = _
      rw [if_neg h, ih]; omega
/-- What stands behind blanks begins with none. -/
theorem st_head : ∀ (n : Bool) (l : List Int) (c : Int) (r : List Int), l.drop (st n l) = c :: r → c ≠ 35 ∧ blk c = false
  | n, [], c, r, h => by cases n <;> cases h
  | false, d :: l, c, r, h => by
    unfold st at h
    split at h
    · rw [Nat.add_comm, List.drop_succ_cons] at h; exact st_head true l c r h
    · split at h
      · rw [Nat.add_comm, List.drop_succ_cons] at h; exact st_head false l c r h
      · rename_i h1 h2
        rw [List.drop_zero] at h
        cases h
        exact ⟨h1, by cases hb : blk d with | true => exact absurd hb h2 | false => rfl⟩
  | true, d :: l, c, r, h => by
    unfold st at h
    split at h
    · rw [Nat.add_comm, List.drop_succ_cons] at h; exact st_head false l c r h
    · rw [Nat.add_comm, List.drop_succ_cons] at h; exact st_head true l c r h
theorem st_zero {c : Int} {r : List Int} (h1 : c ≠ 35) (h2 : blk c = false) : st false (c :: r) = 0 := by
  unfold st; rw [if_neg h1, h2, if_neg (by decide)]
theorem st_blank (r : List Int) : st false (32 :: r) = 1 + st false r := by
  have b : blk 32 = true := by decide
  show (if (32 : Int) = 35 then 1 + st true r else if blk 32 = true then 1 + st false r else 0) = _
  rw [if_neg (by decide), if_pos b]

/-! ### one token -/
theorem take_tw (p : Int → Bool) : ∀ l : List Int, l.take (l.takeWhile p).length = l.takeWhile p
  | [] => rfl
  | c :: r => by
    rw [List.takeWhile_cons]
    split
    · rw [List.length_cons, List.take_succ_cons, take_tw p r]
    · rfl
theorem tw_again (p : Int → Bool) (hp : p 32 = false) (rest : List Int) : ∀ l : List Int, (l.takeWhile p ++ 32 :: rest).takeWhile p = l.takeWhile p
  | [] => by simp [hp]
  | c :: r => by
    rw [List.takeWhile_cons]
    split
    · rename_i h
      rw [List.cons_append, List.takeWhile_cons, if_pos h, tw_again p hp rest r]
    · simp [hp]
theorem tw_le (p : Int → Bool) : ∀ l : List Int, (l.takeWhile p).length ≤ l.length
  | [] => Nat.le_refl _
  | c :: r => by
    have := tw_le p r
    rw [List.takeWhile_cons]
    split <;> simp <;> omega
/-- The number of digits, as it is gathered. -/
def numL : Int → List Int → Int
  | n, [] => n
  | n, c :: r => numL (min 65536 (10 * n + (c - 48))) r
def hdB (p : Int → Bool) : List Int → Bool
  | [] => false
  | c :: _ => p c
def signS (two : Int → Int → Bool) (ones : Int → Bool) (c : Int) : List Int → Option (Int × Nat × Int)
  | d :: _ => if c ≠ 32 ∧ d ≠ 32 ∧ two c d = true then some (3, 2, 0) else if ones c = true then some (3, 1, 0) else none
  | [] => if ones c = true then some (3, 1, 0) else none
/-- A token at a place that is no blank's: kind, length, number. 'two', 'ones': what is a sign of two bytes, and of one. -/
def tokS (two : Int → Int → Bool) (ones : Int → Bool) : List Int → Option (Int × Nat × Int)
  | [] => none
  | c :: r =>
    if dg c = true then
      (if ((decide (c = 48) && decide (1 < ((c :: r).takeWhile dg).length)) || hdB lt ((c :: r).drop ((c :: r).takeWhile dg).length)) = true then none
      else if 65535 < numL 0 ((c :: r).takeWhile dg) then none else some (2, ((c :: r).takeWhile dg).length, numL 0 ((c :: r).takeWhile dg)))
    else if lt c = true then
      (if 12 < ((c :: r).takeWhile ld).length then none else some (1, ((c :: r).takeWhile ld).length, 0))
    else signS two ones c r
section
variable {two : Int → Int → Bool} {ones : Int → Bool} {c : Int} {r : List Int}
theorem tok_dg (h : dg c = true) : tokS two ones (c :: r) = if ((decide (c = 48) && decide (1 < ((c :: r).takeWhile dg).length)) || hdB lt ((c :: r).drop ((c :: r).takeWhile dg).length)) = true then none
      else if 65535 < numL 0 ((c :: r).takeWhile dg) then none else some (2, ((c :: r).takeWhile dg).length, numL 0 ((c :: r).takeWhile dg)) := by
  show (if dg c = true then _ else _) = _
  rw [if_pos h]
theorem tok_lt (hn : dg c = false) (h : lt c = true) : tokS two ones (c :: r) = if 12 < ((c :: r).takeWhile ld).length then none else some (1, ((c :: r).takeWhile ld).length, 0) := by
  show (if dg c = true then _ else if lt c = true then _ else _) = _
  rw [if_neg (by simp [hn]), if_pos h]
theorem tok_sg (hn : dg c = false) (h : lt c = false) : tokS two ones (c :: r) = signS two ones c r := by
  show (if dg c = true then _ else if lt c = true then _ else _) = _
  rw [if_neg (by simp [hn]), if_neg (by simp [h])]
theorem tok_again {k : Int} {n : Nat} {v : Int} (h : tokS two ones (c :: r) = some (k, n, v)) :
    (1 ≤ n ∧ n ≤ (c :: r).length) ∧ k ≠ 4 ∧ ∀ rest, tokS two ones ((c :: r).take n ++ 32 :: rest) = some (k, n, v) := by
  cases hc : dg c with
  | true =>
    rw [tok_dg hc] at h
    split at h
    · cases h
    · rename_i h1
      split at h
      · cases h
      · rename_i h2
        simp only [Option.some.injEq, Prod.mk.injEq] at h
        obtain ⟨rfl, rfl, rfl⟩ := h
        have e1 : (c :: r).takeWhile dg = c :: r.takeWhile dg := by rw [List.takeWhile_cons, if_pos hc]
        refine ⟨⟨by rw [e1]; simp, tw_le dg _⟩, by decide, fun rest => ?_⟩
        rw [take_tw]
        have e2 := tw_again dg (by decide) rest (c :: r)
        have e3 : ((c :: r).takeWhile dg ++ 32 :: rest).drop ((c :: r).takeWhile dg).length = 32 :: rest := List.drop_left ..
        rw [e1] at e2 e3 h1 h2 ⊢
        rw [List.cons_append] at e2 e3 ⊢
        rw [tok_dg hc, e2, e3]
        have h3 : (decide (c = 48) && decide (1 < (c :: r.takeWhile dg).length)) = false := by
          cases hx : (decide (c = 48) && decide (1 < (c :: r.takeWhile dg).length)) with
          | false => rfl
          | true => rw [hx] at h1; exact absurd rfl h1
        have h4 : hdB lt (32 :: rest) = false := by show lt 32 = false; decide
        rw [h3, h4, if_neg (by decide), if_neg h2]
  | false =>
    cases hl : lt c with
    | true =>
      rw [tok_lt hc hl] at h
      split at h
      · cases h
      · rename_i h2
        simp only [Option.some.injEq, Prod.mk.injEq] at h
        obtain ⟨rfl, rfl, rfl⟩ := h
        have hld : ld c = true := by unfold ld; rw [hl]; rfl
        have e1 : (c :: r).takeWhile ld = c :: r.takeWhile ld := by rw [List.takeWhile_cons, if_pos hld]
        refine ⟨⟨by rw [e1]; simp, tw_le ld _⟩, by decide, fun rest => ?_⟩
        rw [take_tw]
        have e2 := tw_again ld (by decide) rest (c :: r)
        rw [e1] at e2 h2 ⊢
        rw [List.cons_append] at e2 ⊢
        rw [tok_lt hc hl, e2, if_neg h2]
    | false =>
      rw [tok_sg hc hl] at h
      have one : ones c = true → ∀ rest, tokS two ones (c :: 32 :: rest) = some (3, 1, 0) := fun ho rest => by
        rw [tok_sg hc hl]
        show (if c ≠ 32 ∧ (32 : Int) ≠ 32 ∧ two c 32 = true then _ else _) = _
        rw [if_neg (fun h => h.2.1 rfl), if_pos ho]
      cases r with
      | nil =>
        have h : (if ones c = true then some ((3 : Int), 1, (0 : Int)) else none) = some (k, n, v) := h
        split at h
        · rename_i ho
          simp only [Option.some.injEq, Prod.mk.injEq] at h
          obtain ⟨rfl, rfl, rfl⟩ := h
          exact ⟨⟨by omega, by simp⟩, by decide, one ho⟩
        · cases h
      | cons d r' =>
        have h : (if c ≠ 32 ∧ d ≠ 32 ∧ two c d = true then some ((3 : Int), 2, (0 : Int)) else if ones c = true then some (3, 1, 0) else none) = some (k, n, v) := h
        split at h
        · rename_i h2
          simp only [Option.some.injEq, Prod.mk.injEq] at h
          obtain ⟨rfl, rfl, rfl⟩ := h
          refine ⟨⟨by omega, by simp⟩, by decide, fun rest => ?_⟩
          show tokS two ones (c :: d :: 32 :: rest) = _
          rw [tok_sg hc hl]
          show (if c ≠ 32 ∧ d ≠ 32 ∧ two c d = true then _ else _) = _
          rw [if_pos h2]
        · split at h
          · rename_i ho
            simp only [Option.some.injEq, Prod.mk.injEq] at h
            obtain ⟨rfl, rfl, rfl⟩ := h
            exact ⟨⟨by omega, by simp⟩, by decide, one ho⟩
          · cases h
end

/-! ### all tokens -/
structure Tk where
  p : Nat
  k : Int
  s : List Int
  v : Int
def lexN (two : Int → Int → Bool) (ones : Int → Bool) (rec : List Int → Option (List Tk)) (p : Nat) : List Int → Option (List Tk)
  | [] => some [⟨p, 4, [], 0⟩]
  | c :: r' => match tokS two ones (c :: r') with
    | none => none
    | some (k, n, v) => (rec ((c :: r').drop n)).map fun ts => ⟨p, k, (c :: r').take n, v⟩ :: ts
def lexR (two : Int → Int → Bool) (ones : Int → Bool) : Nat → List Int → Option (List Tk)
  | 0, _ => none
  | f + 1, r => lexN two ones (lexR two ones f) (st false r) (r.drop (st false r))
/-- What the tokens of a text are. -/
theorem lex_cases {two : Int → Int → Bool} {ones : Int → Bool} {f : Nat} {r : List Int} {ts : List Tk} (h : lexR two ones (f + 1) r = some ts) :
    (r.drop (st false r) = [] ∧ ts = [⟨st false r, 4, [], 0⟩]) ∨ ∃ c r' k n v ts', r.drop (st false r) = c :: r' ∧ tokS two ones (c :: r') = some (k, n, v) ∧ lexR two ones f ((c :: r').drop n) = some ts' ∧ ts = ⟨st false r, k, (c :: r').take n, v⟩ :: ts' := by
  have h : lexN two ones (lexR two ones f) (st false r) (r.drop (st false r)) = some ts := h
  cases hd : r.drop (st false r) with
  | nil =>
    rw [hd] at h
    exact .inl ⟨rfl, (Option.some.inj h).symm⟩
  | cons c r' =>
    rw [hd] at h
    cases ht : tokS two ones (c :: r') with
    | none =>
      have h : (match tokS two ones (c :: r') with
        | none => none
        | some (k, n, v) => (lexR two ones f ((c :: r').drop n)).map fun ts => (⟨st false r, k, (c :: r').take n, v⟩ :: ts : List Tk)) = some ts := h
      rw [ht] at h; cases h
    | some t =>
      obtain ⟨k, n, v⟩ := t
      have h : (match tokS two ones (c :: r') with
        | none => none
        | some (k, n, v) => (lexR two ones f ((c :: r').drop n)).map fun ts => (⟨st false r, k, (c :: r').take n, v⟩ :: ts : List Tk)) = some ts := h
      rw [ht] at h
      obtain ⟨ts', h1, h2⟩ := Option.map_eq_some_iff.1 h
      exact .inr ⟨c, r', k, n, v, ts', rfl, ht, h1, h2.symm⟩
def againS : List Tk → List Int
  | [] => []
  | t :: ts => 32 :: (t.s ++ againS ts)
theorem again_head {two : Int → Int → Bool} {ones : Int → Bool} {f : Nat} {r : List Int} {ts : List Tk} (h : lexR two ones f r = some ts) : ∃ x, againS ts = 32 :: x := by
  cases f with
  | zero => cases h
  | succ f =>
    rcases lex_cases h with ⟨_, rfl⟩ | ⟨c, r', k, n, v, ts', _, _, _, rfl⟩
    · exact ⟨_, rfl⟩
    · exact ⟨_, rfl⟩
theorem lex_len {two : Int → Int → Bool} {ones : Int → Bool} : ∀ (f : Nat) (r : List Int) (ts : List Tk), lexR two ones f r = some ts → 1 ≤ ts.length ∧ ts.length ≤ r.length + 1 ∧ (againS ts).length ≤ r.length + ts.length
  | 0, _, _, h => by cases h
  | f + 1, r, ts, h => by
    rcases lex_cases h with ⟨_, rfl⟩ | ⟨c, r', k, n, v, ts', hd, ht, h1, rfl⟩
    · simp [againS]
    · have ih := lex_len f _ ts' h1
      have hn := (tok_again ht).1
      have hl : (c :: r').length ≤ r.length := by rw [← hd, List.length_drop]; omega
      rw [List.length_drop] at ih
      simp only [againS, List.length_cons, List.length_append, List.length_take] at ih hn hl ⊢
      omega
theorem lex_bytes {two : Int → Int → Bool} {ones : Int → Bool} : ∀ (f : Nat) (r : List Int) (ts : List Tk), lexR two ones f r = some ts → (∀ x ∈ r, 0 ≤ x ∧ x ≤ 255) → (∀ x ∈ againS ts, 0 ≤ x ∧ x ≤ 255) ∧ ∀ t ∈ ts, ∀ x ∈ t.s, 0 ≤ x ∧ x ≤ 255
  | 0, _, _, h, _ => by cases h
  | f + 1, r, ts, h, hr => by
    rcases lex_cases h with ⟨_, rfl⟩ | ⟨c, r', k, n, v, ts', hd, ht, h1, rfl⟩
    · refine ⟨fun x hx => ?_, fun t ht x hx => ?_⟩
      · have hx : x ∈ [(32 : Int)] := hx
        rw [List.mem_singleton.1 hx]; omega
      · rw [List.mem_singleton.1 ht] at hx; cases hx
    · have hr' : ∀ x ∈ c :: r', 0 ≤ x ∧ x ≤ 255 := fun x hx => hr x (List.mem_of_mem_drop (by rw [hd]; exact hx))
      have ih := lex_bytes f _ ts' h1 fun x hx => hr' x (List.mem_of_mem_drop hx)
      refine ⟨fun x hx => ?_, fun t ht x hx => ?_⟩
      · have hx : x ∈ 32 :: ((c :: r').take n ++ againS ts') := hx
        rcases List.mem_cons.1 hx with rfl | hx
        · omega
        · rcases List.mem_append.1 hx with hx | hx
          · exact hr' x (List.mem_of_mem_take hx)
          · exact ih.1 x hx
      · rcases List.mem_cons.1 ht with rfl | ht
        · exact hr' x (List.mem_of_mem_take hx)
        · exact ih.2 t ht x hx
/-- Put together again, they are parted alike. -/
theorem lex_again {two : Int → Int → Bool} {ones : Int → Bool} : ∀ (f : Nat) (r : List Int) (ts : List Tk), lexR two ones f r = some ts → lexR two ones f (againS ts) = some (ts.map fun t => { t with p := 1 })
  | 0, _, _, h => by cases h
  | f + 1, r, ts, h => by
    rcases lex_cases h with ⟨_, rfl⟩ | ⟨c, r', k, n, v, ts', hdr, ht, h1, rfl⟩
    · have e : st false [32] = 1 := by decide
      show lexN two ones (lexR two ones f) (st false [32]) ([32].drop (st false [32])) = _
      rw [e]; rfl
    · obtain ⟨hn, _, hag⟩ := tok_again ht
      obtain ⟨x, hx⟩ := again_head h1
      have ih := lex_again f _ ts' h1
      obtain ⟨q1, q2⟩ := st_head false r c r' hdr
      have ht2 := hag x
      rw [← hx] at ht2
      obtain ⟨n', rfl⟩ : ∃ n', n = n' + 1 := ⟨n - 1, by omega⟩
      rw [List.take_succ_cons] at ht2 ⊢
      rw [List.cons_append] at ht2
      have hlen : (r'.take n').length = n' := by rw [List.length_take]; simp at hn; omega
      have e2 : (c :: (r'.take n' ++ againS ts')).drop (n' + 1) = againS ts' := by
        rw [List.drop_succ_cons]
        have := List.drop_left (l₁ := r'.take n') (l₂ := againS ts')
        rw [hlen] at this; exact this
      have e3 : (c :: (r'.take n' ++ againS ts')).take (n' + 1) = c :: r'.take n' := by
        rw [List.take_succ_cons]
        have := List.take_left (l₁ := r'.take n') (l₂ := againS ts')
        rw [hlen] at this; rw [this]
      have e1 : st false (32 :: (c :: (r'.take n' ++ againS ts'))) = 1 := by rw [st_blank, st_zero q1 q2]
      show lexN two ones (lexR two ones f) (st false (32 :: (c :: (r'.take n' ++ againS ts')))) ((32 :: (c :: (r'.take n' ++ againS ts'))).drop (st false (32 :: (c :: (r'.take n' ++ againS ts'))))) = _
      rw [e1]
      show (match tokS two ones (c :: (r'.take n' ++ againS ts')) with
        | none => none
        | some (k, n, v) => (lexR two ones f ((c :: (r'.take n' ++ againS ts')).drop n)).map fun ts => (⟨1, k, (c :: (r'.take n' ++ againS ts')).take n, v⟩ :: ts : List Tk)) = _
      rw [ht2]
      dsimp only
      rw [e2, e3, ih]
      rfl
end Lex
end Go.Proofs.Yticelgnmcjkknaa.M
