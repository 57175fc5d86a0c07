/-
The theorem of covering: the plain law. For every input, no condition.
-/
import Derived.Test.YticelgnmcjkknaaLexD
set_option linter.unusedVariables false
set_option linter.unusedSimpArgs false
set_option maxRecDepth 100000
namespace Go.Proofs.Yticelgnmcjkknaa.M
open Go Go.Proofs.Yticelgnmcjkknaa.Vm Go.Proofs.Yticelgnmcjkknaa.Pl
namespace Lex
abbrev lexB : Nat → List Int → Option (List Tk) := lexR two ones
/-- The tokens, as the program tells them. -/
def tokD : Nat → List Tk → List D_Token
  | _, [] => []
  | at_, t :: ts => (t.k, ((at_ + t.p : Nat) : Int), strOfNums t.s, t.v, ()) :: tokD (at_ + t.p + t.s.length) ts
theorem tokD_len : ∀ (ts : List Tk) (a : Nat), (tokD a ts).length = ts.length
  | [], _ => rfl
  | t :: ts, a => by rw [tokD, List.length_cons, List.length_cons, tokD_len ts]
theorem tokD_get : ∀ (ts : List Tk) (a i : Nat) (t : Tk), ts[i]? = some t → ∃ x, (tokD a ts)[i]? = some (t.k, x, strOfNums t.s, t.v, ())
  | [], _, _, _, h => by simp at h
  | t :: ts, a, 0, u, h => by
    simp only [List.getElem?_cons_zero, Option.some.injEq] at h
    subst h
    exact ⟨_, rfl⟩
  | t :: ts, a, i + 1, u, h => by
    rw [List.getElem?_cons_succ] at h
    obtain ⟨x, hx⟩ := tokD_get ts (a + t.p + t.s.length) i u h
    exact ⟨x, by rw [tokD, List.getElem?_cons_succ]; exact hx⟩
theorem size_str (xs : List Int) : (strOfNums xs).size = xs.length := strOfNums_size xs
/-- A source's tokens: told whole. -/
theorem all_ok (k : Nat) {b : List Int} (hb : b.length ≤ 1000000) (hk : b.length < k) (hr8 : ∀ x ∈ b, 0 ≤ x ∧ x ≤ 255) : ∀ (f at_ : Nat) (ts : List Tk) (l : List D_Token), lexB f (b.drop at_) = some ts → at_ ≤ b.length → l.length + ts.length ≤ 8192 → ∀ j, f ≤ j →
    l15_62 k j b l at_ = some ((l ++ tokD at_ ts, 0, 0, ()), ())
  | 0, _, _, _, h, _, _, _, _ => by cases h
  | f + 1, at_, ts, l, h, ha, hl, j, hj => by
    obtain ⟨j, rfl, hj2⟩ := succ_of (by omega : f + 1 ≤ j)
    obtain ⟨y, hy, ht⟩ := next53 k hb hk hr8 ha
    have hle : st false (b.drop at_) ≤ b.length - at_ := by have := st_le false (b.drop at_); rw [List.length_drop] at this; exact this
    have hts := (lex_len _ _ _ h).1
    show b15_62 k (l15_62 k j) b l at_ = _
    unfold b15_62
    rw [hy]
    simp only [Option.bind_some]
    have h8 : ((l.length : Int) == 8192) = false := by rw [beq_int, decide_eq_false (by omega)]
    have hroom : (l.length + 1) * 40 ≤ room := by unfold room; omega
    rcases lex_cases h with ⟨hd, rfl⟩ | ⟨c, r', kd, n, v, ts', hd, htk, h1, rfl⟩
    · rw [List.drop_drop] at hd
      rw [hd] at ht
      subst ht
      have e0 : ((0 : Int) != 0) = false := by decide
      have e4 : ((4 : Int) == 4) = true := by decide
      dsimp only
      rw [e0, h8, cond_false, cond_false, gd_dec hroom, e4, cond_true]
      rfl
    · rw [List.drop_drop] at hd
      rw [hd] at ht
      obtain ⟨hn, hk4, _⟩ := tok_again htk
      have ht : (match tokS two ones (b.drop (at_ + st false (b.drop at_))) with
        | some (kd, n, v) => y = ((kd, ((at_ + st false (b.drop at_) : Nat) : Int), strOfNums ((b.drop (at_ + st false (b.drop at_))).take n), v, ()), 0, ())
        | none => y.2.1 ≠ 0) := ht
      rw [hd, htk] at ht
      dsimp only at ht
      subst ht
      have e0 : ((0 : Int) != 0) = false := by decide
      have e4 : (kd == 4) = false := by rw [beq_int, decide_eq_false hk4]
      have hpl : (c :: r').length = b.length - (at_ + st false (b.drop at_)) := by rw [← hd, List.length_drop]
      have hsl : ((c :: r').take n).length = n := by rw [List.length_take]; omega
      have h1' : lexB f (b.drop (at_ + st false (b.drop at_) + n)) = some ts' := by rw [← List.drop_drop, hd]; exact h1
      have ih := all_ok k hb hk hr8 f (at_ + st false (b.drop at_) + n) ts' (l ++ [(kd, ((at_ + st false (b.drop at_) : Nat) : Int), strOfNums ((c :: r').take n), v, ())]) h1' (by omega) (by simp at hl ⊢; omega) j hj2
      dsimp only
      rw [e0, h8, cond_false, cond_false, gd_dec hroom, e4, cond_false, size_str, hsl, w_add (by omega) n (by omega), ih]
      simp only [Option.bind_some, List.append_assoc, tokD, hsl]
      rfl
/-- Or something is wrong with it. -/
theorem all_none (k : Nat) {b : List Int} (hb : b.length ≤ 1000000) (hk : b.length < k) (hr8 : ∀ x ∈ b, 0 ≤ x ∧ x ≤ 255) : ∀ (f at_ : Nat) (l : List D_Token), lexB f (b.drop at_) = none → at_ ≤ b.length → b.length - at_ < f → l.length ≤ 8192 → ∀ j, f ≤ j →
    ∃ y, l15_62 k j b l at_ = some (y, ()) ∧ y.2.2.1 ≠ 0
  | 0, _, _, _, _, h, _, _, _ => by omega
  | f + 1, at_, l, h, ha, hf, hl, j, hj => by
    obtain ⟨j, rfl, hj2⟩ := succ_of (by omega : f + 1 ≤ j)
    obtain ⟨y, hy, ht⟩ := next53 k hb hk hr8 ha
    have hle : st false (b.drop at_) ≤ b.length - at_ := by have := st_le false (b.drop at_); rw [List.length_drop] at this; exact this
    show ∃ y, b15_62 k (l15_62 k j) b l at_ = some (y, ()) ∧ y.2.2.1 ≠ 0
    unfold b15_62
    rw [hy]
    simp only [Option.bind_some]
    have h : lexN two ones (lexB f) (st false (b.drop at_)) ((b.drop at_).drop (st false (b.drop at_))) = none := h
    rw [List.drop_drop] at h
    by_cases he : y.2.1 = 0
    · have e0 : (y.2.1 != 0) = false := by simp [he]
      rw [e0, cond_false]
      by_cases h8 : l.length = 8192
      · have : ((l.length : Int) == 8192) = true := by rw [beq_int, decide_eq_true (by omega)]
        rw [this, cond_true]
        exact ⟨_, rfl, by show (3 : Int) ≠ 0; decide⟩
      · have : ((l.length : Int) == 8192) = false := by rw [beq_int, decide_eq_false (by omega)]
        have hroom : (l.length + 1) * 40 ≤ room := by unfold room; omega
        rw [this, cond_false, gd_dec hroom]
        cases hd : b.drop (at_ + st false (b.drop at_)) with
        | nil => rw [hd] at h; cases h
        | cons c r' =>
          rw [hd] at ht h
          have ht : (match tokS two ones (b.drop (at_ + st false (b.drop at_))) with
            | some (kd, n, v) => y = ((kd, ((at_ + st false (b.drop at_) : Nat) : Int), strOfNums ((b.drop (at_ + st false (b.drop at_))).take n), v, ()), 0, ())
            | none => y.2.1 ≠ 0) := ht
          rw [hd] at ht
          cases htk : tokS two ones (c :: r') with
          | none => rw [htk] at ht; exact absurd he ht
          | some t =>
            obtain ⟨kd, n, v⟩ := t
            rw [htk] at ht
            dsimp only at ht
            subst ht
            have h : (match tokS two ones (c :: r') with
              | none => none
              | some (k, n, v) => (lexB f ((c :: r').drop n)).map fun ts => (⟨st false (b.drop at_), k, (c :: r').take n, v⟩ :: ts : List Tk)) = none := h
            rw [htk] at h
            obtain ⟨hn, hk4, _⟩ := tok_again htk
            have e4 : (kd == 4) = false := by rw [beq_int, decide_eq_false hk4]
            have hpl : (c :: r').length = b.length - (at_ + st false (b.drop at_)) := by rw [← hd, List.length_drop]
            have hsl : ((c :: r').take n).length = n := by rw [List.length_take]; omega
            have h1' : lexB f (b.drop (at_ + st false (b.drop at_) + n)) = none := by rw [← List.drop_drop, hd]; exact Option.map_eq_none_iff.1 h
            obtain ⟨z, hz, hz0⟩ := all_none k hb hk hr8 f (at_ + st false (b.drop at_) + n) (l ++ [(kd, ((at_ + st false (b.drop at_) : Nat) : Int), strOfNums ((c :: r').take n), v, ())]) h1' (by omega) (by omega) (by simp; omega) j hj2
            dsimp only
            rw [e4, cond_false, size_str, hsl, w_add (by omega) n (by omega), hz]
            exact ⟨_, rfl, hz0⟩
    · have e0 : (y.2.1 != 0) = true := by simp [he]
      rw [e0, cond_true]
      exact ⟨_, rfl, he⟩
/-- The tokens stand in the source, in order, and between them are blanks alone. -/
theorem cover_loop (k : Nat) {b : List Int} (hb : b.length ≤ 1000000) (hk : b.length < k) (hr8 : ∀ x ∈ b, 0 ≤ x ∧ x ≤ 255) {l : List D_Token} (hl : l.length ≤ 100000) : ∀ (f at_ : Nat) (ts : List Tk) (i : Nat) (again : List Int), lexB f (b.drop at_) = some ts → at_ ≤ b.length → l.drop i = tokD at_ ts → again.length + (againS ts).length ≤ 1000000 → ∀ j, l.length - i < j →
    l3_1018 k j b l at_ again i = some (.inl (((b.length : Int), again ++ againS ts, ()), ()))
  | 0, _, _, _, _, h, _, _, _, _, _ => by cases h
  | f + 1, at_, ts, i, again, h, ha, hi, hag, j, hj => by
    obtain ⟨j, rfl, hj2⟩ := succ_of (by omega : 0 + 1 ≤ j)
    have hle : st false (b.drop at_) ≤ b.length - at_ := by have := st_le false (b.drop at_); rw [List.length_drop] at this; exact this
    have hbs := (lex_bytes _ _ _ h fun x hx => hr8 x (List.mem_of_mem_drop hx)).2
    have round : ∀ (t : Tk) (ts' : List Tk), ts = t :: ts' → t.p = st false (b.drop at_) → t.s = (b.drop (at_ + t.p)).take t.s.length → at_ + t.p + t.s.length ≤ b.length →
        l3_1018 k (j + 1) b l at_ again i = (l3_1018 k j b l ((at_ + t.p + t.s.length : Nat) : Int) ((again ++ [32]) ++ t.s) ((i + 1 : Nat) : Int)).bind fun y4 => match y4 with | .inl y4_0 => some (.inl ((y4_0.1.1, y4_0.1.2.1, ()), ())) | .inr y4_1 => some (.inr ((y4_1.1.1, ()), ())) := by
      intro t ts' hts htp hs hle2
      subst hts
      rw [tokD] at hi
      have hx : l[i]? = some (t.k, ((at_ + t.p : Nat) : Int), strOfNums t.s, t.v, ()) := by
        have := congrArg (fun l => l[0]?) hi
        simpa [List.getElem?_drop] using this
      have hlt : i < l.length := (List.getElem?_eq_some_iff.1 hx).1
      have hsb : bytesD (strOfNums t.s) = t.s := by
        have hb8 := hbs t (List.mem_cons_self ..)
        rw [bytes_L]
        show ((t.s.map fun n => UInt8.ofNat n.toNat)).map _ = _
        rw [List.map_map]
        conv => rhs; rw [← List.map_id t.s]
        refine List.map_congr_left fun x hx => ?_
        have := hb8 x hx
        simp only [Function.comp, id]
        rw [UInt8.toNat_ofNat']; omega
      have hlen2 : again.length + (t.s.length + 1) ≤ 1000000 := by
        simp only [againS, List.length_cons, List.length_append] at hag; omega
      show b3_1018 k (l3_1018 k j) b l at_ again i = _
      unfold b3_1018
      rw [decide_eq_true (by omega : (i : Int) < (l.length : Int)), cond_true, ix_nat hx]
      dsimp only
      rw [decide_eq_false (by omega : ¬ ((at_ + t.p : Nat) : Int) < (at_ : Int)), cond_false, size_str, w_add (by omega) _ (by omega), decide_eq_false (by omega : ¬ ((at_ + t.p + t.s.length : Nat) : Int) > (b.length : Int)), cond_false]
      rw [gd_dec (by omega), gd_dec (by omega), gd_dec (by omega), gd_dec (by omega)]
      rw [show (((at_ + t.p + t.s.length : Nat) : Int)).toNat = at_ + t.p + t.s.length by omega, show (((at_ + t.p : Nat) : Int)).toNat = at_ + t.p by omega, cut_text, ← hs]
      have et : ((strOfNums t.s).toList == (strOfNums t.s).toList) = true := beq_self_eq_true _
      rw [et, start16 k hb hk ha, ← htp]
      simp only [Option.bind_some, Bool.not_true, cond_false]
      have en : (((at_ + t.p : Nat) : Int) != ((at_ + t.p : Nat) : Int)) = false := by simp
      rw [en, cond_false, hsb, gd_dec (by unfold room; omega), gd_dec (by rw [List.length_append, List.length_singleton]; unfold room; omega), w_one (by omega)]
      rfl
    rcases lex_cases h with ⟨hd, rfl⟩ | ⟨c, r', kd, n, v, ts', hd, htk, h1, rfl⟩
    · rw [List.drop_drop] at hd
      have hpl : at_ + st false (b.drop at_) = b.length := by
        have := congrArg List.length hd
        rw [List.length_drop, List.length_nil] at this; omega
      rw [round _ _ rfl rfl rfl (by simp; omega)]
      have hil : l.length - i = 1 := by
        have := congrArg List.length hi
        rw [List.length_drop] at this; simpa [tokD] using this
      obtain ⟨j, rfl, hj3⟩ := succ_of (by omega : 0 + 1 ≤ j)
      have e : l3_1018 k (j + 1) b l ((at_ + st false (b.drop at_) + ([] : List Int).length : Nat) : Int) ((again ++ [32]) ++ []) ((i + 1 : Nat) : Int) = some (.inl ((((at_ + st false (b.drop at_) + ([] : List Int).length : Nat) : Int), (again ++ [32]) ++ [], ()), ())) := by
        show b3_1018 k (l3_1018 k j) b l _ _ _ = _
        unfold b3_1018
        rw [decide_eq_false (by omega : ¬ ((i + 1 : Nat) : Int) < (l.length : Int))]; rfl
      rw [e]
      simp only [Option.bind_some, againS, List.append_nil, List.length_nil, Nat.add_zero, hpl]
    · rw [List.drop_drop] at hd
      obtain ⟨hn, hk4, _⟩ := tok_again htk
      have hpl : (c :: r').length = b.length - (at_ + st false (b.drop at_)) := by rw [← hd, List.length_drop]
      have hsl : ((c :: r').take n).length = n := by rw [List.length_take]; omega
      have h1' : lexB f (b.drop (at_ + st false (b.drop at_) + n)) = some ts' := by rw [← List.drop_drop, hd]; exact h1
      have hi' : l.drop (i + 1) = tokD (at_ + st false (b.drop at_) + n) ts' := by
        rw [← List.drop_drop, hi, tokD]
        show (_ :: tokD _ ts').drop 1 = _
        rw [List.drop_succ_cons, List.drop_zero]; dsimp only; rw [hsl]
      have hil : l.length - i = ts'.length + 1 := by
        have := congrArg List.length hi
        rw [List.length_drop, tokD_len] at this; simpa using this
      have ih := cover_loop k hb hk hr8 hl f (at_ + st false (b.drop at_) + n) ts' (i + 1) ((again ++ [32]) ++ (c :: r').take n) h1' (by omega) hi' (by
        simp only [againS, List.length_cons, List.length_append, List.length_nil] at hag ⊢; omega) j (by omega)
      rw [round _ _ rfl rfl (by dsimp only; rw [hsl, hd]) (by dsimp only; rw [hsl]; omega)]
      dsimp only
      rw [hsl, ih]
      simp only [Option.bind_some, againS, List.append_assoc, List.cons_append, List.nil_append]
/-- Alike, but for their places. -/
theorem same_loop (k : Nat) {ts ts2 : List Tk} (hlen : ts2.length = ts.length) (hsame : ∀ (i : Nat) (t u : Tk), ts[i]? = some t → ts2[i]? = some u → u.k = t.k ∧ u.s = t.s ∧ u.v = t.v) {a a2 : Nat} (hl : ts.length ≤ 100000) : ∀ (d i : Nat), ts.length - i = d → ∀ j, d < j →
    l3_8186 k j (tokD a ts) (tokD a2 ts2) i = some (.inl ((), ())) := by
  intro d
  induction d with
  | zero =>
    intro i hi j hj
    obtain ⟨j, rfl, _⟩ := succ_of (n := 0) (by omega : 0 + 1 ≤ j)
    show b3_8186 k (l3_8186 k j) _ _ i = _
    unfold b3_8186
    rw [tokD_len, decide_eq_false (by omega : ¬ (i : Int) < ts.length)]; rfl
  | succ d ih =>
    intro i hi j hj
    obtain ⟨j, rfl, hj2⟩ := succ_of (by omega : d + 1 + 1 ≤ j)
    have hx : ts[i]? = some ts[i] := List.getElem?_eq_getElem (by omega)
    have hy : ts2[i]? = some ts2[i] := List.getElem?_eq_getElem (by omega)
    obtain ⟨x, h1⟩ := tokD_get ts a i _ hx
    obtain ⟨y, h2⟩ := tokD_get ts2 a2 i _ hy
    obtain ⟨q1, q2, q3⟩ := hsame i _ _ hx hy
    show b3_8186 k (l3_8186 k j) _ _ i = _
    unfold b3_8186
    rw [ix_nat h2, ix_nat h1, tokD_len, decide_eq_true (by omega : (i : Int) < ts.length), cond_true, w_one (by omega)]
    dsimp only
    have n1 : (ts2[i].k != ts[i].k) = false := by rw [q1]; simp
    have n2 : ((strOfNums ts2[i].s).toList == (strOfNums ts[i].s).toList) = true := by rw [q2]; exact beq_self_eq_true _
    have n3 : (ts2[i].v != ts[i].v) = false := by rw [q3]; simp
    rw [n1, cond_false, ix_nat h2, ix_nat h1]
    dsimp only
    rw [n2, Bool.not_true, cond_false, ix_nat h2, ix_nat h1]
    dsimp only
    rw [n3, cond_false, ih (i + 1) (by omega) j hj2]
    rfl
end Lex
open Lex in
theorem Pure.LexCovers (b : List Int) (hf : Fit (.slice (.int .u8)) b) : ∃ k, f3 k b = some ((true, ()), ()) := by
  refine (awake14E.mono2 (E.ge 100000) fun k e hk => ?_).ex
  have hr8 : ∀ x ∈ b, 0 ≤ x ∧ x ≤ 255 := fun x hx => by
    have h1 := (hf.inv.2 x hx).inv
    have h1 : (Lit.int .u8 x).wf = true := h1
    simp [Lit.wf, show IntKind.u8.min = 0 from by decide, show IntKind.u8.max = 255 from by decide] at h1
    exact h1
  unfold f3
  by_cases h : (b.length : Int) > 3000
  · rw [decide_eq_true h, e]; rfl
  · have hg : (0 + b.length) * 1 ≤ room := by unfold room; omega
    rw [decide_eq_false h, cond_false, gd_dec hg, List.nil_append]
    have h15 : ∀ c : List Int, c.length ≤ 32768 → f15 k c = (l15_62 k k c [] 0).bind fun y1 => some ((y1.1.1, y1.1.2.1, y1.1.2.2.1, ()), ()) := fun c hc => by
      unfold f15; rw [decide_eq_false (by omega : ¬ (c.length : Int) > 32768), cond_false]
    rw [h15 b (by omega)]
    cases hts : lexB 10000 b with
    | none =>
      obtain ⟨y, h1, h2⟩ := all_none k (b := b) (by omega) (by omega) hr8 10000 0 [] hts (by omega) (by omega) (by simp) k (by omega)
      rw [show ((0 : Nat) : Int) = 0 from rfl] at h1
      rw [h1]
      simp only [Option.bind_some]
      have e0 : (y.2.2.1 != 0) = true := by simp [h2]
      rw [e0, cond_true, e]; rfl
    | some ts =>
      have hlen := lex_len _ _ _ hts
      have h1 := all_ok k (b := b) (by omega) (by omega) hr8 10000 0 ts [] hts (by omega) (by simp; omega) k (by omega)
      rw [show ((0 : Nat) : Int) = 0 from rfl, List.nil_append] at h1
      rw [h1]
      simp only [Option.bind_some]
      have e0 : ((0 : Int) != 0) = false := by decide
      rw [e0, cond_false]
      have h2 := cover_loop k (b := b) (by omega) (by omega) hr8 (l := tokD 0 ts) (by rw [tokD_len]; omega) 10000 0 ts 0 [] hts (by omega) rfl (by simp; omega) k (by rw [tokD_len]; omega)
      rw [show ((0 : Nat) : Int) = 0 from rfl, List.nil_append] at h2
      rw [h2]
      simp only [Option.bind_some]
      have hbs := lex_bytes _ _ _ hts hr8
      have hag := lex_again _ _ _ hts
      have h3 := all_ok k (b := againS ts) (by omega) (by omega) hbs.1 10000 0 _ [] hag (by omega) (by simp; omega) k (by omega)
      rw [show ((0 : Nat) : Int) = 0 from rfl, List.nil_append] at h3
      rw [h15 _ (by omega), h3]
      simp only [Option.bind_some]
      have e1 : (((tokD 0 (ts.map fun t => { t with p := 1 })).length : Int) != ((tokD 0 ts).length : Int)) = false := by rw [tokD_len, tokD_len, List.length_map]; simp
      have e2 : ((b.length : Int) != (b.length : Int)) = false := by simp
      rw [e0, e1, e2, cond_false, cond_false, cond_false]
      have h4 := same_loop k (ts := ts) (ts2 := ts.map fun t => { t with p := 1 }) (List.length_map ..) (fun i t u ht hu => by
        rw [List.getElem?_map, ht] at hu
        simp only [Option.map_some, Option.some.injEq] at hu
        subst hu; exact ⟨rfl, rfl, rfl⟩) (a := 0) (a2 := 0) (by omega) ts.length 0 rfl k (by omega)
      rw [show ((0 : Nat) : Int) = 0 from rfl] at h4
      rw [h4]
      simp only [Option.bind_some]
      rw [e]; rfl
end Go.Proofs.Yticelgnmcjkknaa.M
