/-
Lines and words, plainly: a text is read line by line; however its words are parted, it says the same.
-/
import Derived.Test.YtcbhbmhopkagiaaDimW
set_option linter.unusedVariables false
set_option linter.unusedSimpArgs false
set_option maxRecDepth 100000
namespace Go.Proofs.Ytcbhbmhopkagiaa.M
open Go Go.Proofs.Ytcbhbmhopkagiaa.Vm Go.Proofs.Ytcbhbmhopkagiaa.Pl
namespace Dim
open Num Str
inductive ReadOk : List Int → List Int → Rd → Rd → Prop
  | fin {L r r'} : LineOk L r r' → ReadOk L [] r r'
  | nl {L X rest r r1 r'} : (L = X ++ [13] ∨ (X = L ∧ ∀ Y, L ≠ Y ++ [13])) → LineOk X r r1 → ReadOk [] rest r1 r' → ReadOk L (10 :: rest) r r'
  | ch {L c rest r r'} : c ≠ 10 → ReadOk (L ++ [c]) rest r r' → ReadOk L (c :: rest) r r'
theorem drop_at {b : List Int} {i : Nat} {c : Int} {r : List Int} (h : b.drop i = c :: r) : i < b.length ∧ b[i]? = some c ∧ b.drop (i + 1) = r := by
  have hlt : i < b.length := by
    rcases Nat.lt_or_ge i b.length with h' | h'
    · exact h'
    · rw [List.drop_of_length_le h'] at h; cases h
  rw [List.drop_eq_getElem_cons hlt] at h
  injection h with h1 h2
  exact ⟨hlt, by rw [List.getElem?_eq_getElem hlt, h1], h2⟩
theorem seg_snoc {b : List Int} {f i : Nat} {c : Int} (hx : b[i]? = some c) (hf : f ≤ i) : (b.take (i + 1)).drop f = (b.take i).drop f ++ [c] := by
  have hlt : i < b.length := (List.getElem?_eq_some_iff.1 hx).1
  have hc : b[i] = c := (List.getElem?_eq_some_iff.1 hx).2
  rw [List.take_succ_eq_append_getElem hlt, List.drop_append_of_le_length (by rw [List.length_take]; omega), hc]
/-- One line is read. -/
theorem one11 (k : Nat) {b : List Int} (hb : b.length ≤ 900000) (hk : b.length + 100 < k) (hr : ∀ x ∈ b, 0 ≤ x ∧ x ≤ 255) {f t : Nat} (hft : f ≤ t) (ht : t ≤ b.length) {r r' : Rd} (h : LineOk ((b.take t).drop f) r r') :
    l11_64078 k b f t 0 [] r.vars r.cls r.hd r.want r.op r.inn 0 0 = some (.inl ((), ((0, [], ()), r'.t, ()))) := by
  have hl : ((b.take t).drop f).length ≤ b.length := by rw [List.length_drop, List.length_take]; omega
  have h15 := line15 k (l := (b.take t).drop f) (by omega) (by omega) (fun x hx => hr x (List.mem_of_mem_take (List.mem_of_mem_drop hx))) f h
  unfold l11_64078 l11_128156
  rw [gd_dec (by omega), gd_dec (by omega), gd_dec (by omega), gd_dec (by omega), show ((t : Nat) : Int).toNat = t by omega, show ((f : Nat) : Int).toNat = f by omega, h15]
  rfl
theorem read_loop (k : Nat) {b : List Int} (hb : b.length ≤ 900000) (hk : b.length + 100 < k) (hr : ∀ x ∈ b, 0 ≤ x ∧ x ≤ 255) {L rest : List Int} {r r' : Rd} (h : ReadOk L rest r r') : ∀ (f i : Nat), f ≤ i → i ≤ b.length → (b.take i).drop f = L → b.drop i = rest → ∀ j, b.length + 1 - i < j →
    l11_250 k j b f i 0 [] r.vars r.cls r.hd r.want r.op r.inn 0 0 = some (.inl ((), ((0, [], ()), r'.t, ()))) := by
  induction h with
  | @fin L r r' hl =>
    intro f i hf hi hL hrest j hj
    have hil : i = b.length := by
      have := congrArg List.length hrest
      rw [List.length_drop, List.length_nil] at this; omega
    obtain ⟨j, rfl, hj2⟩ := succ_of (by omega : 1 + 1 ≤ j)
    obtain ⟨j, rfl, hj3⟩ := succ_of (by omega : 0 + 1 ≤ j)
    show b11_250 k (l11_250 k (j + 1)) b f i 0 [] r.vars r.cls r.hd r.want r.op r.inn 0 0 = _
    have hto : l11_32038 k b f i i = some (((i : Int), ()), ()) := by
      unfold l11_32038 l11_64076
      rw [decide_eq_false (by omega : ¬ (i : Int) < (b.length : Int))]; rfl
    have hone := one11 k hb hk hr hf hi (by rw [hL]; exact hl)
    have hlast : l11_250 k (j + 1) b ((i + 1 : Nat) : Int) ((i + 1 : Nat) : Int) 0 [] r'.vars r'.cls r'.hd r'.want r'.op r'.inn 0 0 = some (.inl ((), ((0, [], ()), r'.t, ()))) := by
      show b11_250 k (l11_250 k j) _ _ _ _ _ _ _ _ _ _ _ _ _ = _
      unfold b11_250
      rw [decide_eq_false (by omega : ¬ ((i + 1 : Nat) : Int) ≤ (b.length : Int))]; rfl
    unfold b11_250
    rw [decide_eq_true (by omega : (i : Int) ≤ (b.length : Int)), cond_true, decide_eq_false (by omega : ¬ (i : Int) < (b.length : Int)), cond_false, hto]
    simp only [Option.bind_some]
    rw [hone]
    simp only [Option.bind_some]
    rw [w_one (by omega)]
    have : l11_250 k (j + 1) b ((i + 1 : Nat) : Int) ((i + 1 : Nat) : Int) 0 [] r'.t.1 r'.t.2.1 r'.t.2.2.1 r'.t.2.2.2.1 r'.t.2.2.2.2.1 r'.t.2.2.2.2.2.1 r'.t.2.2.2.2.2.2.1 r'.t.2.2.2.2.2.2.2.1 = _ := hlast
    rw [this]; rfl
  | @nl L X rest r r1 r' hX hl h ih =>
    intro f i hf hi hL hrest j hj
    obtain ⟨hlt, hx, hrest'⟩ := drop_at hrest
    obtain ⟨j, rfl, hj2⟩ := succ_of (by omega : 0 + 1 ≤ j)
    show b11_250 k (l11_250 k j) b f i 0 [] r.vars r.cls r.hd r.want r.op r.inn 0 0 = _
    obtain ⟨t, hto, hft, htl, htX⟩ : ∃ t : Nat, l11_32038 k b f i i = some (((t : Int), ()), ()) ∧ f ≤ t ∧ t ≤ b.length ∧ (b.take t).drop f = X := by
      unfold l11_32038 l11_64076
      rw [decide_eq_true (by omega : (i : Int) < (b.length : Int)), cond_true]
      by_cases hfi : f = i
      · subst hfi
        have hLn : L = [] := by rw [← hL, List.drop_of_length_le (by rw [List.length_take]; omega)]
        rw [decide_eq_false (by omega : ¬ (f : Int) > (f : Int))]
        refine ⟨f, rfl, Nat.le_refl _, hi, ?_⟩
        rcases hX with h1 | ⟨h1, _⟩
        · rw [hLn] at h1
          have := congrArg List.length h1
          simp at this
        · rw [h1, hL]
      · have hi1 : i - 1 < b.length := by omega
        have hx1 : b[i - 1]? = some b[i - 1] := List.getElem?_eq_getElem hi1
        have hs := seg_snoc (f := f) hx1 (by omega)
        rw [show i - 1 + 1 = i by omega, hL] at hs
        have hw : w64 ((i : Int) - 1) = ((i - 1 : Nat) : Int) := by rw [w_id (by omega) (by omega)]; omega
        rw [decide_eq_true (by omega : (i : Int) > (f : Int)), cond_true, hw, ix_nat hx1, beq_int]
        rcases hX with h1 | ⟨h1, h2⟩
        · rw [hs] at h1
          obtain ⟨e1, e2⟩ := List.append_inj' h1 rfl
          injection e2 with e3 _
          rw [decide_eq_true e3]
          refine ⟨i - 1, rfl, by omega, by omega, e1⟩
        · have hne : ¬ b[i - 1] = 13 := fun e => h2 _ (by rw [hs, e])
          rw [decide_eq_false hne]
          refine ⟨i, rfl, hf, hi, by rw [h1, hL]⟩
    have hone := one11 k hb hk hr hft htl (by rw [htX]; exact hl)
    have hih := ih (i + 1) (i + 1) (Nat.le_refl _) (by omega) (by rw [List.drop_of_length_le (by rw [List.length_take]; omega)]) hrest' j (by omega)
    unfold b11_250
    rw [decide_eq_true (by omega : (i : Int) ≤ (b.length : Int)), cond_true, decide_eq_true (by omega : (i : Int) < (b.length : Int)), cond_true, ix_nat hx, show ((10 : Int) != 10) = false from by decide, cond_false, hto]
    simp only [Option.bind_some]
    rw [hone]
    simp only [Option.bind_some]
    rw [w_one (by omega)]
    have : l11_250 k j b ((i + 1 : Nat) : Int) ((i + 1 : Nat) : Int) 0 [] r1.t.1 r1.t.2.1 r1.t.2.2.1 r1.t.2.2.2.1 r1.t.2.2.2.2.1 r1.t.2.2.2.2.2.1 r1.t.2.2.2.2.2.2.1 r1.t.2.2.2.2.2.2.2.1 = _ := hih
    rw [this]; rfl
  | @ch L c rest r r' hc h ih =>
    intro f i hf hi hL hrest j hj
    obtain ⟨hlt, hx, hrest'⟩ := drop_at hrest
    obtain ⟨j, rfl, hj2⟩ := succ_of (by omega : 0 + 1 ≤ j)
    show b11_250 k (l11_250 k j) b f i 0 [] r.vars r.cls r.hd r.want r.op r.inn 0 0 = _
    have hih := ih f (i + 1) (by omega) (by omega) (by rw [seg_snoc hx hf, hL]) hrest' j (by omega)
    unfold b11_250
    rw [decide_eq_true (by omega : (i : Int) ≤ (b.length : Int)), cond_true, decide_eq_true (by omega : (i : Int) < (b.length : Int)), cond_true, ix_nat hx, show (c != 10) = true from by simp [hc], cond_true, w_one (by omega), hih]
    rfl
/-! ### the text of numbers, however they are parted -/
theorem read_word {rest : List Int} {r r' : Rd} : ∀ (w L : List Int), (∀ c ∈ w, c ≠ 10) → ReadOk (L ++ w) rest r r' → ReadOk L (w ++ rest) r r'
  | [], L, _, h => by rw [List.append_nil] at h; exact h
  | c :: w, L, hw, h => .ch (hw c (List.mem_cons_self ..)) (read_word w (L ++ [c]) (fun d hd => hw d (List.mem_cons_of_mem _ hd)) (by rw [List.append_assoc]; exact h))
theorem digs_chars (n : Int) : ∀ c ∈ digs n, 45 ≤ c ∧ c ≤ 57 := by
  have hn : ∀ m, ∀ c ∈ digN m, 48 ≤ c ∧ c ≤ 57 := fun m c hc => (isDig_iff c).1 (List.all_eq_true.1 (digN_all m) c hc)
  intro c hc
  unfold digs at hc
  split at hc
  · rcases List.mem_cons.1 hc with rfl | hc
    · omega
    · have := hn _ c hc; omega
  · have := hn _ c hc; omega
theorem digs_ne (n : Int) : digs n ≠ [] := by obtain ⟨c, l, h, _⟩ := digs_head n; rw [h]; simp
theorem digs_plain (n : Int) : Plain (digs n) := fun c hc => by have := digs_chars n c hc; omega
theorem digs_nonl (n : Int) : ∀ c ∈ digs n, c ≠ 10 := fun c hc => by have := digs_chars n c hc; omega
theorem no13 {l w : List Int} (hne : w ≠ []) (h : ∀ c ∈ w, c ≠ 13) (Y : List Int) : l ++ w ≠ Y ++ [13] := by
  intro e
  obtain ⟨w', c, rfl⟩ : ∃ w' c, w = w' ++ [c] := ⟨w.dropLast, w.getLast hne, (List.dropLast_concat_getLast hne).symm⟩
  rw [← List.append_assoc] at e
  obtain ⟨_, e2⟩ := List.append_inj' e rfl
  injection e2 with e3 _
  exact h c (by simp) e3
theorem digs_no13 {l : List Int} (n : Int) (Y : List Int) : l ++ digs n ≠ Y ++ [13] := no13 (digs_ne n) (fun c hc => by have := digs_chars n c hc; omega) Y
def gaps : List (List Int) := [[32], [10], [32, 9, 32], [13, 10], [10, 99, 32, 49, 32, 48, 10], [10, 10]]
def gapAt (x : List Int) (k : Nat) : List Int := match x[k]? with
  | some e => gaps.getD (e % 6).toNat []
  | none => [32]
def textOf (x : List Int) : Nat → List Int → List Int
  | _, [] => []
  | k, n :: ns => digs n ++ gapAt x k ++ textOf x (k + 1) ns
theorem textOf_append (x : List Int) : ∀ (a b : List Int) (k : Nat), textOf x k (a ++ b) = textOf x k a ++ textOf x (k + a.length) b
  | [], b, k => by simp [textOf]
  | n :: a, b, k => by
    rw [List.cons_append, textOf, textOf, textOf_append x a b, List.length_cons, List.append_assoc, List.append_assoc, List.append_assoc, show k + 1 + a.length = k + (a.length + 1) by omega]
theorem gap_mem (x : List Int) (k : Nat) : gapAt x k ∈ gaps := by
  unfold gapAt
  split
  · rename_i e _
    have h : (e % 6).toNat < 6 := by omega
    match (e % 6).toNat, h with
    | 0, _ => decide
    | 1, _ => decide
    | 2, _ => decide
    | 3, _ => decide
    | 4, _ => decide
    | 5, _ => decide
  · decide
theorem line_ps {L : List Int} {ps : List Int} {r : Rd} (h : wgo [] L = ps.map digs) (hh : r.hd = true) (ho : RunOk r ps) : LineOk L r (run r ps) := by
  cases ps with
  | nil => exact .inl ⟨h, rfl⟩
  | cons p ps => exact .inr (.inr (.inl ⟨p :: ps, by simp, h, hh, ho, rfl⟩))
theorem read_nums (x : List Int) : ∀ (ns : List Int) (k : Nat) (L ps : List Int) (r : Rd), Clean L → wgo [] L = ps.map digs → r.hd = true → RunOk r (ps ++ ns) → ReadOk L (textOf x k ns) r (run r (ps ++ ns))
  | [], k, L, ps, r, hc, hw, hh, ho => by
    rw [List.append_nil] at ho ⊢
    exact .fin (line_ps hw hh ho)
  | n :: ns, k, L, ps, r, hc, hw, hh, ho => by
    have e : ps ++ n :: ns = (ps ++ [n]) ++ ns := by simp
    rw [e] at ho ⊢
    have ho1 := ((runOk_append (ps ++ [n]) ns r).1 ho).1
    have ho2 := ((runOk_append (ps ++ [n]) ns r).1 ho).2
    have hh2 : (run r (ps ++ [n])).hd = true := (run_hd _ _).1.trans hh
    have hww : wgo [] (L ++ digs n) = (ps ++ [n]).map digs := by rw [clean_word hc (digs_plain n) (digs_ne n), hw, List.map_append]; rfl
    have hline : LineOk (L ++ digs n) r (run r (ps ++ [n])) := line_ps hww hh ho1
    have next : ReadOk [] (textOf x (k + 1) ns) (run r (ps ++ [n])) (run r (ps ++ [n] ++ ns)) := by
      have := read_nums x ns (k + 1) [] [] (run r (ps ++ [n])) clean_nil rfl hh2 (by rw [List.nil_append]; exact ho2)
      rw [run_append (ps ++ [n]) ns]; rw [List.nil_append] at this; exact this
    have nln : (L ++ digs n = L ++ digs n ∧ ∀ Y, L ++ digs n ≠ Y ++ [13]) := ⟨rfl, digs_no13 n⟩
    rw [textOf, List.append_assoc]
    refine read_word _ _ (digs_nonl n) ?_
    have hg := gap_mem x k
    unfold gaps at hg
    simp only [List.mem_cons, List.not_mem_nil, or_false] at hg
    rcases hg with hg | hg | hg | hg | hg | hg <;> rw [hg]
    · obtain ⟨c1, c2⟩ := clean_word_blank hc (digs_plain n) (digs_ne n) (c := 32) (.inl rfl)
      refine .ch (by decide) ?_
      exact read_nums x ns (k + 1) _ (ps ++ [n]) r c1 (by rw [c2, hw, List.map_append]; rfl) hh ho
    · exact .nl (.inr nln) hline next
    · obtain ⟨c1, c2⟩ := clean_word_blank hc (digs_plain n) (digs_ne n) (c := 32) (.inl rfl)
      obtain ⟨d1, d2⟩ := clean_blank c1 (c := 9) (.inr rfl)
      obtain ⟨f1, f2⟩ := clean_blank d1 (c := 32) (.inl rfl)
      refine .ch (by decide) (.ch (by decide) (.ch (by decide) ?_))
      exact read_nums x ns (k + 1) _ (ps ++ [n]) r f1 (by rw [f2, d2, c2, hw, List.map_append]; rfl) hh ho
    · exact .ch (by decide) (.nl (.inl rfl) hline next)
    · refine .nl (.inr nln) hline ?_
      refine .ch (by decide) (.ch (by decide) (.ch (by decide) (.ch (by decide) (.ch (by decide) (.nl (X := [99, 32, 49, 32, 48]) (.inr ⟨rfl, ?_⟩) ?_ next)))))
      · exact no13 (l := []) (w := [99, 32, 49, 32, 48]) (by simp) (by decide)
      · exact .inr (.inl ⟨[[49], [48]], by decide, rfl⟩)
    · exact .nl (.inr nln) hline (.nl (X := []) (.inr ⟨rfl, fun Y h => by have := congrArg List.length h; simp at this⟩) (.inl ⟨rfl, rfl⟩) next)
/-- The whole text. -/
def headT (a n : Int) : List Int := [99, 32, 97, 108, 108, 32, 111, 102, 32, 105, 116, 13, 10, 32, 112, 32, 32, 99, 110, 102, 9] ++ digs a ++ [32] ++ digs n ++ [32, 10]
theorem read_all (x : List Int) {a n : Int} (ha0 : 0 ≤ a) (ha1 : a ≤ 1048576) (hn0 : 0 ≤ n) (hn1 : n ≤ 262144) {ns : List Int} (ho : RunOk ⟨a, [], true, n, [], false⟩ ns) :
    ReadOk [] (headT a n ++ textOf x 0 ns) ⟨0, [], false, 0, [], false⟩ (run ⟨a, [], true, n, [], false⟩ ns) := by
  have e : headT a n ++ textOf x 0 ns = [99, 32, 97, 108, 108, 32, 111, 102, 32, 105, 116, 13] ++ (10 :: (([32, 112, 32, 32, 99, 110, 102, 9] ++ digs a ++ [32] ++ digs n ++ [32]) ++ (10 :: textOf x 0 ns))) := by
    unfold headT; simp
  rw [e]
  refine read_word _ _ (by decide) ?_
  refine .nl (X := [99, 32, 97, 108, 108, 32, 111, 102, 32, 105, 116]) (.inl rfl) (.inr (.inl ⟨[[97, 108, 108], [111, 102], [105, 116]], by decide, rfl⟩)) ?_
  have p112 : Plain [112] := fun c hc => by rw [List.mem_singleton.1 hc]; decide
  have pcnf : Plain [99, 110, 102] := fun c hc => by
    simp only [List.mem_cons, List.not_mem_nil, or_false] at hc
    omega
  obtain ⟨b1, b2⟩ := clean_blank clean_nil (c := 32) (.inl rfl)
  obtain ⟨c1, c2⟩ := clean_word_blank b1 p112 (by simp) (c := 32) (.inl rfl)
  obtain ⟨d1, d2⟩ := clean_blank c1 (c := 32) (.inl rfl)
  obtain ⟨f1, f2⟩ := clean_word_blank d1 pcnf (by simp) (c := 9) (.inr rfl)
  obtain ⟨g1, g2⟩ := clean_word_blank f1 (digs_plain a) (digs_ne a) (c := 32) (.inl rfl)
  obtain ⟨i1, i2⟩ := clean_word_blank g1 (digs_plain n) (digs_ne n) (c := 32) (.inl rfl)
  refine read_word _ _ (fun c hc => ?_) ?_
  · simp only [List.mem_append, List.mem_cons, List.not_mem_nil, or_false] at hc
    rcases hc with (((h | h) | h) | h) | h
    · omega
    · exact digs_nonl a c h
    · omega
    · exact digs_nonl n c h
    · omega
  · rw [List.nil_append]
    refine .nl (X := [32, 112, 32, 32, 99, 110, 102, 9] ++ digs a ++ [32] ++ digs n ++ [32]) (.inr ⟨rfl, no13 (w := [32]) (by simp) (by decide)⟩) (.inr (.inr (.inr ⟨a, n, ?_, rfl, ha0, ha1, hn0, hn1, rfl⟩))) ?_
    · have i3 : wgo [] ([32, 112, 32, 32, 99, 110, 102, 9] ++ digs a ++ [32] ++ digs n ++ [32]) = _ := i2
      rw [i3, g2, f2, d2, c2, b2]; rfl
    · have := read_nums x ns 0 [] [] ⟨a, [], true, n, [], false⟩ clean_nil rfl rfl (by simpa using ho)
      simpa using this
end Dim
end Go.Proofs.Ytcbhbmhopkagiaa.M
