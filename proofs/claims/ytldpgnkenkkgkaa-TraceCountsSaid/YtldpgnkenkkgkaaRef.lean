/-
The reference's reading of proofs as texts, plainly: the same as 'readGo'.
-/
import Derived.Test.YtldpgnkenkkgkaaH5
import Derived.Test.YtldpgnkenkkgkaaNumR
import Derived.Test.Ytldpgnkenkkgkaaf8
import Derived.Test.Ytldpgnkenkkgkaaf9
namespace Go.Proofs.Ytldpgnkenkkgkaa.Ref
set_option linter.unusedSimpArgs false
set_option linter.unusedVariables false
open Go.RowKit Go.Proofs.Ytldpgnkenkkgkaa.G Go.Proofs.YtldpgnkenkkgkaaW.PrintWords Go.Proofs.YtldpgnkenkkgkaaW.PrintLast Go.Proofs.Ytldpgnkenkkgkaa.Pre Go.Proofs.Ytldpgnkenkkgkaa.Str Go.Proofs.Ytldpgnkenkkgkaa.Lit Go.Proofs.Ytldpgnkenkkgkaa.Num

/-- The words from place i on; the word at hand begins at b. -/
def wordsFrom (l : List Int) : Nat → Nat → Nat → List S48
  | 0, _, _ => []
  | n + 1, i, b =>
    if i = l.length ∨ blankI (rd l (i : Int)) = true then
      (if b < i then ⟨(b : Int), strOfNums ((l.take i).drop b)⟩ :: wordsFrom l n (i + 1) (i + 1) else wordsFrom l n (i + 1) (i + 1))
    else wordsFrom l n (i + 1) b

theorem Words_l0 (l : List Int) (hl : l.length ≤ 1000000) (n : Nat) : ∀ (k i b : Nat) (ws : List S48), b ≤ i → i + n = l.length + 1 → 2 * n < k → ws.length + n < 1000000000 →
    fathomref04_Words.l0 k l ws (b : Int) (i : Int) = some (ws ++ wordsFrom l n i b) := by
  induction n with
  | zero =>
    intro k i b ws hb hi hk hw
    obtain ⟨k, rfl⟩ : ∃ q, k = q + 1 := ⟨k - 1, by omega⟩
    simp only [fathomref04_Words.l0, wordsFrom]
    rw [if_neg (by omega), List.append_nil]
  | succ n ih =>
    intro k i b ws hb hi hk hw
    obtain ⟨k, rfl⟩ : ∃ q, k = q + 2 := ⟨k - 2, by omega⟩
    have hend : fathomref04_Words.j1 (k + 1) l ws (b : Int) (i : Int) true = some (ws ++ (if b < i then (⟨(b : Int), strOfNums ((l.take i).drop b)⟩ : S48) :: wordsFrom l n (i + 1) (i + 1) else wordsFrom l n (i + 1) (i + 1))) := by
      simp only [fathomref04_Words.j1, if_true]
      rw [w64 (x := (i : Int) + 1) (by omega) (by omega)]
      by_cases h : b < i
      · rw [if_pos (by omega), if_pos (by omega), if_pos (by omega), if_pos (by omega), if_pos (by omega), if_pos h, Int.toNat_natCast, Int.toNat_natCast]
        have := ih k (i + 1) (i + 1) (ws ++ [⟨(b : Int), strOfNums ((l.take i).drop b)⟩]) (by omega) (by omega) (by omega) (by simp; omega)
        rw [List.append_assoc] at this
        exact_mod_cast this
      · rw [if_neg (by omega), if_neg h]
        have := ih k (i + 1) (i + 1) ws (by omega) (by omega) (by omega) (by omega)
        exact_mod_cast this
    have hgo : fathomref04_Words.j1 (k + 1) l ws (b : Int) (i : Int) false = some (ws ++ wordsFrom l n (i + 1) b) := by
      simp only [fathomref04_Words.j1]
      rw [if_neg (by simp), w64 (x := (i : Int) + 1) (by omega) (by omega)]
      have := ih k (i + 1) b ws (by omega) (by omega) (by omega) (by omega)
      exact_mod_cast this
    have sp : fathomref04_Words.l0 (k + 2) l ws (b : Int) (i : Int) = fathomref04_Words.j1 (k + 1) l ws (b : Int) (i : Int) (decide (i = l.length ∨ blankI (rd l (i : Int)) = true)) := by
      simp only [fathomref04_Words.l0]
      rw [if_pos (by omega)]
      by_cases h : i = l.length
      · rw [if_pos (by omega)]; simp [h]
      · rw [if_neg (by omega), if_pos (by omega), if_pos (by omega)]
        unfold blankI
        by_cases h1 : rd l (i : Int) = 32
        · rw [if_pos h1]; simp [h1]
        rw [if_neg h1]
        by_cases h2 : rd l (i : Int) = 9
        · rw [if_pos h2]; simp [h2]
        rw [if_neg h2]
        by_cases h3 : rd l (i : Int) = 10
        · rw [if_pos h3]; simp [h3]
        rw [if_neg h3]
        by_cases h4 : rd l (i : Int) = 13
        · simp [h4]
        · rw [beq_eq_false_iff_ne.mpr h4]; simp [h, h1, h2, h3, h4]
    rw [sp]
    simp only [wordsFrom]
    by_cases h : i = l.length ∨ blankI (rd l (i : Int)) = true
    · rw [decide_eq_true h, hend, if_pos h]
    · rw [decide_eq_false h, hgo, if_neg h]

/-- The reference's steps, word by word. -/
def refGo (m : Int) : List S48 → List S35 → Bool → List Int → Bool → List S35 × Int × Int
  | [], L, _, _, inn => if inn = true then ([], m, 2) else (L, 0, 0)
  | w :: ws, L, del, lits, inn =>
    if (wordSpec L del lits inn (bytesOf w.f1)).1 ≠ 0 then ([], w.f0, (wordSpec L del lits inn (bytesOf w.f1)).1)
    else refGo m ws (wordSpec L del lits inn (bytesOf w.f1)).2.1 (wordSpec L del lits inn (bytesOf w.f1)).2.2.1 (wordSpec L del lits inn (bytesOf w.f1)).2.2.2.1 (wordSpec L del lits inn (bytesOf w.f1)).2.2.2.2

theorem read_words (l : List Int) (n : Nat) : ∀ (i b : Nat) (L : List S35) (del : Bool) (lits : List Int) (inn : Bool), i + n = l.length + 1 →
    readGo l n i b L del lits inn = refGo (l.length : Int) (wordsFrom l n i b) L del lits inn := by
  induction n with
  | zero => intro i b L del lits inn hi; rfl
  | succ n ih =>
    intro i b L del lits inn hi
    simp only [readGo, wordsFrom]
    by_cases h : i < l.length ∧ blankI (rd l (i : Int)) = false
    · rw [if_pos h, if_neg (by rintro (h1 | h1) <;> simp_all), ih _ _ _ _ _ _ (by omega)]
    · have h' : i = l.length ∨ blankI (rd l (i : Int)) = true := by
        by_cases h1 : i = l.length
        · exact .inl h1
        · refine .inr ?_
          cases hb : blankI (rd l (i : Int)) with
          | true => rfl
          | false => exact absurd ⟨by omega, hb⟩ h
      rw [if_neg h, if_pos h']
      by_cases h2 : b < i
      · rw [if_pos h2, if_pos h2]
        simp only [refGo]
        rw [ih _ _ _ _ _ _ (by omega)]
      · rw [if_neg h2, if_neg h2, ih _ _ _ _ _ _ (by omega)]

theorem ref_lit (a : Int) : fathomref01_Lit.f a = some (isLit a) := by
  unfold fathomref01_Lit.f isLit
  by_cases h : a = 0
  · rw [if_pos h]; simp [h]
  · rw [if_neg h]
    by_cases h1 : a ≥ -1048576
    · rw [if_pos h1]; simp [h, h1]
    · rw [if_neg h1]; simp; omega

theorem rd_word {xs : List S48} {i : Nat} (h : i < xs.length) : rd_T48 xs (i : Int) = xs[i] := by
  unfold rd_T48; rw [Int.toNat_natCast, List.getD_eq_getElem?_getD, List.getElem?_eq_getElem h]; rfl

theorem numSpec_d : numSpec [100] = (0, false) := by decide +kernel

theorem Read_l0 (l : List Int) (ws : List S48) (hw : ws.length < 1000000000) (n : Nat) : ∀ (k i : Nat) (L : List S35) (del : Bool) (lits : List Int) (inn : Bool), i + n = ws.length → 10000000100 + 5 * n < k →
    L.length ≤ 262144 → lits.length ≤ 4096 → (inn = true → L.length < 262144) →
    fathomref04_Read.l0 k l ws L inn (i : Int) del lits = some (refGo (l.length : Int) (ws.drop i) L del lits inn) := by
  induction n with
  | zero =>
    intro k i L del lits inn hi hk hL hW hE
    obtain ⟨k, rfl⟩ : ∃ q, k = q + 1 := ⟨k - 1, by omega⟩
    simp only [fathomref04_Read.l0]
    rw [if_neg (by omega), List.drop_of_length_le (by omega)]
    cases inn <;> simp [refGo]
  | succ n ih =>
    intro k i L del lits inn hi hk hL hW hE
    obtain ⟨k, rfl⟩ : ∃ q, k = q + 4 := ⟨k - 4, by omega⟩
    have hlt : i < ws.length := by omega
    simp only [fathomref04_Read.l0]
    rw [if_pos (by omega), if_pos (by omega), rd_word hlt, refNumber_spec _ _ (by omega), drop_cons hlt]
    simp only [Option.bind_some, refGo]
    generalize hs : bytesOf ws[i].f1 = s
    have hd : (ws[i].f1.toList == [100]) = decide (s = [100]) := by rw [beq_toList, hs]; rfl
    -- behind the tests: what follows
    have j3no : ∀ (d : Bool) (nn : Int), fathomref04_Read.j3 (k + 1) l ws L (i : Int) nn d true del lits = some (([] : List S35), ws[i].f0, 3) := by
      intro d nn
      simp only [fathomref04_Read.j3, if_true]
      rw [if_pos (by omega), if_pos (by omega), rd_word hlt]
    have next : ∀ (L' : List S35) (del' : Bool) (lits' : List Int) (inn' : Bool), L'.length ≤ 262144 → lits'.length ≤ 4096 → (inn' = true → L'.length < 262144) → fathomref04_Read.l0 k l ws L' inn' (wrap64 ((i : Int) + 1)) del' lits' = some (refGo (l.length : Int) (ws.drop (i + 1)) L' del' lits' inn') := by
      intro L' del' lits' inn' h1 h2 h3
      rw [w64 (by omega) (by omega)]
      have := ih k (i + 1) L' del' lits' inn' (by omega) (by omega) h1 h2 h3
      exact_mod_cast this
    have j2bad : ∀ (d : Bool) (nn : Int), fathomref04_Read.j2 (k + 2) l ws L inn (i : Int) nn d true del lits = some (([] : List S35), ws[i].f0, 2) := by
      intro d nn
      simp only [fathomref04_Read.j2, if_true]
      rw [if_pos (by omega), if_pos (by omega), rd_word hlt]
    generalize hns : numSpec s = ns
    obtain ⟨nn, ok⟩ := ns
    -- the room that is asked for
    have j2ok : ∀ (d : Bool), fathomref04_Read.j2 (k + 2) l ws L inn (i : Int) nn d false del lits = fathomref04_Read.j3 (k + 1) l ws L (i : Int) nn d (decide ((inn = false ∧ L.length = 262144) ∨ (nn ≠ 0 ∧ lits.length = 4096))) del lits := by
      intro d
      simp only [fathomref04_Read.j2]
      rw [if_neg (by simp)]
      cases inn with
      | true =>
        rw [if_pos rfl]
        by_cases h : nn = 0
        · rw [if_pos h]; simp [h]
        · rw [if_neg h]
          by_cases h2 : lits.length = 4096
          · rw [h2]; simp [h]
          · rw [show ((lits.length : Int) == 4096) = false from beq_eq_false_iff_ne.mpr (by omega)]; simp [h2]
      | false =>
        rw [if_neg (by simp)]
        by_cases h1 : L.length = 262144
        · rw [if_pos (by omega)]; simp [h1]
        · rw [if_neg (by omega)]
          by_cases h : nn = 0
          · rw [if_pos h]; simp [h, h1]
          · rw [if_neg h]
            by_cases h2 : lits.length = 4096
            · rw [h2]; simp [h]
            · rw [show ((lits.length : Int) == 4096) = false from beq_eq_false_iff_ne.mpr (by omega)]; simp [h1, h2]
    unfold wordSpec
    by_cases c1 : inn = false ∧ s = [100]
    · obtain ⟨rfl, rfl⟩ := c1
      rw [numSpec_d] at hns
      obtain ⟨rfl, rfl⟩ : 0 = nn ∧ false = ok := by simpa using hns
      simp only [if_neg (show ¬ (false = true) by simp), hd, decide_true, and_self, if_true]
      simp only [fathomref04_Read.j1, if_true]
      rw [j2ok]
      by_cases c2 : L.length = 262144
      · simp only [c2, and_self, ne_eq, not_true_eq_false, false_and, or_false, decide_true, if_true]
        rw [j3no true 0]; simp
      · simp only [c2, and_false, ne_eq, not_true_eq_false, false_and, or_false, decide_false, if_false]
        simp only [fathomref04_Read.j3, if_true]
        rw [if_neg (by simp), next _ _ _ _ hL hW (fun _ => by omega)]
    rw [if_neg c1]
    have hdf : (if inn = true then false else (ws[i].f1.toList == [100])) = false := by
      cases inn with
      | true => rfl
      | false => rw [if_neg (by simp), hd]; exact decide_eq_false (fun e => c1 ⟨rfl, e⟩)
    have sp : (if inn = true then fathomref04_Read.j1 (k + 3) l ws L inn (i : Int) nn ok false del lits else fathomref04_Read.j1 (k + 3) l ws L inn (i : Int) nn ok (ws[i].f1.toList == [100]) del lits) = fathomref04_Read.j1 (k + 3) l ws L inn (i : Int) nn ok false del lits := by
      cases inn with
      | true => rfl
      | false => rw [if_neg (by simp)] at hdf ⊢; rw [hdf]
    have hns1 : (numSpec s).1 = nn := by rw [hns]
    have hns2 : (numSpec s).2 = ok := by rw [hns]
    rw [sp]
    simp only [fathomref04_Read.j1, hns]
    rw [if_neg (by simp)]
    cases ok with
    | false => rw [if_neg (by simp), j2bad]; simp
    | true =>
      rw [if_pos rfl, ref_lit]
      simp only [Option.bind_some]
      by_cases hn : nn = 0
      · subst hn
        rw [if_pos rfl, j2ok]
        simp only [ne_eq, not_true_eq_false, false_and, or_false, Bool.true_eq_false, if_false, if_true]
        by_cases c3 : inn = false ∧ L.length = 262144
        · rw [decide_eq_true c3, j3no false 0, if_pos c3]; simp
        · rw [decide_eq_false c3, if_neg c3]
          have hl : L.length < 4398046511104 := by omega
          simp only [fathomref04_Read.j3]
          rw [if_neg (by simp), if_neg (by simp), if_pos trivial, if_pos hl]
          have hlen : L.length < 262144 := by
            cases inn with
            | true => exact hE rfl
            | false => have : L.length ≠ 262144 := fun e => c3 ⟨rfl, e⟩; omega
          rw [next _ _ _ _ (by simp; omega) (by simp) (by simp)]; simp
      · rw [if_neg hn]
        cases hb : isLit nn with
        | false => simp only [Bool.not_false]; rw [j2bad]; simp [hn]
        | true =>
          simp only [Bool.not_true]
          rw [j2ok]
          by_cases c3 : inn = false ∧ L.length = 262144
          · rw [decide_eq_true (.inl c3), j3no false nn, if_pos c3]; simp
          · rw [if_neg c3, if_neg hn]
            by_cases c4 : lits.length = 4096
            · rw [decide_eq_true (.inr ⟨hn, c4⟩), j3no false nn, if_pos c4]; simp
            · rw [decide_eq_false (by rintro (h | h); exact c3 h; exact c4 h.2), if_neg c4]
              simp only [fathomref04_Read.j3]
              have hlen : L.length < 262144 := by
                cases inn with
                | true => exact hE rfl
                | false => have : L.length ≠ 262144 := fun e => c3 ⟨rfl, e⟩; omega
              rw [if_neg (by simp), if_neg (by simp), if_neg hn]
              simp only [Option.bind_some, List.length_nil, List.nil_append, Nat.zero_add]
              rw [if_pos (by omega), if_pos (by omega), next _ _ _ _ hL (by simp; omega) (fun _ => hlen)]; simp

theorem wordsFrom_len (l : List Int) (n : Nat) : ∀ i b, (wordsFrom l n i b).length ≤ n := by
  induction n with
  | zero => intro i b; simp [wordsFrom]
  | succ n ih =>
    intro i b; simp only [wordsFrom]
    split
    · split
      · have := ih (i + 1) (i + 1); simp; omega
      · have := ih (i + 1) (i + 1); omega
    · have := ih (i + 1) b; omega

/-- The reference reads as the program does. -/
theorem Read_spec (l : List Int) (hl : l.length ≤ 1000000) (k : Nat) (hk : 10010000100 < k) : fathomref04_Read.f k l = some (readGo l (l.length + 1) 0 0 [] false [] false) := by
  unfold fathomref04_Read.f fathomref04_Words.f
  have h1 := Words_l0 l hl (l.length + 1) k 0 0 [] (by omega) (by omega) (by omega) (by simp; omega)
  have h1' : fathomref04_Words.l0 k l [] 0 0 = some (wordsFrom l (l.length + 1) 0 0) := by simpa using h1
  have hw := wordsFrom_len l (l.length + 1) 0 0
  rw [h1']; simp only [Option.bind_some]
  have h2 := Read_l0 l (wordsFrom l (l.length + 1) 0 0) (by omega) (wordsFrom l (l.length + 1) 0 0).length k 0 [] false [] false (by omega) (by omega) (by simp) (by simp) (by simp)
  rw [read_words l (l.length + 1) 0 0 [] false [] false (by omega)]
  simpa using h2

theorem rd_step {xs : List S35} {i : Nat} (h : i < xs.length) : rd_T35 xs (i : Int) = xs[i] := by
  unfold rd_T35; rw [Int.toNat_natCast, List.getD_eq_getElem?_getD, List.getElem?_eq_getElem h]; rfl
theorem Ints_l0 (a : List Int) (ha : a.length ≤ 9223372036854775807) (n : Nat) : ∀ (k i : Nat), i + n = a.length → n < k → fathomref01_Ints.l0 k a a (i : Int) = some true := by
  induction n with
  | zero =>
    intro k i hi hk
    obtain ⟨k, rfl⟩ : ∃ q, k = q + 1 := ⟨k - 1, by omega⟩
    simp only [fathomref01_Ints.l0]; rw [if_neg (by omega)]
  | succ n ih =>
    intro k i hi hk
    obtain ⟨k, rfl⟩ : ∃ q, k = q + 1 := ⟨k - 1, by omega⟩
    simp only [fathomref01_Ints.l0]
    rw [if_pos (by omega), if_pos (by omega), if_pos (by omega), if_pos trivial, w64 (by omega) (by omega)]
    have := ih k (i + 1) (by omega) (by omega)
    exact_mod_cast this
theorem Same_l0 (a : List S35) (ha : a.length ≤ 9223372036854775807) (hr : ∀ x ∈ a, x.f1.length ≤ 9223372036854775807) (m : Nat) (hm : ∀ x ∈ a, x.f1.length < m) (n : Nat) : ∀ (k i : Nat), i + n = a.length → n + m < k → fathomref04_Same.l0 k a a (i : Int) = some true := by
  induction n with
  | zero =>
    intro k i hi hk
    obtain ⟨k, rfl⟩ : ∃ q, k = q + 1 := ⟨k - 1, by omega⟩
    simp only [fathomref04_Same.l0]; rw [if_neg (by omega)]
  | succ n ih =>
    intro k i hi hk
    obtain ⟨k, rfl⟩ : ∃ q, k = q + 1 := ⟨k - 1, by omega⟩
    have hlt : i < a.length := by omega
    have h1 := hr _ (List.getElem_mem hlt)
    have h2 := hm _ (List.getElem_mem hlt)
    simp only [fathomref04_Same.l0]
    rw [if_pos (by omega), if_pos (by omega), if_pos (by omega), rd_step hlt, if_neg (by simp)]
    have e : fathomref01_Ints.f k a[i].f1 a[i].f1 = some true := by
      unfold fathomref01_Ints.f; rw [if_pos rfl]
      exact Ints_l0 _ h1 a[i].f1.length k 0 (by omega) (by omega)
    rw [e]; simp only [Option.bind_some, if_true]
    rw [w64 (by omega) (by omega)]
    have := ih k (i + 1) (by omega) (by omega)
    exact_mod_cast this
theorem Same_self (a : List S35) (ha : a.length ≤ 9223372036854775807) (hr : ∀ x ∈ a, x.f1.length ≤ 9223372036854775807) (m : Nat) (hm : ∀ x ∈ a, x.f1.length < m) (k : Nat) (hk : a.length + m < k) : fathomref04_Same.f k a a = some true := by
  unfold fathomref04_Same.f; rw [if_pos rfl]
  exact Same_l0 a ha hr m hm a.length k 0 (by omega) (by omega)

/-- What is read is not longer than the text. -/
theorem readGo_len (l : List Int) (n : Nat) : ∀ (i b : Nat) (L : List S35) (del : Bool) (lits : List Int) (inn : Bool), L.length ≤ 262144 → lits.length ≤ 4096 → (inn = true → L.length < 262144) → (∀ x ∈ L, x.f1.length ≤ 4096) →
    (readGo l n i b L del lits inn).1.length ≤ 262144 ∧ ∀ x ∈ (readGo l n i b L del lits inn).1, x.f1.length ≤ 4096 := by
  induction n with
  | zero =>
    intro i b L del lits inn h1 h2 h3 h4
    simp only [readGo]
    split
    · simp
    · exact ⟨h1, h4⟩
  | succ n ih =>
    intro i b L del lits inn h1 h2 h3 h4
    simp only [readGo]
    split
    · exact ih _ _ _ _ _ _ h1 h2 h3 h4
    · split
      · split
        · simp
        · obtain ⟨a1, a2, a3⟩ := wordSpec_bd L del lits inn (bytesOf (strOfNums ((l.take i).drop b))) h1 h2 h3
          refine ih _ _ _ _ _ _ a1 a2 a3 ?_
          generalize bytesOf (strOfNums ((l.take i).drop b)) = s
          unfold wordSpec
          split
          · split
            · exact h4
            · exact h4
          split
          · exact h4
          split
          · exact h4
          split
          · intro x hx
            rw [List.mem_append] at hx
            rcases hx with hx | hx
            · exact h4 x hx
            · simp at hx; subst hx; exact h2
          split
          · exact h4
          · exact h4
      · exact ih _ _ _ _ _ _ h1 h2 h3 h4

end Go.Proofs.Ytldpgnkenkkgkaa.Ref
