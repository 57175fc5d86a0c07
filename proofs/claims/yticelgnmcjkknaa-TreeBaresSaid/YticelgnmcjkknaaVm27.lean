/-
A machine of values, part twenty-seven: regions that draw their order.
-/
import Derived.Test.YticelgnmcjkknaaVm26
set_option linter.unusedVariables false
set_option linter.unusedSimpArgs false
namespace Go.Proofs.Yticelgnmcjkknaa.Vm
open Go.RowKit (Below)
section
variable {P : Program} {C : Nat → Fun} {tt : Nat → TI} {R : Type}

/-! ### what comes before -/
def maskOf (acc : List Nat) (es : List Edge) : Nat := es.foldl (fun s e => cond (Region.binds .any e) (s ||| 2 ^ e.on ||| acc.getD e.on 0) s) 0
theorem mask_bit (acc : List Nat) : ∀ (es : List Edge) (s i : Nat), (es.foldl (fun s e => cond (Region.binds .any e) (s ||| 2 ^ e.on ||| acc.getD e.on 0) s) s).testBit i = true → s.testBit i = true ∨ ∃ e ∈ es, Region.binds .any e = true ∧ (e.on = i ∨ (acc.getD e.on 0).testBit i = true)
  | [], s, i, h => .inl h
  | e :: es, s, i, h => by
    rcases mask_bit acc es _ i h with h1 | ⟨e', he, hb, h1⟩
    · dsimp only at h1
      cases hb : Region.binds .any e with
      | false => rw [hb] at h1; exact .inl h1
      | true =>
        rw [hb] at h1
        simp only [cond_true, Nat.testBit_or, Nat.testBit_two_pow, Bool.or_eq_true, decide_eq_true_eq] at h1
        rcases h1 with (h1 | h1) | h1
        · exact .inl h1
        · exact .inr ⟨e, List.mem_cons_self .., hb, .inl h1⟩
        · exact .inr ⟨e, List.mem_cons_self .., hb, .inr h1⟩
    · exact .inr ⟨e', List.mem_cons_of_mem _ he, hb, h1⟩
/-- What a bit says. -/
def MaskOk (all : List Oper) (M : List Nat) (n : Nat) : Prop := ∀ j i, j < n → (M.getD j 0).testBit i = true → ∃ o, all[j]? = some o ∧ ∃ e ∈ o.after, Region.binds .any e = true ∧ (e.on = i ∨ (e.on < j ∧ (M.getD e.on 0).testBit i = true))
theorem masks_ok (all : List Oper) : ∀ (l : List Oper) (acc : List Nat), all.drop acc.length = l → MaskOk all acc acc.length → MaskOk all (masks l acc) (masks l acc).length ∧ (masks l acc).length = acc.length + l.length
  | [], acc, _, h => ⟨h, rfl⟩
  | o :: l, acc, hl, h => by
    have ho : all[acc.length]? = some o := by
      have := congrArg (fun l => l[0]?) hl
      simpa [List.getElem?_drop] using this
    have hl' : all.drop (acc.length + 1) = l := by rw [← List.drop_drop, hl]; rfl
    simp only [masks]
    have := masks_ok all l (acc ++ [maskOf acc o.after.toList]) (by rw [List.length_append]; exact hl') ?_
    · refine ⟨this.1, ?_⟩
      have h2 := this.2
      simp only [List.length_append, List.length_cons, List.length_nil] at h2 ⊢
      show (masks l (acc ++ [maskOf acc o.after.toList])).length = _
      omega
    · intro j i hj hb
      rw [List.length_append] at hj
      simp only [List.length_cons, List.length_nil] at hj
      have old : ∀ k, k < acc.length → (acc ++ [maskOf acc o.after.toList]).getD k 0 = acc.getD k 0 := fun k hk => by
        rw [List.getD_eq_getElem?_getD, List.getD_eq_getElem?_getD, List.getElem?_append_left hk]
      rcases Nat.lt_or_ge j acc.length with hlt | hge
      · rw [old j hlt] at hb
        obtain ⟨o', h1, e, h2, h3, h4⟩ := h j i hlt hb
        refine ⟨o', h1, e, h2, h3, h4.imp id fun h5 => ⟨h5.1, ?_⟩⟩
        rw [old _ (by omega)]; exact h5.2
      · have hj' : j = acc.length := by omega
        subst hj'
        rw [List.getD_eq_getElem?_getD, List.getElem?_append_right (Nat.le_refl _)] at hb
        simp only [Nat.sub_self, List.getElem?_cons_zero, Option.getD_some] at hb
        rcases mask_bit acc _ _ _ hb with h1 | ⟨e, he, hbi, h1⟩
        · simp at h1
        · refine ⟨o, ho, e, by simpa using he, hbi, h1.imp id fun h2 => ?_⟩
          have hlt : e.on < acc.length := by
            rcases Nat.lt_or_ge e.on acc.length with h' | h'
            · exact h'
            · rw [List.getD_eq_getElem?_getD, List.getElem?_eq_none h'] at h2; simp at h2
          exact ⟨hlt, by rw [old _ hlt]; exact h2⟩
def befI (all : List Oper) (i j : Nat) : Prop := ((masks all []).getD j 0).testBit i = true
/-- What has been listed is closed under 'before'. -/
def Closed (all : List Oper) (L : Nat → Prop) : Prop := ∀ j o, L j → all[j]? = some o → ∀ e ∈ o.after, Region.binds .any e = true → L e.on
theorem bef_closed {all : List Oper} {L : Nat → Prop} (hL : Closed all L) : ∀ (j i : Nat), befI all i j → L j → L i := by
  have hM := (masks_ok all all [] rfl fun j i hj => absurd hj (Nat.not_lt_zero _)).1
  intro j
  induction j using Nat.strongRecOn with
  | _ j ih =>
    intro i hb hj
    have hlt : j < (masks all []).length := by
      rcases Nat.lt_or_ge j (masks all []).length with h' | h'
      · exact h'
      · unfold befI at hb; rw [List.getD_eq_getElem?_getD, List.getElem?_eq_none h'] at hb; simp at hb
    obtain ⟨o, h1, e, h2, h3, h4⟩ := hM j i hlt hb
    have h5 := hL j o hj h1 e h2 h3
    rcases h4 with rfl | ⟨h6, h7⟩
    · exact h5
    · exact ih _ h6 i h7 h5
theorem bef_ready {all : List Oper} {L : Nat → Prop} (hL : Closed all L) {j i : Nat} {o : Oper} (ho : all[j]? = some o) (hr : ∀ e ∈ o.after, Region.binds .any e = true → L e.on) (hb : befI all i j) : L i := by
  have hM := (masks_ok all all [] rfl fun j i hj => absurd hj (Nat.not_lt_zero _)).1
  have hlt : j < (masks all []).length := by
    rcases Nat.lt_or_ge j (masks all []).length with h' | h'
    · exact h'
    · unfold befI at hb; rw [List.getD_eq_getElem?_getD, List.getElem?_eq_none h'] at hb; simp at hb
  obtain ⟨o', h1, e, h2, h3, h4⟩ := hM j i hlt hb
  rw [ho] at h1; simp only [Option.some.injEq] at h1; subst h1
  rcases h4 with rfl | ⟨h6, h7⟩
  · exact hr e h2 h3
  · exact bef_closed hL _ _ h7 (hr e h2 h3)

/-- What the check says. 'X l s': the load l and what s turns are apart; 'A': new variables may be made in any order. -/
structure DrawSpec (C : Nat → Fun) (all : List Oper) (X : Nat → Nat → Prop) (A : Prop) : Prop where
  back : ∀ (j : Nat) (o : Oper), all[j]? = some o → ∀ e ∈ o.after, Region.binds .any e = true → e.on < j
  dst : ∀ (i j : Nat) (p o : Oper) (d : Tmp), i ≠ j → all[i]? = some p → all[j]? = some o → p.dst = some d → o.dst ≠ some d
  nam : ∀ (i j : Nat) (p o : Oper) (d : Tmp), i ≠ j → all[i]? = some p → all[j]? = some o → p.dst = some d → d ∈ named all o → (i < j → befI all i j) ∧ (j < i → befI all j i)
  clash : ∀ (i j : Nat) (p o : Oper), i < j → all[i]? = some p → all[j]? = some o → Vm.clash (cls C p.op) (cls C o.op) = true → befI all i j ∨ X i j ∨ X j i ∨ (A ∧ alAt all i = true ∧ alAt all j = true)
theorem zip_all {all : List Oper} {p : Oper × Nat → Bool} (h : all.zipIdx.all p = true) {j : Nat} {o : Oper} (ho : all[j]? = some o) : p (o, j) = true :=
  List.all_eq_true.1 h _ (by rw [List.mem_zipIdx_iff_getElem?]; exact ho)
theorem draw_spec {all : List Oper} {Y : Nat → Nat → Bool} {X : Nat → Nat → Prop} {A : Prop} (hY : ∀ i j, Y i j = true → X i j ∨ X j i ∨ (A ∧ alAt all i = true ∧ alAt all j = true))
    (h : drawC C all Y = true) : DrawSpec C all X A := by
  have h : ∀ {j o}, all[j]? = some o → _ := fun {j o} ho => zip_all h ho
  have key : ∀ {i j p o}, i ≠ j → all[i]? = some p → all[j]? = some o → (match p.dst with
        | some d => (o.dst != some d) && (!(named all o).contains d || (if i < j then ((masks all []).getD j 0).testBit i else ((masks all []).getD i 0).testBit j))
        | none => true) = true ∧ (!decide (i < j) || (!Vm.clash (cls C p.op) (cls C o.op) || (((masks all []).getD j 0).testBit i || Y i j))) = true := by
    intro i j p o hne hp ho
    have h1 := h ho
    simp only [Bool.and_eq_true] at h1
    have h2 := zip_all h1.2 hp
    simp only [Bool.or_eq_true (i == j), beq_iff_eq, hne, false_or, Bool.and_eq_true] at h2
    exact ⟨h2.1, h2.2⟩
  refine ⟨fun j o ho e he hb => ?_, fun i j p o d hne hp ho hd => ?_, fun i j p o d hne hp ho hd hn => ?_, fun i j p o hlt hp ho hc => ?_⟩
  · have h1 := h ho
    simp only [Bool.and_eq_true] at h1
    have h2 := List.all_eq_true.1 h1.1 e (by simpa using he)
    simpa [hb] using h2
  · have h1 := (key hne hp ho).1
    rw [hd] at h1
    simp only [Bool.and_eq_true, bne_iff_ne] at h1
    exact h1.1
  · have h1 := (key hne hp ho).1
    rw [hd] at h1
    simp only [Bool.and_eq_true, Bool.or_eq_true, Bool.not_eq_true', List.contains_eq_mem, hn, decide_true, Bool.true_eq_false, false_or] at h1
    constructor
    · intro hlt; have := h1.2; rw [if_pos hlt] at this; exact this
    · intro hlt; have := h1.2; rw [if_neg (by omega)] at this; exact this
  · have h1 := (key (by omega) hp ho).2
    rw [decide_eq_true hlt, hc] at h1
    simp only [Bool.not_true, Bool.false_or, Bool.or_eq_true] at h1
    exact h1.imp (fun h => h) (hY i j)
theorem drawOk_spec {all : List Oper} (h : drawOk C all = true) : DrawSpec C all (fun _ _ => False) False :=
  draw_spec (Y := fun _ _ => false) (fun i j h => by cases h) h
theorem drawOk2_spec {all : List Oper} {env : List V} (h : drawOk2 C all env = true) : DrawSpec C all (fun l s => apart C all env l s = true) False :=
  draw_spec (Y := fun i j => apart C all env i j || apart C all env j i) (fun i j h => by
    rcases Bool.or_eq_true_iff.1 h with h | h
    · exact .inl h
    · exact .inr (.inl h)) h
theorem drawOk3_spec {all : List Oper} {env : List V} {n : Nat} {tt : Nat → TI} (h : drawOk3 C tt all env n = true) : DrawSpec C all (fun l s => apart C all env l s = true) True ∧ alOk C tt all env n = true := by
  obtain ⟨h1, h2⟩ := Bool.and_eq_true_iff.1 h
  refine ⟨draw_spec (Y := fun i j => apart C all env i j || apart C all env j i || (alAt all i && alAt all j)) (fun i j h => ?_) h2, h1⟩
  rcases Bool.or_eq_true_iff.1 h with h | h
  · rcases Bool.or_eq_true_iff.1 h with h | h
    · exact .inl h
    · exact .inr (.inl h)
  · exact .inr (.inr ⟨trivial, Bool.and_eq_true_iff.1 h⟩)
end
end Go.Proofs.Yticelgnmcjkknaa.Vm
