/-
A machine of values, ninth part: cuts of slices and strings, equality, aggregates, maps looked into.
-/
import Derived.Test.YticelgnmcjkknaaVm8
import Derived.MapKept
set_option linter.unusedVariables false
set_option linter.unusedSimpArgs false
namespace Go.Proofs.Yticelgnmcjkknaa.Vm
open Go.RowKit (Below)
section
variable {P : Program} {tt : Nat → TI} {R : Type}

/-! ### cuts -/
def OptRel (g : Gh) (I : Addr → Value → Prop) : Option V → Option Value → Prop
  | none, none => True
  | some v, some rv => RelV g I v rv
  | _, _ => False
theorem bound_sound {v : Option V} {d hi : Nat} {K : Nat → Option R} {r : R} (h : bound v d hi K = some r) :
    ∃ n, K n = some r ∧ ∀ g I (rv : Option Value), OptRel g I v rv → (rv = none ∧ n = d) ∨ (∃ rx, rv = some rx ∧ n ≤ hi ∧ ∀ (w : World) (y : Nat) code, n ≤ y → (Instr.sliceBound rx y code).run P w = .ok n w) := by
  unfold bound at h
  split at h
  · refine ⟨d, h, fun g I rv hr => .inl ⟨?_, rfl⟩⟩
    cases rv with
    | none => rfl
    | some x => exact hr.elim
  · rename_i v
    obtain ⟨k, m, rfl, h'⟩ := asInt_some h
    have h' : cond (decide (0 ≤ m)) (cond (decide (m.toNat ≤ hi)) (K m.toNat) none) none = some r := h'
    obtain ⟨h0, h1⟩ := cond_some h'
    obtain ⟨h2, h3⟩ := cond_some h1
    refine ⟨m.toNat, h3, fun g I rv hr => ?_⟩
    cases rv with
    | none => exact hr.elim
    | some rx =>
      have hr : RelV g I (.dat (.int k) m) rx := hr
      obtain rfl := relV_int hr
      exact .inr ⟨_, rfl, h2, fun w y code hy => by
        have h4 : 0 ≤ m ∧ m ≤ (y : Int) := ⟨h0, by omega⟩
        simp [Instr.sliceBound, asIntOf, h4]⟩
theorem run_slice_slice {t e : TypeId} (hu : P.underlying t = some (.slice e)) {i : TypeInfo} (hi : P.info? e = some i) (A : Option Addr) (n c l h : Nat) (lo hi' : Option Value) (w : World)
    (hhc : h ≤ c) (hlh : l ≤ h)
    (hh : (hi' = none ∧ h = n) ∨ ∃ rx, hi' = some rx ∧ ∀ (w : World) (y : Nat) code, h ≤ y → (Instr.sliceBound rx y code).run P w = .ok h w)
    (hl : (lo = none ∧ l = 0) ∨ ∃ rx, lo = some rx ∧ ∀ (w : World) (y : Nat) code, l ≤ y → (Instr.sliceBound rx y code).run P w = .ok l w) :
    (Instr.sliceAt t (.slice A n c) lo hi' none).run P w = .ok (.slice (if c = l then A else A.map (·.add (l * i.size))) (h - l) (c - l)) w := by
  have hs := run_sizeOf hi w
  rcases hh with ⟨rfl, rfl⟩ | ⟨rx, rfl, hh⟩ <;> rcases hl with ⟨rfl, rfl⟩ | ⟨ry, rfl, hl⟩
  · simp [Instr.sliceAt, Instr.slice, run_underlying hu, Instr.sliceBounds, hs]
  · simp [Instr.sliceAt, Instr.slice, run_underlying hu, Instr.sliceBounds, hs, hl w h _ hlh]
  · simp [Instr.sliceAt, Instr.slice, run_underlying hu, Instr.sliceBounds, hs, hh w c _ hhc]
  · simp [Instr.sliceAt, Instr.slice, run_underlying hu, Instr.sliceBounds, hs, hh w c _ hhc, hl w h _ hlh]
theorem run_slice_str {t : TypeId} (hu : P.underlying t = some .string) (s : ByteArray) (l h : Nat) (lo hi' : Option Value) (w : World) (hhc : h ≤ s.size) (hlh : l ≤ h)
    (hh : (hi' = none ∧ h = s.size) ∨ ∃ rx, hi' = some rx ∧ ∀ (w : World) (y : Nat) code, h ≤ y → (Instr.sliceBound rx y code).run P w = .ok h w)
    (hl : (lo = none ∧ l = 0) ∨ ∃ rx, lo = some rx ∧ ∀ (w : World) (y : Nat) code, l ≤ y → (Instr.sliceBound rx y code).run P w = .ok l w) :
    (Instr.sliceAt t (.string s) lo hi' none).run P w = .ok (.string (s.extract l h)) w := by
  rcases hh with ⟨rfl, rfl⟩ | ⟨rx, rfl, hh⟩ <;> rcases hl with ⟨rfl, rfl⟩ | ⟨ry, rfl, hl⟩
  · simp [Instr.sliceAt, Instr.slice, run_underlying hu, Instr.sliceBounds]
  · simp [Instr.sliceAt, Instr.slice, run_underlying hu, Instr.sliceBounds, hl w s.size _ hlh]
  · simp [Instr.sliceAt, Instr.slice, run_underlying hu, Instr.sliceBounds, hh w s.size _ hhc]
  · simp [Instr.sliceAt, Instr.slice, run_underlying hu, Instr.sliceBounds, hh w s.size _ hhc, hl w h _ hlh]
theorem tagOk_drop {g : Gh} {A : Option Addr} {n c sz l : Nat} (hl : l ≤ n) (hc : n ≤ c) {tag : Tag} (h : TagOk g A n c sz tag) : TagOk g (if c = l then A else A.map (·.add (l * sz))) (n - l) (c - l) sz tag := by
  cases tag with
  | none => trivial
  | full => have h : n = c := h; show n - l = c - l; omega
  | nn =>
    have h : A.isSome = true := h
    show (if c = l then A else A.map (·.add (l * sz))).isSome = true
    split
    · exact h
    · rw [Option.isSome_map]; exact h
  | tok i ver =>
    obtain ⟨v0, R', h1, h2, h3⟩ := h
    refine ⟨v0, R', h1, h2, fun e => ?_⟩
    have h4 := h3 e
    unfold RegOk at h4 ⊢
    by_cases hnc : n = c
    · rw [if_pos hnc] at h4; rw [if_pos (by omega)]; exact h4
    · rw [if_neg hnc] at h4
      rw [if_neg (by omega), if_neg (by omega)]
      obtain ⟨ad, rfl, h5, h6⟩ := h4
      refine ⟨ad.add (l * sz), rfl, ?_, ?_⟩
      · unfold Addr.add; split <;> simp_all
      · rw [h6]
        have e1 : (ad.add (l * sz)).block = ad.block := by unfold Addr.add; split <;> rfl
        have e2 : (ad.add (l * sz)).off = ad.off + l * sz := by unfold Addr.add; split <;> simp_all
        have e3 : l * sz + (n - l) * sz = n * sz := by rw [← Nat.add_mul]; congr 1; omega
        have e4 : l * sz + (c - l) * sz = c * sz := by rw [← Nat.add_mul]; congr 1; omega
        rw [e1, e2, Nat.add_assoc, e3, Nat.add_assoc, e4]
theorem rd_cut {I : Addr → Value → Prop} {t : Ty} {xs : List t.D} {A : Option Addr} {n c : Nat} (h : Rd I (.slice t) xs [.slice A n c]) {l u : Nat} (hl : l ≤ u) (hu : u ≤ xs.length) :
    Rd I (.slice t) ((xs.take u).drop l) [.slice (if c = l then A else A.map (·.add (l * wd t))) (u - l) (c - l)] := by
  obtain ⟨A', c', f, h1, h2, h3, h4, h5⟩ := h.inv
  simp only [List.cons.injEq, Value.slice.injEq, and_true] at h1
  obtain ⟨rfl, rfl, rfl⟩ := h1
  have hu' : u ≤ xs.length := hu
  have hlen : ((xs.take u).drop l).length = u - l := by rw [List.length_drop, List.length_take]; omega
  have h2' : xs.length ≤ c := h2
  have key := Rd.slice (I := I) t ((xs.take u).drop l) (if c = l then A else A.map (·.add (l * wd t))) (c - l) (fun i => f (l + i)) (by rw [hlen]; omega)
    (fun he => by
      have : u - l ≠ 0 := by intro e; apply he; apply List.eq_nil_of_length_eq_zero; rw [hlen]; exact e
      have hx : xs ≠ [] := by intro e; rw [e] at hu'; simp at hu'; omega
      have := h3 hx
      rw [if_neg (by omega)]
      cases A <;> simp_all)
    (fun i x hx => by
      rw [List.getElem?_drop] at hx
      exact h4 _ x (take_get hx).1)
    (fun ad i j v hA hi hj => by
      rw [hlen] at hi
      rw [if_neg (by omega)] at hA
      cases hA' : A with
      | none => rw [hA'] at hA; simp at hA
      | some ad' =>
        rw [hA'] at hA
        simp only [Option.map_some, Option.some.injEq] at hA
        subst hA
        rw [add_add, ← Nat.add_assoc, ← Nat.add_mul]
        have hi2 : l + i < xs.length := by omega
        exact h5 ad' (l + i) j v hA' hi2 hj)
    (fun hA => by
      have hA0 : A = none := by
        split at hA
        · exact hA
        · cases A <;> simp_all
      subst hA0
      have := h.nilc.2.1
      omega)
  rw [hlen] at key
  exact key
theorem sliceV_sound (hT : TtOk P tt) {t : Nat} {v : V} {lo hi mx : Option V} {K : V → Option R} {r : R} (h : sliceV tt t v lo hi mx K = some r) :
    ∃ u, K u = some r ∧ ∀ g w rv rlo rhi rmx, RelV g (Imm g w) v rv → OptRel g (Imm g w) lo rlo → OptRel g (Imm g w) hi rhi → OptRel g (Imm g w) mx rmx → QR P (Instr.sliceAt t rv rlo rhi rmx) g w u := by
  have hts := hT t
  unfold sliceV at h
  split at h
  · rename_i s
    split at h
    · rename_i b h1
      rw [h1] at hts
      have h2 : P.underlying t = some .string := hts.2.1
      obtain ⟨u, hu1, hu2⟩ := bound_sound (P := P) h
      obtain ⟨l, hl1, hl2⟩ := bound_sound (P := P) hu1
      refine ⟨_, hl1, fun g w rv rlo rhi rmx hv hlo hhi hmx => ?_⟩
      obtain rfl := relV_str hv
      have hm : rmx = none := by cases rmx with | none => rfl | some x => exact hmx.elim
      subst hm
      refine .same (rv := .string (ByteArray.extract s l u)) ?_ (relV_mkStr _)
      refine run_slice_str h2 s l u rlo rhi w (by rcases hu2 g _ rhi hhi with ⟨_, rfl⟩ | ⟨_, _, h12, _⟩; exact Nat.le_refl _; exact h12) (by rcases hl2 g _ rlo hlo with ⟨_, rfl⟩ | ⟨_, _, h12, _⟩; exact Nat.zero_le _; exact h12) ?_ ?_
      · rcases hu2 g _ rhi hhi with ⟨h12, h13⟩ | ⟨rx, h12, _, h13⟩
        · exact .inl ⟨h12, h13⟩
        · exact .inr ⟨rx, h12, h13⟩
      · rcases hl2 g _ rlo hlo with ⟨h12, h13⟩ | ⟨rx, h12, _, h13⟩
        · exact .inl ⟨h12, h13⟩
        · exact .inr ⟨rx, h12, h13⟩
    · cases h
  · rename_i T xs tag
    split at h
    · rename_i T' eb h1
      split at h
      · rename_i e; subst e
        rw [h1] at hts
        obtain ⟨e, b', i, h2, h3, h4, h5⟩ := hts.2.1
        have hte := hT e; rw [h3] at hte
        obtain ⟨⟨i', z, h6, h7, _⟩, _⟩ := hte
        obtain rfl : i = i' := by rw [h4] at h6; exact Option.some.inj h6
        split at h
        · obtain ⟨l, hl1, hl2⟩ := bound_sound (P := P) h
          refine ⟨_, hl1, fun g w rv rlo rhi rmx hv hlo hhi hmx => ?_⟩
          have hm : rmx = none := by cases rmx with | none => rfl | some x => exact hmx.elim
          have hh : rhi = none := by cases rhi with | none => rfl | some x => exact hhi.elim
          subst hm; subst hh
          cases hv with
          | row _ _ _ A n c h8 h9 =>
            obtain ⟨A', c', f, h10, h11, _⟩ := h8.inv
            simp only [List.cons.injEq, Value.slice.injEq, and_true] at h10
            obtain ⟨rfl, rfl, rfl⟩ := h10
            have hle : l ≤ xs.length := by rcases hl2 g _ rlo hlo with ⟨_, rfl⟩ | ⟨_, _, h12, _⟩; exact Nat.zero_le _; exact h12
            have hrun := run_slice_slice (P := P) h2 h4 A xs.length c l xs.length rlo none w h11 hle (.inl ⟨rfl, rfl⟩) (by rcases hl2 g _ rlo hlo with ⟨h12, h13⟩ | ⟨rx, h12, _, h13⟩; exact .inl ⟨h12, h13⟩; exact .inr ⟨rx, h12, h13⟩)
            rw [h7] at hrun
            have hc := rd_cut h8 hle (Nat.le_refl _)
            rw [List.take_length] at hc
            exact .same hrun (.row _ _ _ _ _ _ hc (tagOk_drop hle h11 h9))
        · rename_i hi' hne
          obtain ⟨u, hu1, hu2⟩ := bound_sound (P := P) h
          obtain ⟨l, hl1, hl2⟩ := bound_sound (P := P) hu1
          refine ⟨_, hl1, fun g w rv rlo rhi rmx hv hlo hhi hmx => ?_⟩
          have hm : rmx = none := by cases rmx with | none => rfl | some x => exact hmx.elim
          subst hm
          cases hv with
          | row _ _ _ A n c h8 h9 =>
            obtain ⟨A', c', f, h10, h11, _⟩ := h8.inv
            simp only [List.cons.injEq, Value.slice.injEq, and_true] at h10
            obtain ⟨rfl, rfl, rfl⟩ := h10
            have h11' : xs.length ≤ c := h11
            have hu3 : u ≤ xs.length := by rcases hu2 g _ rhi hhi with ⟨_, rfl⟩ | ⟨_, _, h12, _⟩; exact Nat.le_refl _; exact h12
            have hle : l ≤ u := by rcases hl2 g _ rlo hlo with ⟨_, rfl⟩ | ⟨_, _, h12, _⟩; exact Nat.zero_le _; exact h12
            have hrun := run_slice_slice (P := P) h2 h4 A xs.length c l u rlo rhi w (by omega) hle (by rcases hu2 g _ rhi hhi with ⟨h12, h13⟩ | ⟨rx, h12, _, h13⟩; exact .inl ⟨h12, h13⟩; exact .inr ⟨rx, h12, h13⟩) (by rcases hl2 g _ rlo hlo with ⟨h12, h13⟩ | ⟨rx, h12, _, h13⟩; exact .inl ⟨h12, h13⟩; exact .inr ⟨rx, h12, h13⟩)
            rw [h7] at hrun
            exact .same hrun (.row _ _ _ _ _ _ (rd_cut h8 hle hu3) trivial)
        · rename_i m hh
          obtain ⟨km, mm, rfl, h'⟩ := asInt_some h
          obtain ⟨kh, mh, rfl, h''⟩ := asInt_some (K := fun _ h => if (mm : Int) = 0 then (if h = 0 then (match lo with | none => K (.row T' [] .full) | _ => none) else none) else none) h'
          have h'' : (if (mm : Int) = 0 then (if (mh : Int) = 0 then (match lo with | none => K (.row T' [] .full) | _ => none) else none) else none) = some r := h''
          by_cases e1 : mm = 0
          rotate_left
          · rw [if_neg e1] at h''; cases h''
          by_cases e2 : mh = 0
          rotate_left
          · rw [if_pos e1, if_neg e2] at h''; cases h''
          rw [if_pos e1, if_pos e2] at h''
          cases lo with
          | some x => cases h''
          | none =>
            refine ⟨_, h'', fun g w rv rlo rhi rmx hv hlo hhi hmx => ?_⟩
            have hl : rlo = none := by cases rlo with | none => rfl | some x => exact hlo.elim
            subst hl
            cases rmx with
            | none => exact hmx.elim
            | some rm =>
              cases rhi with
              | none => exact hhi.elim
              | some rh =>
                have hmx : RelV g (Imm g w) (.dat (.int km) mm) rm := hmx
                have hhi : RelV g (Imm g w) (.dat (.int kh) mh) rh := hhi
                obtain rfl := relV_int hmx
                obtain rfl := relV_int hhi
                cases hv with
                | row _ _ _ A n c h8 h9 =>
                  refine .same (rv := .slice A 0 0) ?_ (.row _ _ _ _ _ _ (rd_nil _ _ _ _) rfl)
                  have hs := run_sizeOf h4 w
                  simp [Instr.sliceAt, Instr.slice, run_underlying h2, Instr.sliceBounds, Instr.sliceBound, asIntOf, hs, e1, e2]
        · cases h
      · cases h
    · cases h
  · split at h
    · rename_i T eb h1
      rw [h1] at hts
      obtain ⟨e, b', i, h2, h3, h4, h5⟩ := hts.2.1
      obtain ⟨u, hu1, hu2⟩ := bound_sound (P := P) h
      obtain ⟨l, hl1, hl2⟩ := bound_sound (P := P) hu1
      refine ⟨_, hl1, fun g w rv rlo rhi rmx hv hlo hhi hmx => ?_⟩
      cases hv
      have hm : rmx = none := by cases rmx with | none => rfl | some x => exact hmx.elim
      subst hm
      have hu3 : u = 0 := by rcases hu2 g _ rhi hhi with ⟨_, h12⟩ | ⟨_, _, h12, _⟩; exact h12; omega
      have hl3 : l = 0 := by rcases hl2 g _ rlo hlo with ⟨_, h12⟩ | ⟨_, _, h12, _⟩; exact h12; omega
      have hrun := run_slice_slice (P := P) h2 h4 none 0 0 l u rlo rhi w (by omega) (by omega) (by rcases hu2 g _ rhi hhi with ⟨h12, h13⟩ | ⟨rx, h12, _, h13⟩; exact .inl ⟨h12, h13⟩; exact .inr ⟨rx, h12, h13⟩) (by rcases hl2 g _ rlo hlo with ⟨h12, h13⟩ | ⟨rx, h12, _, h13⟩; exact .inl ⟨h12, h13⟩; exact .inr ⟨rx, h12, h13⟩)
      subst hu3; subst hl3
      exact .same hrun (.row _ _ _ _ _ _ (rd_nil _ _ _ _) trivial)
    · cases h
  · rename_i i T a n
    split at h
    · rename_i T' eb h1
      split at h
      · rename_i e; subst e
        rw [h1] at hts
        obtain ⟨e, b', i', h2, h3, h4, h5⟩ := hts.2.1
        have hte := hT e; rw [h3] at hte
        obtain ⟨⟨i'', z, h6, h7, _⟩, _⟩ := hte
        obtain rfl : i' = i'' := by rw [h4] at h6; exact Option.some.inj h6
        obtain ⟨u, hu1, hu2⟩ := bound_sound (P := P) h
        obtain ⟨l, hl1, hl2⟩ := bound_sound (P := P) hu1
        refine ⟨_, hl1, fun g w rv rlo rhi rmx hv hlo hhi hmx => ?_⟩
        have hm : rmx = none := by cases rmx with | none => rfl | some x => exact hmx.elim
        subst hm
        cases hv with
        | msl _ _ _ _ b f A c h8 h9 h10 hnc =>
          have hu3 : u ≤ n := by rcases hu2 g _ rhi hhi with ⟨_, rfl⟩ | ⟨_, _, h12, _⟩; exact Nat.le_refl _; exact h12
          have hle : l ≤ u := by rcases hl2 g _ rlo hlo with ⟨_, rfl⟩ | ⟨_, _, h12, _⟩; exact Nat.zero_le _; exact h12
          have hrun := run_slice_slice (P := P) h2 h4 A n c l u rlo rhi w (by omega) hle (by rcases hu2 g _ rhi hhi with ⟨h12, h13⟩ | ⟨rx, h12, _, h13⟩; exact .inl ⟨h12, h13⟩; exact .inr ⟨rx, h12, h13⟩) (by rcases hl2 g _ rlo hlo with ⟨h12, h13⟩ | ⟨rx, h12, _, h13⟩; exact .inl ⟨h12, h13⟩; exact .inr ⟨rx, h12, h13⟩)
          rw [h7] at hrun
          refine .same hrun (.msl _ _ _ _ b f _ _ h8 (by omega) (fun hne => ?_) fun hA => ?_)
          · rw [if_neg (by omega), h10 (by omega)]
            simp only [Option.map_some, addr_ext, Nat.add_mul]
          · have hA0 : A = none := by
              split at hA
              · exact hA
              · cases A <;> simp_all
            have := hnc hA0
            omega
      · cases h
    · cases h
  · cases h
end
end Go.Proofs.Yticelgnmcjkknaa.Vm
