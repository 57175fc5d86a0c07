/-
A machine of values, sixth part: places, parts, cuts, lengths, numbers.
-/
import Derived.Test.YticelgnmcjkknaaVm5
set_option linter.unusedVariables false
set_option linter.unusedSimpArgs false
namespace Go.Proofs.Yticelgnmcjkknaa.Vm
open Go.RowKit (Below)
section
variable {P : Program} {tt : Nat → TI} {R : Type}
theorem cond_some {p : Prop} [Decidable p] {A : Option R} {r : R} (h : cond (decide p) A none = some r) : p ∧ A = some r := by
  by_cases hp : p
  · rw [decide_eq_true hp] at h; exact ⟨hp, h⟩
  · rw [decide_eq_false hp] at h; cases h
theorem cond_none {p : Prop} [Decidable p] {A : Option R} {r : R} (h : cond (decide p) none A = some r) : ¬ p ∧ A = some r := by
  by_cases hp : p
  · rw [decide_eq_true hp] at h; cases h
  · rw [decide_eq_false hp] at h; exact ⟨hp, h⟩
theorem asInt_some {v : V} {K : IntKind → Int → Option R} {r : R} (h : asInt v K = some r) : ∃ (k : IntKind) (n : Int), v = .dat (.int k) n ∧ K k n = some r := by
  unfold asInt at h
  split at h
  · exact ⟨_, _, rfl, h⟩
  · cases h
theorem asBool_some {v : V} {K : Bool → Option R} {r : R} (h : asBool v K = some r) : ∃ b : Bool, v = .dat .bool b ∧ K b = some r := by
  unfold asBool at h
  split at h
  · exact ⟨_, rfl, h⟩
  · cases h
theorem relV_int {g : Gh} {I : Addr → Value → Prop} {k : IntKind} {n : Int} {rv : Value} (h : RelV g I (.dat (.int k) n) rv) : rv = .int k n := by
  rcases relVal_dat h with ⟨h1, _⟩ | ⟨_, h1⟩
  · cases h1
  · simpa [RdInv] using h1.inv
theorem relV_bool {g : Gh} {I : Addr → Value → Prop} {b : Bool} {rv : Value} (h : RelV g I (.dat .bool b) rv) : rv = .bool b := by
  rcases relVal_dat h with ⟨h1, _⟩ | ⟨_, h1⟩
  · cases h1
  · simpa [RdInv] using h1.inv
theorem relV_str {g : Gh} {I : Addr → Value → Prop} {b : ByteArray} {rv : Value} (h : RelV g I (.dat .str b) rv) : rv = .string b := by
  rcases relVal_dat h with ⟨h1, _⟩ | ⟨_, h1⟩
  · cases h1
  · simpa [RdInv] using h1.inv
theorem relV_mkInt {g : Gh} {I : Addr → Value → Prop} (k : IntKind) (n : Int) : RelV g I (.dat (.int k) n) (.int k n) := .leaf _ _ _ rfl (.int k n)
theorem relV_mkBool {g : Gh} {I : Addr → Value → Prop} (b : Bool) : RelV g I (.dat .bool b) (.bool b) := .leaf _ _ _ rfl (.bool b)
theorem relV_mkStr {g : Gh} {I : Addr → Value → Prop} (b : ByteArray) : RelV g I (.dat .str b) (.string b) := .leaf _ _ _ rfl (.str b)
theorem relV_mkDat {g : Gh} {I : Addr → Value → Prop} {t : Ty} {x : t.D} {v : Value} (h : RelVal I t x v) : RelV g I (.dat t x) v := by
  rcases h with ⟨h1, cs, rfl, h2⟩ | ⟨h1, h2⟩
  · exact .agg _ _ _ h1 h2
  · exact .leaf _ _ _ h1 h2
theorem add_add (a : Addr) (m n : Nat) : (a.add m).add n = a.add (m + n) := by
  unfold Addr.add
  by_cases hm : m = 0 <;> by_cases hn : n = 0 <;> simp [hm, hn]
  all_goals (try omega)

/-! ### fields -/
theorem compP_sound : ∀ (T : Ty) (x : T.D) (j : Nat) (K : (u : Ty) → u.D → Option R) (r : R), compP T x j K = some r →
    ∃ u y o, K u y = some r ∧ fldP T j = some (o, u) ∧ ∀ I cs, Rd I T x cs → Rd I u y ((cs.drop o).take (wd u)) := by
  intro T
  induction T with
  | pair a b _ ihb =>
    intro x j K r h
    obtain ⟨x, y⟩ := x
    cases j with
    | zero =>
      refine ⟨a, x, 0, by simpa [compP] using h, rfl, fun I cs hr => ?_⟩
      obtain ⟨ca, cb, rfl, h1, _⟩ := hr.inv
      rw [List.drop_zero, ← h1.len, List.take_left]; exact h1
    | succ j =>
      obtain ⟨u, z, o, h1, h2, h3⟩ := ihb y j K r (by simpa [compP] using h)
      refine ⟨u, z, wd a + o, h1, by simp [fldP, h2], fun I cs hr => ?_⟩
      obtain ⟨ca, cb, rfl, h4, h5⟩ := hr.inv
      rw [← List.drop_drop, ← h4.len, List.drop_left]
      exact h3 I cb h5
  | _ => intro x j K r h; simp [compP] at h
theorem comp_sound {T : Ty} {x : T.D} {j : Nat} {K : (u : Ty) → u.D → Option R} {r : R} (h : comp T x j K = some r) :
    ∃ u y o, K u y = some r ∧ fld T j = some (o, u) ∧ ∀ I cs, Rd I T x cs → Rd I u y ((cs.drop o).take (wd u)) := by
  cases T with
  | rc i =>
    obtain ⟨u, y, o, h1, h2, h3⟩ := compP_sound (rcTy i) (un i x) j K r (by simpa [comp] using h)
    exact ⟨u, y, o, h1, h2, fun I cs hr => h3 I cs hr.inv⟩
  | pair a b => exact compP_sound _ x j K r (by simpa [comp] using h)
  | _ => simp [comp] at h
theorem fld_struct {T : Ty} {j : Nat} {o : Nat} {u : Ty} (h : fld T j = some (o, u)) : ∀ {P : Program} {b : Nat} {d : Option TypeDesc}, UOk P tt T b d → ∃ fs f b', d = some (.struct fs) ∧ fs[j]? = some f ∧ f.offset = o ∧ tt f.type = .dat u b' := by
  intro P b d hu
  have key : ∀ (fs : Array Field), FieldsOk tt T fs → ∃ f b', fs[j]? = some f ∧ f.offset = o ∧ tt f.type = .dat u b' := fun fs hf => by obtain ⟨f, b', h1, h2, h3, _⟩ := (hf j).1 o u h; exact ⟨f, b', h1, h2, h3⟩
  cases T with
  | pair a c => obtain ⟨fs, h1, h2⟩ := hu; obtain ⟨f, b', h3⟩ := key fs h2; exact ⟨fs, f, b', h1, h3⟩
  | rc i => obtain ⟨fs, h1, h2⟩ := hu; obtain ⟨f, b', h3⟩ := key fs h2; exact ⟨fs, f, b', h1, h3⟩
  | _ => simp [fld, fldP] at h
theorem size_TI (hT : TtOk P tt) {t : Nat} (h : tt t ≠ .none) (w : World) : (sizeOf t).run P w = .ok (wTI (tt t)) w := by
  have h1 := hT t
  cases ht : tt t with
  | dat T b => exact size_dat hT ht w
  | ref k => rw [ht] at h1; obtain ⟨⟨i, h2, h3, _⟩, _⟩ := h1; rw [run_sizeOf h2, h3]; rfl
  | map k v => rw [ht] at h1; obtain ⟨⟨i, h2, h3, _⟩, _⟩ := h1; rw [run_sizeOf h2, h3]; rfl
  | mix w' fs => rw [ht] at h1; obtain ⟨⟨i, z, h2, h3, _⟩, _⟩ := h1; rw [run_sizeOf h2, h3]; rfl
  | none => exact absurd ht h
theorem fieldAddrV_sound (hT : TtOk P tt) {s : Nat} {av : V} {j : Nat} {K : V → Option R} {r : R} (h : fieldAddrV tt s av j K = some r) :
    ∃ v, K v = some r ∧ ∀ g w rv, RelV g (Imm g w) av rv → QR P (Instr.fieldAt s rv j) g w v := by
  unfold fieldAddrV at h
  split at h
  · rename_i T x
    split at h
    · rename_i T' b htt
      split at h
      · rename_i e; subst e
        obtain ⟨u, y, o, h1, h2, h3⟩ := comp_sound h
        split at h1
        · cases h1
        · rename_i hw
          refine ⟨_, h1, fun g w rv hv => ?_⟩
          cases hv with
          | prd _ _ ad cs h4 h5 =>
            have h6 := hT s; rw [htt] at h6
            obtain ⟨fs, f, b', h7, h8, h9, h10⟩ := fld_struct h2 h6.2.1
            have h11 := size_dat hT h10 w
            refine .same (rv := .pointer (some (ad.add o))) (by simp [Instr.fieldAt, run_underlying h7, h8, Instr.sureAddr, fieldPlace, h11, hw, h9]) (.prd _ _ _ _ (h3 _ _ h4) fun k v hk => ?_)
            rw [add_add]
            have := (take_get hk).1
            rw [List.getElem?_drop] at this
            exact h5 _ v this
      · cases h
    · cases h
  · rename_i i off
    split at h
    · rename_i T b htt
      split at h
      · rename_i o u hf
        split at h
        · cases h
        · rename_i hw
          refine ⟨_, h, fun g w rv hv => ?_⟩
          cases hv with
          | ptr _ _ b' f' hb =>
            have h6 := hT s; rw [htt] at h6
            obtain ⟨fs, f, b'', h7, h8, h9, h10⟩ := fld_struct hf h6.2.1
            have h11 := size_dat hT h10 w
            exact .same (rv := .pointer (some ⟨b', off + o, none⟩)) (by simp [Instr.fieldAt, run_underlying h7, h8, Instr.sureAddr, fieldPlace, h11, hw, h9, addr_ext]) (.ptr _ _ _ _ hb)
      · cases h
    · rename_i wd' fs htt
      split at h
      · rename_i o u hf
        split at h
        · cases h
        · rename_i hw
          refine ⟨_, h, fun g w rv hv => ?_⟩
          cases hv with
          | ptr _ _ b' f' hb =>
            have h6 := hT s; rw [htt] at h6
            obtain ⟨_, fd, h7, h8, h9⟩ := h6
            have hlt : j < fd.size := by rw [h8]; exact getElem?_lt hf
            obtain ⟨h10, h11, _⟩ := h9 j fd[j] (Array.getElem?_eq_getElem hlt)
            rw [hf] at h10
            simp only [Option.some.injEq, Prod.mk.injEq] at h10
            have h12 := size_TI hT h11 w
            rw [← h10.2] at h12
            refine .same (rv := .pointer (some ⟨b', off + o, none⟩)) ?_ (.ptr _ _ _ _ hb)
            simp [Instr.fieldAt, run_underlying h7, Array.getElem?_eq_getElem hlt, Instr.sureAddr, fieldPlace, ← h10.2, ← h10.1, h12, hw, addr_ext]
      · cases h
    · cases h
  · rename_i i T n
    split at h
    · rename_i T' b htt
      split at h
      · rename_i e; subst e
        split at h
        · rename_i o u hf
          split at h
          · rename_i hw
            refine ⟨_, h, fun g w rv hv => ?_⟩
            cases hv with
            | pel _ _ _ b' f' hb =>
              have h6 := hT s; rw [htt] at h6
              obtain ⟨fs, f, b'', h7, h8, h9, h10⟩ := fld_struct hf h6.2.1
              have h11 := size_dat hT h10 w
              have hp : RelV g (Imm g w) (.pin i u (wd T') n o) (.pointer (some ⟨b', n * wd T' + o, none⟩)) := by
                have := RelV.pin (g := g) (I := Imm g w) i u (wd T') n o b' f' hb
                rw [hw, Nat.mul_one, Nat.mul_one] at this
                exact this
              exact .same (rv := .pointer (some ⟨b', n * wd T' + o, none⟩)) (by simp [Instr.fieldAt, run_underlying h7, h8, Instr.sureAddr, fieldPlace, h11, hw, h9, addr_ext]) hp
          · cases h
        · cases h
      · cases h
    · cases h
  · cases h
theorem fieldV_sound (hT : TtOk P tt) {s : Nat} {av : V} {j : Nat} {K : V → Option R} {r : R} (h : fieldV tt s av j K = some r) :
    ∃ v, K v = some r ∧ ∀ g w rv, RelV g (Imm g w) av rv → QR P (Instr.field s rv j) g w v := by
  unfold fieldV at h
  split at h
  · rename_i T x
    split at h
    · rename_i T' b htt
      split at h
      · rename_i e; subst e
        obtain ⟨u, y, o, h1, h2, h3⟩ := comp_sound h
        refine ⟨_, h1, fun g w rv hv => ?_⟩
        have h6 := hT s; rw [htt] at h6
        obtain ⟨fs, f, b', h7, h8, h9, h10⟩ := fld_struct h2 h6.2.1
        have hagg : aggT T' = true := by cases T' <;> first | rfl | (simp [fld, fldP] at h2)
        rcases relVal_dat hv with ⟨_, cs, rfl, h4⟩ | ⟨h4, _⟩
        · have h11 := h3 _ _ h4
          have h12 := size_dat hT h10 w
          have h13 := h11.len
          have h14 := hT f.type; rw [h10] at h14
          have h15 : (cs.drop o).length ≥ wd u := by rw [List.length_take] at h13; omega
          cases ha : aggT u with
          | true =>
            have h16 := run_isAgg_agg rfl (h14.2.1.agg ha) w
            refine .same (rv := .agg ((cs.drop o).take (wd u)).toArray) ?_ (relV_dv (.inl ⟨ha, _, rfl, h11⟩))
            simp [Instr.field, run_underlying h7, h8, asAgg, part, h16, h12, h9]
            try (rw [List.drop_take]; congr 1; omega)
          | false =>
            obtain ⟨d, h16, h17⟩ := h14.2.1.plain ha
            have h18 := run_isAgg_plain h16 h17 w
            have hw : wd u = 1 := by cases u <;> simp [aggT] at ha <;> rfl
            rw [hw] at h11 h15
            have hlt : o < cs.length := by rw [List.length_drop] at h15; omega
            have h19 : (cs.drop o).take 1 = [cs[o]] := by rw [List.drop_eq_getElem_cons hlt]; rfl
            rw [h19] at h11
            refine .same (rv := cs[o]) ?_ (relV_dv (.inr ⟨ha, h11⟩))
            simp [Instr.field, run_underlying h7, h8, asAgg, part, h18, h9, hlt]
        · rw [hagg] at h4; cases h4
      · cases h
    · cases h
  · cases h

/-! ### elements -/
theorem str_get (s : ByteArray) {i : Nat} {c : UInt8} (h : s.data.toList[i]? = some c) : s[i]? = some c := by
  have hlt := getElem?_lt h
  have hlt' : i < s.size := by rw [Array.length_toList] at hlt; exact hlt
  rw [List.getElem?_eq_getElem hlt] at h
  simp only [Option.some.injEq] at h
  rw [getElem?_pos s i hlt', ← h]; rfl
theorem elem_dat (hT : TtOk P tt) {t : Nat} {T : Ty} {b : Nat} (h : tt t = .dat (.slice T) b) : ∃ e b', P.underlying t = some (.slice e) ∧ tt e = .dat T b' := by
  have h1 := hT t; rw [h] at h1
  obtain ⟨e, b', i, h2, h3, _⟩ := h1.2.1
  exact ⟨e, b', h2, h3⟩
theorem elem_arr (hT : TtOk P tt) {t : Nat} {n : Nat} {T : Ty} {b : Nat} (h : tt t = .dat (.arr n T) b) : ∃ e b', P.underlying t = some (.array n e) ∧ tt e = .dat T b' := by
  have h1 := hT t; rw [h] at h1
  exact h1.2.1
theorem indexAddrV_sound (hT : TtOk P tt) {objs : List Ob} {t : Nat} {xv iv : V} {K : V → Option R} {r : R} (h : indexAddrV tt objs t xv iv K = some r) :
    ∃ v, K v = some r ∧ ∀ g w rx ri, RelObs g w objs → RelV g (Imm g w) xv rx → RelV g (Imm g w) iv ri → QR P (Instr.indexAt t rx ri) g w v := by
  unfold indexAddrV at h
  obtain ⟨k, n, rfl, h'⟩ := asInt_some h
  clear h
  have h : indexAddrN tt objs t xv n K = some r := h'
  clear h'
  unfold indexAddrN at h
  split at h
  · rename_i T xs tag
    split at h
    · rename_i T' b htt
      split at h
      · rename_i e; subst e
        obtain ⟨h0, h⟩ := cond_some h
        obtain ⟨y, hy, hK⟩ := Option.bind_eq_some_iff.1 h
        refine ⟨_, hK, fun g w rx ri _ hx hi => ?_⟩
        obtain rfl := relV_int hi
        obtain ⟨e, b', h1, h2⟩ := elem_dat hT htt
        have h3 := size_dat hT h2 w
        cases hx with
        | row _ _ _ A m c h4 h5 =>
          obtain ⟨A', c', f, h6, h7, h8, h9, h10⟩ := h4.inv
          simp only [List.cons.injEq, Value.slice.injEq, and_true] at h6
          obtain ⟨rfl, rfl, rfl⟩ := h6
          have hlt := getElem?_lt hy
          have hlt' : n.toNat < xs.length := hlt
          obtain ⟨ad, rfl⟩ := Option.isSome_iff_exists.1 (h8 (by intro he; rw [he] at hlt'; simp at hlt'))
          have hn : 0 ≤ n ∧ n < (xs.length : Int) := ⟨h0, by omega⟩
          refine .same (rv := .pointer (some (ad.add (n.toNat * wd T')))) (by simp [Instr.indexAt, asIntOf, run_underlying h1, hn, h3]) (.prd _ _ _ _ (h9 _ _ hy) fun j v hj => ?_)
          rw [add_add]; exact h10 ad _ j v rfl hlt' hj
      · cases h
    · cases h
  · rename_i i T lo len
    split at h
    · rename_i T' b htt
      split at h
      · rename_i e; subst e
        obtain ⟨h0, h⟩ := cond_some h
        obtain ⟨h1, h⟩ := cond_some h
        refine ⟨_, h, fun g w rx ri _ hx hi => ?_⟩
        obtain rfl := relV_int hi
        obtain ⟨e, b', h1', h2⟩ := elem_dat hT htt
        have h3 := size_dat hT h2 w
        cases hx with
        | msl _ _ _ _ b'' f' A c h4 h5 h6 =>
          obtain rfl := h6 (by omega)
          have hn : 0 ≤ n ∧ n < (len : Int) := ⟨h0, by omega⟩
          refine .same (rv := .pointer (some ⟨b'', lo * wd T' + n.toNat * wd T', none⟩)) (by simp [Instr.indexAt, asIntOf, run_underlying h1', hn, h3, addr_ext]) ?_
          rw [← Nat.add_mul]
          exact .pel _ _ _ _ _ h4
      · cases h
    · cases h
  · rename_i m T xs
    split at h
    · rename_i m' T' b htt
      split at h
      · rename_i e; subst e
        split at h
        · rename_i e; subst e
          obtain ⟨h0, h⟩ := cond_some h
          obtain ⟨y, hy, hK⟩ := Option.bind_eq_some_iff.1 h
          refine ⟨_, hK, fun g w rx ri _ hx hi => ?_⟩
          obtain rfl := relV_int hi
          obtain ⟨e, b', h1, h2⟩ := elem_arr hT htt
          have h3 := size_dat hT h2 w
          cases hx with
          | prd _ _ ad cs h4 h5 =>
            obtain ⟨h6, css, rfl, h7, h8⟩ := h4.inv
            have hlt := getElem?_lt hy
            have hn : 0 ≤ n ∧ n < (m' : Int) := ⟨h0, by omega⟩
            have hlt2 : n.toNat < css.length := by omega
            have hlens : ∀ cs ∈ css, cs.length = wd T' := by
              intro cs hcs
              obtain ⟨i, hi', rfl⟩ := List.getElem_of_mem hcs
              have hx' : i < (show List T'.D from xs).length := by omega
              exact (h8 i _ _ (List.getElem?_eq_getElem hx') (List.getElem?_eq_getElem hi')).len
            refine .same (rv := .pointer (some (ad.add (n.toNat * wd T')))) (by simp [Instr.indexAt, asIntOf, run_underlying h1, hn, h3, Instr.sureAddr]) (.prd _ _ _ _ (h8 _ _ _ hy (List.getElem?_eq_getElem hlt2)) fun j v hj => ?_)
            rw [add_add]
            exact h5 _ v (flatten_at css (wd T') hlens _ j _ v (List.getElem?_eq_getElem hlt2) hj)
        · cases h
      · cases h
    · cases h
  · rename_i i off
    split at h
    · rename_i m T b htt
      split at h
      · rename_i hoff; subst hoff
        split at h
        · rename_i f m' T' xs ho
          split at h
          · rename_i e; obtain ⟨e1, e2⟩ := e; subst e1; subst e2
            obtain ⟨h0, h⟩ := cond_some h
            obtain ⟨h1, h⟩ := cond_some h
            refine ⟨_, h, fun g w rx ri _ hx hi => ?_⟩
            obtain rfl := relV_int hi
            obtain ⟨e, b', h1', h2⟩ := elem_arr hT htt
            have h3 := size_dat hT h2 w
            cases hx with
            | ptr _ _ b'' f' hb =>
              have hn : 0 ≤ n ∧ n < (m' : Int) := ⟨h0, by omega⟩
              refine .same (rv := .pointer (some ⟨b'', n.toNat * wd T', none⟩)) (by simp [Instr.indexAt, asIntOf, run_underlying h1', hn, h3, Instr.sureAddr, addr_ext]) (.pel _ _ _ _ _ hb)
          · cases h
        · cases h
      · cases h
    · cases h
  · rename_i i m T j
    split at h
    · rename_i m' T' b htt
      split at h
      · rename_i e; obtain ⟨e1, e2⟩ := e; subst e1; subst e2
        obtain ⟨h0, h⟩ := cond_some h
        obtain ⟨h1, h⟩ := cond_some h
        refine ⟨_, h, fun g w rx ri _ hx hi => ?_⟩
        obtain rfl := relV_int hi
        obtain ⟨e, b', h1', h2⟩ := elem_arr hT htt
        have h3 := size_dat hT h2 w
        cases hx with
        | pel _ _ _ b'' f' hb =>
          have hn : 0 ≤ n ∧ n < (m' : Int) := ⟨h0, by omega⟩
          refine .same (rv := .pointer (some ⟨b'', j * (m' * wd T') + n.toNat * wd T', none⟩)) (by simp [Instr.indexAt, asIntOf, run_underlying h1', hn, h3, Instr.sureAddr, addr_ext, wd_arr]) (.pin _ _ _ _ _ _ _ hb)
      · cases h
    · cases h
  · cases h
theorem indexV_sound (hT : TtOk P tt) {t : Nat} {xv iv : V} {K : V → Option R} {r : R} (h : indexV tt t xv iv K = some r) :
    ∃ v, K v = some r ∧ ∀ g w rx ri, RelV g (Imm g w) xv rx → RelV g (Imm g w) iv ri → QR P (Instr.index t rx ri) g w v := by
  unfold indexV at h
  obtain ⟨k, n, rfl, h'⟩ := asInt_some h
  clear h
  have h : indexN tt t xv n K = some r := h'
  clear h'
  unfold indexN at h
  split at h
  · rename_i s
    split at h
    · rename_i b htt
      obtain ⟨h0, h⟩ := cond_some h
      obtain ⟨c, hc, hK⟩ := Option.bind_eq_some_iff.1 h
      refine ⟨_, hK, fun g w rx ri hx hi => ?_⟩
      obtain rfl := relV_int hi
      obtain rfl := relV_str hx
      have h1 := hT t; rw [htt] at h1
      have h2 : P.underlying t = some .string := h1.2.1
      have h3 := str_get s hc
      refine .same (rv := .int .u8 c.toNat) ?_ (relV_mkInt _ _)
      simp [Instr.index, asIntOf, run_underlying h2, h0]
      simp only [h3]
      rfl
    · cases h
  · rename_i m T xs
    split at h
    · rename_i m' T' b htt
      split at h
      · rename_i e; subst e
        split at h
        · rename_i e; subst e
          obtain ⟨h0, h⟩ := cond_some h
          obtain ⟨y, hy, hK⟩ := Option.bind_eq_some_iff.1 h
          refine ⟨_, hK, fun g w rx ri hx hi => ?_⟩
          obtain rfl := relV_int hi
          obtain ⟨e, b', h1, h2⟩ := elem_arr hT htt
          have h3 := size_dat hT h2 w
          rcases relVal_dat hx with ⟨_, cs, rfl, h4⟩ | ⟨h4, _⟩
          · obtain ⟨h6, css, rfl, h7, h8⟩ := h4.inv
            have hlt := getElem?_lt hy
            have hn : 0 ≤ n ∧ n < (m' : Int) := ⟨h0, by omega⟩
            have hlt2 : n.toNat < css.length := by omega
            have hlens : ∀ cs ∈ css, cs.length = wd T' := by
              intro cs hcs
              obtain ⟨i, hi', rfl⟩ := List.getElem_of_mem hcs
              have hx' : i < (show List T'.D from xs).length := by omega
              exact (h8 i _ _ (List.getElem?_eq_getElem hx') (List.getElem?_eq_getElem hi')).len
            have h9 := h8 _ _ _ hy (List.getElem?_eq_getElem hlt2)
            have h10 : (css.flatten.drop (n.toNat * wd T')).take (wd T') = css[n.toNat] := flatten_seg css (wd T') hlens _ hlt2
            have h14 := hT e; rw [h2] at h14
            cases ha : aggT T' with
            | true =>
              have h16 := run_isAgg_agg rfl (h14.2.1.agg ha) w
              refine .same (rv := .agg (css[n.toNat]).toArray) ?_ (relV_dv (.inl ⟨ha, _, rfl, h9⟩))
              simp [Instr.index, asIntOf, run_underlying h1, hn, h3, part, h16]
              first | exact h10 | (rw [List.drop_take, ← h10]; congr 1; omega)
            | false =>
              obtain ⟨d, h16, h17⟩ := h14.2.1.plain ha
              have h18 := run_isAgg_plain h16 h17 w
              have hw : wd T' = 1 := by cases T' <;> simp [aggT] at ha <;> rfl
              have hl := h9.len
              rw [hw] at hl h10
              obtain ⟨v, hv⟩ := List.length_eq_one_iff.1 hl
              rw [hv] at h9 h10
              have h19 : css.flatten[n.toNat]? = some v := by
                have := congrArg (·[0]?) h10
                rw [Nat.mul_one] at this
                simpa [List.getElem?_take, List.getElem?_drop] using this
              refine .same (rv := v) ?_ (relV_dv (.inr ⟨ha, h9⟩))
              simp [Instr.index, asIntOf, run_underlying h1, hn, h3, part, h18, hw, h19]
          · cases h4
        · cases h
      · cases h
    · cases h
  · cases h
end
end Go.Proofs.Yticelgnmcjkknaa.Vm
