/-
A machine of values, seventh part: cuts, lengths, conversions, numbers, what is appended.
-/
import Derived.Test.YticelgnmcjkknaaVm6
import Derived.Laws.StructEq
set_option linter.unusedVariables false
set_option linter.unusedSimpArgs false
namespace Go.Proofs.Yticelgnmcjkknaa.Vm
open Go.RowKit (Below)
section
variable {P : Program} {tt : Nat → TI} {R : Type}

/-! ### the elements of a slice, or of a string -/
def Elems (g : Gh) (w : World) (t : Ty) (xs : List t.D) (rv : Value) : Prop :=
  ∃ css : List (List Value), css.length = xs.length ∧ (∀ (i : Nat) (x : t.D) (cs : List Value), xs[i]? = some x → css[i]? = some cs → Rd (Imm g w) t x cs) ∧
    ((∃ A c, rv = .slice A xs.length c ∧ (∀ (ad : Addr) (j : Nat) (v : Value), A = some ad → css.flatten[j]? = some v → w.cell? (ad.add j) = some v) ∧ (xs ≠ [] → A.isSome = true)) ∨
     (∃ s : ByteArray, rv = .string s ∧ wd t = 1 ∧ css.flatten = byteCells s ∧ s.size = xs.length))
theorem elems_row {g : Gh} {w : World} {t : Ty} {xs : List t.D} {rv : Value} (h : Rd (Imm g w) (.slice t) xs [rv]) : Elems g w t xs rv := by
  obtain ⟨A, c, f, h1, h2, h3, h4, h5⟩ := h.inv
  simp only [List.cons.injEq, and_true] at h1
  refine ⟨(List.range xs.length).map f, by simp, ?_, .inl ⟨A, c, h1, ?_, h3⟩⟩
  · intro i x cs hx hcs
    have hlt := getElem?_lt hx
    rw [List.getElem?_map, List.getElem?_range hlt] at hcs
    simp only [Option.map_some, Option.some.injEq] at hcs
    subst hcs; exact h4 i x hx
  · intro ad j v hA hj
    have hl : ∀ cs ∈ (List.range xs.length).map f, cs.length = wd t := by
      intro cs hcs
      obtain ⟨i, hi, rfl⟩ := List.mem_map.1 hcs
      have hi' := List.mem_range.1 hi
      exact (h4 i _ (List.getElem?_eq_getElem hi')).len
    obtain ⟨i, k, cs, rfl, h6, h7⟩ := flatten_get _ (wd t) hl j v hj
    have hlt : i < xs.length := by have := getElem?_lt h6; simpa using this
    rw [List.getElem?_map, List.getElem?_range hlt] at h6
    simp only [Option.map_some, Option.some.injEq] at h6
    subst h6
    exact (h5 ad i k v hA hlt h7).1
theorem heap_alloc_new (w : World) (o : Obj) : (w.drew.alloc o).heap[w.heap.size]? = some o := by
  show (w.heap.push o)[w.heap.size]? = _
  simp
theorem heap_alloc_new' (w : World) (o : Obj) : (w.alloc o).heap[w.heap.size]? = some o := by
  show (w.heap.push o)[w.heap.size]? = _
  simp
/-- A row that has just been made. -/
theorem rd_row_new {g : Gh} {w : World} {n : Nat} {C : Array Value} {e : TypeId} {fr : Nat × Nat} (hh : w.heap[n]? = some (.cells C e fr)) (hF : ∀ a, Bad g a → a.block ≠ n) {t : Ty} {xs : List t.D} {css : List (List Value)} (hl : css.length = xs.length)
    (hr : ∀ (i : Nat) (x : t.D) (cs : List Value), xs[i]? = some x → css[i]? = some cs → Rd (Imm g w) t x cs) (hc : ∀ (j : Nat) (v : Value), css.flatten[j]? = some v → C[j]? = some v) {c : Nat} (hcap : xs.length ≤ c) :
    Rd (Imm g w) (.slice t) xs [.slice (some ⟨n, 0, none⟩) xs.length c] := by
  have hlen : ∀ cs ∈ css, cs.length = wd t := by
    intro cs hcs
    obtain ⟨i, hi, rfl⟩ := List.getElem_of_mem hcs
    have hx : i < xs.length := by omega
    exact (hr i _ _ (List.getElem?_eq_getElem hx) (List.getElem?_eq_getElem hi)).len
  refine Rd.slice t xs _ _ (fun i => css.getD i []) hcap (fun _ => rfl) (fun i x hx => ?_) (fun ad i j v hA hi hj => ?_) (fun h => by cases h)
  · have hlt := getElem?_lt hx
    have hlt' : i < css.length := by omega
    refine hr i x _ hx ?_
    show css[i]? = some (css.getD i [])
    rw [List.getD_eq_getElem?_getD, List.getElem?_eq_getElem hlt']; rfl
  · simp only [Option.some.injEq] at hA
    subst hA
    have hlt' : i < css.length := by omega
    have hj' : css[i][j]? = some v := by
      have : css.getD i [] = css[i] := by rw [List.getD_eq_getElem?_getD, List.getElem?_eq_getElem hlt']; rfl
      rw [← this]; exact hj
    rw [addr_ext, Nat.zero_add]
    exact ⟨cell_mk hh (hc _ v (flatten_at css (wd t) hlen i j css[i] v (List.getElem?_eq_getElem hlt') hj')), fun hw => hF _ hw rfl⟩
theorem bytes_css (s : ByteArray) : ∃ css : List (List Value), css.length = (bytesD s).length ∧ (∀ (i : Nat) (x : Int) (cs : List Value), (bytesD s)[i]? = some x → css[i]? = some cs → cs = [.int .u8 x]) ∧ css.flatten = byteCells s ∧ s.size = (bytesD s).length := by
  refine ⟨(byteCells s).map fun c => [c], by simp [byteCells, bytesD], ?_, ?_, ?_⟩
  · intro i x cs hx hcs
    simp only [bytesD, byteCells, List.getElem?_map, List.map_map] at hx hcs
    cases hb : s.data.toList[i]? with
    | none => rw [hb] at hx; simp at hx
    | some c =>
      rw [hb] at hx hcs
      simp only [Option.map_some, Option.some.injEq, Function.comp] at hx hcs
      rw [← hcs, ← hx]
  · induction byteCells s with
    | nil => rfl
    | cons a l ih => rw [List.map_cons, List.flatten_cons, ih]; rfl
  · unfold bytesD; rw [List.length_map, Array.length_toList]; rfl
theorem arr_css {g : Gh} {w : World} {t : Ty} {xs : List t.D} {c : Array Value} (h7 : ∀ (j : Nat) (x : t.D), xs[j]? = some x → ∃ cs, Rd (Imm g w) t x cs ∧ ∀ (k : Nat) (v : Value), cs[k]? = some v → c[j * wd t + k]? = some v) :
    ∃ css : List (List Value), css.length = xs.length ∧ (∀ (i : Nat) (x : t.D) (cs : List Value), xs[i]? = some x → css[i]? = some cs → Rd (Imm g w) t x cs) ∧
      ∀ (i k : Nat) (cs : List Value) (v : Value), css[i]? = some cs → cs[k]? = some v → c[i * wd t + k]? = some v := by
  refine ⟨List.ofFn fun i : Fin xs.length => Classical.choose (h7 i xs[i] (List.getElem?_eq_getElem i.2)), by simp, ?_, ?_⟩
  · intro i x cs hx hcs
    have hlt := getElem?_lt hx
    rw [List.getElem?_ofFn, dif_pos hlt] at hcs
    simp only [Option.some.injEq] at hcs
    subst hcs
    have := (Classical.choose_spec (h7 i xs[i] (List.getElem?_eq_getElem hlt))).1
    rw [List.getElem?_eq_getElem hlt] at hx
    simp only [Option.some.injEq] at hx
    subst hx; exact this
  · intro i k cs v hcs hv
    have hlt : i < xs.length := by have := getElem?_lt hcs; simpa using this
    rw [List.getElem?_ofFn, dif_pos hlt] at hcs
    simp only [Option.some.injEq] at hcs
    subst hcs
    exact (Classical.choose_spec (h7 i xs[i] (List.getElem?_eq_getElem hlt))).2 k v hv
theorem asRow_sound {objs : List Ob} {v : V} {t : Ty} {K : List t.D → Option R} {r : R} (h : asRow objs v t K = some r) :
    ∃ xs, K xs = some r ∧ ∀ g w rv, RelObs g w objs → RelV g (Imm g w) v rv → Elems g w t xs rv := by
  unfold asRow at h
  split at h
  · rename_i u xs tag
    split at h
    · rename_i e; subst e
      refine ⟨xs, h, fun g w rv _ hv => ?_⟩
      cases hv with
      | row _ _ _ A n c h1 h2 => exact elems_row h1
    · cases h
  · refine ⟨[], h, fun g w rv _ hv => ?_⟩
    cases hv
    exact ⟨[], rfl, fun i x cs hx => by simp at hx, .inl ⟨none, 0, rfl, fun ad j v hA => by simp at hA, fun he => absurd rfl he⟩⟩
  · rename_i i u lo n
    split at h
    · rename_i f fx u' xs ho
      split at h
      · rename_i e; subst e
        split at h
        rotate_left
        · cases h
        rename_i e; subst e
        obtain ⟨h0, h⟩ := cond_some h
        refine ⟨_, h, fun g w rv hobs hv => ?_⟩
        cases hv with
        | msl _ _ _ _ b f' A c h1 h2 h3 =>
          obtain ⟨b2, c', e, h4, h5, h6, _, h7⟩ := hobs _ _ ho
          obtain ⟨rfl, rfl⟩ : b2 = b ∧ f = f' := by rw [h1] at h4; simp at h4; exact ⟨h4.1.symm, h4.2.symm⟩
          obtain ⟨css, h8, h9, h10⟩ := arr_css h7
          have hlen : ((xs.drop lo).take n).length = n := by rw [List.length_take, List.length_drop]; omega
          refine ⟨(css.drop lo).take n, by rw [List.length_take, List.length_drop, hlen]; omega, ?_, .inl ⟨A, c, by rw [hlen], ?_, ?_⟩⟩
          · intro i x cs hx hcs
            have h11 := (take_get hx).1
            have h12 := (take_get hcs).1
            rw [List.getElem?_drop] at h11 h12
            exact h9 _ x cs h11 h12
          · intro ad j v hA hj
            have hn : n ≠ 0 := by intro e; subst e; simp at hj
            have hA' := h3 hn
            rw [hA] at hA'
            simp only [Option.some.injEq] at hA'
            subst hA'
            have hl : ∀ cs ∈ (css.drop lo).take n, cs.length = wd u := by
              intro cs hcs
              obtain ⟨i, hi, rfl⟩ := List.getElem_of_mem (List.mem_of_mem_drop (List.mem_of_mem_take hcs))
              have hx : i < xs.length := by omega
              exact (h9 i _ _ (List.getElem?_eq_getElem hx) (List.getElem?_eq_getElem hi)).len
            obtain ⟨i, k, cs, rfl, h13, h14⟩ := flatten_get _ (wd u) hl j v hj
            have h15 := (take_get h13).1
            rw [List.getElem?_drop] at h15
            rw [addr_ext]
            refine cellAt h5 ?_
            have := h10 _ k cs v h15 h14
            rwa [Nat.add_mul, Nat.add_assoc] at this
          · intro he
            have hn : n ≠ 0 := by intro e; subst e; simp at he
            rw [h3 hn]; rfl
      · cases h
    · cases h
  · rename_i s
    split at h
    · rename_i K'
      refine ⟨_, h, fun g w rv _ hv => ?_⟩
      obtain rfl := relV_str hv
      obtain ⟨css, h1, h2, h3, h4⟩ := bytes_css s
      exact ⟨css, h1, fun i x cs hx hcs => by rw [h2 i x cs hx hcs]; exact .int _ _, .inr ⟨s, rfl, rfl, h3, h4⟩⟩
    · cases h
  · cases h

/-! ### lengths -/
theorem lenV_sound (hT : TtOk P tt) {objs : List Ob} {t : Nat} {ty : TypeId} {v : V} {K : V → Option R} {r : R} (hk : lenOk (tt t) v = true) (h : lenV objs v K = some r) :
    ∃ u, K u = some r ∧ ∀ g w rv, RelObs g w objs → RelV g (Imm g w) v rv → QR P (Builtin.len_ #[t] ty #[rv]) g w u := by
  have h1 := hT t
  unfold lenV at h
  split at h
  · rename_i T xs tag
    refine ⟨_, h, fun g w rv _ hv => ?_⟩
    cases htt : tt t with
    | dat T' b =>
      rw [htt] at hk h1
      cases T' with
      | slice T' =>
        obtain ⟨e, b', i, h2, _⟩ := h1.2.1
        cases hv with
        | row _ _ _ A n c h3 h4 =>
          obtain ⟨A', c', f, h5, _⟩ := h3.inv
          simp only [List.cons.injEq, Value.slice.injEq, and_true] at h5
          obtain ⟨_, rfl, _⟩ := h5
          exact .same (rv := .int .i64 xs.length) (by simp [Builtin.len_, run_underlying h2, goInt]) (relV_mkInt _ _)
      | _ => simp [lenOk] at hk
    | _ => rw [htt] at hk; simp [lenOk] at hk
  · refine ⟨_, h, fun g w rv _ hv => ?_⟩
    cases hv
    cases htt : tt t with
    | dat T' b =>
      rw [htt] at hk h1
      cases T' with
      | slice T' =>
        obtain ⟨e, b', i, h2, _⟩ := h1.2.1
        exact .same (rv := .int .i64 0) (by simp [Builtin.len_, run_underlying h2, goInt]) (relV_mkInt _ _)
      | _ => simp [lenOk] at hk
    | _ => rw [htt] at hk; simp [lenOk] at hk
  · rename_i i T lo n
    refine ⟨_, h, fun g w rv _ hv => ?_⟩
    cases htt : tt t with
    | dat T' b =>
      rw [htt] at hk h1
      cases T' with
      | slice T' =>
        obtain ⟨e, b', i, h2, _⟩ := h1.2.1
        cases hv with
        | msl => exact .same (rv := .int .i64 n) (by simp [Builtin.len_, run_underlying h2, goInt]) (relV_mkInt _ _)
      | _ => simp [lenOk] at hk
    | _ => rw [htt] at hk; simp [lenOk] at hk
  · rename_i s
    refine ⟨_, h, fun g w rv _ hv => ?_⟩
    obtain rfl := relV_str hv
    cases htt : tt t with
    | dat T' b =>
      rw [htt] at hk h1
      cases T' with
      | str =>
        have h2 : P.underlying t = some .string := h1.2.1
        exact .same (rv := .int .i64 (ByteArray.size s)) (by simp [Builtin.len_, run_underlying h2, goInt]) (relV_mkInt _ _)
      | _ => simp [lenOk] at hk
    | _ => rw [htt] at hk; simp [lenOk] at hk
  · rename_i n T xs
    refine ⟨_, h, fun g w rv _ hv => ?_⟩
    cases htt : tt t with
    | dat T' b =>
      rw [htt] at hk h1
      cases T' with
      | arr n' T' =>
        obtain ⟨e, b', h2, _⟩ := h1.2.1
        simp [lenOk] at hk
        subst hk
        exact .same (rv := .int .i64 n') (by simp [Builtin.len_, run_underlying h2, goInt]) (relV_mkInt _ _)
      | _ => simp [lenOk] at hk
    | _ => rw [htt] at hk; simp [lenOk] at hk
  · refine ⟨_, h, fun g w rv _ hv => ?_⟩
    cases hv
    cases htt : tt t with
    | map kt vt =>
      rw [htt] at h1
      obtain ⟨_, k, v, bk, bv, h2, _⟩ := h1
      exact .same (rv := .int .i64 0) (by simp [Builtin.len_, run_underlying h2, goInt]) (relV_mkInt _ _)
    | _ => rw [htt] at hk; simp [lenOk] at hk
  · rename_i i
    split at h
    · rename_i f kt vt es ho
      refine ⟨_, h, fun g w rv hobs hv => ?_⟩
      cases hv with
      | mp _ b f' hb =>
        obtain ⟨b2, ents, clock, h4, h5, h6, _⟩ := hobs _ _ ho
        obtain ⟨rfl, rfl⟩ : b2 = b ∧ f = f' := by rw [hb] at h4; simp at h4; exact ⟨h4.1.symm, h4.2.symm⟩
        cases htt : tt t with
        | map kt vt =>
          rw [htt] at h1
          obtain ⟨_, k, v, bk, bv, h2, _⟩ := h1
          exact .same (rv := .int .i64 es.length) (by simp [Builtin.len_, run_underlying h2, goInt, getObj, Sem.run, h5, h6]) (relV_mkInt _ _)
        | _ => rw [htt] at hk; simp [lenOk] at hk
    · cases h
  · cases h
end
end Go.Proofs.Yticelgnmcjkknaa.Vm
