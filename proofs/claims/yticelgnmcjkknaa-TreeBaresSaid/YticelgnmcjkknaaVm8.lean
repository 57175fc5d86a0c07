/-
A machine of values, eighth part: cuts, conversions, numbers, equality.
-/
import Derived.Test.YticelgnmcjkknaaVm7
set_option linter.unusedVariables false
set_option linter.unusedSimpArgs false
namespace Go.Proofs.Yticelgnmcjkknaa.Vm
open Go.RowKit (Below)
section
variable {P : Program} {tt : Nat → TI} {R : Type}

/-! ### numbers -/
theorem intOp_sound {op : BinOp} {t : TypeId} {k : IntKind} {a b : Int} {K : V → Option R} {r : R} (hs : isShift op = false) (h : intOp op k a b K = some r) :
    ∃ v, K v = some r ∧ ∀ g w (x y : Operand), QR P (do eqGuard op t x y (.int k a) (.int k b); binOp op t (.int k a) (.int k b)) g w v := by
  unfold intOp at h
  cases op <;> simp only [isShift] at hs <;> try (cases hs; done)
  case add => exact ⟨_, h, fun g w x y => .same (by simp [eqGuard_at_int, binOp_add, Op.intArith]) (relV_mkInt _ _)⟩
  case sub => exact ⟨_, h, fun g w x y => .same (by simp [eqGuard_at_int, binOp_sub, Op.intArith]) (relV_mkInt _ _)⟩
  case mul => exact ⟨_, h, fun g w x y => .same (by simp [eqGuard_at_int, binOp_mul, Op.intArith]) (relV_mkInt _ _)⟩
  case quo => obtain ⟨h0, h⟩ := cond_none h; exact ⟨_, h, fun g w x y => .same (by simp [eqGuard_at_int, binOp_quo, Op.intDiv, h0]) (relV_mkInt _ _)⟩
  case rem => obtain ⟨h0, h⟩ := cond_none h; exact ⟨_, h, fun g w x y => .same (by simp [eqGuard_at_int, binOp_rem, Op.intDiv, h0]) (relV_mkInt _ _)⟩
  case and => exact ⟨_, h, fun g w x y => .same (by simp only [eqGuard_at_int, binOp_and]; rfl) (relV_mkInt _ _)⟩
  case or => exact ⟨_, h, fun g w x y => .same (by simp only [eqGuard_at_int, binOp_or]; rfl) (relV_mkInt _ _)⟩
  case xor => exact ⟨_, h, fun g w x y => .same (by simp only [eqGuard_at_int, binOp_xor]; rfl) (relV_mkInt _ _)⟩
  case andNot => exact ⟨_, h, fun g w x y => .same (by simp only [eqGuard_at_int, binOp_andNot]; rfl) (relV_mkInt _ _)⟩
  case eql => exact ⟨_, h, fun g w x y => .same (by simp only [eqGuard_at_int, binOp_eql]; rfl) (relV_mkBool _)⟩
  case neq => exact ⟨_, h, fun g w x y => .same (by simp only [eqGuard_at_int, binOp_neq]; rfl) (relV_mkBool _)⟩
  case lss => exact ⟨_, h, fun g w x y => .same (by simp only [eqGuard_at_int, binOp_lss]; rfl) (relV_mkBool _)⟩
  case leq => exact ⟨_, h, fun g w x y => .same (by simp only [eqGuard_at_int, binOp_leq]; rfl) (relV_mkBool _)⟩
  case gtr => exact ⟨_, h, fun g w x y => .same (by simp only [eqGuard_at_int, binOp_gtr]; rfl) (relV_mkBool _)⟩
  case geq => exact ⟨_, h, fun g w x y => .same (by simp only [eqGuard_at_int, binOp_geq]; rfl) (relV_mkBool _)⟩
theorem shOp_sound {op : BinOp} {t : TypeId} {k k' : IntKind} {a b : Int} {K : V → Option R} {r : R} (hs : isShift op = true) (h : shOp op k a b K = some r) :
    ∃ v, K v = some r ∧ ∀ g w (x y : Operand), QR P (do eqGuard op t x y (.int k a) (.int k' b); binOp op t (.int k a) (.int k' b)) g w v := by
  unfold shOp at h
  cases op <;> simp only [isShift] at hs <;> try (cases hs; done)
  case shl => obtain ⟨h0, h⟩ := cond_none h; exact ⟨_, h, fun g w x y => .same (by simp [eqGuard_at_int, binOp_shl, Op.shift, h0] <;> rfl) (relV_mkInt _ _)⟩
  case shr => obtain ⟨h0, h⟩ := cond_none h; exact ⟨_, h, fun g w x y => .same (by simp [eqGuard_at_int, binOp_shr, Op.shift, h0] <;> rfl) (relV_mkInt _ _)⟩
theorem strOp_sound {op : BinOp} {t : TypeId} {a b : ByteArray} {K : V → Option R} {r : R} (h : strOp op a b K = some r) :
    ∃ v, K v = some r ∧ ∀ g w (x y : Operand), QR P (do eqGuard op t x y (.string a) (.string b); binOp op t (.string a) (.string b)) g w v := by
  unfold strOp at h
  cases op <;> try (cases h; done)
  case add =>
    obtain ⟨h0, h⟩ := cond_some h
    have h1 : ¬ (9223372036854775807 : Int) < (a.size : Int) + (b.size : Int) := by omega
    exact ⟨_, h, fun g w x y => .same (by simp [eqGuard_at_string, binOp, Op.stringOp, h1] <;> rfl) (relV_mkStr _)⟩
  case eql => exact ⟨_, h, fun g w x y => .same (by simp [eqGuard_at_string, binOp, Op.stringOp] <;> rfl) (relV_mkBool _)⟩
  case neq => exact ⟨_, h, fun g w x y => .same (by simp [eqGuard_at_string, binOp, Op.stringOp] <;> rfl) (relV_mkBool _)⟩
  case lss => exact ⟨_, h, fun g w x y => .same (by simp [eqGuard_at_string, binOp, Op.stringOp] <;> rfl) (relV_mkBool _)⟩
theorem unOpV_sound {op : UnOp} {v : V} {K : V → Option R} {r : R} (h : unOpV op v K = some r) :
    ∃ u, K u = some r ∧ ∀ g w rv, RelV g (Imm g w) v rv → QR P (Op.unary op rv) g w u := by
  unfold unOpV at h
  split at h
  · refine ⟨_, h, fun g w rv hv => ?_⟩
    obtain rfl := relV_bool hv
    exact .same (by simp [Op.unary] <;> rfl) (relV_mkBool _)
  · refine ⟨_, h, fun g w rv hv => ?_⟩
    obtain rfl := relV_int hv
    exact .same (by simp [Op.unary, Op.intArith] <;> rfl) (relV_mkInt _ _)
  · refine ⟨_, h, fun g w rv hv => ?_⟩
    obtain rfl := relV_int hv
    exact .same (by simp [Op.unary, Op.intBits] <;> rfl) (relV_mkInt _ _)
  · cases h
theorem min2V_sound {mx : Bool} {ty : TypeId} {ts : Array TypeId} {x y : V} {K : V → Option R} {r : R} (h : min2V mx x y K = some r) :
    ∃ u, K u = some r ∧ ∀ g w rx ry, RelV g (Imm g w) x rx → RelV g (Imm g w) y ry → QR P (if mx then Builtin.max_ ts ty #[rx, ry] else Builtin.min_ ts ty #[rx, ry]) g w u := by
  unfold min2V at h
  split at h
  · rename_i k a k' b
    split at h
    · rename_i e; subst e
      refine ⟨_, h, fun g w rx ry hx hy => ?_⟩
      obtain rfl := relV_int hx
      obtain rfl := relV_int hy
      cases mx
      · exact .same (by simp [Builtin.min_, Builtin.min2, minmax] <;> rfl) (relV_mkInt _ _)
      · exact .same (by simp [Builtin.max_, Builtin.max2, minmax] <;> rfl) (relV_mkInt _ _)
    · cases h
  · cases h

/-! ### conversions -/
theorem u8_cells {I : Addr → Value → Prop} : ∀ (xs : List Int) (css : List (List Value)), css.length = xs.length → (∀ (i : Nat) (x : Int) (cs : List Value), xs[i]? = some x → css[i]? = some cs → Rd I u8 x cs) → css.flatten = xs.map (Value.int .u8)
  | [], css, h, _ => by cases css with | nil => rfl | cons c l => simp at h
  | x :: xs, css, h, hr => by
    cases css with
    | nil => simp at h
    | cons c l =>
      have h1 : c = [.int .u8 x] := (hr 0 x c rfl rfl).inv
      rw [List.flatten_cons, List.map_cons, h1, u8_cells xs l (by simpa using h) (fun i y cs hy hc => hr (i + 1) y cs (by simpa using hy) (by simpa using hc))]; rfl
theorem run_bytes_conv (w : World) (ad : Addr) (c : Nat) (xs : List Int) (hl : (loadCells ad xs.length).run P w = .ok (xs.map (Value.int .u8)).toArray w) :
    (Conv.bytesToString (.slice (some ad) xs.length c)).run P w = .ok (.string (strOfNums xs)) w := by
  rw [run_bytesToString w ad xs.length c xs hl, foldl_push_bytes]
  simp [strOfNums, ByteArray.empty, ByteArray.emptyWithCapacity]
  rfl
theorem byte_cells (s : ByteArray) (cap j : Nat) (x : Int) (h : (bytesD s)[j]? = some x) : (bytesRow s cap)[j]? = some (.int .u8 x) := by
  unfold bytesD at h
  rw [List.getElem?_map] at h
  cases hb : s.data.toList[j]? with
  | none => rw [hb] at h; cases h
  | some b =>
    rw [hb] at h
    simp only [Option.map_some, Option.some.injEq] at h
    have hlt := getElem?_lt hb
    rw [Array.length_toList] at hlt
    rw [List.getElem?_eq_getElem (by simpa using hlt)] at hb
    simp only [Option.some.injEq, Array.getElem_toList] at hb
    rw [bytesRow_at s cap j hlt, ← h, ← hb]
theorem convV_sound (hT : TtOk P tt) {s d : Nat} {v : V} {K : V → Option R} {r : R} (h : convV tt s d v K = some r) :
    ∃ u, K u = some r ∧ ∀ g w rv, (∀ a, Bad g a → a.block < w.heap.size) → RelV g (Imm g w) v rv → QR P (convert s d rv) g w u := by
  have hs := hT s
  have hd := hT d
  unfold convV at h
  split at h
  · rename_i ks bs kd bd k n h1 h2
    rw [h1] at hs; rw [h2] at hd
    have h3 : P.underlying s = some (.int ks) := hs.2.1
    have h4 : P.underlying d = some (.int kd) := hd.2.1
    refine ⟨_, h, fun g w rv hF hv => ?_⟩
    obtain rfl := relV_int hv
    exact .same (by simp [convert, run_underlying h3, run_underlying h4, Conv.intToInt] <;> rfl) (relV_mkInt _ _)
  · rename_i bs bd str h1 h2
    rw [h1] at hs; rw [h2] at hd
    have h3 : P.underlying s = some .string := hs.2.1
    have h4 : P.underlying d = some .string := hd.2.1
    refine ⟨_, h, fun g w rv hF hv => ?_⟩
    obtain rfl := relV_str hv
    exact .same (by simp [convert, run_underlying h3, run_underlying h4] <;> rfl) (relV_mkStr _)
  · rename_i bs bd xs tag h1 h2
    rw [h1] at hs; rw [h2] at hd
    obtain ⟨e, b', i, h3, h5, _⟩ := hs.2.1
    have h6 := hT e; rw [h5] at h6
    have h7 : P.underlying e = some (.int .u8) := h6.2.1
    have h4 : P.underlying d = some .string := hd.2.1
    refine ⟨_, h, fun g w rv hF hv => ?_⟩
    have hv' : Elems g w u8 xs rv := by
      cases hv with
      | row _ _ _ A n c h1 h2 => exact elems_row h1
    obtain ⟨css, h10, h11, h12⟩ := hv'
    rcases h12 with ⟨A, c, rfl, h13, h14⟩ | ⟨st, rfl, _⟩
    · have hcss : css.flatten = (show List Int from xs).map (Value.int .u8) := u8_cells (show List Int from xs) css h10 h11
      cases A with
      | none =>
        have hx : xs = [] := by
          apply Classical.byContradiction
          intro hne
          have := h14 hne
          cases this
        subst hx
        exact .same (run_convert_bytes_nil w s e h3 h7 _ c d h4) (relV_mkStr _)
      | some ad =>
        refine .same (rv := .string (strOfNums xs)) ?_ (relV_mkStr _)
        rw [run_convert_bytes_string w s d e _ _ c h3 h7 h4]
        have hl := run_loadCells_list (P := P) w ad css.flatten (fun j v hj => h13 ad j v rfl hj)
        rw [hcss] at hl
        have h18 : (loadCells ad xs.length).run P w = .ok ((show List Int from xs).map (Value.int .u8)).toArray w := by
          rw [List.length_map] at hl; exact hl
        exact run_bytes_conv w ad c (show List Int from xs) h18
    · cases hv
  · rename_i bs bd h1 h2
    rw [h1] at hs; rw [h2] at hd
    obtain ⟨e, b', i, h3, h5, _⟩ := hs.2.1
    have h6 := hT e; rw [h5] at h6
    have h7 : P.underlying e = some (.int .u8) := h6.2.1
    have h4 : P.underlying d = some .string := hd.2.1
    refine ⟨_, h, fun g w rv hF hv => ?_⟩
    cases hv
    exact .same (run_convert_bytes_nil w s e h3 h7 0 0 d h4) (relV_mkStr _)
  · rename_i bs bd str h1 h2
    rw [h1] at hs; rw [h2] at hd
    have h3 : P.underlying s = some .string := hs.2.1
    obtain ⟨e, b', i, h4, h5, _⟩ := hd.2.1
    have h6 := hT e; rw [h5] at h6
    have h7 : P.underlying e = some (.int .u8) := h6.2.1
    refine ⟨_, h, fun g w rv hF hv => ?_⟩
    obtain rfl := relV_str hv
    have h8 := run_bytes_of_string (P := P) w s d e str h3 h4 h7
    have hb : Below w.heap.size w (w.drew.alloc (.cells (bytesRow str (grownCap w (ByteArray.size str) 0 e)) e ((bytesRow str (grownCap w (ByteArray.size str) 0 e)).size, (bytesRow str (grownCap w (ByteArray.size str) 0 e)).size + 1))) :=
      ((Below.refl _ w).drew).alloc (Nat.le_refl _) _
    refine ⟨_, _, h8, hb, .row _ _ _ _ _ _ ?_ trivial⟩
    obtain ⟨css, h10, h11, h12, h13⟩ := bytes_css str
    have hcap : (show List u8.D from bytesD str).length ≤ grownCap w (ByteArray.size str) 0 e := by
      have := grownCap_ge w (ByteArray.size str) 0 e
      rw [h13] at this ⊢; exact this
    have h14 := rd_row_new (g := g) (t := u8) (xs := bytesD str) (css := css) (w := w.drew.alloc (.cells (bytesRow str (grownCap w (ByteArray.size str) 0 e)) e ((bytesRow str (grownCap w (ByteArray.size str) 0 e)).size, (bytesRow str (grownCap w (ByteArray.size str) 0 e)).size + 1)))
      (n := w.heap.size) (C := bytesRow str (grownCap w (ByteArray.size str) 0 e)) (heap_alloc_new _ _) (fun a ha => by have := hF a ha; omega) h10
      (fun i x cs hx hcs => by rw [h11 i x cs hx hcs]; exact .int _ _)
      (fun j v hj => by
        obtain ⟨i, k, cs, rfl, h15, h16⟩ := flatten_get css 1 (fun cs hcs => by
          obtain ⟨i, hi, rfl⟩ := List.getElem_of_mem hcs
          have hx : i < (bytesD str).length := by omega
          rw [h11 i _ _ (List.getElem?_eq_getElem hx) (List.getElem?_eq_getElem hi)]; rfl) j v hj
        have hx : i < (bytesD str).length := by have := getElem?_lt h15; omega
        have h17 := h11 i _ _ (List.getElem?_eq_getElem hx) h15
        subst h17
        cases k with
        | succ k => simp at h16
        | zero =>
          simp only [List.getElem?_cons_zero, Option.some.injEq] at h16
          subst h16
          rw [Nat.mul_one, Nat.add_zero]
          exact byte_cells str _ i _ (List.getElem?_eq_getElem hx)) hcap
    have h18 : (show List u8.D from bytesD str).length = ByteArray.size str := h13.symm
    rw [h18] at h14
    exact h14
  · cases h
end
end Go.Proofs.Yticelgnmcjkknaa.Vm
