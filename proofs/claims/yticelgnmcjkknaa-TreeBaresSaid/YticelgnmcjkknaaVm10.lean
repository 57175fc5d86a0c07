/-
A machine of values, tenth part: equality, aggregates that are built, maps looked into.
-/
import Derived.Test.YticelgnmcjkknaaVm9
set_option linter.unusedVariables false
set_option linter.unusedSimpArgs false
namespace Go.Proofs.Yticelgnmcjkknaa.Vm
open Go.RowKit (Below)
section
variable {P : Program} {tt : Nat → TI} {R : Type}

/-! ### '==' -/
theorem part_dat (hT : TtOk P tt) {t : Nat} {u : Ty} {b : Nat} (ht : tt t = .dat u b) {I : Addr → Value → Prop} {y : u.D} {cs : Array Value} {o : Nat} (h : Rd I u y ((cs.toList.drop o).take (wd u))) (w : World) :
    ∃ rv, (part t cs o).run P w = .ok rv w ∧ RelVal I u y rv := by
  have h12 := size_dat hT ht w
  have h13 := h.len
  have h14 := hT t; rw [ht] at h14
  have h15 : (cs.toList.drop o).length ≥ wd u := by rw [List.length_take] at h13; omega
  cases ha : aggT u with
  | true =>
    have h16 := run_isAgg_agg rfl (h14.2.1.agg ha) w
    refine ⟨.agg ((cs.toList.drop o).take (wd u)).toArray, ?_, .inl ⟨ha, _, rfl, h⟩⟩
    simp [part, h16, h12]
    apply Array.ext'
    simp [List.drop_take]
  | false =>
    obtain ⟨d, h16, h17⟩ := h14.2.1.plain ha
    have h18 := run_isAgg_plain h16 h17 w
    have hw : wd u = 1 := by cases u <;> simp [aggT] at ha <;> rfl
    rw [hw] at h h15
    have hlt : o < cs.toList.length := by rw [List.length_drop] at h15; omega
    have h19 : (cs.toList.drop o).take 1 = [cs.toList[o]] := by rw [List.drop_eq_getElem_cons hlt]; rfl
    rw [h19] at h
    refine ⟨cs.toList[o], ?_, .inr ⟨ha, h⟩⟩
    have hlt' : o < cs.size := by simpa using hlt
    simp [part, h18, hlt']
theorem beqD_bytes (a b : ByteArray) : beqD .str a b = (a == b) := rfl
/-- Equality of values of a type, and of the fields from one on. -/
theorem eq_sound (hT : TtOk P tt) : ∀ (T : Ty), eqTy0 T = true →
    (∀ (t b d : Nat) (I : Addr → Value → Prop) (x y : T.D) (rx ry : Value) (w : World), tt t = .dat T b → tySz T ≤ 1000 → tySz T ≤ d → RelVal I T x rx → RelVal I T y ry → (Op.equalIn d t rx ry).run P w = .ok (beqD T x y) w) ∧
    (∀ (fs : List Field) (o d : Nat) (I : Addr → Value → Prop) (x y : T.D) (xs ys : Array Value) (w : World), (T = .unit ∨ ∃ a b, T = .pair a b) → tySz T ≤ 1000 → tySz T ≤ d + 1 →
      (∀ j : Nat, (∀ o' u, fldP T j = some (o', u) → ∃ f b, fs[j]? = some f ∧ f.offset = o + o' ∧ tt f.type = .dat u b ∧ f.name ≠ "_") ∧ (fldP T j = none → fs[j]? = none)) →
      Rd I T x ((xs.toList.drop o).take (wd T)) → Rd I T y ((ys.toList.drop o).take (wd T)) → (Op.eqFields d xs ys fs).run P w = .ok (beqD T x y) w) := by
  intro T
  induction T with
  | int k =>
    intro _
    refine ⟨fun t b d I x y rx ry w ht _ hd hx hy => ?_, fun fs o d I x y xs ys w h => by rcases h with h | ⟨_, _, h⟩ <;> cases h⟩
    have h1 := hT t; rw [ht] at h1
    have h2 : P.underlying t = some (.int k) := h1.2.1
    obtain rfl := relV_int (g := ⟨[], [], fun _ => False⟩) (relV_mkDat hx)
    obtain rfl := relV_int (g := ⟨[], [], fun _ => False⟩) (relV_mkDat hy)
    obtain ⟨d, rfl⟩ : ∃ m, d = m + 1 := ⟨d - 1, by simp [tySz] at hd; omega⟩
    exact run_equalIn_int w d t k k x y h2
  | bool =>
    intro _
    refine ⟨fun t b d I x y rx ry w ht _ hd hx hy => ?_, fun fs o d I x y xs ys w h => by rcases h with h | ⟨_, _, h⟩ <;> cases h⟩
    have h1 := hT t; rw [ht] at h1
    have h2 : P.underlying t = some .bool := h1.2.1
    obtain rfl := relV_bool (g := ⟨[], [], fun _ => False⟩) (relV_mkDat hx)
    obtain rfl := relV_bool (g := ⟨[], [], fun _ => False⟩) (relV_mkDat hy)
    obtain ⟨d, rfl⟩ : ∃ m, d = m + 1 := ⟨d - 1, by simp [tySz] at hd; omega⟩
    exact run_equalIn_bool' w d t x y h2
  | str =>
    intro _
    refine ⟨fun t b d I x y rx ry w ht _ hd hx hy => ?_, fun fs o d I x y xs ys w h => by rcases h with h | ⟨_, _, h⟩ <;> cases h⟩
    have h1 := hT t; rw [ht] at h1
    have h2 : P.underlying t = some .string := h1.2.1
    obtain rfl := relV_str (g := ⟨[], [], fun _ => False⟩) (relV_mkDat hx)
    obtain rfl := relV_str (g := ⟨[], [], fun _ => False⟩) (relV_mkDat hy)
    obtain ⟨d, rfl⟩ : ∃ m, d = m + 1 := ⟨d - 1, by simp [tySz] at hd; omega⟩
    exact (run_equalIn_string w d t x y h2).trans (congrArg (Result.ok · w) (beq_toListBytes x y).symm)
  | slice t _ => intro h; simp [eqTy0] at h
  | arr n t _ => intro h; simp [eqTy0] at h
  | rc i => intro h; simp [eqTy0] at h
  | unit =>
    intro _
    have chain : ∀ (fs : List Field) (o d : Nat) (I : Addr → Value → Prop) (x y : Ty.unit.D) (xs ys : Array Value) (w : World), (∀ j : Nat, (∀ o' u, fldP Ty.unit j = some (o', u) → ∃ f b, fs[j]? = some f ∧ f.offset = o + o' ∧ tt f.type = .dat u b ∧ f.name ≠ "_") ∧ (fldP Ty.unit j = none → fs[j]? = none)) →
        (Op.eqFields d xs ys fs).run P w = .ok (beqD .unit x y) w := by
      intro fs o d I x y xs ys w h
      have h0 := (h 0).2 rfl
      cases fs with
      | nil => rfl
      | cons f fs => simp at h0
    refine ⟨fun t b d I x y rx ry w ht hs hd hx hy => ?_, fun fs o d I x y xs ys w _ _ _ h _ _ => chain fs o d I x y xs ys w h⟩
    have h1 := hT t; rw [ht] at h1
    obtain ⟨fs, h2, h3⟩ := h1.2.1
    have h4 := (h1.2.2.1 rfl rfl).2
    obtain ⟨d, rfl⟩ : ∃ m, d = m + 1 := ⟨d - 1, by simp [tySz] at hd; omega⟩
    rcases hx with ⟨_, cx, rfl, hx⟩ | ⟨hx, _⟩
    · rcases hy with ⟨_, cy, rfl, hy⟩ | ⟨hy, _⟩
      · have hf : P.fieldsOf t = fs := by simp [Program.fieldsOf, h2]
        rw [run_equalIn_struct w d t _ _ (by rw [hf]; exact h2) h4, hf]
        exact chain fs.toList 0 d I x y _ _ w fun j => ⟨fun o' u hu => by simp [fldP] at hu, fun hn => by have := (h3 j).2 hn; simpa using this⟩
      · cases hy
    · cases hx
  | pair a b iha ihb =>
    intro he
    have hea : (eqTy0 a = true ∧ eqTy0 b = true) ∧ isChain b = true := by simpa [eqTy0] using he
    have chain : ∀ (fs : List Field) (o d : Nat) (I : Addr → Value → Prop) (x y : (Ty.pair a b).D) (xs ys : Array Value) (w : World), tySz (.pair a b) ≤ 1000 → tySz (.pair a b) ≤ d + 1 →
      (∀ j : Nat, (∀ o' u, fldP (.pair a b) j = some (o', u) → ∃ f b, fs[j]? = some f ∧ f.offset = o + o' ∧ tt f.type = .dat u b ∧ f.name ≠ "_") ∧ (fldP (.pair a b) j = none → fs[j]? = none)) →
      Rd I (.pair a b) x ((xs.toList.drop o).take (wd (.pair a b))) → Rd I (.pair a b) y ((ys.toList.drop o).take (wd (.pair a b))) → (Op.eqFields d xs ys fs).run P w = .ok (beqD (.pair a b) x y) w := by
      intro fs o d I x y xs ys w hs hd hf hx hy
      obtain ⟨x1, x2⟩ := x
      obtain ⟨y1, y2⟩ := y
      obtain ⟨cx1, cx2, hcx, hx1, hx2⟩ := hx.inv
      obtain ⟨cy1, cy2, hcy, hy1, hy2⟩ := hy.inv
      obtain ⟨f, b0, hf1, hf2, hf3, hf4⟩ := (hf 0).1 0 a rfl
      cases fs with
      | nil => simp at hf1
      | cons f' fs =>
        obtain rfl : f' = f := by simpa using hf1
        simp only [tySz] at hs hd
        rw [wd_pair, List.take_add] at hcx hcy
        have hlx : ((xs.toList.drop o).take (wd a)) = cx1 ∧ ((xs.toList.drop o).drop (wd a)).take (wd b) = cx2 := by
          refine List.append_inj hcx ?_
          have h1 := hx.len
          rw [wd_pair, List.take_add, hcx, List.length_append, hx1.len, hx2.len] at h1
          have h2 := congrArg List.length hcx
          rw [List.length_append, List.length_append, hx1.len, hx2.len] at h2
          have h3 : ((xs.toList.drop o).take (wd a)).length ≤ wd a := List.length_take_le _ _
          have h4 : (((xs.toList.drop o).drop (wd a)).take (wd b)).length ≤ wd b := List.length_take_le _ _
          rw [hx1.len]; omega
        have hly : ((ys.toList.drop o).take (wd a)) = cy1 ∧ ((ys.toList.drop o).drop (wd a)).take (wd b) = cy2 := by
          refine List.append_inj hcy ?_
          have h2 := congrArg List.length hcy
          rw [List.length_append, List.length_append, hy1.len, hy2.len] at h2
          have h3 : ((ys.toList.drop o).take (wd a)).length ≤ wd a := List.length_take_le _ _
          have h4 : (((ys.toList.drop o).drop (wd a)).take (wd b)).length ≤ wd b := List.length_take_le _ _
          rw [hy1.len]; omega
        obtain ⟨hlx1, hlx2⟩ := hlx
        obtain ⟨hly1, hly2⟩ := hly
        rw [Nat.add_zero] at hf2
        obtain ⟨pa, hpa, hpa'⟩ := part_dat (P := P) hT hf3 (cs := xs) (o := o) (y := x1) (by rw [hlx1]; exact hx1) w
        obtain ⟨pb, hpb, hpb'⟩ := part_dat (P := P) hT hf3 (cs := ys) (o := o) (y := y1) (by rw [hly1]; exact hy1) w
        have h1 := (iha hea.1.1).1 f'.type b0 d I x1 y1 pa pb w hf3 (by omega) (by omega) hpa' hpb'
        have hb : b = .unit ∨ ∃ c e, b = .pair c e := by
          have := hea.2
          cases b <;> simp [isChain] at this
          · exact .inr ⟨_, _, rfl⟩
          · exact .inl rfl
        have h2 := (ihb hea.1.2).2 fs (o + wd a) d I x2 y2 xs ys w hb (by omega) (by omega) (fun j => by
          obtain ⟨k1, k2⟩ := hf (j + 1)
          refine ⟨fun o' u hu => ?_, fun hn => ?_⟩
          · obtain ⟨f, b', k3, k4, k5, k6⟩ := k1 (wd a + o') u (by simp [fldP, hu])
            exact ⟨f, b', by simpa using k3, by rw [k4]; omega, k5, k6⟩
          · have := k2 (by simp [fldP, hn]); simpa using this)
          (by rw [← List.drop_drop, hlx2]; exact hx2) (by rw [← List.drop_drop, hly2]; exact hy2)
        rw [Op.eqFields]
        simp only [if_pos hf4, Sem.run_bind, hf2, hpa, hpb, h1, Result.andThen_ok]
        show _ = Result.ok (cond (beqD a x1 y1) (beqD b x2 y2) false) w
        cases beqD a x1 y1
        · simp
        · simpa using h2
    refine ⟨fun t b0 d I x y rx ry w ht hs hd hx hy => ?_, fun fs o d I x y xs ys w _ hs hd h hx hy => chain fs o d I x y xs ys w hs hd h hx hy⟩
    have h1 := hT t; rw [ht] at h1
    obtain ⟨fs, h2, h3⟩ := h1.2.1
    have h4 := (h1.2.2.1 (by simp [eqTy, he]; exact hs) rfl).2
    obtain ⟨d, rfl⟩ : ∃ m, d = m + 1 := ⟨d - 1, by simp [tySz] at hd; omega⟩
    rcases hx with ⟨_, cx, rfl, hx⟩ | ⟨hx, _⟩
    · rcases hy with ⟨_, cy, rfl, hy⟩ | ⟨hy, _⟩
      · have hf : P.fieldsOf t = fs := by simp [Program.fieldsOf, h2]
        rw [run_equalIn_struct w d t _ _ (by rw [hf]; exact h2) h4, hf]
        refine chain fs.toList 0 d I x y cx.toArray cy.toArray w hs hd (fun j => ⟨fun o' u hu => ?_, fun hn => ?_⟩) ?_ ?_
        · obtain ⟨f, b', k1, k2, k3, k4⟩ := (h3 j).1 o' u hu
          exact ⟨f, b', by simpa using k1, by rw [k2]; omega, k3, k4⟩
        · have := (h3 j).2 hn; simpa using this
        · rw [← hx.len]; simpa using hx
        · rw [← hy.len]; simpa using hy
      · cases hy
    · cases hx
theorem eqr_int (w : World) (t : TypeId) (ox oy : Operand) (k : IntKind) (a b : Int) : (do eqGuard .eql t ox oy (.int k a) (.int k b); binOp .eql t (.int k a) (.int k b) : Sem Value).run P w = .ok (.bool (beqD (.int k) a b)) w := by
  rw [eqGuard_at_int, binOp_eql]; rfl
theorem neqr_int (w : World) (t : TypeId) (ox oy : Operand) (k : IntKind) (a b : Int) : (do eqGuard .neq t ox oy (.int k a) (.int k b); binOp .neq t (.int k a) (.int k b) : Sem Value).run P w = .ok (.bool (!(beqD (.int k) a b))) w := by
  rw [eqGuard_at_int, binOp_neq]; rfl
theorem eqr_str (w : World) (t : TypeId) (ox oy : Operand) (a b : ByteArray) : (do eqGuard .eql t ox oy (.string a) (.string b); binOp .eql t (.string a) (.string b) : Sem Value).run P w = .ok (.bool (beqD .str a b)) w := by
  rw [eqGuard_at_string, show beqD .str a b = (a.toList == b.toList) from beq_toListBytes a b]; rfl
theorem neqr_str (w : World) (t : TypeId) (ox oy : Operand) (a b : ByteArray) : (do eqGuard .neq t ox oy (.string a) (.string b); binOp .neq t (.string a) (.string b) : Sem Value).run P w = .ok (.bool (!(beqD .str a b))) w := by
  rw [eqGuard_at_string, show beqD .str a b = (a.toList == b.toList) from beq_toListBytes a b]; rfl
theorem eqr_bool (w : World) (t : TypeId) (ox oy : Operand) (a b : Bool) (h : (Op.equalIn 10000 t (.bool a) (.bool b)).run P w = .ok (beqD .bool a b) w) : (do eqGuard .eql t ox oy (.bool a) (.bool b); binOp .eql t (.bool a) (.bool b) : Sem Value).run P w = .ok (.bool (beqD .bool a b)) w := by
  rw [eqGuard_at_bool]
  show ((Op.equalIn 10000 t (.bool a) (.bool b)) >>= fun b => pure (Value.bool b)).run P w = _
  rw [Sem.run_bind, h]; rfl
theorem neqr_bool (w : World) (t : TypeId) (ox oy : Operand) (a b : Bool) (h : (Op.equalIn 10000 t (.bool a) (.bool b)).run P w = .ok (beqD .bool a b) w) : (do eqGuard .neq t ox oy (.bool a) (.bool b); binOp .neq t (.bool a) (.bool b) : Sem Value).run P w = .ok (.bool (!(beqD .bool a b))) w := by
  rw [eqGuard_at_bool]
  show ((Op.equalIn 10000 t (.bool a) (.bool b)) >>= fun b => pure (Value.bool (!b))).run P w = _
  rw [Sem.run_bind, h]; rfl
theorem eqr_gen {t : TypeId} {rx ry : Value} {b : Bool} {w : World} {ox oy : Operand} (hg : ∀ op, eqGuard op t ox oy rx ry = pure ()) (hb : binOp .eql t rx ry = (do pure (.bool (← Op.equal t rx ry)))) (hn : binOp .neq t rx ry = (do pure (.bool (!(← Op.equal t rx ry)))))
    (he : (Op.equal t rx ry).run P w = .ok b w) : (do eqGuard .eql t ox oy rx ry; binOp .eql t rx ry : Sem Value).run P w = .ok (.bool b) w ∧ (do eqGuard .neq t ox oy rx ry; binOp .neq t rx ry : Sem Value).run P w = .ok (.bool (!b)) w := by
  rw [hg, hg, hb, hn]
  constructor
  · show ((Op.equal t rx ry) >>= fun b => pure (Value.bool b)).run P w = _
    rw [Sem.run_bind, he]; rfl
  · show ((Op.equal t rx ry) >>= fun b => pure (Value.bool (!b))).run P w = _
    rw [Sem.run_bind, he]; rfl
theorem eqr_ptr {t : Nat} (ht : TOk P tt t (tt t)) (hk : isRef 0 (tt t) = true) (w : World) (ox oy : Operand) (a b : Option Addr) (hn : a = none ∨ b = none) :
    (do eqGuard .eql t ox oy (.pointer a) (.pointer b); binOp .eql t (.pointer a) (.pointer b) : Sem Value).run P w = .ok (.bool (a.isNone && b.isNone)) w ∧ (do eqGuard .neq t ox oy (.pointer a) (.pointer b); binOp .neq t (.pointer a) (.pointer b) : Sem Value).run P w = .ok (.bool (!(a.isNone && b.isNone))) w := by
  cases htt : tt t <;> rw [htt] at hk ht <;> simp [isRef] at hk
  subst hk
  obtain ⟨_, d, h5, _, h6, _⟩ := ht
  obtain ⟨e, rfl⟩ := h6 rfl
  refine eqr_gen (fun op => eqGuard_at_pointer op t ox oy _ a) (by cases a <;> rfl) (by cases a <;> rfl) ?_
  show (Op.equalIn (9999 + 1) t (.pointer a) (.pointer b)).run P w = _
  generalize 9999 = d
  rcases hn with rfl | rfl
  · simp [Op.equalIn, run_underlying h5]
  · cases a <;> simp [Op.equalIn, run_underlying h5]
theorem eqr_map {t : Nat} (ht : TOk P tt t (tt t)) (hk : isMap (tt t) = true) (w : World) (ox oy : Operand) (a b : Option Nat) (hn : a = none ∨ b = none) :
    (do eqGuard .eql t ox oy (.map a) (.map b); binOp .eql t (.map a) (.map b) : Sem Value).run P w = .ok (.bool (a.isNone && b.isNone)) w ∧ (do eqGuard .neq t ox oy (.map a) (.map b); binOp .neq t (.map a) (.map b) : Sem Value).run P w = .ok (.bool (!(a.isNone && b.isNone))) w := by
  cases htt : tt t <;> rw [htt] at hk ht <;> simp [isMap] at hk
  obtain ⟨_, k, v, bk, bv, h5, _⟩ := ht
  refine eqr_gen (fun op => eqGuard_at_map op t ox oy _ a) rfl rfl ?_
  show (Op.equalIn (9999 + 1) t (.map a) (.map b)).run P w = _
  generalize 9999 = d
  rcases hn with rfl | rfl
  · simp [Op.equalIn, run_underlying h5]
  · cases a <;> simp [Op.equalIn, run_underlying h5]
theorem eqr_fn {t : Nat} (ht : TOk P tt t (tt t)) (hk : isRef 2 (tt t) = true) (w : World) (ox oy : Operand) :
    (do eqGuard .eql t ox oy .nilFunc .nilFunc; binOp .eql t .nilFunc .nilFunc : Sem Value).run P w = .ok (.bool true) w ∧ (do eqGuard .neq t ox oy .nilFunc .nilFunc; binOp .neq t .nilFunc .nilFunc : Sem Value).run P w = .ok (.bool (!true)) w := by
  cases htt : tt t <;> rw [htt] at hk ht <;> simp [isRef] at hk
  subst hk
  obtain ⟨_, d, h5, _, _, h6⟩ := ht
  obtain ⟨e1, e2, e3, rfl⟩ := h6 (by decide)
  refine eqr_gen (fun op => eqGuard_at_nilFunc op t ox oy _) rfl rfl ?_
  show (Op.equalIn (9999 + 1) t .nilFunc .nilFunc).run P w = _
  generalize 9999 = d
  simp [Op.equalIn, run_underlying h5]
theorem eqr_fn' {t : Nat} (ht : TOk P tt t (tt t)) (hk : isRef 2 (tt t) = true) (w : World) (ox oy : Operand) (f : Go.Fn) (x y : Array Value) :
    (do eqGuard .eql t ox oy (.func f x y) .nilFunc; binOp .eql t (.func f x y) .nilFunc : Sem Value).run P w = .ok (.bool false) w ∧ (do eqGuard .neq t ox oy (.func f x y) .nilFunc; binOp .neq t (.func f x y) .nilFunc : Sem Value).run P w = .ok (.bool (!false)) w := by
  cases htt : tt t <;> rw [htt] at hk ht <;> simp [isRef] at hk
  subst hk
  obtain ⟨_, d, h5, _, _, h6⟩ := ht
  obtain ⟨e1, e2, e3, rfl⟩ := h6 (by decide)
  refine eqr_gen (fun op => eqGuard_at_func op t ox oy _ f x y) rfl rfl ?_
  show (Op.equalIn (9999 + 1) t (.func f x y) .nilFunc).run P w = _
  generalize 9999 = d
  simp [Op.equalIn, run_underlying h5]
theorem eqr_slice {t : Nat} (ht : TOk P tt t (tt t)) (hk : isSl (tt t) = true) (w : World) (ox oy : Operand) (a b : Option Addr) (n c n' c' : Nat) (hn : a = none ∨ b = none) :
    (do eqGuard .eql t ox oy (.slice a n c) (.slice b n' c'); binOp .eql t (.slice a n c) (.slice b n' c') : Sem Value).run P w = .ok (.bool (a.isNone && b.isNone)) w ∧ (do eqGuard .neq t ox oy (.slice a n c) (.slice b n' c'); binOp .neq t (.slice a n c) (.slice b n' c') : Sem Value).run P w = .ok (.bool (!(a.isNone && b.isNone))) w := by
  cases htt : tt t <;> rw [htt] at hk ht <;> simp [isSl] at hk
  rename_i T eb
  cases T <;> simp at hk
  obtain ⟨_, ⟨e, bb, i, h5, _⟩, _⟩ := ht
  refine eqr_gen (fun op => eqGuard_at_slice op t ox oy _ a n c) rfl rfl ?_
  show (Op.equalIn (9999 + 1) t (.slice a n c) (.slice b n' c')).run P w = _
  generalize 9999 = d
  rcases hn with rfl | rfl
  · simp [Op.equalIn, run_underlying h5]
  · cases a <;> simp [Op.equalIn, run_underlying h5]
theorem eqV_sound (hT : TtOk P tt) {xt : Nat} {x y : V} {K : Bool → Option R} {r : R} (h : eqV tt xt x y K = some r) :
    ∃ b, K b = some r ∧ ∀ g w rx ry (ox oy : Operand), RelV g (Imm g w) x rx → RelV g (Imm g w) y ry →
      (do eqGuard .eql xt ox oy rx ry; binOp .eql xt rx ry : Sem Value).run P w = .ok (.bool b) w ∧ (do eqGuard .neq xt ox oy rx ry; binOp .neq xt rx ry : Sem Value).run P w = .ok (.bool (!b)) w := by
  have hxt := hT xt
  unfold eqV at h
  split at h
  · rename_i t a
    split at h
    · rename_i t' b0 h1
      split at h
      · rename_i e; subst e
        split at h
        · rename_i he
          obtain ⟨b, h2, h3⟩ := asD_sound h
          refine ⟨_, h2, fun g w rx ry ox oy hx hy => ?_⟩
          have hy' := h3 _ _ _ hy
          have hx' := relVal_dat hx
          rw [h1] at hxt
          have he' : eqTy0 t' = true ∧ tySz t' ≤ 1000 := by simpa [eqTy] using he
          have h4 := (eq_sound (P := P) hT t' he'.1).1 xt b0 10000 _ a b rx ry w h1 he'.2 (by have := he'.2; omega) hx' hy'
          cases t' with
          | int k =>
            obtain rfl := relV_int hx
            obtain rfl := relV_int (g := g) (relV_mkDat hy')
            exact ⟨eqr_int w xt ox oy k a b, neqr_int w xt ox oy k a b⟩
          | str =>
            obtain rfl := relV_str hx
            obtain rfl := relV_str (g := g) (relV_mkDat hy')
            exact ⟨eqr_str w xt ox oy a b, neqr_str w xt ox oy a b⟩
          | bool =>
            obtain rfl := relV_bool hx
            obtain rfl := relV_bool (g := g) (relV_mkDat hy')
            exact ⟨eqr_bool w xt ox oy a b h4, neqr_bool w xt ox oy a b h4⟩
          | slice t => simp [eqTy0] at he'
          | arr n t => simp [eqTy0] at he'
          | rc i => simp [eqTy0] at he'
          | unit =>
            have h5 := (hxt.2.2.1 he rfl).1
            rcases hx' with ⟨_, cx, rfl, _⟩ | ⟨h6, _⟩
            · rcases hy' with ⟨_, cy, rfl, _⟩ | ⟨h6, _⟩
              · refine ⟨?_, ?_⟩
                · simp only [Sem.run_bind, run_eqGuard_agg w _ xt ox oy _ _ h5, Result.andThen_ok, run_eql_struct, h4]
                · simp only [Sem.run_bind, run_eqGuard_agg w _ xt ox oy _ _ h5, Result.andThen_ok, run_neq_struct, h4]
              · cases h6
            · cases h6
          | pair c d =>
            have h5 := (hxt.2.2.1 he rfl).1
            rcases hx' with ⟨_, cx, rfl, _⟩ | ⟨h6, _⟩
            · rcases hy' with ⟨_, cy, rfl, _⟩ | ⟨h6, _⟩
              · refine ⟨?_, ?_⟩
                · simp only [Sem.run_bind, run_eqGuard_agg w _ xt ox oy _ _ h5, Result.andThen_ok, run_eql_struct, h4]
                · simp only [Sem.run_bind, run_eqGuard_agg w _ xt ox oy _ _ h5, Result.andThen_ok, run_neq_struct, h4]
              · cases h6
            · cases h6
        · cases h
      · cases h
    · cases h
  · split at h
    · rename_i hk
      exact ⟨_, h, fun g w rx ry ox oy hx hy => by cases hx; cases hy; exact eqr_ptr hxt hk w ox oy _ _ (by first | exact .inl rfl | exact .inr rfl)⟩
    · cases h
  · split at h
    · rename_i hk
      exact ⟨_, h, fun g w rx ry ox oy hx hy => by cases hx; cases hy; exact eqr_ptr hxt hk w ox oy _ _ (by first | exact .inl rfl | exact .inr rfl)⟩
    · cases h
  · split at h
    · rename_i hk
      exact ⟨_, h, fun g w rx ry ox oy hx hy => by cases hx; cases hy; exact eqr_ptr hxt hk w ox oy _ _ (by first | exact .inl rfl | exact .inr rfl)⟩
    · cases h
  · split at h
    · rename_i hk
      exact ⟨_, h, fun g w rx ry ox oy hx hy => by cases hx; cases hy; exact eqr_ptr hxt hk w ox oy _ _ (by first | exact .inl rfl | exact .inr rfl)⟩
    · cases h
  · split at h
    · rename_i hk
      exact ⟨_, h, fun g w rx ry ox oy hx hy => by cases hx; cases hy; exact eqr_ptr hxt hk w ox oy _ _ (by first | exact .inl rfl | exact .inr rfl)⟩
    · cases h
  · split at h
    · rename_i hk
      exact ⟨_, h, fun g w rx ry ox oy hx hy => by cases hx; cases hy; exact eqr_ptr hxt hk w ox oy _ _ (by first | exact .inl rfl | exact .inr rfl)⟩
    · cases h
  · split at h
    · rename_i hk
      exact ⟨_, h, fun g w rx ry ox oy hx hy => by cases hx; cases hy; exact eqr_ptr hxt hk w ox oy _ _ (by first | exact .inl rfl | exact .inr rfl)⟩
    · cases h
  · split at h
    · rename_i hk
      exact ⟨_, h, fun g w rx ry ox oy hx hy => by cases hx; cases hy; exact eqr_map hxt hk w ox oy _ _ (by first | exact .inl rfl | exact .inr rfl)⟩
    · cases h
  · split at h
    · rename_i hk
      exact ⟨_, h, fun g w rx ry ox oy hx hy => by cases hx; cases hy; exact eqr_map hxt hk w ox oy _ _ (by first | exact .inl rfl | exact .inr rfl)⟩
    · cases h
  · split at h
    · rename_i hk
      exact ⟨_, h, fun g w rx ry ox oy hx hy => by cases hx; cases hy; exact eqr_map hxt hk w ox oy _ _ (by first | exact .inl rfl | exact .inr rfl)⟩
    · cases h
  · split at h
    · rename_i hk
      exact ⟨_, h, fun g w rx ry ox oy hx hy => by cases hx; cases hy; first | exact eqr_fn hxt hk w ox oy | exact eqr_fn' hxt hk w ox oy _ _ _⟩
    · cases h
  · split at h
    · rename_i hk
      exact ⟨_, h, fun g w rx ry ox oy hx hy => by cases hx; cases hy; first | exact eqr_fn hxt hk w ox oy | exact eqr_fn' hxt hk w ox oy _ _ _⟩
    · cases h
  · split at h
    · rename_i hk
      exact ⟨_, h, fun g w rx ry ox oy hx hy => by cases hx; cases hy; exact eqr_slice hxt hk w ox oy none none _ _ _ _ (.inl rfl)⟩
    · cases h
  · split at h
    · rename_i hk
      refine ⟨_, h, fun g w rx ry ox oy hx hy => ?_⟩
      cases hx with
      | row _ _ _ A n c h1 h2 =>
        cases hy
        obtain ⟨ad, rfl⟩ := Option.isSome_iff_exists.1 (show A.isSome = true from h2)
        exact eqr_slice hxt hk w ox oy (some ad) none _ _ _ _ (.inr rfl)
    · cases h
  · split at h
    · rename_i hk
      refine ⟨_, h, fun g w rx ry ox oy hx hy => ?_⟩
      cases hy with
      | row _ _ _ A n c h1 h2 =>
        cases hx
        obtain ⟨ad, rfl⟩ := Option.isSome_iff_exists.1 (show A.isSome = true from h2)
        exact eqr_slice hxt hk w ox oy none (some ad) _ _ _ _ (.inl rfl)
    · cases h
  · rename_i T xs tag _
    split at h
    · rename_i hk
      cases he : xs.isEmpty with
      | true => rw [he] at h; cases h
      | false =>
        rw [he] at h
        refine ⟨_, h, fun g w rx ry ox oy hx hy => ?_⟩
        cases hx with
        | row _ _ _ A n c h1 h2 =>
          cases hy
          obtain ⟨A', c', f, k1, k2, k3, _⟩ := h1.inv
          have hA : A = A' := by simpa using (List.cons.inj k1).1 |> fun e => (Value.slice.inj e).1
          subst hA
          have := k3 (by intro e; have e : xs = [] := e; rw [e] at he; cases he)
          obtain ⟨ad, rfl⟩ := Option.isSome_iff_exists.1 this
          exact eqr_slice hxt hk w ox oy (some ad) none _ _ _ _ (.inr rfl)
    · cases h
  · rename_i T xs tag _
    split at h
    · rename_i hk
      cases he : xs.isEmpty with
      | true => rw [he] at h; cases h
      | false =>
        rw [he] at h
        refine ⟨_, h, fun g w rx ry ox oy hx hy => ?_⟩
        cases hy with
        | row _ _ _ A n c h1 h2 =>
          cases hx
          obtain ⟨A', c', f, k1, k2, k3, _⟩ := h1.inv
          have hA : A = A' := by simpa using (List.cons.inj k1).1 |> fun e => (Value.slice.inj e).1
          subst hA
          have := k3 (by intro e; have e : xs = [] := e; rw [e] at he; cases he)
          obtain ⟨ad, rfl⟩ := Option.isSome_iff_exists.1 this
          exact eqr_slice hxt hk w ox oy none (some ad) _ _ _ _ (.inl rfl)
    · cases h
  · rename_i i T lo n
    split at h
    · rename_i hk
      by_cases he : n = 0
      · rw [decide_eq_true he] at h; cases h
      · rw [decide_eq_false he] at h
        refine ⟨_, h, fun g w rx ry ox oy hx hy => ?_⟩
        cases hy with
        | msl _ _ _ _ b f A c h1 h2 h3 h4 =>
          cases hx
          rw [h3 he]
          exact eqr_slice hxt hk w ox oy none (some _) _ _ _ _ (.inl rfl)
    · cases h
  · rename_i i T lo n
    split at h
    · rename_i hk
      by_cases he : n = 0
      · rw [decide_eq_true he] at h; cases h
      · rw [decide_eq_false he] at h
        refine ⟨_, h, fun g w rx ry ox oy hx hy => ?_⟩
        cases hx with
        | msl _ _ _ _ b f A c h1 h2 h3 h4 =>
          cases hy
          rw [h3 he]
          exact eqr_slice hxt hk w ox oy (some _) none _ _ _ _ (.inr rfl)
    · cases h
  · cases h
theorem binOpV_sound (hT : TtOk P tt) {xt : Nat} {op : BinOp} {x y : V} {K : V → Option R} {r : R} (h : binOpV tt xt op x y K = some r) :
    ∃ u, K u = some r ∧ ∀ g w rx ry (ox oy : Operand), RelV g (Imm g w) x rx → RelV g (Imm g w) y ry → QR P (do eqGuard op xt ox oy rx ry; binOp op xt rx ry) g w u := by
  unfold binOpV at h
  split at h
  · rename_i k a k' b
    split at h
    · rename_i hs
      obtain ⟨u, h1, h2⟩ := shOp_sound (P := P) (t := xt) (k' := k') hs h
      refine ⟨u, h1, fun g w rx ry ox oy hx hy => ?_⟩
      obtain rfl := relV_int hx
      obtain rfl := relV_int hy
      exact h2 g w ox oy
    · rename_i hs
      split at h
      · rename_i e; subst e
        obtain ⟨u, h1, h2⟩ := intOp_sound (P := P) (t := xt) (by simpa using hs) h
        refine ⟨u, h1, fun g w rx ry ox oy hx hy => ?_⟩
        obtain rfl := relV_int hx
        obtain rfl := relV_int hy
        exact h2 g w ox oy
      · cases h
  · rename_i a b
    obtain ⟨u, h1, h2⟩ := strOp_sound (P := P) (t := xt) h
    refine ⟨u, h1, fun g w rx ry ox oy hx hy => ?_⟩
    obtain rfl := relV_str hx
    obtain rfl := relV_str hy
    exact h2 g w ox oy
  · split at h
    · obtain ⟨b, h1, h2⟩ := eqV_sound (P := P) hT h
      exact ⟨_, h1, fun g w rx ry ox oy hx hy => .same (h2 g w rx ry ox oy hx hy).1 (relV_mkBool _)⟩
    · obtain ⟨b, h1, h2⟩ := eqV_sound (P := P) hT h
      exact ⟨_, h1, fun g w rx ry ox oy hx hy => .same (h2 g w rx ry ox oy hx hy).2 (relV_mkBool _)⟩
    · cases h
end
end Go.Proofs.Yticelgnmcjkknaa.Vm
