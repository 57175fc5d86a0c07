/-
A machine of values, part forty: what came in, read as data; a law's call.
-/
import Derived.Test.YticelgnmcjkknaaVm39
import Derived.OpenShut
import Derived.WideShapes
import Derived.ChangeArms
set_option linter.unusedVariables false
set_option linter.unusedSimpArgs false
namespace Go.Proofs.Yticelgnmcjkknaa.Vm
open Go.RowKit (Below)
section
variable {P : Program}

/-- Are the chains of pairs whole? -/
def wfT : Ty → Bool
  | .pair a b => wfT a && wfT b && isChain b
  | .slice t => wfT t
  | .arr _ t => wfT t
  | _ => true
/-- Data that may come in: numbers in range, texts and rows no longer than can be. -/
inductive Fit : (T : Ty) → T.D → Prop
  | int (k : IntKind) (n : Int) : (Lit.int k n).wf = true → Fit (.int k) n
  | bool (b : Bool) : Fit .bool b
  | str (s : ByteArray) : s.size ≤ maxLen → Fit .str s
  | unit (u : Unit) : Fit .unit u
  | pair (a b : Ty) (x : a.D) (y : b.D) : Fit a x → Fit b y → Fit (.pair a b) (x, y)
  | slice (t : Ty) (xs : List t.D) : xs.length ≤ maxLen → (∀ x ∈ xs, Fit t x) → Fit (.slice t) xs
  | arr (n : Nat) (t : Ty) (xs : List t.D) : xs.length = n → (∀ x ∈ xs, Fit t x) → Fit (.arr n t) xs
  | rc (i : Nat) (x : Sx i) : Fit (rcTy i) (un i x) → Fit (.rc i) x
def FitInv : (T : Ty) → T.D → Prop
  | .int k, n => (Lit.int k n).wf = true
  | .bool, _ => True
  | .str, s => s.size ≤ maxLen
  | .unit, _ => True
  | .pair a b, p => Fit a p.1 ∧ Fit b p.2
  | .slice t, xs => (show List t.D from xs).length ≤ maxLen ∧ ∀ x ∈ (show List t.D from xs), Fit t x
  | .arr n t, xs => (show List t.D from xs).length = n ∧ ∀ x ∈ (show List t.D from xs), Fit t x
  | .rc i, x => Fit (rcTy i) (un i x)
theorem Fit.inv {T : Ty} {x : T.D} (h : Fit T x) : FitInv T x := by
  cases h with
  | int k n h => exact h
  | bool => trivial
  | str s h => exact h
  | unit => trivial
  | pair a b x y h1 h2 => exact ⟨h1, h2⟩
  | slice t xs h1 h2 => exact ⟨h1, h2⟩
  | arr n t xs h1 h2 => exact ⟨h1, h2⟩
  | rc i x h => exact h
theorem fit_i64 {n : Int} (h : Fit i64 n) : -9223372036854775808 ≤ n ∧ n ≤ 9223372036854775807 := by
  exact bounds_i64 (show (Lit.int .i64 n).wf = true from h.inv)

theorem list_of {A : Type} {Q : Nat → A → Prop} : ∀ n, (∀ i, i < n → ∃ a, Q i a) → ∃ xs : List A, xs.length = n ∧ ∀ i a, xs[i]? = some a → Q i a
  | 0, _ => ⟨[], rfl, by simp⟩
  | n + 1, h => by
    obtain ⟨xs, hl, hx⟩ := list_of n (fun i hi => h i (by omega))
    obtain ⟨a, ha⟩ := h n (by omega)
    refine ⟨xs ++ [a], by simp [hl], fun i b hb => ?_⟩
    rcases Nat.lt_or_ge i xs.length with hi | hi
    · rw [List.getElem?_append_left hi] at hb; exact hx i b hb
    · rw [List.getElem?_append_right hi] at hb
      have h0 : i - xs.length = 0 := by
        apply Classical.byContradiction; intro hne
        rw [List.getElem?_eq_none (by simp; omega)] at hb; cases hb
      rw [h0] at hb
      obtain rfl : a = b := by simpa using hb
      rw [show i = n from by omega]; exact ha
theorem segs {cs : List Value} {m : Nat} : ∀ (n : Nat), cs.length = n * m → cs = (((List.range n).map fun i => (cs.drop (i * m)).take m)).flatten := by
  intro n hl
  have h1 : ∀ c ∈ (List.range n).map (fun i => (cs.drop (i * m)).take m), c.length = m := by
    intro c hc
    obtain ⟨i, hi, rfl⟩ := List.mem_map.1 hc
    have hi := List.mem_range.1 hi
    have : (i + 1) * m ≤ n * m := Nat.mul_le_mul_right _ hi
    rw [Nat.succ_mul] at this
    rw [List.length_take, List.length_drop]; omega
  have hlen := flatten_len _ m h1
  apply List.ext_getElem?
  intro j
  rcases Nat.lt_or_ge j cs.length with hj | hj
  · have hm : 0 < m := by
      rcases Nat.eq_zero_or_pos m with h0 | h0
      · rw [h0] at hl; omega
      · exact h0
    have hd := Nat.div_add_mod j m
    have hq : j / m < n := by rw [Nat.div_lt_iff_lt_mul hm]; omega
    have hr : j % m < m := Nat.mod_lt _ hm
    have he : j = j / m * m + j % m := by rw [Nat.mul_comm]; omega
    have h2 : ((List.range n).map fun i => (cs.drop (i * m)).take m)[j / m]? = some ((cs.drop (j / m * m)).take m) := by
      rw [List.getElem?_map, List.getElem?_range hq]; rfl
    have h3 : ((cs.drop (j / m * m)).take m)[j % m]? = some cs[j] := by
      rw [List.getElem?_take, if_pos hr, List.getElem?_drop, ← he, List.getElem?_eq_getElem hj]
    have h4 := flatten_at _ m h1 _ _ _ _ h2 h3
    rw [← he] at h4
    rw [h4, List.getElem?_eq_getElem hj]
  · rw [List.getElem?_eq_none hj, List.getElem?_eq_none (by rw [hlen]; simp; omega)]
/-- A chain out of its fields. -/
theorem chain_rd {I : Addr → Value → Prop} {cs : List Value} : ∀ (S : Ty) (o : Nat), isChain S = true → wfT S = true →
    (∀ (j o' : Nat) (u : Ty), fldP S j = some (o', u) → wfT u = true → ∃ a : u.D, Rd I u a ((cs.drop (o + o')).take (wd u)) ∧ Fit u a) → o + wd S ≤ cs.length → ∃ a : S.D, Rd I S a ((cs.drop o).take (wd S)) ∧ Fit S a := by
  intro S
  induction S with
  | unit =>
    intro o _ _ _ _
    exact ⟨(), by show Rd I .unit () ((cs.drop o).take 0); rw [List.take_zero]; exact .unit (), .unit ()⟩
  | pair a b _ ihb =>
    intro o _ hw h hl
    simp only [wfT, Bool.and_eq_true] at hw
    obtain ⟨x, h1, h2⟩ := h 0 0 a rfl hw.1.1
    rw [wd_pair] at hl
    obtain ⟨y, h3, h4⟩ := ihb (o + wd a) hw.2 hw.1.2 (fun j o' u hj hu => by
      have := h (j + 1) (wd a + o') u (by show (fldP b j).map _ = _; rw [hj]; rfl) hu
      rw [Nat.add_assoc]; exact this) (by omega)
    refine ⟨(x, y), ?_, .pair _ _ _ _ h2 h4⟩
    have e : (cs.drop o).take (wd (.pair a b)) = (cs.drop o).take (wd a) ++ (cs.drop (o + wd a)).take (wd b) := by
      rw [wd_pair, List.take_add, List.drop_drop]
    rw [e]
    exact .pair _ _ _ _ _ _ h1 h3
  | _ => intro o h; simp [isChain] at h
theorem wf_rc (i : Nat) : wfT (rcTy i) = true := by cases i <;> rfl
theorem chain_rc (i : Nat) : isChain (rcTy i) = true := by cases i <;> rfl
variable {tt : Nat → TI}
theorem cellsOf_dat (hT : TtOk P tt) {t : Nat} {T : Ty} {b : Nat} (h : tt t = .dat T b) : P.cellsOf t = wd T := by
  have h1 := hT t; rw [h] at h1
  obtain ⟨⟨i, z, h2, h3, _⟩, _⟩ := h1
  simp [Program.cellsOf, h2, h3]
/-- What came in as type t, and can be read, is data. -/
theorem trod_rd (hT : TtOk P tt) {H : Type} (enc : TypeId × Value → H) (w : World) (base : Nat) (spare : Nat → Bool) (held : Bool) : ∀ (n t : Nat) (T : Ty) (b : Nat) (cs : List Value) (x : DataW H × List MemPlace), tt t = .dat T b → wfT T = true →
    DataW.trod enc P w base spare held n t cs = some x → ∃ a : T.D, Rd (fun ad v => w.cell? ad = some v) T a cs ∧ Fit T a := by
  intro n
  induction n with
  | zero => intro t T b cs x _ _ h; simp [DataW.trod] at h
  | succ n ih =>
    intro t T b cs x ht hw h
    have hu := (hT t); rw [ht] at hu
    have hu2 := hu.2.1
    have struct : ∀ (S : Ty), isChain S = true → wfT S = true → (∀ j, fld T j = fldP S j) → wd T = wd S → (∃ fs, P.underlying t = some (.struct fs) ∧ FieldsOk tt T fs) → ∃ a : S.D, Rd (fun ad v => w.cell? ad = some v) S a cs ∧ Fit S a := by
      intro S hS hwS hfl hwd hfs
      obtain ⟨fs, h1, h2⟩ := hfs
      obtain ⟨xs, m, hm, _, h3, h4, h5⟩ := DataW.trod_struct h1 h
      have hm : n = m := by omega
      subst hm
      rw [cellsOf_dat hT ht, hwd] at h3
      have := chain_rd (I := fun ad v => w.cell? ad = some v) (cs := cs) S 0 hS hwS (fun j o' u hj hwu => by
        obtain ⟨f, b', k1, k2, k3, _⟩ := (h2 j).1 o' u (by rw [hfl]; exact hj)
        have k4 := h5 j f k1
        have hlt : j < xs.length := by
          rw [h4]
          rcases Nat.lt_or_ge j fs.size with q | q
          · exact q
          · rw [Array.getElem?_eq_none q] at k1; cases k1
        rw [List.getElem?_eq_getElem hlt, cellsOf_dat hT k3, k2] at k4
        rw [Nat.zero_add]
        exact ih _ _ _ _ _ k3 hwu k4) (by omega)
      rw [List.drop_zero, List.take_of_length_le (by omega)] at this
      exact this
    cases T with
    | int k =>
      obtain ⟨m, rfl, _, h2⟩ := DataW.trod_int hu2 h
      exact ⟨m, .int _ _, .int _ _ h2⟩
    | bool =>
      obtain ⟨m, rfl, _⟩ := DataW.trod_bool hu2 h
      exact ⟨m, .bool _, .bool _⟩
    | str =>
      obtain ⟨m, rfl, _, h2⟩ := DataW.trod_string hu2 h
      exact ⟨m, .str _, .str _ h2⟩
    | slice T =>
      obtain ⟨e, be, i, h1, h2, _⟩ := hu2
      rcases DataW.trod_slice h1 h with ⟨rfl, _⟩ | ⟨a, len, cap, elems, rest, m, hm, rfl, _, hb, hl, hmx, hel, hcell, _⟩
      · exact ⟨[], rd_nil _ _ _ _, .slice _ _ (by simp [maxLen]) (by simp)⟩
      · have hm : n = m := by omega
        subst hm
        have each : ∀ i, i < len → ∃ p : T.D, ∃ c, Rd (fun ad v => w.cell? ad = some v) T p c ∧ Fit T p ∧ w.cells? base (a.add (i * wd T)) (wd T) = some c := by
          intro i hi
          have h3 := hcell i hi
          rw [List.getElem?_eq_getElem (by omega), Option.bind_eq_some_iff, cellsOf_dat hT h2] at h3
          obtain ⟨c, hc, h4⟩ := h3
          obtain ⟨p, h5, h6⟩ := ih _ _ _ _ _ h2 hw h4
          exact ⟨p, c, h5, h6, hc⟩
        obtain ⟨xs, hxl, hx⟩ := list_of len each
        subst hxl
        refine ⟨xs, .slice T xs (some a) cap (fun i => ((w.cells? base (a.add (i * wd T)) (wd T)).getD [])) hl (fun _ => rfl) (fun i y hy => ?_) (fun ad i j v hA hi hv => ?_) (fun h => by cases h), .slice _ _ (by omega) fun y hy => ?_⟩
        · obtain ⟨c, h3, _, h5⟩ := hx i y hy
          rw [h5]; exact h3
        · obtain ⟨c, h3, _, h5⟩ := hx i _ (List.getElem?_eq_getElem hi)
          rw [h5] at hv
          obtain rfl := Option.some.inj hA
          obtain ⟨_, hcl, h6⟩ := World.cells?_some h5
          have hj : j < c.length := getElem?_lt (show c[j]? = some v from hv)
          rw [show a.add (i * wd T + j) = (a.add (i * wd T)).add j from by rw [Addr.add_add], h6 j (by omega)]
          exact hv
        · obtain ⟨j, hj, rfl⟩ := List.getElem_of_mem hy
          obtain ⟨c, _, h4, _⟩ := hx j _ (List.getElem?_eq_getElem hj)
          exact h4
    | arr k T =>
      obtain ⟨e, be, h1, h2⟩ := hu2
      obtain ⟨xs, m, hm, _, h3, h4, h5⟩ := DataW.trod_array h1 h
      have hm : n = m := by omega
      subst hm
      rw [cellsOf_dat hT ht, wd_arr] at h3
      have each : ∀ i, i < k → ∃ p : T.D, Rd (fun ad v => w.cell? ad = some v) T p ((cs.drop (i * wd T)).take (wd T)) ∧ Fit T p := by
        intro i hi
        have h6 := h5 i hi
        rw [List.getElem?_eq_getElem (by omega), cellsOf_dat hT h2] at h6
        exact ih _ _ _ _ _ h2 hw h6
      obtain ⟨ys, hyl, hy⟩ := list_of k each
      have e1 := segs k h3
      refine ⟨ys, ?_, .arr _ _ _ hyl fun y hy' => ?_⟩
      · rw [e1]
        refine .arr _ _ _ _ hyl (by simp) fun i y c hy1 hc => ?_
        have hi : i < k := by rw [← hyl]; exact getElem?_lt hy1
        rw [List.getElem?_map, List.getElem?_range hi] at hc
        simp only [Option.map_some, Option.some.injEq] at hc
        subst hc
        exact (hy i y hy1).1
      · obtain ⟨j, hj, rfl⟩ := List.getElem_of_mem hy'
        exact (hy j _ (List.getElem?_eq_getElem hj)).2
    | pair a c => exact struct _ rfl hw (fun j => rfl) rfl hu2
    | unit => exact struct _ rfl hw (fun j => rfl) rfl hu2
    | rc i =>
      obtain ⟨a, h1, h2⟩ := struct (rcTy i) (chain_rc i) (wf_rc i) (fun j => rfl) (wd_rc i) hu2
      exact ⟨ro i a, .rc i _ _ (by rw [un_ro]; exact h1), .rc i _ (by rw [un_ro]; exact h2)⟩

/-! ### a law's call -/
def gh0 : Gh := ⟨[], [], fun _ => False⟩
theorem imm0 {w : World} {a : Addr} {v : Value} (h : w.cell? a = some v) : Imm gh0 w a v := ⟨h, by
  rintro ((⟨i, hi⟩ | ⟨i, _, _, _, hi, _⟩) | h)
  · simp [gh0] at hi
  · simp [gh0] at hi
  · exact h⟩
theorem st0 {w : World} (hg : needG = true → ∃ m : Int, w.cell? ⟨0, 0, none⟩ = some (.int .i64 m)) : RelSt gh0 ⟨[], []⟩ w where
  gl := fun hn => (hg hn).imp fun m hm => imm0 hm
  lb := rfl
  lt := rfl
  obj := fun i o h => by simp at h
  inj := fun i j b f f' h => by simp [gh0] at h
  bsz := fun i b f h => by simp [gh0] at h
  tok := fun i ver b lo hi h => by simp [gh0] at h
  fresh := fun a h => h.elim
  tinj := fun i j ver ver' b lo hi lo' hi' h => by simp [gh0] at h
theorem open_dat (hT : TtOk P tt) {H : Type} {enc : TypeId × Value → H} {W : World} {base b0 : Nat} {spare : Nat → Bool} {held : Bool} {t : Nat} {T : Ty} {b : Nat} {v : Value} {d : DataW H} {ps : List MemPlace} (ht : tt t = .dat T b) (hw : wfT T = true)
    (hv : Value.okWide P W .any b0 t v) (hr : DataW.Trod enc P W base spare held t v d ps) : ∃ x : T.D, Fit T x ∧ RelV gh0 (Imm gh0 W) (dv T x) v := by
  obtain ⟨n, hn⟩ := hr
  obtain ⟨x, h1, h2⟩ := trod_rd hT enc W base spare held n t T b _ _ ht hw hn
  have h1 := h1.mono (fun a v h => imm0 (w := W) h)
  refine ⟨x, h2, relV_dv ?_⟩
  have hu := (hT t); rw [ht] at hu
  have hu2 := hu.2.1
  cases ha : aggT T with
  | true =>
    have : ∃ cs, v = .agg cs := by
      rcases hu2.agg ha with ⟨fs, h⟩ | ⟨n, e, h⟩
      · obtain ⟨cs, h3, _⟩ := Go.WideShapes.okWide_struct h hv; exact ⟨cs, h3⟩
      · simp only [Value.okWide, h] at hv
        obtain ⟨cs, h3, _⟩ := hv; exact ⟨cs, h3⟩
    obtain ⟨cs, rfl⟩ := this
    exact .inl ⟨ha, cs.toList, rfl, h1⟩
  | false =>
    refine .inr ⟨ha, ?_⟩
    have : v.cells.toList = [v] := by
      cases T with
      | int k => obtain ⟨m, rfl⟩ := Go.WideShapes.okWide_int hu2 hv; rfl
      | bool => obtain ⟨m, rfl⟩ := Go.WideShapes.okWide_bool hu2 hv; rfl
      | str => obtain ⟨m, rfl⟩ := Go.WideShapes.okWide_string hu2 hv; rfl
      | slice T => obtain ⟨e, _, _, h3, _⟩ := hu2; obtain ⟨a, l, c, rfl⟩ := Go.WideShapes.okWide_slice h3 hv; rfl
      | _ => simp [aggT] at ha
    rw [this] at h1; exact h1
theorem law_calls {f : Nat} {F : Fun} (hs : SoundFn P f F) {W : World} (hg : needG = true → ∃ m : Int, W.cell? ⟨0, 0, none⟩ = some (.int .i64 m)) {vs : List V} {args : Array Value} (hrun : F.run vs ⟨[], []⟩ (fun v _ => some v) = some (.dat .bool true)) (hl : RelL gh0 (Imm gh0 W) vs args.toList) :
    Calls P f args W fun e W' => e = .returned (.bool true) ∧ Below W.heap.size W W' := by
  obtain ⟨v, σ', h1, _, h2⟩ := hs _ _ _ _ _ hrun
  obtain rfl := Option.some.inj h1
  refine (h2 gh0 W args (fun _ => ⟨rfl, fun i b h => by simp [gh0] at h⟩) (st0 hg) hl).mono fun e W' he => ?_
  obtain ⟨rv, g', rfl, hu, h3, _⟩ := he
  obtain rfl := relV_bool h3
  refine ⟨rfl, hu.os, hu.tape, hu.output, hu.size, fun k hk => hu.keep k hk ?_⟩
  rintro (⟨i, hi⟩ | ⟨i, _, _, _, hi⟩) <;> simp [gh0] at hi
theorem runR_of {arg : Shape} {outs : List Shape} {F : arg.C → Option (OutC outs)} {args : List V} {x : arg.C} {y : OutC outs} {v : V} (hx : decSh false arg ⟨[], []⟩ [] args = some x) (hF : F x = some y) (hy : unpackR outs y (fun v => some v) = some v) :
    runR arg outs F args ⟨[], []⟩ (fun v _ => some v) = some v := by
  show (decSh false arg ⟨[], []⟩ [] args).bind (fun x => (F x).bind fun y => unpackR outs y fun v => some v) = some v
  rw [hx, Option.bind_some, hF, Option.bind_some, hy]
theorem law_callsR {f : Nat} {arg : Shape} {F : arg.C → Option (OutC [⟨[.d .bool], []⟩])} (hs : SoundFn P f ⟨true, runR arg [⟨[.d .bool], []⟩] F⟩) {x : arg.C} (hF : F x = some ((true, ()), ())) {W : World} (hg : needG = true → ∃ m : Int, W.cell? ⟨0, 0, none⟩ = some (.int .i64 m)) {vs : List V} {args : Array Value} (hx : decSh false arg ⟨[], []⟩ [] vs = some x)
    (hl : RelL gh0 (Imm gh0 W) vs args.toList) : Calls P f args W fun e W' => e = .returned (.bool true) ∧ Below W.heap.size W W' :=
  law_calls hs hg (runR_of hx hF rfl) hl
theorem relL_nil {g : Gh} {I : Addr → Value → Prop} : RelL g I [] [] := ⟨rfl, fun i v rv h => by simp at h⟩
end
end Go.Proofs.Yticelgnmcjkknaa.Vm
