/-
A machine of values, thirteenth part: rows that are built; maps looked into.
-/
import Derived.Test.YticelgnmcjkknaaVm12
set_option linter.unusedVariables false
set_option linter.unusedSimpArgs false
namespace Go.Proofs.Yticelgnmcjkknaa.Vm
open Go.RowKit (Below)
section
variable {P : Program} {tt : Nat → TI} {R : Type}

theorem zeros_get (zc : Array Value) (n k : Nat) : ((Array.range (n * zc.size)).map (fun i => zc[i % zc.size]!)).toList[k]? = (List.replicate n zc.toList).flatten[k]? := by
  have hl : ∀ cs ∈ List.replicate n zc.toList, cs.length = zc.size := by
    intro cs hcs; rw [(List.mem_replicate.1 hcs).2]; simp
  rcases Nat.lt_or_ge k (n * zc.size) with hk | hk
  · have hz : 0 < zc.size := by
      rcases Nat.eq_zero_or_pos zc.size with h | h
      · rw [h] at hk; simp at hk
      · exact h
    have hmod : k % zc.size < zc.size := Nat.mod_lt _ hz
    have hkd : k / zc.size < n := (Nat.div_lt_iff_lt_mul hz).2 hk
    have h1 := flatten_at (List.replicate n zc.toList) zc.size hl (k / zc.size) (k % zc.size) zc.toList (zc[k % zc.size]) (by rw [List.getElem?_replicate, if_pos hkd]) (by simp [hmod])
    have hk2 : k / zc.size * zc.size + k % zc.size = k := by rw [Nat.mul_comm]; exact Nat.div_add_mod k zc.size
    rw [hk2] at h1
    rw [h1]
    simp [hk, hmod]
  · rw [List.getElem?_eq_none (by simp; exact hk), List.getElem?_eq_none (by rw [flatten_len _ _ hl]; simp; exact hk)]
theorem rd_zeros {I : Addr → Value → Prop} {T : Ty} {zc : Array Value} (hz : Rd I T (zeroD T) zc.toList) (n : Nat) :
    Rd I (.arr n T) (List.replicate n (zeroD T)) ((Array.range (n * zc.size)).map (fun i => zc[i % zc.size]!)).toList := by
  have e : ((Array.range (n * zc.size)).map (fun i => zc[i % zc.size]!)).toList = (List.replicate n zc.toList).flatten := List.ext_getElem? (zeros_get zc n)
  rw [e]
  refine .arr _ _ _ _ (by simp) (by simp) fun i x cs hx hcs => ?_
  rw [List.getElem?_replicate] at hx hcs
  split at hx
  · rename_i hi
    rw [if_pos hi] at hcs
    simp only [Option.some.injEq] at hx hcs; subst hx; subst hcs; exact hz
  · cases hx
theorem lit_run (hT : TtOk P tt) {t n : Nat} {T : Ty} {b : Nat} (htt : tt t = .dat (.slice T) b) {ps : List (Nat × V)} {K : List T.D → Option R} {r : R} (hn : n * wd T ≤ 16777216) (h : setAll (.arr n T) ps (List.replicate n (zeroD T)) K = some r) :
    ∃ xs, K xs = some r ∧ ∃ e, P.underlying t = some (.slice e) ∧ ∀ g w (parts : Array (Nat × Value)), (∀ a, Bad g a → a.block < w.heap.size) → PartsRel g (Imm g w) ps parts.toList →
      ∃ C, (Instr.buildSlice t n parts).run P w = .ok (.slice (some ⟨w.heap.size, 0, none⟩) n n) (w.alloc (.cells C e)) ∧ ∀ (fr : Nat × Nat) (w2 : World), w2.heap[w.heap.size]? = some (.cells C e fr) → (∀ a v, Imm g w a v → Imm g w2 a v) → Rd (Imm g w2) (.slice T) xs [.slice (some ⟨w.heap.size, 0, none⟩) n n] := by
  obtain ⟨y, h1, h2⟩ := setAll_sound (T := .arr n T) ps _ K r h
  obtain ⟨e, b', h3, h4⟩ := elem_dat hT htt
  refine ⟨y, h1, e, h3, fun g w parts hF hp => ?_⟩
  have h5 := hT e; rw [h4] at h5
  obtain ⟨⟨i, z, h6, h7, h8, h9⟩, _⟩ := h5
  have hz := (h9 (Imm g w)).cells
  have hzl : z.cells.size = wd T := by have := hz.len; simpa using this
  have hzero : ∃ zc : Array Value, ((n * wd T = 0 ∧ zc = #[]) ∨ (n * wd T ≠ 0 ∧ zc = z.cells)) ∧ Rd (Imm g w) (.arr n T) (List.replicate n (zeroD T)) ((Array.range (n * wd T)).map (fun i => zc[i % zc.size]!)).toList := by
    by_cases h0 : n * wd T = 0
    · refine ⟨#[], .inl ⟨h0, rfl⟩, ?_⟩
      have := rd_zeros hz n
      rw [hzl, h0] at this
      rw [h0]; simpa using this
    · refine ⟨z.cells, .inr ⟨h0, rfl⟩, ?_⟩
      have := rd_zeros hz n
      rw [hzl] at this ⊢; exact this
  obtain ⟨zc, h10, h11⟩ := hzero
  obtain ⟨cells', h12, h13⟩ := h2 g (Imm g w) parts.toList (fun i => some (i * wd T, wd T)) _ hp (fun j o u hj => by
    simp only [placeOf] at hj
    split at hj
    · simp only [Option.some.injEq, Prod.mk.injEq] at hj; rw [← hj.1, ← hj.2]
    · cases hj) h11
  obtain ⟨k1, css, k2, k3, k4⟩ := h13.inv
  have k1' : y.length = n := k1
  have hrun : (Instr.buildSlice t n parts).run P w = .ok (.slice (some ⟨w.heap.size, 0, none⟩) n n) (w.alloc (.cells cells' e)) := by
    have h14 := run_sizeOf h6 w
    rw [h7] at h14
    simp only [Instr.buildSlice, Sem.run_bind, run_underlying h3, Result.andThen_ok, h14]
    have hle : ¬ (n * wd T > 2 ^ 24) := by omega
    rw [if_neg hle]
    rcases h10 with ⟨h0, rfl⟩ | ⟨h0, rfl⟩
    · rw [if_pos h0]
      simp only [pure_bind]
      rw [h12]
      simp [newRow]
    · rw [if_neg h0]
      simp only [zeroValue, typeInfo, Sem.run_bind, run_program, Result.andThen_ok, h6, Sem.run_pure, h8]
      simp only [pure_bind, h12]
      simp [newRow]
  refine ⟨_, hrun, fun fr w2 hh hup => ?_⟩
  have k5 := rd_row_new (g := g) (w := w2) (n := w.heap.size) (C := cells') hh (fun a ha => by have := hF a ha; omega) (t := T) (xs := y) (css := css) (by rw [k3, k1']) (fun i x cs hx hcs => (k4 i x cs hx hcs).mono hup) (fun j v hj => by rw [← k2] at hj; simpa using hj) (c := n) (by omega)
  rw [k1'] at k5
  exact k5
theorem buildSlice_sound (hT : TtOk P tt) {t n : Nat} {T : Ty} {b : Nat} (htt : tt t = .dat (.slice T) b) {ps : List (Nat × V)} {K : List T.D → Option R} {r : R} (hn : n * wd T ≤ 16777216) (h : setAll (.arr n T) ps (List.replicate n (zeroD T)) K = some r) :
    ∃ xs, K xs = some r ∧ ∀ g w (parts : Array (Nat × Value)), (∀ a, Bad g a → a.block < w.heap.size) → PartsRel g (Imm g w) ps parts.toList → QR P (Instr.buildSlice t n parts) g w (.row T xs .full) := by
  obtain ⟨xs, h1, e, h3, h2⟩ := lit_run (P := P) hT htt hn h
  refine ⟨xs, h1, fun g w parts hF hp => ?_⟩
  obtain ⟨C, hrun, hrd⟩ := h2 g w parts hF hp
  have hb : Below w.heap.size w (w.alloc (.cells C e)) := (Below.refl _ w).alloc (Nat.le_refl _) _
  exact ⟨_, _, hrun, hb, .row _ _ _ _ _ _ (hrd _ _ (heap_alloc_new' _ _) (Up.of_below (g := g) hb).cells) rfl⟩

/-! ### maps -/
def ckFields (em : Bool) (d : Nat) (cs : Array Value) : List Field → Sem Unit
  | [] => pure ()
  | f :: fs => if f.name ≠ "_" then do
      let a ← part f.type cs f.offset
      Instr.checkKey em d f.type a
      ckFields em d cs fs
    else ckFields em d cs fs
theorem run_checkKey_struct (w : World) (em : Bool) (d : Nat) (t : TypeId) (cs : Array Value) (fs : Array Field) (ht : P.underlying t = some (.struct fs)) :
    (Instr.checkKey em (d + 1) t (.agg cs)).run P w = (ckFields em d cs fs.toList).run P w := by
  simp only [Instr.checkKey, Sem.run_bind, run_underlying ht, Result.andThen_ok]
  rw [← Array.forIn_toList]
  generalize fs.toList = fs
  induction fs generalizing w with
  | nil => simp [ckFields]
  | cons f fs ih =>
    simp only [List.forIn_cons, ckFields, Sem.run_bind, Sem.run_ite]
    split
    · generalize (part f.type cs f.offset).run P w = r1
      cases r1 with
      | ok a w1 =>
        simp only [Result.andThen_ok]
        generalize (Instr.checkKey em d f.type a).run P w1 = r2
        cases r2 with
        | ok b w2 => simp only [Result.andThen_ok, Sem.run_pure]; exact ih w2
        | halt x w2 => simp [Result.andThen]
      | halt x w1 => simp [Result.andThen]
    · simp only [Sem.run_pure, Result.andThen_ok]
      exact ih w
theorem checkKey_sound (hT : TtOk P tt) (em : Bool) : ∀ (T : Ty), eqTy0 T = true →
    (∀ (t b d : Nat) (I : Addr → Value → Prop) (x : T.D) (rx : Value) (w : World), tt t = .dat T b → tySz T ≤ d → RelVal I T x rx → (Instr.checkKey em d t rx).run P w = .ok () w) ∧
    (∀ (fs : List Field) (o d : Nat) (I : Addr → Value → Prop) (x : T.D) (xs : Array Value) (w : World), (T = .unit ∨ ∃ a b, T = .pair a b) → tySz T ≤ d + 1 →
      (∀ j : Nat, (∀ o' u, fldP T j = some (o', u) → ∃ f b, fs[j]? = some f ∧ f.offset = o + o' ∧ tt f.type = .dat u b ∧ f.name ≠ "_") ∧ (fldP T j = none → fs[j]? = none)) →
      Rd I T x ((xs.toList.drop o).take (wd T)) → (ckFields em d xs fs).run P w = .ok () w) := by
  intro T
  induction T with
  | int k =>
    intro _
    refine ⟨fun t b d I x rx w ht hd hx => ?_, fun fs o d I x xs w h => by rcases h with h | ⟨_, _, h⟩ <;> cases h⟩
    have h1 := hT t; rw [ht] at h1
    have h2 : P.underlying t = some (.int k) := h1.2.1
    obtain rfl := relV_int (g := ⟨[], [], fun _ => False⟩) (relV_mkDat hx)
    obtain ⟨d, rfl⟩ : ∃ m, d = m + 1 := ⟨d - 1, by simp [tySz] at hd; omega⟩
    simp [Instr.checkKey, run_underlying h2]
  | bool =>
    intro _
    refine ⟨fun t b d I x rx w ht hd hx => ?_, fun fs o d I x xs w h => by rcases h with h | ⟨_, _, h⟩ <;> cases h⟩
    have h1 := hT t; rw [ht] at h1
    have h2 : P.underlying t = some .bool := h1.2.1
    obtain rfl := relV_bool (g := ⟨[], [], fun _ => False⟩) (relV_mkDat hx)
    obtain ⟨d, rfl⟩ : ∃ m, d = m + 1 := ⟨d - 1, by simp [tySz] at hd; omega⟩
    simp [Instr.checkKey, run_underlying h2]
  | str =>
    intro _
    refine ⟨fun t b d I x rx w ht hd hx => ?_, fun fs o d I x xs w h => by rcases h with h | ⟨_, _, h⟩ <;> cases h⟩
    have h1 := hT t; rw [ht] at h1
    have h2 : P.underlying t = some .string := h1.2.1
    obtain rfl := relV_str (g := ⟨[], [], fun _ => False⟩) (relV_mkDat hx)
    obtain ⟨d, rfl⟩ : ∃ m, d = m + 1 := ⟨d - 1, by simp [tySz] at hd; omega⟩
    simp [Instr.checkKey, run_underlying h2]
  | slice t _ => intro h; simp [eqTy0] at h
  | arr n t _ => intro h; simp [eqTy0] at h
  | rc i => intro h; simp [eqTy0] at h
  | unit =>
    intro _
    have chain : ∀ (fs : List Field) (o d : Nat) (xs : Array Value) (w : World), (∀ j : Nat, (∀ o' u, fldP Ty.unit j = some (o', u) → ∃ f b, fs[j]? = some f ∧ f.offset = o + o' ∧ tt f.type = .dat u b ∧ f.name ≠ "_") ∧ (fldP Ty.unit j = none → fs[j]? = none)) →
        (ckFields em d xs fs).run P w = .ok () w := by
      intro fs o d xs w h
      have h0 := (h 0).2 rfl
      cases fs with
      | nil => rfl
      | cons f fs => simp at h0
    refine ⟨fun t b d I x rx w ht hd hx => ?_, fun fs o d I x xs w _ _ h _ => chain fs o d xs w h⟩
    have h1 := hT t; rw [ht] at h1
    obtain ⟨fs, h2, h3⟩ := h1.2.1
    obtain ⟨d, rfl⟩ : ∃ m, d = m + 1 := ⟨d - 1, by simp [tySz] at hd; omega⟩
    rcases hx with ⟨_, cx, rfl, hx⟩ | ⟨hx, _⟩
    · rw [run_checkKey_struct w em d t _ fs h2]
      exact chain fs.toList 0 d _ w fun j => ⟨fun o' u hu => by simp [fldP] at hu, fun hn => by have := (h3 j).2 hn; simpa using this⟩
    · cases hx
  | pair a b iha ihb =>
    intro he
    have hea : (eqTy0 a = true ∧ eqTy0 b = true) ∧ isChain b = true := by simpa [eqTy0] using he
    have chain : ∀ (fs : List Field) (o d : Nat) (I : Addr → Value → Prop) (x : (Ty.pair a b).D) (xs : Array Value) (w : World), tySz (.pair a b) ≤ d + 1 →
      (∀ j : Nat, (∀ o' u, fldP (.pair a b) j = some (o', u) → ∃ f b, fs[j]? = some f ∧ f.offset = o + o' ∧ tt f.type = .dat u b ∧ f.name ≠ "_") ∧ (fldP (.pair a b) j = none → fs[j]? = none)) →
      Rd I (.pair a b) x ((xs.toList.drop o).take (wd (.pair a b))) → (ckFields em d xs fs).run P w = .ok () w := by
      intro fs o d I x xs w hd hf hx
      obtain ⟨x1, x2⟩ := x
      obtain ⟨cx1, cx2, hcx, hx1, hx2⟩ := hx.inv
      obtain ⟨f, b0, hf1, hf2, hf3, hf4⟩ := (hf 0).1 0 a rfl
      cases fs with
      | nil => simp at hf1
      | cons f' fs =>
        obtain rfl : f' = f := by simpa using hf1
        simp only [tySz] at hd
        rw [wd_pair, List.take_add] at hcx
        have hlx : ((xs.toList.drop o).take (wd a)) = cx1 ∧ ((xs.toList.drop o).drop (wd a)).take (wd b) = cx2 := by
          refine List.append_inj hcx ?_
          have h2 := congrArg List.length hcx
          rw [List.length_append, List.length_append, hx1.len, hx2.len] at h2
          have h3 : ((xs.toList.drop o).take (wd a)).length ≤ wd a := List.length_take_le _ _
          have h4 : (((xs.toList.drop o).drop (wd a)).take (wd b)).length ≤ wd b := List.length_take_le _ _
          rw [hx1.len]; omega
        obtain ⟨hlx1, hlx2⟩ := hlx
        rw [Nat.add_zero] at hf2
        obtain ⟨pa, hpa, hpa'⟩ := part_dat (P := P) hT hf3 (cs := xs) (o := o) (y := x1) (by rw [hlx1]; exact hx1) w
        have h1 := (iha hea.1.1).1 f'.type b0 d I x1 pa w hf3 (by omega) hpa'
        have hb : b = .unit ∨ ∃ c e, b = .pair c e := by
          have := hea.2
          cases b <;> simp [isChain] at this
          · exact .inr ⟨_, _, rfl⟩
          · exact .inl rfl
        have h2 := (ihb hea.1.2).2 fs (o + wd a) d I x2 xs w hb (by omega) (fun j => by
          obtain ⟨k1, k2⟩ := hf (j + 1)
          refine ⟨fun o' u hu => ?_, fun hn => ?_⟩
          · obtain ⟨f, b', k3, k4, k5, k6⟩ := k1 (wd a + o') u (by simp [fldP, hu])
            exact ⟨f, b', by simpa using k3, by rw [k4]; omega, k5, k6⟩
          · have := k2 (by simp [fldP, hn]); simpa using this)
          (by rw [← List.drop_drop, hlx2]; exact hx2)
        rw [ckFields]
        simp only [if_pos hf4, Sem.run_bind, hf2, hpa, h1, Result.andThen_ok]
        exact h2
    refine ⟨fun t b0 d I x rx w ht hd hx => ?_, fun fs o d I x xs w _ hd h hx => chain fs o d I x xs w hd h hx⟩
    have h1 := hT t; rw [ht] at h1
    obtain ⟨fs, h2, h3⟩ := h1.2.1
    obtain ⟨d, rfl⟩ : ∃ m, d = m + 1 := ⟨d - 1, by simp [tySz] at hd; omega⟩
    rcases hx with ⟨_, cx, rfl, hx⟩ | ⟨hx, _⟩
    · rw [run_checkKey_struct w em d t _ fs h2]
      refine chain fs.toList 0 d I x cx.toArray w hd (fun j => ⟨fun o' u hu => ?_, fun hn => ?_⟩) ?_
      · obtain ⟨f, b', k1, k2, k3, k4⟩ := (h3 j).1 o' u hu
        exact ⟨f, b', by simpa using k1, by rw [k2]; omega, k3, k4⟩
      · have := (h3 j).2 hn; simpa using this
      · rw [← hx.len]; simpa using hx
    · cases hx
/-- Which entry has the key. -/
def mfind {A : Type} (kt : Ty) (k : kt.D) : List (kt.D × A) → Nat → Option Nat
  | [], _ => none
  | e :: es, i => cond (beqD kt k e.1) (some i) (mfind kt k es (i + 1))
theorem findKey_sound (hT : TtOk P tt) {kt : Ty} (hk : eqTy kt = true) {t b : Nat} (ht : tt t = .dat kt b) {A : Type} {I : Addr → Value → Prop} {k : kt.D} {rk : Value} (hr : RelVal I kt k rk) (w : World) (es : List (kt.D × A)) (ms : List MapEntry)
    (hl : ms.length = es.length) (hm : ∀ (j : Nat) (e : kt.D × A) (m : MapEntry), es[j]? = some e → ms[j]? = some m → RelVal I kt e.1 m.key) :
    (Instr.findKey t rk ms).run P w = .ok ((mfind kt k es 0).map fun i => (i, ((ms[i]?).map (·.val)).getD undef)) w := by
  have h1 := hT t; rw [ht] at h1
  have hk' : eqTy0 kt = true ∧ tySz kt ≤ 1000 := by simpa [eqTy] using hk
  have heq : ∀ (e : kt.D × A) (m : MapEntry), RelVal I kt e.1 m.key → (Op.equal t rk m.key).run P w = .ok (beqD kt k e.1) w := fun e m he =>
    (eq_sound (P := P) hT kt hk'.1).1 t b 10000 I k e.1 rk m.key w ht hk'.2 (by have := hk'.2; omega) hr he
  have hask : ∀ (es : List (kt.D × A)) (ms pre : List MapEntry), ms.length = es.length → (∀ (j : Nat) (e : kt.D × A) (m : MapEntry), es[j]? = some e → ms[j]? = some m → RelVal I kt e.1 m.key) →
      (Instr.findAsking t rk ms pre.length).run P w = .ok ((mfind kt k es pre.length).map fun i => (i, (((pre ++ ms)[i]?).map (·.val)).getD undef)) w := by
    intro es
    induction es with
    | nil => intro ms pre hl _; cases ms with | nil => rfl | cons m ms => simp at hl
    | cons e es ih =>
      intro ms pre hl hm
      cases ms with
      | nil => simp at hl
      | cons m ms =>
        have h2 := heq e m (hm 0 e m rfl rfl)
        simp only [Instr.findAsking, Sem.run_bind, h2, Result.andThen_ok, Sem.run_ite]
        cases hb : beqD kt k e.1
        · simp only [mfind, hb, cond_false]
          have := ih ms (pre ++ [m]) (by simpa using hl) (fun j e m he hm' => hm (j + 1) e m (by simpa using he) (by simpa using hm'))
          simp only [List.length_append, List.length_singleton, List.append_assoc, List.singleton_append] at this
          simpa using this
        · simp [mfind, hb]
  have hnow : ∀ d, P.underlying t = some d → (∀ (e : kt.D × A) (m : MapEntry), RelVal I kt e.1 m.key → Instr.sameNow d rk m.key = some (beqD kt k e.1)) →
      ∀ (es : List (kt.D × A)) (ms pre : List MapEntry), ms.length = es.length → (∀ (j : Nat) (e : kt.D × A) (m : MapEntry), es[j]? = some e → ms[j]? = some m → RelVal I kt e.1 m.key) →
      Instr.findNow d rk ms pre.length = some ((mfind kt k es pre.length).map fun i => (i, (((pre ++ ms)[i]?).map (·.val)).getD undef)) := by
    intro d _ hs es
    induction es with
    | nil => intro ms pre hl _; cases ms with | nil => rfl | cons m ms => simp at hl
    | cons e es ih =>
      intro ms pre hl hm
      cases ms with
      | nil => simp at hl
      | cons m ms =>
        have h2 := hs e m (hm 0 e m rfl rfl)
        simp only [Instr.findNow, h2]
        cases hb : beqD kt k e.1
        · simp only [mfind, hb, cond_false]
          have := ih ms (pre ++ [m]) (by simpa using hl) (fun j e m he hm' => hm (j + 1) e m (by simpa using he) (by simpa using hm'))
          simp only [List.length_append, List.length_singleton, List.append_assoc, List.singleton_append] at this
          simpa using this
        · simp [mfind, hb]
  have fin : ∀ d, P.underlying t = some d → (∀ (e : kt.D × A) (m : MapEntry), RelVal I kt e.1 m.key → Instr.sameNow d rk m.key = some (beqD kt k e.1)) → (Instr.findKey t rk ms).run P w = .ok ((mfind kt k es 0).map fun i => (i, ((ms[i]?).map (·.val)).getD undef)) w := by
    intro d hd hs
    have h3 := hnow d hd hs es ms [] hl hm
    simp only [List.length_nil, List.nil_append] at h3
    simp [Instr.findKey, run_underlying hd, h3]
  cases kt with
  | int kk =>
    refine fin _ h1.2.1 fun e m he => ?_
    obtain rfl := relV_int (g := ⟨[], [], fun _ => False⟩) (relV_mkDat hr)
    have hmk := relV_int (g := ⟨[], [], fun _ => False⟩) (relV_mkDat he)
    rw [hmk]; simp [Instr.sameNow, beqD]
  | bool =>
    refine fin _ h1.2.1 fun e m he => ?_
    obtain rfl := relV_bool (g := ⟨[], [], fun _ => False⟩) (relV_mkDat hr)
    have hmk := relV_bool (g := ⟨[], [], fun _ => False⟩) (relV_mkDat he)
    rw [hmk]; simp [Instr.sameNow, beqD]
  | str =>
    refine fin _ h1.2.1 fun e m he => ?_
    obtain rfl := relV_str (g := ⟨[], [], fun _ => False⟩) (relV_mkDat hr)
    have hmk := relV_str (g := ⟨[], [], fun _ => False⟩) (relV_mkDat he)
    rw [hmk]; simp [Instr.sameNow, beqD]
  | slice t => simp [eqTy0] at hk'
  | arr n t => simp [eqTy0] at hk'
  | rc i => simp [eqTy0] at hk'
  | unit =>
    obtain ⟨fs, h2, _⟩ := h1.2.1
    rcases hr with ⟨_, cx, rfl, hx⟩ | ⟨hx, _⟩
    · have h3 := hask es ms [] hl hm
      simp only [List.length_nil, List.nil_append] at h3
      cases ms with
      | nil => cases es with | nil => simp [Instr.findKey, run_underlying h2, Instr.findNow, mfind] | cons e es => simp at hl
      | cons m ms =>
        have h4 : Instr.findNow (.struct fs) (.agg cx.toArray) (m :: ms) 0 = none := by simp [Instr.findNow, Instr.sameNow]
        simp only [Instr.findKey, Sem.run_bind, run_underlying h2, Result.andThen_ok, h4]
        exact h3
    · cases hx
  | pair a c =>
    obtain ⟨fs, h2, _⟩ := h1.2.1
    rcases hr with ⟨_, cx, rfl, hx⟩ | ⟨hx, _⟩
    · have h3 := hask es ms [] hl hm
      simp only [List.length_nil, List.nil_append] at h3
      cases ms with
      | nil => cases es with | nil => simp [Instr.findKey, run_underlying h2, Instr.findNow, mfind] | cons e es => simp at hl
      | cons m ms =>
        have h4 : Instr.findNow (.struct fs) (.agg cx.toArray) (m :: ms) 0 = none := by simp [Instr.findNow, Instr.sameNow]
        simp only [Instr.findKey, Sem.run_bind, run_underlying h2, Result.andThen_ok, h4]
        exact h3
    · cases hx
end
end Go.Proofs.Yticelgnmcjkknaa.Vm
