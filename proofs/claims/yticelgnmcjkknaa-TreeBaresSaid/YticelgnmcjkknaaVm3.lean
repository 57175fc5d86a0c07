/-
A machine of values, third part: how its values stand to the model's, and the plain laws of that.
-/
import Derived.Test.YticelgnmcjkknaaVm2
import Derived.Laws.Sem
import Derived.Laws.Entries
import Derived.Laws.Tables
import Derived.Laws.Cells
import Derived.Deep.AppendSrc
import Derived.Laws.MakeOwn
set_option linter.unusedVariables false
set_option linter.unusedSimpArgs false
namespace Go.Proofs.Yticelgnmcjkknaa.Vm

/-! ### where objects and tokens lie -/
/-- 'fr': what callers may turn (of that nothing is known to stay). -/
structure Gh where
  blk : List (Option (Nat × Bool))
  tk : List (Nat × Option (Nat × Nat × Nat))
  fr : Addr → Prop

/-- May this cell be turned by one of the objects' or tokens' holders? -/
def Wr (g : Gh) (a : Addr) : Prop :=
  (∃ i : Nat, g.blk[i]? = some (some (a.block, true))) ∨
  (∃ (i ver lo hi : Nat), g.tk[i]? = some (ver, some (a.block, lo, hi)) ∧ lo ≤ a.off ∧ a.off < hi)
/-- May something of this block be turned? -/
def WB (g : Gh) (b : Nat) : Prop := (∃ i : Nat, g.blk[i]? = some (some (b, true))) ∨ (∃ (i ver lo hi : Nat), g.tk[i]? = some (ver, some (b, lo, hi)))
/-- This cell holds that, for good. -/
def Bad (g : Gh) (a : Addr) : Prop := Wr g a ∨ g.fr a
def Imm (g : Gh) (w : World) (a : Addr) (v : Value) : Prop := w.cell? a = some v ∧ ¬ Bad g a

/-! ### data -/
inductive Rd (I : Addr → Value → Prop) : (t : Ty) → t.D → List Value → Prop
  | int (k : IntKind) (n : Int) : Rd I (.int k) n [.int k n]
  | bool (b : Bool) : Rd I .bool b [.bool b]
  | str (s : ByteArray) : Rd I .str s [.string s]
  | unit (u : Unit) : Rd I .unit u []
  | pair (a b : Ty) (x : a.D) (y : b.D) (cs ds : List Value) : Rd I a x cs → Rd I b y ds → Rd I (.pair a b) (x, y) (cs ++ ds)
  | arr (n : Nat) (t : Ty) (xs : List t.D) (css : List (List Value)) : xs.length = n → css.length = n → (∀ (i : Nat) (x : t.D) (cs : List Value), xs[i]? = some x → css[i]? = some cs → Rd I t x cs) → Rd I (.arr n t) xs css.flatten
  | rc (i : Nat) (x : Sx i) (cs : List Value) : Rd I (rcTy i) (un i x) cs → Rd I (.rc i) x cs
  | slice (t : Ty) (xs : List t.D) (A : Option Addr) (c : Nat) (f : Nat → List Value) : xs.length ≤ c → (xs ≠ [] → A.isSome) → (∀ (i : Nat) (x : t.D), xs[i]? = some x → Rd I t x (f i)) →
      (∀ (ad : Addr) (i j : Nat) (v : Value), A = some ad → i < xs.length → (f i)[j]? = some v → I (ad.add (i * wd t + j)) v) → (A = none → c = 0) → Rd I (.slice t) xs [.slice A xs.length c]

theorem wd_rc (i : Nat) : wd (.rc i) = wd (rcTy i) := by cases i <;> rfl
theorem wd_pair (a b : Ty) : wd (.pair a b) = wd a + wd b := rfl
theorem wd_arr (n : Nat) (t : Ty) : wd (.arr n t) = n * wd t := rfl
theorem flatten_len : ∀ (css : List (List Value)) (n : Nat), (∀ cs ∈ css, cs.length = n) → css.flatten.length = css.length * n
  | [], n, _ => by simp
  | c :: css, n, h => by
    rw [List.flatten_cons, List.length_append, flatten_len css n (fun x hx => h x (List.mem_cons_of_mem _ hx)), h c (List.mem_cons_self ..), List.length_cons, Nat.add_mul]; omega
theorem getElem?_lt {α : Type} {l : List α} {i : Nat} {x : α} (h : l[i]? = some x) : i < l.length := by
  rcases Nat.lt_or_ge i l.length with h' | h'
  · exact h'
  · rw [List.getElem?_eq_none h'] at h; cases h
theorem take_get {α : Type} {l : List α} {n j : Nat} {v : α} (h : (l.take n)[j]? = some v) : l[j]? = some v ∧ j < n := by
  rw [List.getElem?_take] at h
  split at h
  · exact ⟨h, by assumption⟩
  · cases h
theorem flatten_get : ∀ (css : List (List Value)) (n : Nat), (∀ cs ∈ css, cs.length = n) → ∀ (j : Nat) (v : Value), css.flatten[j]? = some v → ∃ (i k : Nat) (cs : List Value), j = i * n + k ∧ css[i]? = some cs ∧ cs[k]? = some v
  | [], n, _, j, v, h => by simp at h
  | c :: css, n, hn, j, v, h => by
    rw [List.flatten_cons] at h
    have hc : c.length = n := hn c (List.mem_cons_self ..)
    rcases Nat.lt_or_ge j c.length with hlt | hge
    · rw [List.getElem?_append_left hlt] at h
      exact ⟨0, j, c, by simp, rfl, h⟩
    · rw [List.getElem?_append_right hge] at h
      obtain ⟨i, k, cs, h1, h2, h3⟩ := flatten_get css n (fun x hx => hn x (List.mem_cons_of_mem _ hx)) _ v h
      exact ⟨i + 1, k, cs, by rw [Nat.add_mul]; omega, by simpa using h2, h3⟩
theorem flatten_at : ∀ (css : List (List Value)) (n : Nat), (∀ cs ∈ css, cs.length = n) → ∀ (i j : Nat) (cs : List Value) (v : Value), css[i]? = some cs → cs[j]? = some v → css.flatten[i * n + j]? = some v
  | [], n, _, i, j, cs, v, h, _ => by simp at h
  | c :: css, n, hn, 0, j, cs, v, h, hv => by
    simp at h; subst h
    rw [List.flatten_cons, List.getElem?_append_left (by have := getElem?_lt hv; omega)]; simpa using hv
  | c :: css, n, hn, i + 1, j, cs, v, h, hv => by
    have hc : c.length = n := hn c (List.mem_cons_self ..)
    rw [List.flatten_cons, List.getElem?_append_right (by rw [Nat.add_mul]; omega), show (i + 1) * n + j - c.length = i * n + j by rw [Nat.add_mul]; omega]
    exact flatten_at css n (fun x hx => hn x (List.mem_cons_of_mem _ hx)) i j cs v (by simpa using h) hv
theorem flatten_seg (css : List (List Value)) (n : Nat) (hn : ∀ cs ∈ css, cs.length = n) (i : Nat) (hi : i < css.length) : (css.flatten.drop (i * n)).take n = css[i] := by
  have hl : css[i].length = n := hn _ (List.getElem_mem hi)
  apply List.ext_getElem?
  intro j
  rcases Nat.lt_or_ge j n with hj | hj
  · rw [List.getElem?_take, if_pos hj, List.getElem?_drop]
    rw [flatten_at css n hn i j css[i] _ (List.getElem?_eq_getElem hi) (List.getElem?_eq_getElem (by omega))]
    exact (List.getElem?_eq_getElem (by omega)).symm
  · rw [List.getElem?_take, if_neg (by omega), List.getElem?_eq_none (by omega)]
theorem Rd.len {I : Addr → Value → Prop} {t : Ty} {x : t.D} {cs : List Value} (h : Rd I t x cs) : cs.length = wd t := by
  induction h with
  | int => rfl
  | bool => rfl
  | str => rfl
  | unit => rfl
  | pair a b x y cs ds _ _ h1 h2 => rw [List.length_append, h1, h2, wd_pair]
  | arr n t xs css h1 h2 _ ih =>
    rw [wd_arr, flatten_len css (wd t), h2]
    intro cs hcs
    obtain ⟨i, hi, rfl⟩ := List.getElem_of_mem hcs
    have hx : i < xs.length := by omega
    exact ih i xs[i] _ (List.getElem?_eq_getElem hx) (List.getElem?_eq_getElem hi)
  | rc i x cs _ ih => rw [wd_rc, ih]
  | slice => rfl
theorem Rd.mono {I J : Addr → Value → Prop} (hIJ : ∀ a v, I a v → J a v) {t : Ty} {x : t.D} {cs : List Value} (h : Rd I t x cs) : Rd J t x cs := by
  induction h with
  | int => exact .int ..
  | bool => exact .bool ..
  | str => exact .str ..
  | unit => exact .unit ..
  | pair a b x y cs ds _ _ h1 h2 => exact .pair _ _ _ _ _ _ h1 h2
  | arr n t xs css h1 h2 _ ih => exact .arr _ _ _ _ h1 h2 ih
  | rc i x cs _ ih => exact .rc _ _ _ ih
  | slice t xs A c f h1 h2 _ h4 h5 ih => exact .slice _ _ _ _ f h1 h2 ih (fun ad i j v hA hi hf => hIJ _ _ (h4 ad i j v hA hi hf)) h5

/-- What a reading is made of. -/
def RdInv (I : Addr → Value → Prop) : (t : Ty) → t.D → List Value → Prop
  | .int k, n, cs => cs = [.int k n]
  | .bool, b, cs => cs = [.bool b]
  | .str, s, cs => cs = [.string s]
  | .unit, _, cs => cs = []
  | .pair a b, p, cs => ∃ ca cb, cs = ca ++ cb ∧ Rd I a p.1 ca ∧ Rd I b p.2 cb
  | .arr n t, xs, cs => (show List t.D from xs).length = n ∧ ∃ css : List (List Value), cs = css.flatten ∧ css.length = n ∧ ∀ (i : Nat) (x : t.D) (c : List Value), (show List t.D from xs)[i]? = some x → css[i]? = some c → Rd I t x c
  | .rc i, x, cs => Rd I (rcTy i) (un i x) cs
  | .slice t, xs, cs => ∃ (A : Option Addr) (c : Nat) (f : Nat → List Value), cs = [.slice A (show List t.D from xs).length c] ∧ (show List t.D from xs).length ≤ c ∧ ((show List t.D from xs) ≠ [] → A.isSome) ∧
      (∀ (i : Nat) (x : t.D), (show List t.D from xs)[i]? = some x → Rd I t x (f i)) ∧ ∀ (ad : Addr) (i j : Nat) (v : Value), A = some ad → i < (show List t.D from xs).length → (f i)[j]? = some v → I (ad.add (i * wd t + j)) v
theorem Rd.inv {I : Addr → Value → Prop} {t : Ty} {x : t.D} {cs : List Value} (h : Rd I t x cs) : RdInv I t x cs := by
  cases h with
  | int => rfl
  | bool => rfl
  | str => rfl
  | unit => rfl
  | pair a b x y cs ds h1 h2 => exact ⟨cs, ds, rfl, h1, h2⟩
  | arr n t xs css h1 h2 h3 => exact ⟨h1, css, rfl, h2, h3⟩
  | rc i x cs h => exact h
  | slice t xs A c f h1 h2 h3 h4 => exact ⟨A, c, f, rfl, h1, h2, h3, h4⟩

/-! ### values -/
def RegOk (A : Option Addr) (n c sz : Nat) (R : Option (Nat × Nat × Nat)) : Prop :=
  if n = c then R = none else ∃ ad : Addr, A = some ad ∧ ad.spot = none ∧ R = some (ad.block, ad.off + n * sz, ad.off + c * sz)
def TagOk (g : Gh) (A : Option Addr) (n c sz : Nat) : Tag → Prop
  | .none => True
  | .nn => A.isSome = true
  | .full => n = c
  | .tok i ver => ∃ ver0 R, g.tk[i]? = some (ver0, R) ∧ ver ≤ ver0 ∧ (ver = ver0 → RegOk A n c sz R)
inductive RelV (g : Gh) (I : Addr → Value → Prop) : V → Value → Prop
  | agg (t : Ty) (x : t.D) (cs : List Value) : aggT t = true → Rd I t x cs → RelV g I (.dat t x) (.agg cs.toArray)
  | leaf (t : Ty) (x : t.D) (v : Value) : aggT t = false → Rd I t x [v] → RelV g I (.dat t x) v
  | row (t : Ty) (xs : List t.D) (tag : Tag) (A : Option Addr) (n c : Nat) : Rd I (.slice t) xs [.slice A n c] → TagOk g A n c (wd t) tag → RelV g I (.row t xs tag) (.slice A n c)
  | nils : RelV g I .nils (.slice none 0 0)
  | ptr (i off b : Nat) (w : Bool) : g.blk[i]? = some (some (b, w)) → RelV g I (.ptr i off) (.pointer (some ⟨b, off, none⟩))
  | pel (i : Nat) (t : Ty) (j b : Nat) (w : Bool) : g.blk[i]? = some (some (b, w)) → RelV g I (.pel i t j) (.pointer (some ⟨b, j * wd t, none⟩))
  | pin (i : Nat) (t : Ty) (m j k b : Nat) (w : Bool) : g.blk[i]? = some (some (b, w)) → RelV g I (.pin i t m j k) (.pointer (some ⟨b, j * (m * wd t) + k * wd t, none⟩))
  | prd (t : Ty) (x : t.D) (ad : Addr) (cs : List Value) : Rd I t x cs → (∀ (j : Nat) (v : Value), cs[j]? = some v → I (ad.add j) v) → RelV g I (.prd t x) (.pointer (some ad))
  | nilp : RelV g I .nilp (.pointer none)
  | msl (i : Nat) (t : Ty) (lo n b : Nat) (w : Bool) (A : Option Addr) (c : Nat) : g.blk[i]? = some (some (b, w)) → n ≤ c → (n ≠ 0 → A = some ⟨b, lo * wd t, none⟩) → (A = none → c = 0) → RelV g I (.msl i t lo n) (.slice A n c)
  | mp (i b : Nat) (w : Bool) : g.blk[i]? = some (some (b, w)) → RelV g I (.mp i) (.map (some b))
  | nilm : RelV g I .nilm (.map none)
  | fn (f : Nat) (cap : List V) (caps : List Value) : caps.length = cap.length → (∀ (i : Nat) (v : V) (rv : Value), cap[i]? = some v → caps[i]? = some rv → RelV g I v rv) → RelV g I (.fn f cap) (.func (.func f) #[] caps.toArray)
  | bfn (f : Nat) (bnd : List V) (bnds : List Value) : bnds.length = bnd.length → (∀ (i : Nat) (v : V) (rv : Value), bnd[i]? = some v → bnds[i]? = some rv → RelV g I v rv) → RelV g I (.bfn f bnd) (.func (.func f) bnds.toArray #[])
  | nilf : RelV g I .nilf .nilFunc
  | tup (vs : List V) (rs : List Value) : rs.length = vs.length → (∀ (i : Nat) (v : V) (rv : Value), vs[i]? = some v → rs[i]? = some rv → RelV g I v rv) → RelV g I (.tup vs) (.tuple rs.toArray)
  | mix (vs : List V) (rs : List Value) : rs.length = vs.length → (∀ (i : Nat) (v : V) (rv : Value), vs[i]? = some v → rs[i]? = some rv → RelV g I v rv) → (∀ (i : Nat) (rv : Value), rs[i]? = some rv → rv.oneCell' = true) → RelV g I (.mix vs) (.agg rs.toArray)
  | undef (v : Value) : RelV g I .undef v

/-! ### a step of the world -/
structure Up (g : Gh) (w : World) (g' : Gh) (w' : World) : Prop where
  os : w'.os = w.os
  tape : w'.tape = w.tape
  output : w'.output = w.output
  size : w.heap.size ≤ w'.heap.size
  keep : ∀ b, b < w.heap.size → ¬ WB g b → w'.heap[b]? = w.heap[b]?
  wb : ∀ b, b < w.heap.size → WB g' b → WB g b
  cells : ∀ a v, Imm g w a v → Imm g' w' a v
  wr : ∀ a : Addr, a.block < w.heap.size → Wr g' a → Wr g a
  fr : g'.fr = g.fr
  blk : ∀ (i b : Nat) (f : Bool), g.blk[i]? = some (some (b, f)) → g'.blk[i]? = some (some (b, f))
  nb : ∀ (i b : Nat) (f : Bool), g'.blk[i]? = some (some (b, f)) → b < w.heap.size → g.blk[i]? = some (some (b, f))
  tk : ∀ (i ver : Nat) (R : Option (Nat × Nat × Nat)), g.tk[i]? = some (ver, R) → ∃ ver' R', g'.tk[i]? = some (ver', R') ∧ ver ≤ ver' ∧ (ver' = ver → R' = R)

theorem Up.refl (g : Gh) (w : World) : Up g w g w :=
  ⟨rfl, rfl, rfl, Nat.le_refl _, fun _ _ _ => rfl, fun _ _ h => h, fun _ _ h => h, fun _ _ h => h, rfl, fun _ _ _ h => h, fun _ _ _ h _ => h, fun i ver R h => ⟨ver, R, h, Nat.le_refl _, fun _ => rfl⟩⟩
theorem RelV.up {g g' : Gh} {w w' : World} (h : Up g w g' w') {v : V} {rv : Value} (hv : RelV g (Imm g w) v rv) : RelV g' (Imm g' w') v rv := by
  induction hv with
  | agg t x cs h1 h2 => exact .agg _ _ _ h1 (h2.mono h.cells)
  | leaf t x v h1 h2 => exact .leaf _ _ _ h1 (h2.mono h.cells)
  | row t xs tag A n c h1 h2 =>
    refine .row _ _ _ _ _ _ (h1.mono h.cells) ?_
    cases tag with
    | none => trivial
    | full => exact h2
    | nn => exact h2
    | tok i ver =>
      obtain ⟨ver0, R, h3, h4, h5⟩ := h2
      obtain ⟨ver', R', h6, h7, h8⟩ := h.tk i ver0 R h3
      refine ⟨ver', R', h6, by omega, fun e => ?_⟩
      rw [h8 (by omega)]; exact h5 (by omega)
  | nils => exact .nils
  | ptr i off b w h1 => exact .ptr _ _ _ w (h.blk _ _ _ h1)
  | pel i t j b w h1 => exact .pel _ _ _ _ w (h.blk _ _ _ h1)
  | pin i t m j k b w h1 => exact .pin _ _ _ _ _ _ w (h.blk _ _ _ h1)
  | prd t x ad cs h1 h2 => exact .prd _ _ _ cs (h1.mono h.cells) fun j v hj => h.cells _ _ (h2 j v hj)
  | nilp => exact .nilp
  | msl i t lo n b w A c h1 h2 h3 h4 => exact .msl _ _ _ _ _ w _ _ (h.blk _ _ _ h1) h2 h3 h4
  | mp i b w h1 => exact .mp _ _ w (h.blk _ _ _ h1)
  | nilm => exact .nilm
  | fn f cap caps h1 _ ih => exact .fn _ _ _ h1 ih
  | bfn f bnd bnds h1 _ ih => exact .bfn _ _ _ h1 ih
  | nilf => exact .nilf
  | tup vs rs h1 _ ih => exact .tup _ _ h1 ih
  | mix vs rs h1 _ h3 ih => exact .mix _ _ h1 ih h3
  | undef v => exact .undef _

/-! ### objects -/
def RelOb (g : Gh) (w : World) (i : Nat) : Ob → Prop
  | .dead => True
  | .box f cs => ∃ b c e, g.blk[i]? = some (some (b, f)) ∧ w.heap[b]? = some (.cells c e (0, 0)) ∧ c.size = cs.length ∧ ∀ (j : Nat) (v : V), cs[j]? = some v → ∃ rv, c[j]? = some rv ∧ RelV g (Imm g w) v rv ∧ rv.oneCell' = true
  | .arr f fx t xs => ∃ b c e, g.blk[i]? = some (some (b, f)) ∧ w.heap[b]? = some (.cells c e (0, 0)) ∧ xs.length * wd t ≤ c.size ∧ (∀ n, fx = some n → xs.length = n) ∧
      ∀ (j : Nat) (x : t.D), xs[j]? = some x → ∃ cs, Rd (Imm g w) t x cs ∧ ∀ (k : Nat) (v : Value), cs[k]? = some v → c[j * wd t + k]? = some v
  | .map f kt vt es => ∃ b ents clock, g.blk[i]? = some (some (b, f)) ∧ w.heap[b]? = some (.map ents clock) ∧ ents.size = es.length ∧
      ∀ (j : Nat) (e : kt.D × vt.D) (m : MapEntry), es[j]? = some e → ents[j]? = some m → RelV g (Imm g w) (.dat kt e.1) m.key ∧ RelV g (Imm g w) (dv vt e.2) m.val
structure RelSt (g : Gh) (σ : St) (w : World) : Prop where
  lb : g.blk.length = σ.objs.length
  lt : g.tk.map (·.1) = σ.toks
  obj : ∀ (i : Nat) (o : Ob), σ.objs[i]? = some o → RelOb g w i o
  inj : ∀ (i j b : Nat) (f f' : Bool), g.blk[i]? = some (some (b, f)) → g.blk[j]? = some (some (b, f')) → i = j
  bsz : ∀ (i b : Nat) (f : Bool), g.blk[i]? = some (some (b, f)) → b < w.heap.size
  tok : ∀ (i ver b lo hi : Nat), g.tk[i]? = some (ver, some (b, lo, hi)) → (∃ c e, w.heap[b]? = some (.cells c e (0, 0)) ∧ hi ≤ c.size) ∧ (∀ (k : Nat) (f : Bool), g.blk[k]? ≠ some (some (b, f))) ∧ ∀ a : Addr, a.block = b → lo ≤ a.off → a.off < hi → ¬ g.fr a
  fresh : ∀ a, g.fr a → a.block < w.heap.size
  tinj : ∀ (i j ver ver' b lo hi lo' hi' : Nat), g.tk[i]? = some (ver, some (b, lo, hi)) → g.tk[j]? = some (ver', some (b, lo', hi')) → i = j
  gl : needG = true → ∃ m : Int, Imm g w ⟨0, 0, none⟩ (.int .i64 m)
theorem gl_up {g g' : Gh} {σ : St} {w w' : World} (h : RelSt g σ w) (hu : Up g w g' w') : needG = true → ∃ m : Int, Imm g' w' ⟨0, 0, none⟩ (.int .i64 m) :=
  fun hn => (h.gl hn).imp fun m hm => hu.cells _ _ hm
def RelE (g : Gh) (w : World) (env : List V) (a : Act) : Prop :=
  a.tmps.size = env.length ∧ ∀ (i : Nat) (v : V), env[i]? = some v → ∃ rv, a.tmps[i]? = some rv ∧ RelV g (Imm g w) v rv

theorem RelE.up {g g' : Gh} {w w' : World} (h : Up g w g' w') {env : List V} {a : Act} (he : RelE g w env a) : RelE g' w' env a :=
  ⟨he.1, fun i v hv => let ⟨rv, h1, h2⟩ := he.2 i v hv; ⟨rv, h1, h2.up h⟩⟩

theorem cell_block {w : World} {a : Addr} {v : Value} (h : w.cell? a = some v) : a.block < w.heap.size := by
  unfold World.cell? at h
  rcases Nat.lt_or_ge a.block w.heap.size with h' | h'
  · exact h'
  · simp [Array.getElem?_eq_none h'] at h
theorem cell_of_block {w w' : World} {a : Addr} (h : w'.heap[a.block]? = w.heap[a.block]?) : w'.cell? a = w.cell? a := by unfold World.cell?; rw [h]
theorem cell_mk {w : World} {b o : Nat} {c : Array Value} {e : TypeId} {fr : Nat × Nat} {v : Value} (h : w.heap[b]? = some (.cells c e fr)) (hc : c[o]? = some v) : w.cell? ⟨b, o, none⟩ = some v := by
  unfold World.cell?; rw [h]; simpa using hc

/-- The world has only grown, or been drawn from. -/
theorem Up.of_below {g : Gh} {w w' : World} (hb : Go.RowKit.Below w.heap.size w w') : Up g w g w' where
  os := hb.os
  tape := hb.tape
  output := hb.output
  size := hb.size
  keep := fun b h _ => hb.block b h
  wb := fun _ _ h => h
  cells := fun a v ⟨h1, h2⟩ => ⟨(cell_of_block (hb.block _ (cell_block h1))).trans h1, h2⟩
  wr := fun _ _ h => h
  fr := rfl
  blk := fun _ _ _ h => h
  nb := fun _ _ _ h _ => h
  tk := fun i ver R h => ⟨ver, R, h, Nat.le_refl _, fun _ => rfl⟩
theorem Up.trans {g g' g'' : Gh} {w w' w'' : World} (h : Up g w g' w') (k : Up g' w' g'' w'') : Up g w g'' w'' where
  os := k.os.trans h.os
  tape := k.tape.trans h.tape
  output := k.output.trans h.output
  size := Nat.le_trans h.size k.size
  keep := fun b hb h1 => (k.keep b (Nat.lt_of_lt_of_le hb h.size) fun h2 => h1 (h.wb b hb h2)).trans (h.keep b hb h1)
  wb := fun b hb h1 => h.wb b hb (k.wb b (Nat.lt_of_lt_of_le hb h.size) h1)
  cells := fun a v hv => k.cells a v (h.cells a v hv)
  wr := fun a ha hw => h.wr a ha (k.wr a (Nat.lt_of_lt_of_le ha h.size) hw)
  fr := k.fr.trans h.fr
  blk := fun i b f hb => k.blk i b f (h.blk i b f hb)
  nb := fun i b f hb hlt => h.nb i b f (k.nb i b f hb (Nat.lt_of_lt_of_le hlt h.size)) hlt
  tk := fun i ver R ht => by
    obtain ⟨v1, R1, h1, h2, h3⟩ := h.tk i ver R ht
    obtain ⟨v2, R2, k1, k2, k3⟩ := k.tk i v1 R1 h1
    exact ⟨v2, R2, k1, by omega, fun e => by rw [k3 (by omega), h3 (by omega)]⟩

end Go.Proofs.Yticelgnmcjkknaa.Vm
