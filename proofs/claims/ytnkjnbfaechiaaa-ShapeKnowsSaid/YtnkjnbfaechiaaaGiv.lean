/-
What is surely ahead, given: the walk's contract, in the words of the machine of values.
-/
import Derived.Test.YtnkjnbfaechiaaaVm44
import Derived.Test.YtnkjnbfaechiaaaMB
import Derived.Test.YtnkjnbfaechiaaaCl
import Derived.Test.YtnkjnbfaechiaaaPl
set_option linter.unusedVariables false
set_option linter.unusedSimpArgs false
set_option maxRecDepth 100000
namespace Go.Proofs.Ytnkjnbfaechiaaa.M
open Go Go.Proofs Go.RowKit Go.Proofs.Ytnkjnbfaechiaaa.Vm Go.Proofs.Ytnkjnbfaechiaaa.Pl
/-! ### a square is one -/
theorem w1 {i : Nat} (h : i ≤ 100) : w64 ((i : Int) + 1) = ((i + 1 : Nat) : Int) := by rw [w64_id (by omega) (by omega)]; omega
theorem sq_loop (k : Nat) (M : List (List Bool)) (hl : M.length ≤ 40) (hr : ∀ r ∈ M, r.length = M.length) : ∀ (q i : Nat), M.length - i = q → ∀ j, q < j → B.l32_26 k j M (M.length : Int) i M = some (.inl ((), ((), ()))) := by
  intro q
  induction q with
  | zero =>
    intro i hi j hj
    obtain ⟨j, rfl, _⟩ := succ_of (n := 0) (by omega : 0 + 1 ≤ j)
    show B.b32_26 k (B.l32_26 k j) M (M.length : Int) i M = _
    unfold B.b32_26
    rw [decide_eq_false (by omega : ¬ (i : Int) < M.length)]; rfl
  | succ q ih =>
    intro i hi j hj
    obtain ⟨j, rfl, hj2⟩ := succ_of (by omega : q + 1 + 1 ≤ j)
    have hlt : i < M.length := by omega
    show B.b32_26 k (B.l32_26 k j) M (M.length : Int) i M = _
    unfold B.b32_26
    rw [decide_eq_true (by omega : (i : Int) < M.length), cond_true, ix_nat (List.getElem?_eq_getElem hlt), w1 (by omega), ih (i + 1) (by omega) j hj2]
    unfold B.f31
    have : (((M[i].length : Int)) != (M.length : Int)) = false := by rw [hr _ (List.getElem_mem hlt)]; simp
    rw [this]; rfl
theorem squared_ok (k : Nat) (hk : 41 ≤ k) (M : List (List Bool)) (hl : M.length ≤ 40) (hr : ∀ r ∈ M, r.length = M.length) : B.f28 k M = some ((true, ()), ()) := by
  unfold B.f28
  rw [decide_eq_true (by omega : (M.length : Int) ≤ 40), cond_true]
  unfold B.f30 B.f32
  rw [show (0 : Int) = ((0 : Nat) : Int) from rfl, sq_loop k M hl hr M.length 0 (by omega) k (by omega)]
  rfl
/-! ### the square, as data -/
def mat (n : Nat) (Q : Nat → Nat → Bool) : List (List Bool) := (List.range n).map fun i => (List.range n).map (Q i)
theorem mat_len (n : Nat) (Q : Nat → Nat → Bool) : (mat n Q).length = n := by simp [mat]
theorem mat_get {n : Nat} {Q : Nat → Nat → Bool} {i : Nat} {r : List Bool} (h : (mat n Q)[i]? = some r) : i < n ∧ r = (List.range n).map (Q i) := by
  unfold mat at h
  rw [List.getElem?_map] at h
  rcases Nat.lt_or_ge i n with hi | hi
  · rw [List.getElem?_range hi] at h; simp at h; exact ⟨hi, h.symm⟩
  · rw [List.getElem?_eq_none (by simpa using hi)] at h; simp at h
theorem row_get {n : Nat} {F : Nat → Bool} {i : Nat} {b : Bool} (h : ((List.range n).map F)[i]? = some b) : i < n ∧ b = F i := by
  rw [List.getElem?_map] at h
  rcases Nat.lt_or_ge i n with hi | hi
  · rw [List.getElem?_range hi] at h; simp at h; exact ⟨hi, h.symm⟩
  · rw [List.getElem?_eq_none (by simpa using hi)] at h; simp at h
theorem add0 (b c : Nat) : (⟨b, 0, none⟩ : Addr).add c = ⟨b, c, none⟩ := by unfold Addr.add; split <;> simp_all
theorem row_rd {I : Addr → Value → Prop} (b n c : Nat) (F : Nat → Bool) (hc : n ≤ c) (h : ∀ j, j < n → I ⟨b, j, none⟩ (.bool (F j))) : Rd I (.slice .bool) ((List.range n).map F) [.slice (some ⟨b, 0, none⟩) n c] := by
  have := Rd.slice (I := I) .bool ((List.range n).map F) (some ⟨b, 0, none⟩) c (fun j => [.bool (F j)]) (show ((List.range n).map F).length ≤ c from by simpa using hc) (fun _ => rfl) (fun i x hx => by
    obtain ⟨_, rfl⟩ := row_get hx; exact .bool _) (fun ad i j v hA hi hv => by
    obtain rfl := Option.some.inj hA
    have hi : i < ((List.range n).map F).length := hi
    have hi : i < n := by simpa using hi
    cases j with
    | succ j => simp at hv
    | zero =>
      simp at hv; subst hv
      rw [add0, show i * wd .bool + 0 = i from by show i * 1 + 0 = i; omega]
      exact h i hi) (fun h => by cases h)
  have key : ∀ m : Nat, ((List.range n).map F).length = m → Rd I (.slice .bool) ((List.range n).map F) [.slice (some ⟨b, 0, none⟩) m c] := fun m hm => by subst hm; exact this
  exact key n (by simp)
theorem mat_rd {I : Addr → Value → Prop} (A : Option Addr) (n c : Nat) (Q : Nat → Nat → Bool) (L : Nat → Value) (hA : 0 < n → A = some ⟨(A.getD ⟨0, 0, none⟩).block, 0, none⟩) (hA2 : A = none → c = 0) (hc : n ≤ c)
    (hrow : ∀ i, i < n → ∃ b cc, L i = .slice (some ⟨b, 0, none⟩) n cc ∧ n ≤ cc ∧ ∀ j, j < n → I ⟨b, j, none⟩ (.bool (Q i j))) (hcell : ∀ i, i < n → I ⟨(A.getD ⟨0, 0, none⟩).block, i, none⟩ (L i)) :
    Rd I (.slice (.slice .bool)) (mat n Q) [.slice A n c] := by
  have := Rd.slice (I := I) (.slice .bool) (mat n Q) A c (fun i => [L i]) (show (mat n Q).length ≤ c from by rw [mat_len]; exact hc) (fun hne => by
    have : 0 < n := by
      rcases Nat.eq_zero_or_pos n with h | h
      · subst h; exact absurd rfl hne
      · exact h
    rw [hA this]; rfl) (fun i x hx => by
    obtain ⟨hi, rfl⟩ := mat_get hx
    obtain ⟨b, cc, e, h1, h2⟩ := hrow i hi
    show Rd I _ _ [L i]
    rw [e]
    exact row_rd b n cc (Q i) h1 h2) (fun ad i j v hAd hi hv => by
    have hi : i < (mat n Q).length := hi
    rw [mat_len] at hi
    cases j with
    | succ j => simp at hv
    | zero =>
      simp at hv; subst hv
      have h1 := hA (by omega)
      have h2 := hcell i hi
      rw [hAd] at h1 h2
      have h3 := Option.some.inj h1
      rw [h3, add0, show i * wd (.slice .bool) + 0 = i from by show i * 1 + 0 = i; omega]
      exact h2) hA2
  have key : ∀ m : Nat, (mat n Q).length = m → Rd I (.slice (.slice .bool)) (mat n Q) [.slice A m c] := fun m hm => by subst hm; exact this
  exact key n (mat_len n Q)
/-! ### what came in -/
def sPn (s : B.D_Shape) (i : Nat) : Nat := ((s.1[i]?).map fun e => e.1.toNat).getD 0
def sSt (s : B.D_Shape) (j : Nat) : Int := (s.2.1[j]?).getD 0
def sEd (s : B.D_Shape) (i k : Nat) : Bool := (sPn s i == sPn s k && decide (i < k)) || sSt s (sPn s k) == (i : Int)
def closM (s : B.D_Shape) : List (List Bool) := mat s.1.length (fw s.1.length (sEd s) s.1.length)
def aheadOk (k : Nat) (s : B.D_Shape) : Bool := decide (41 ≤ k) && (decide (s.1.length ≤ 40) && s.1.all fun e => decide (0 ≤ e.1) && decide (e.1 < (s.2.1.length : Int)))
structure Opened (I : Addr → Value → Prop) (s : B.D_Shape) (eo so : Option Addr) (ce cs : Nat) : Prop where
  ev : s.1.length ≤ ce ∧ (0 < s.1.length → ∃ ea, eo = some ea) ∧ ∀ ea, eo = some ea → ∀ i e, s.1[i]? = some e → I (ea.add (i * 4)) (.int .i64 e.1) ∧ I ((ea.add (i * 4)).add 1) (.int .i64 e.2.1) ∧ I ((ea.add (i * 4)).add 2) (.int .i64 e.2.2.1) ∧ I ((ea.add (i * 4)).add 3) (.int .i64 e.2.2.2.1)
  st : (0 < s.2.1.length → ∃ sa, so = some sa) ∧ ∀ sa, so = some sa → ∀ i x, s.2.1[i]? = some x → I (sa.add i) (.int .i64 x)
theorem open_shape {I : Addr → Value → Prop} {s : B.D_Shape} {cs : List Value} (h : Rd I B.T_Shape s cs) : ∃ eo so ce cc, cs = [.slice eo s.1.length ce, .slice so s.2.1.length cc] ∧ Opened I s eo so ce cc := by
  obtain ⟨c1, c2, rfl, h1, h2⟩ := h.inv
  obtain ⟨c3, c4, rfl, h3, h4⟩ := h2.inv
  obtain rfl : c4 = [] := h4.inv
  obtain ⟨eo, ce, f, rfl, k1, k2, k3, k4⟩ := h1.inv
  obtain ⟨so, cc, f2, rfl, l1, l2, l3, l4⟩ := h3.inv
  refine ⟨eo, so, ce, cc, rfl, ⟨k1, fun hp => ?_, fun ea hea i e he => ?_⟩, fun hp => ?_, fun sa hsa i x hx => ?_⟩
  · exact Option.isSome_iff_exists.1 (k2 (fun e => by rw [show s.1.length = (show List B.D_Event from s.1).length from rfl, show (show List B.D_Event from s.1) = [] from e] at hp; exact absurd hp (Nat.lt_irrefl 0)))
  · have hr := k3 i e he
    obtain ⟨d1, r1, e1, q1, hr⟩ := hr.inv
    obtain ⟨d2, r2, e2, q2, hr⟩ := hr.inv
    obtain ⟨d3, r3, e3, q3, hr⟩ := hr.inv
    obtain ⟨d4, r4, e4, q4, hr⟩ := hr.inv
    have hd1 : d1 = [.int .i64 e.1] := q1.inv
    have hd2 : d2 = [.int .i64 e.2.1] := q2.inv
    have hd3 : d3 = [.int .i64 e.2.2.1] := q3.inv
    have hd4 : d4 = [.int .i64 e.2.2.2.1] := q4.inv
    have hd5 : r4 = [] := hr.inv
    subst hd1; subst hd2; subst hd3; subst hd4; subst hd5
    have hlt : i < s.1.length := by
      rcases Nat.lt_or_ge i s.1.length with h | h
      · exact h
      · rw [List.getElem?_eq_none h] at he; cases he
    have hf : f i = [.int .i64 e.1, .int .i64 e.2.1, .int .i64 e.2.2.1, .int .i64 e.2.2.2.1] := by rw [e1, e2, e3, e4]; rfl
    have g : ∀ j v, (f i)[j]? = some v → I (ea.add (i * 4 + j)) v := fun j v hv => k4 ea i j v hea hlt hv
    rw [hf] at g
    simp only [Addr.add_add]
    exact ⟨g 0 _ rfl, g 1 _ rfl, g 2 _ rfl, g 3 _ rfl⟩
  · exact Option.isSome_iff_exists.1 (l2 (fun e => by rw [show s.2.1.length = (show List Int from s.2.1).length from rfl, show (show List Int from s.2.1) = [] from e] at hp; exact absurd hp (Nat.lt_irrefl 0)))
  · have hr : f2 i = [.int .i64 x] := (l3 i x hx).inv
    have hlt : i < s.2.1.length := by
      rcases Nat.lt_or_ge i s.2.1.length with h | h
      · exact h
      · rw [List.getElem?_eq_none h] at hx; cases hx
    have := l4 sa i 0 (.int .i64 x) hsa hlt (by rw [hr]; rfl)
    rw [show i * wd i64 + 0 = i from by show i * 1 + 0 = i; omega] at this
    exact this
theorem ownsRow_cap {w : World} {base : Nat} {e : TypeId} {g cap n : Nat} {xs : List Value} (h : w.ownsRow base e 1 (.slice (some ⟨g, 0, none⟩) n cap) n xs) : n ≤ cap := by
  rcases h.2 with ⟨h1, _⟩ | ⟨g2, cap2, cur, h1, _, _, h4, _⟩
  · cases h1
  · injection h1 with _ _ h5
    subst h5; exact h4
theorem own2_rel {g : Gh} {σ : St} {w w' : World} {n : Nat} {d : Value} {L : List Value} {Q : Nat → Nat → Bool} (hst : RelSt g σ w) (h : Own2 w.heap.size n w' d L Q) (hL : L.length = n) : RelV g (Imm g w') (.row (.slice .bool) (mat n Q) .none) d := by
  have nb : ∀ (b j : Nat), w.heap.size ≤ b → ¬ Bad g ⟨b, j, none⟩ := fun b j hb hbad => by have := hst.bad_lt _ hbad; have : b < w.heap.size := this; omega
  rcases h.top.2 with ⟨rfl, h0⟩ | ⟨db, dcap, cur, rfl, hdb, hdh, hdc, _⟩
  · obtain rfl : n = 0 := by omega
    exact .row _ _ _ _ _ _ (rd_nil _ _ _ _) trivial
  · have htop := h.top
    rw [hL] at htop hdc ⊢
    refine .row _ _ _ _ _ _ (mat_rd (some ⟨db, 0, none⟩) n dcap Q (fun i => (L[i]?).getD (.slice none 0 0)) (fun _ => rfl) (fun h => by cases h) hdc (fun i hi => ?_) (fun i hi => ?_)) trivial
    · have hi' : i < L.length := by omega
      have hLi := List.getElem?_eq_getElem hi'
      obtain ⟨b, cc, e, hb, _⟩ := ownsRow_block (h.row i _ hLi).1 (h.row i _ hLi).2
      rw [e] at hLi
      refine ⟨b, cc, by rw [hLi]; rfl, ownsRow_cap (h.row i _ hLi).1, fun j hj => ⟨(h.cell hLi hj).1, nb b j hb⟩⟩
    · have hi' : i < L.length := by omega
      refine ⟨?_, nb db i hdb⟩
      show w'.cell? ⟨db, i, none⟩ = _
      rw [htop.cellAt i (by omega), List.getElem?_eq_getElem hi']
      rfl
/-! ### the function -/
noncomputable def a8 : Shape := ⟨[.d B.T_Shape], []⟩
noncomputable def o8 : List Shape := [⟨[.d (.slice (.slice .bool))], []⟩]
abbrev R8 : Type := (((List (List Bool)) × Unit) × Unit)
abbrev T8 : Type := B.D_Shape → Option R8
noncomputable def uA8 (f : T8) : (a8).C → Option (OutC o8) := fun (x : ((B.D_Shape × Unit) × Unit)) => f x.1.1
noncomputable def F8 (f : T8) : Fun := ⟨true, runR a8 o8 (uA8 f)⟩
noncomputable def f8 (k : Nat) : T8 := fun s => (B.f13 k s).bind fun y => cond (y.1.1 != 0) (some (([], ()), ())) (cond (aheadOk k s) (some ((closM s, ()), ())) none)
theorem check_calls (k : Nat) {s : B.D_Shape} {r : Int} (h : B.f13 k s = some ((r, ()), ())) {w w' : World} {g : Gh} {cs : List Value} (hr : Rd (Imm g w) B.T_Shape s cs) (hb : Below w.heap.size w w') :
    Calls Try.prog 13 #[.agg cs.toArray] w' fun e w'' => e = .returned (.int .i64 r) ∧ Below w'.heap.size w' w'' := by
  have hr' : Rd (Imm gh0 w') B.T_Shape s cs := hr.mono fun a v hv => imm0 ((hb.cell (p := a) (World.block_lt_of_cell? _ _ hv.1)).trans hv.1)
  refine (callR_of (B.s13 k) (x := ((s, ()), ())) (y := ((r, ()), ())) (v := .dat i64 r) h (fun hg => absurd hg (by decide)) (vs := [.dat B.T_Shape s]) (by kernel_rfl) rfl (.cons (.agg _ _ _ rfl hr') relL_nil)).mono fun e w'' he => ?_
  obtain ⟨rv, g', rfl, hbl, hv⟩ := he
  obtain rfl := relV_int hv
  exact ⟨rfl, hbl⟩
theorem squared_calls (k n : Nat) (hk : 41 ≤ k) (hn : n ≤ 40) (w : World) (gb : Nat) (RB : Nat → Nat) (Z : Nat → Nat → Bool) (h1 : ∀ r, r < n → w.cell? ⟨gb, r, none⟩ = some (.slice (some ⟨RB r, 0, none⟩) n n)) (h2 : ∀ r, r < n → ∀ c, c < n → w.cell? ⟨RB r, c, none⟩ = some (.bool (Z r c))) :
    Calls Try.prog 28 #[.slice (some ⟨gb, 0, none⟩) n n] w fun e w' => e = .returned (.bool true) ∧ Below w.heap.size w w' := by
  have hr : Rd (Imm gh0 w) (.slice (.slice .bool)) (mat n Z) [.slice (some ⟨gb, 0, none⟩) n n] :=
    mat_rd (some ⟨gb, 0, none⟩) n n Z (fun i => .slice (some ⟨RB i, 0, none⟩) n n) (fun _ => rfl) (fun h => by cases h) (Nat.le_refl _) (fun i hi => ⟨RB i, n, rfl, Nat.le_refl _, fun j hj => imm0 (h2 i hi j hj)⟩) (fun i hi => imm0 (h1 i hi))
  have hs : B.f28 k (mat n Z) = some ((true, ()), ()) := squared_ok k hk _ (by rw [mat_len]; exact hn) (fun r hr => by
    obtain ⟨i, hi, rfl⟩ := List.getElem_of_mem hr
    obtain ⟨_, h⟩ := mat_get (List.getElem?_eq_getElem hi)
    rw [h, mat_len]; simp)
  refine (callR_of (B.s28 k) (x := ((mat n Z, ()), ())) (y := ((true, ()), ())) (v := .dat .bool true) hs (fun hg => absurd hg (by decide)) (vs := [.row (.slice .bool) (mat n Z) .none]) (by kernel_rfl) rfl (.cons (.row _ _ _ _ _ _ hr trivial) relL_nil)).mono fun e w'' he => ?_
  obtain ⟨rv, g', rfl, hbl, hv⟩ := he
  obtain rfl := relV_bool hv
  exact ⟨rfl, hbl⟩
theorem s8 (k : Nat) : SoundFn Try.prog 8 (F8 (f8 k)) := by
  refine fnR_raw (entry Try.func8 rfl (by decide)) rfl fun (x : ((B.D_Shape × Unit) × Unit)) (y : R8) hy => ?_
  obtain ⟨⟨s, ⟨⟩⟩, ⟨⟩⟩ := x
  have hy : f8 k s = some y := hy
  unfold f8 at hy
  obtain ⟨⟨⟨r, ⟨⟩⟩, ⟨⟩⟩, hck, hy⟩ := Vm.bind_some hy
  refine ⟨.row (.slice .bool) y.1.1 .none, fun R K => rfl, fun g σ w rargs hst hargs => ?_⟩
  obtain ⟨rv, hl, hrv⟩ : ∃ rv, rargs.toList = [rv] ∧ RelV g (Imm g w) (.dat B.T_Shape s) rv := by
    have hargs : RelL g (Imm g w) [.dat B.T_Shape s] rargs.toList := hargs
    obtain ⟨h1, h2⟩ := hargs
    match hq : rargs.toList, h1 with
    | [rv], _ => exact ⟨rv, rfl, h2 0 _ rv rfl (by rw [hq]; rfl)⟩
  obtain ⟨rargs⟩ := rargs
  have hl : rargs = [rv] := hl
  subst hl
  obtain ⟨cs, rfl, hrd⟩ : ∃ cs : List Value, rv = .agg cs.toArray ∧ Rd (Imm g w) B.T_Shape s cs := by
    cases hrv with
    | agg _ _ cs _ h => exact ⟨cs, rfl, h⟩
    | leaf _ _ _ h => cases h
  have hcalls : ∀ w', Below w.heap.size w w' → Calls Try.prog 13 #[.agg cs.toArray] w' fun e w'' => e = .returned (.int .i64 r) ∧ Below w'.heap.size w' w'' := fun w' hb => check_calls k hck hrd hb
  obtain ⟨eo, so, ce, cc, rfl, hop⟩ := open_shape hrd
  by_cases hr0 : r = 0
  · subst hr0
    have hy : cond (aheadOk k s) (some (((closM s, ()), ()) : R8)) none = some y := hy
    cases hok : aheadOk k s with
    | false => rw [hok] at hy; cases hy
    | true =>
      rw [hok] at hy
      obtain rfl := Option.some.inj hy
      unfold aheadOk at hok
      simp only [Bool.and_eq_true, decide_eq_true_eq, List.all_eq_true] at hok
      obtain ⟨hk, hn, hall⟩ := hok
      have hge : ∀ i (hi : i < s.1.length), s.1[i]? = some s.1[i] ∧ 0 ≤ s.1[i].1 ∧ s.1[i].1 < (s.2.1.length : Int) := fun i hi => ⟨List.getElem?_eq_getElem hi, hall _ (List.getElem_mem hi)⟩
      have hPi : ∀ i (hi : i < s.1.length), sPn s i = s.1[i].1.toNat := fun i hi => by unfold sPn; rw [(hge i hi).1]; rfl
      have hm : 0 < s.1.length → 0 < s.2.1.length := fun h => by have := (hge 0 h).2; omega
      obtain ⟨ea, hea⟩ : ∃ ea, 0 < s.1.length → eo = some ea := by
        rcases Nat.eq_zero_or_pos s.1.length with h | h
        · exact ⟨⟨0, 0, none⟩, fun h' => by omega⟩
        · obtain ⟨ea, h1⟩ := hop.ev.2.1 h; exact ⟨ea, fun _ => h1⟩
      obtain ⟨sa, hsa⟩ : ∃ sa, 0 < s.2.1.length → so = some sa := by
        rcases Nat.eq_zero_or_pos s.2.1.length with h | h
        · exact ⟨⟨0, 0, none⟩, fun h' => by omega⟩
        · obtain ⟨sa, h1⟩ := hop.st.1 h; exact ⟨sa, fun _ => h1⟩
      refine (ahead_walk ea sa eo so s.1.length ce s.2.1.length cc (sPn s) (fun i => ((s.1[i]?).map fun e => e.2.2.1).getD 0) (fun i => ((s.1[i]?).map fun e => e.2.1).getD 0) (fun i => ((s.1[i]?).map fun e => e.2.2.2.1).getD 0) (sSt s) w hn hea (fun h => hsa (hm h)) (fun i hi => ?_) (fun i hi => ?_) (fun i hi => ?_) (fun wx gb RB Z h1 h2 => squared_calls k _ hk hn wx gb RB Z h1 h2) hcalls).mono fun e w' he => ?_
      · obtain ⟨h1, h2, h3⟩ := hge i hi
        have h4 := hop.ev.2.2 ea (hea (by omega)) i _ h1
        rw [hPi i hi, h1]
        refine ⟨?_, h4.2.1.1, h4.2.2.1.1, h4.2.2.2.1⟩
        rw [show ((s.1[i].1.toNat : Nat) : Int) = s.1[i].1 from Int.toNat_of_nonneg h2]
        exact h4.1.1
      · have h1 : s.2.1[i]? = some s.2.1[i] := List.getElem?_eq_getElem hi
        have := (hop.st.2 sa (hsa (by omega)) i _ h1).1
        unfold sSt
        rw [h1]; exact this
      · have := (hge i hi).2
        rw [hPi i hi]; omega
      · obtain ⟨d, L, rfl, hL, hO, hb⟩ := he
        exact ⟨d, rfl, hb, own2_rel hst hO hL⟩
  · have : (r != 0) = true := by simp [hr0]
    have hy : cond (r != 0) (some ((([], ()), ()) : R8)) _ = some y := hy
    rw [this] at hy
    obtain rfl := Option.some.inj hy
    refine (ahead_bad eo so s.1.length ce s.2.1.length cc r w hr0 hcalls).mono fun e w' he => ?_
    obtain ⟨rfl, hb⟩ := he
    exact ⟨_, rfl, hb, .row _ _ _ _ _ _ (rd_nil _ _ _ _) trivial⟩
end Go.Proofs.Ytnkjnbfaechiaaa.M
