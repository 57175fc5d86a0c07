/-
PRINTED BY vmp.py: the functions of a law, each as a Lean function, and that it is what the code computes.
-/
import Derived.Test.YtepfhidiahleiaaVm42
import Derived.Test.YtepfhidiahleiaaProg
import Derived.Test.YtepfhidiahleiaaChecked
import Derived.KernelRfl
set_option linter.unusedVariables false
set_option maxRecDepth 100000
namespace Go.Proofs.Ytepfhidiahleiaa.M
open Go Go.Proofs Go.Proofs.Ytepfhidiahleiaa.Vm
abbrev T_errorAddressString : Ty := (.pair .str (.pair (.int .u64) .unit))
abbrev D_errorAddressString : Type := (ByteArray × Int × Unit)
abbrev T_Gate : Ty := (.pair i64 (.pair i64 .unit))
abbrev D_Gate : Type := (Int × Int × Unit)
abbrev T_boundsError : Ty := (.pair i64 (.pair i64 (.pair .bool (.pair (.int .u8) .unit))))
abbrev D_boundsError : Type := (Int × Int × Bool × Int × Unit)
abbrev T_Act : Ty := (.pair i64 (.pair .str (.pair i64 (.pair i64 (.pair i64 .unit)))))
abbrev D_Act : Type := (Int × ByteArray × Int × Int × Int × Unit)
abbrev T_Term : Ty := (.pair i64 (.pair .str (.pair i64 (.pair i64 (.pair i64 (.pair i64 .unit))))))
abbrev D_Term : Type := (Int × ByteArray × Int × Int × Int × Int × Unit)
def tl : List (Nat × TI) := [(3, .dat i64 0), (5, .dat (.int .u8) 0), (9, .dat .str 0), (22, .dat (.slice T_Term) 56), (23, .dat (.slice i64) 8), (26, .dat T_Term 0), (33, .dat (.slice T_Act) 48), (34, .ref 0), (40, .dat T_Act 0), (46, .map T_Term i64), (48, .mix 3 [(0, 3), (1, 22), (2, 46)]), (82, .dat (.slice .str) 16), (83, .dat (.slice (.slice .str)) 24)]
def tt := mkT tl
theorem ttOk : TtOk Try.prog tt := mkT_ok (by kernel_rfl)
theorem mixed : Try.prog.follows .mixedOrders = true := by kernel_rfl
/-! f15 fathom/fathomlaw25.light (R) -/
noncomputable def a15 : Shape := ⟨[.d (.slice T_Act)], []⟩
noncomputable def o15 : List Shape := [⟨[.d .bool], []⟩]
abbrev R15 : Type := ((Bool × Unit) × Unit)
abbrev T15 : Type := (List D_Act) → Option R15
noncomputable def u15 (f : T15) : (a15).C → Option (OutC o15) := fun (x : (((List D_Act) × Unit) × Unit)) => f x.1.1
noncomputable def F15 (f : T15) : Fun := ⟨true, runR a15 o15 (u15 f)⟩
noncomputable def pa15_26 : Shape := ⟨[.d (.slice T_Act), .d i64], []⟩
noncomputable def pw15_26 : List Vm.Way := [⟨.exit 0, [], ⟨[], []⟩⟩, ⟨.ret, [2], ⟨[.d .bool], []⟩⟩]
abbrev R15_26 : Type := ((Unit × Unit) ⊕ ((Bool × Unit) × Unit))
abbrev T15_26 : Type := (List D_Act) → Int → Option R15_26
noncomputable def u15_26 (f : T15_26) : (pa15_26).C → Option (WayC pw15_26) := fun (x : (((List D_Act) × Int × Unit) × Unit)) => f x.1.1 x.1.2.1
noncomputable def b15_26 (k : Nat) (rec : T15_26) : T15_26 := fun l0 i3 =>
  cond (decide (i3 < (l0.length : Int)))
    (cond (decide (i3 < 40))
      (ix l0 i3 fun e1 =>
      cond (decide ((e1.2.1.size : Int) > 20))
        (some (.inr ((false, ()), ())))
        ((rec l0 (w64 (i3 + 1))).bind fun y2 =>
        match y2 with
        | .inl y2_0 =>
          some (.inl ((), ()))
        | .inr y2_1 =>
          some (.inr ((y2_1.1.1, ()), ()))))
      (some (.inl ((), ()))))
    (some (.inl ((), ())))
noncomputable def l15_26 (k : Nat) : Nat → T15_26
  | 0 => fun _ _ => none
  | j + 1 => b15_26 k (l15_26 k j)
noncomputable def f15 (k : Nat) : T15 := fun l0 =>
  (l15_26 k k l0 0).bind fun y1 =>
  match y1 with
  | .inl y1_0 =>
    some ((true, ()), ())
  | .inr y1_1 =>
    some ((y1_1.1.1, ()), ())
noncomputable def C15 (k : Nat) : Nat → Fun := mkC []
theorem c15_ok (k : Nat) : ∀ f, SoundFn Try.prog f (C15 k f) := mkC_nil
noncomputable def H15_26 (k : Nat) : Nat → Option Cut := addH noH 26 ⟨runCut (wrC (bodyOf (codeAt 26 (bd Try.f15) 26))) 21 [0, 3] pa15_26 pw15_26 (u15_26 (l15_26 k k))⟩
theorem e15_26 (k : Nat) (rec : T15_26) (x : (pa15_26).C) : roundF (C15 k) tt noH (bodyOf (codeAt 26 (bd Try.f15) 26)) 52 21 [0, 3] pa15_26 pw15_26 (u15_26 rec) x = u15_26 (b15_26 k rec) x := by kernel_rfl
theorem h15_26_ok (k : Nat) : ∀ p S, H15_26 k p = some S → ∀ c, At (bd Try.f15) p c → CutOk Try.prog c S :=
  have hC := c15_ok k
  addLoop hC ttOk (draw_ok hC ttOk mixed) noH_ok (by kernel_rfl) (F := fun j => u15_26 (l15_26 k j)) (fun _ => rfl) (fun j x _ h => (e15_26 k (l15_26 k j) x).trans h) k
theorem e15 (k : Nat) (x : (a15).C) : bodyR (C15 k) tt (H15_26 k) Try.f15 a15 o15 x = u15 (f15 k) x := by kernel_rfl
theorem s15 (k : Nat) : SoundFn Try.prog 15 (F15 (f15 k)) :=
  have hC := c15_ok k
  fnR_sound hC ttOk (draw_ok hC ttOk mixed) Try.func15 (c0 := bd Try.f15) rfl (entry Try.func15 rfl (by decide)) (h15_26_ok k) rfl (fun x _ h => (e15 k x).trans h)
/-! f40 fathom/term.wide (R) -/
noncomputable def a40 : Shape := ⟨[.d i64], []⟩
noncomputable def o40 : List Shape := [⟨[.d .bool], []⟩]
abbrev R40 : Type := ((Bool × Unit) × Unit)
abbrev T40 : Type := Int → Option R40
noncomputable def u40 (f : T40) : (a40).C → Option (OutC o40) := fun (x : ((Int × Unit) × Unit)) => f x.1.1
noncomputable def F40 (f : T40) : Fun := ⟨true, runR a40 o40 (u40 f)⟩
noncomputable def f40 (k : Nat) : T40 := fun w0 =>
  cond (decide (w0 ≥ 1))
    (some (((decide (w0 ≤ 8)), ()), ()))
    (some ((false, ()), ()))
noncomputable def C40 (k : Nat) : Nat → Fun := mkC []
theorem c40_ok (k : Nat) : ∀ f, SoundFn Try.prog f (C40 k f) := mkC_nil
theorem e40 (k : Nat) (x : (a40).C) : bodyR (C40 k) tt noH Try.f40 a40 o40 x = u40 (f40 k) x := by kernel_rfl
theorem s40 (k : Nat) : SoundFn Try.prog 40 (F40 (f40 k)) :=
  have hC := c40_ok k
  fnR_sound hC ttOk (draw_ok hC ttOk mixed) Try.func40 (c0 := bd Try.f40) rfl (entry Try.func40 rfl (by decide)) noH_ok rfl (fun x _ h => (e40 k x).trans h)
/-! f14 fathom/term.New (W) -/
noncomputable def a14 : Shape := ⟨[.d i64], []⟩
noncomputable def o14 : List Shape := [⟨[.nilp, .d i64], []⟩, ⟨[.ptr 0, .d i64], [.box [.d i64, .own T_Term, .mp 1], .map T_Term i64]⟩]
abbrev R14 : Type := (((Unit × Int × Unit) × Unit) ⊕ ((Unit × Int × Unit) × ((Int × (List D_Term) × Unit × Unit) × (List (D_Term × Int)) × Unit)))
abbrev T14 : Type := Int → Option R14
noncomputable def u14 (f : T14) : (a14).C → Option (OutC o14) := fun (x : ((Int × Unit) × Unit)) => f x.1.1
noncomputable def F14 (f : T14) : Fun := ⟨false, runW a14 o14 (u14 f)⟩
noncomputable def f14 (k : Nat) : T14 := fun width0 =>
  (f40 k width0).bind fun y1 =>
  cond (!y1.1.1)
    (some (.inl (((), 1, ()), ())))
    (some (.inr (((), 0, ()), ((width0, [], (), ()), [], ()))))
noncomputable def C14 (k : Nat) : Nat → Fun := mkC [(40, (F40 (f40 k)))]
theorem c14_ok (k : Nat) : ∀ f, SoundFn Try.prog f (C14 k f) := (mkC_cons (s40 k) mkC_nil)
theorem e14 (k : Nat) (x : (a14).C) : bodyW (C14 k) tt noH Try.f14 a14 o14 x = u14 (f14 k) x := by kernel_rfl
theorem s14 (k : Nat) : SoundFn Try.prog 14 (F14 (f14 k)) :=
  have hC := c14_ok k
  fnW_sound hC ttOk (draw_ok hC ttOk mixed) Try.func14 (c0 := bd Try.f14) rfl (entry Try.func14 rfl (by decide)) noH_ok (fun x _ h => (e14 k x).trans h)
/-! f58 (*fathom/term.Terms).add (W) -/
noncomputable def a58 : Shape := ⟨[.ptr 0, .d T_Term], [.box [.d i64, .own T_Term, .mp 1], .map T_Term i64]⟩
noncomputable def o58 : List Shape := [⟨[.d i64], [.box [.d i64, .own T_Term, .mp 1], .map T_Term i64]⟩]
abbrev R58 : Type := ((Int × Unit) × ((Int × (List D_Term) × Unit × Unit) × (List (D_Term × Int)) × Unit))
abbrev T58 : Type := D_Term → Int → (List D_Term) → (List (D_Term × Int)) → Option R58
noncomputable def u58 (f : T58) : (a58).C → Option (OutC o58) := fun (x : ((Unit × D_Term × Unit) × ((Int × (List D_Term) × Unit × Unit) × (List (D_Term × Int)) × Unit))) => f x.1.2.1 x.2.1.1 x.2.1.2.1 x.2.2.1
noncomputable def F58 (f : T58) : Fun := ⟨false, runW a58 o58 (u58 f)⟩
noncomputable def f58 (k : Nat) : T58 := fun x1 o0_0 o0_1 o1 =>
  cond (mget T_Term x1 o1).isSome
    (some ((((mget T_Term x1 o1).getD 0), ()), ((o0_0, o0_1, (), ()), o1, ())))
    (cond ((o0_1.length : Int) == 8192)
      (some (((-1), ()), ((o0_0, o0_1, (), ()), o1, ())))
      (gd (decide ((o0_1.length + 1) * 56 ≤ room)) <|
      some (((w64 (((o0_1 ++ ([x1] : List D_Term)).length : Int) - 1)), ()), ((o0_0, (o0_1 ++ ([x1] : List D_Term)), (), ()), (mput T_Term x1 (w64 (((o0_1 ++ ([x1] : List D_Term)).length : Int) - 1)) o1), ()))))
noncomputable def C58 (k : Nat) : Nat → Fun := mkC []
theorem c58_ok (k : Nat) : ∀ f, SoundFn Try.prog f (C58 k f) := mkC_nil
theorem e58 (k : Nat) (x : (a58).C) : bodyW (C58 k) tt noH Try.f58 a58 o58 x = u58 (f58 k) x := by kernel_rfl
theorem s58 (k : Nat) : SoundFn Try.prog 58 (F58 (f58 k)) :=
  have hC := c58_ok k
  fnW_sound hC ttOk (draw_ok hC ttOk mixed) Try.func58 (c0 := bd Try.f58) rfl (entry Try.func58 rfl (by decide)) noH_ok (fun x _ h => (e58 k x).trans h)
/-! f20 (*fathom/term.Terms).Num (W) -/
noncomputable def a20 : Shape := ⟨[.ptr 0, .d i64], [.box [.d i64, .own T_Term, .mp 1], .map T_Term i64]⟩
noncomputable def o20 : List Shape := [⟨[.d i64], [.box [.d i64, .own T_Term, .mp 1], .map T_Term i64]⟩]
abbrev R20 : Type := ((Int × Unit) × ((Int × (List D_Term) × Unit × Unit) × (List (D_Term × Int)) × Unit))
abbrev T20 : Type := Int → Int → (List D_Term) → (List (D_Term × Int)) → Option R20
noncomputable def u20 (f : T20) : (a20).C → Option (OutC o20) := fun (x : ((Unit × Int × Unit) × ((Int × (List D_Term) × Unit × Unit) × (List (D_Term × Int)) × Unit))) => f x.1.2.1 x.2.1.1 x.2.1.2.1 x.2.2.1
noncomputable def F20 (f : T20) : Fun := ⟨false, runW a20 o20 (u20 f)⟩
noncomputable def f20 (k : Nat) : T20 := fun n1 o0_0 o0_1 o1 =>
  cond (decide (o0_0 < 0))
    (none)
    ((f58 k (1, ByteArray.empty, (ibits .and .i64 n1 (w64 ((w64 (1 * 2 ^ (min o0_0.toNat 64))) - 1))), 0, 0, 0, ()) o0_0 o0_1 o1).bind fun y1 =>
    some ((y1.1.1, ()), ((y1.2.1.1, y1.2.1.2.1, (), ()), y1.2.2.1, ())))
noncomputable def C20 (k : Nat) : Nat → Fun := mkC [(58, (F58 (f58 k)))]
theorem c20_ok (k : Nat) : ∀ f, SoundFn Try.prog f (C20 k f) := (mkC_cons (s58 k) mkC_nil)
theorem e20 (k : Nat) (x : (a20).C) : bodyW (C20 k) tt noH Try.f20 a20 o20 x = u20 (f20 k) x := by kernel_rfl
theorem s20 (k : Nat) : SoundFn Try.prog 20 (F20 (f20 k)) :=
  have hC := c20_ok k
  fnW_sound hC ttOk (draw_ok hC ttOk mixed) Try.func20 (c0 := bd Try.f20) rfl (entry Try.func20 rfl (by decide)) noH_ok (fun x _ h => (e20 k x).trans h)
/-! f105 (*fathom/term.Terms).is$1 (R) -/
noncomputable def a105 : Shape := ⟨[.d i64, .ptr 0], [.box [.ptr 1], .box [.d i64, .d (.slice T_Term), .mp 2], .map T_Term i64]⟩
noncomputable def o105 : List Shape := [⟨[.d .bool], []⟩]
abbrev R105 : Type := ((Bool × Unit) × Unit)
abbrev T105 : Type := Int → Int → (List D_Term) → (List (D_Term × Int)) → Option R105
noncomputable def u105 (f : T105) : (a105).C → Option (OutC o105) := fun (x : ((Int × Unit × Unit) × ((Unit × Unit) × (Int × (List D_Term) × Unit × Unit) × (List (D_Term × Int)) × Unit))) => f x.1.1 x.2.2.1.1 x.2.2.1.2.1 x.2.2.2.1
noncomputable def F105 (f : T105) : Fun := ⟨true, runR a105 o105 (u105 f)⟩
noncomputable def f105 (k : Nat) : T105 := fun i0 o1_0 o1_1 o2 =>
  cond (decide (i0 < 0))
    (some ((true, ()), ()))
    (some (((decide (i0 ≥ (o1_1.length : Int))), ()), ()))
noncomputable def C105 (k : Nat) : Nat → Fun := mkC []
theorem c105_ok (k : Nat) : ∀ f, SoundFn Try.prog f (C105 k f) := mkC_nil
theorem e105 (k : Nat) (x : (a105).C) : bodyR (C105 k) tt noH Try.f105 a105 o105 x = u105 (f105 k) x := by kernel_rfl
theorem s105 (k : Nat) : SoundFn Try.prog 105 (F105 (f105 k)) :=
  have hC := c105_ok k
  fnR_sound hC ttOk (draw_ok hC ttOk mixed) Try.func105 (c0 := bd Try.f105) rfl (entry Try.func105 rfl (by decide)) noH_ok rfl (fun x _ h => (e105 k x).trans h)
/-! f106 slices.IndexFunc[[]int,int] (R) -/
noncomputable def a106 : Shape := ⟨[.d (.slice i64), .fn 105 [0]], [.box [.ptr 1], .box [.d i64, .d (.slice T_Term), .mp 2], .map T_Term i64]⟩
noncomputable def o106 : List Shape := [⟨[.d i64], []⟩]
abbrev R106 : Type := ((Int × Unit) × Unit)
abbrev T106 : Type := (List Int) → Int → (List D_Term) → (List (D_Term × Int)) → Option R106
noncomputable def u106 (f : T106) : (a106).C → Option (OutC o106) := fun (x : (((List Int) × Unit × Unit) × ((Unit × Unit) × (Int × (List D_Term) × Unit × Unit) × (List (D_Term × Int)) × Unit))) => f x.1.1 x.2.2.1.1 x.2.2.1.2.1 x.2.2.2.1
noncomputable def F106 (f : T106) : Fun := ⟨true, runR a106 o106 (u106 f)⟩
noncomputable def pa106_26 : Shape := ⟨[.d (.slice i64), .fn 105 [0], .d i64, .d i64], [.lk (.box [.ptr 1]), .lk (.box [.d i64, .d (.slice T_Term), .mp 2]), .lk (.map T_Term i64)]⟩
noncomputable def pw106_26 : List Vm.Way := [⟨.exit 0, [], ⟨[], [.any, .any, .any]⟩⟩, ⟨.ret, [4], ⟨[.d i64], [.any, .any, .any]⟩⟩]
abbrev R106_26 : Type := ((Unit × (Unit × Unit × Unit × Unit)) ⊕ ((Int × Unit) × (Unit × Unit × Unit × Unit)))
abbrev T106_26 : Type := (List Int) → Int → Int → Int → (List D_Term) → (List (D_Term × Int)) → Option R106_26
noncomputable def u106_26 (f : T106_26) : (pa106_26).C → Option (WayC pw106_26) := fun (x : (((List Int) × Unit × Int × Int × Unit) × ((Unit × Unit) × (Int × (List D_Term) × Unit × Unit) × (List (D_Term × Int)) × Unit))) => f x.1.1 x.1.2.2.1 x.1.2.2.2.1 x.2.2.1.1 x.2.2.1.2.1 x.2.2.2.1
noncomputable def b106_26 (k : Nat) (rec : T106_26) : T106_26 := fun s0 t7 t8 o1_0 o1_1 o2 =>
  cond (decide (t8 < t7))
    (ix s0 t8 fun e1 =>
    (f105 k e1 o1_0 o1_1 o2).bind fun y2 =>
    cond y2.1.1
      (some (.inr ((t8, ()), ((), (), (), ()))))
      ((rec s0 t7 (w64 (t8 + 1)) o1_0 o1_1 o2).bind fun y3 =>
      match y3 with
      | .inl y3_0 =>
        some (.inl ((), ((), (), (), ())))
      | .inr y3_1 =>
        some (.inr ((y3_1.1.1, ()), ((), (), (), ())))))
    (some (.inl ((), ((), (), (), ()))))
noncomputable def l106_26 (k : Nat) : Nat → T106_26
  | 0 => fun _ _ _ _ _ _ => none
  | j + 1 => b106_26 k (l106_26 k j)
noncomputable def f106 (k : Nat) : T106 := fun s0 o1_0 o1_1 o2 =>
  (l106_26 k k s0 (s0.length : Int) 0 o1_0 o1_1 o2).bind fun y1 =>
  match y1 with
  | .inl y1_0 =>
    some (((-1), ()), ())
  | .inr y1_1 =>
    some ((y1_1.1.1, ()), ())
noncomputable def C106 (k : Nat) : Nat → Fun := mkC [(105, (F105 (f105 k)))]
theorem c106_ok (k : Nat) : ∀ f, SoundFn Try.prog f (C106 k f) := (mkC_cons (s105 k) mkC_nil)
noncomputable def H106_26 (k : Nat) : Nat → Option Cut := addH noH 26 ⟨runCut (wrC (bodyOf (codeAt 26 (bd Try.f106) 26))) 19 [0, 1, 7, 8] pa106_26 pw106_26 (u106_26 (l106_26 k k))⟩
theorem e106_26 (k : Nat) (rec : T106_26) (x : (pa106_26).C) : roundF (C106 k) tt noH (bodyOf (codeAt 26 (bd Try.f106) 26)) 52 19 [0, 1, 7, 8] pa106_26 pw106_26 (u106_26 rec) x = u106_26 (b106_26 k rec) x := by kernel_rfl
theorem h106_26_ok (k : Nat) : ∀ p S, H106_26 k p = some S → ∀ c, At (bd Try.f106) p c → CutOk Try.prog c S :=
  have hC := c106_ok k
  addLoop hC ttOk (draw_ok hC ttOk mixed) noH_ok (by kernel_rfl) (F := fun j => u106_26 (l106_26 k j)) (fun _ => rfl) (fun j x _ h => (e106_26 k (l106_26 k j) x).trans h) k
theorem e106 (k : Nat) (x : (a106).C) : bodyR (C106 k) tt (H106_26 k) Try.f106 a106 o106 x = u106 (f106 k) x := by kernel_rfl
theorem s106 (k : Nat) : SoundFn Try.prog 106 (F106 (f106 k)) :=
  have hC := c106_ok k
  fnR_sound hC ttOk (draw_ok hC ttOk mixed) Try.func106 (c0 := bd Try.f106) rfl (entry Try.func106 rfl (by decide)) (h106_26_ok k) rfl (fun x _ h => (e106 k x).trans h)
/-! f86 slices.ContainsFunc[[]int,int] (R) -/
noncomputable def a86 : Shape := ⟨[.d (.slice i64), .fn 105 [0]], [.box [.ptr 1], .box [.d i64, .d (.slice T_Term), .mp 2], .map T_Term i64]⟩
noncomputable def o86 : List Shape := [⟨[.d .bool], []⟩]
abbrev R86 : Type := ((Bool × Unit) × Unit)
abbrev T86 : Type := (List Int) → Int → (List D_Term) → (List (D_Term × Int)) → Option R86
noncomputable def u86 (f : T86) : (a86).C → Option (OutC o86) := fun (x : (((List Int) × Unit × Unit) × ((Unit × Unit) × (Int × (List D_Term) × Unit × Unit) × (List (D_Term × Int)) × Unit))) => f x.1.1 x.2.2.1.1 x.2.2.1.2.1 x.2.2.2.1
noncomputable def F86 (f : T86) : Fun := ⟨true, runR a86 o86 (u86 f)⟩
noncomputable def f86 (k : Nat) : T86 := fun s0 o1_0 o1_1 o2 =>
  (f106 k s0 o1_0 o1_1 o2).bind fun y1 =>
  some (((decide (y1.1.1 ≥ 0)), ()), ())
noncomputable def C86 (k : Nat) : Nat → Fun := mkC [(106, (F106 (f106 k)))]
theorem c86_ok (k : Nat) : ∀ f, SoundFn Try.prog f (C86 k f) := (mkC_cons (s106 k) mkC_nil)
theorem e86 (k : Nat) (x : (a86).C) : bodyR (C86 k) tt noH Try.f86 a86 o86 x = u86 (f86 k) x := by kernel_rfl
theorem s86 (k : Nat) : SoundFn Try.prog 86 (F86 (f86 k)) :=
  have hC := c86_ok k
  fnR_sound hC ttOk (draw_ok hC ttOk mixed) Try.func86 (c0 := bd Try.f86) rfl (entry Try.func86 rfl (by decide)) noH_ok rfl (fun x _ h => (e86 k x).trans h)
/-! f81v2 (*fathom/term.Terms).is (R) -/
noncomputable def a81v2 : Shape := ⟨[.ptr 0, .d (.slice i64)], [.box [.d i64, .d (.slice T_Term), .mp 1], .map T_Term i64]⟩
noncomputable def o81v2 : List Shape := [⟨[.d .bool], []⟩]
abbrev R81v2 : Type := ((Bool × Unit) × Unit)
abbrev T81v2 : Type := (List Int) → Int → (List D_Term) → (List (D_Term × Int)) → Option R81v2
noncomputable def u81v2 (f : T81v2) : (a81v2).C → Option (OutC o81v2) := fun (x : ((Unit × (List Int) × Unit) × ((Int × (List D_Term) × Unit × Unit) × (List (D_Term × Int)) × Unit))) => f x.1.2.1 x.2.1.1 x.2.1.2.1 x.2.2.1
noncomputable def F81v2 (f : T81v2) : Fun := ⟨true, runR a81v2 o81v2 (u81v2 f)⟩
noncomputable def f81v2 (k : Nat) : T81v2 := fun l1 o0_0 o0_1 o1 =>
  (f86 k l1 o0_0 o0_1 o1).bind fun y1 =>
  some (((!y1.1.1), ()), ())
noncomputable def C81v2 (k : Nat) : Nat → Fun := mkC [(86, (F86 (f86 k)))]
theorem c81v2_ok (k : Nat) : ∀ f, SoundFn Try.prog f (C81v2 k f) := (mkC_cons (s86 k) mkC_nil)
theorem e81v2 (k : Nat) (x : (a81v2).C) : bodyR (C81v2 k) tt noH Try.f81 a81v2 o81v2 x = u81v2 (f81v2 k) x := by kernel_rfl
theorem s81v2 (k : Nat) : SoundFn Try.prog 81 (F81v2 (f81v2 k)) :=
  have hC := c81v2_ok k
  fnR_sound hC ttOk (draw_ok hC ttOk mixed) Try.func81 (c0 := bd Try.f81) rfl (entry Try.func81 rfl (by decide)) noH_ok rfl (fun x _ h => (e81v2 k x).trans h)
/-! f82 fathom/tree.Binary (R) -/
noncomputable def a82 : Shape := ⟨[.d .str], []⟩
noncomputable def o82 : List Shape := [⟨[.d i64], []⟩]
abbrev R82 : Type := ((Int × Unit) × Unit)
abbrev T82 : Type := ByteArray → Option R82
noncomputable def u82 (f : T82) : (a82).C → Option (OutC o82) := fun (x : ((ByteArray × Unit) × Unit)) => f x.1.1
noncomputable def F82 (f : T82) : Fun := ⟨true, runR a82 o82 (u82 f)⟩
noncomputable def pa82_441854 : Shape := ⟨[.d .str], []⟩
noncomputable def pw82_441854 : List Vm.Way := [⟨.normal, [16], ⟨[.d .bool], []⟩⟩]
abbrev R82_441854 : Type := ((Bool × Unit) × Unit)
abbrev T82_441854 : Type := ByteArray → Option R82_441854
noncomputable def u82_441854 (f : T82_441854) : (pa82_441854).C → Option (WayC pw82_441854) := fun (x : ((ByteArray × Unit) × Unit)) => f x.1.1
noncomputable def l82_441854 (k : Nat) : T82_441854 := fun t3 =>
  some (((t3.toList == (ByteArray.mk #[62]).toList), ()), ())
noncomputable def pa82_110462 : Shape := ⟨[.d .str], []⟩
noncomputable def pw82_110462 : List Vm.Way := [⟨.normal, [16], ⟨[.d .bool], []⟩⟩]
abbrev R82_110462 : Type := ((Bool × Unit) × Unit)
abbrev T82_110462 : Type := ByteArray → Option R82_110462
noncomputable def u82_110462 (f : T82_110462) : (pa82_110462).C → Option (WayC pw82_110462) := fun (x : ((ByteArray × Unit) × Unit)) => f x.1.1
noncomputable def l82_110462 (k : Nat) : T82_110462 := fun t3 =>
  some (((t3.toList == (ByteArray.mk #[60, 61]).toList), ()), ())
noncomputable def pa82_27614 : Shape := ⟨[.d .str], []⟩
noncomputable def pw82_27614 : List Vm.Way := [⟨.normal, [16], ⟨[.d .bool], []⟩⟩]
abbrev R82_27614 : Type := ((Bool × Unit) × Unit)
abbrev T82_27614 : Type := ByteArray → Option R82_27614
noncomputable def u82_27614 (f : T82_27614) : (pa82_27614).C → Option (WayC pw82_27614) := fun (x : ((ByteArray × Unit) × Unit)) => f x.1.1
noncomputable def l82_27614 (k : Nat) : T82_27614 := fun t3 =>
  some (((t3.toList == (ByteArray.mk #[60]).toList), ()), ())
noncomputable def pa82_13822 : Shape := ⟨[.d .str], []⟩
noncomputable def pw82_13822 : List Vm.Way := [⟨.normal, [25], ⟨[.d .bool], []⟩⟩]
abbrev R82_13822 : Type := ((Bool × Unit) × Unit)
abbrev T82_13822 : Type := ByteArray → Option R82_13822
noncomputable def u82_13822 (f : T82_13822) : (pa82_13822).C → Option (WayC pw82_13822) := fun (x : ((ByteArray × Unit) × Unit)) => f x.1.1
noncomputable def l82_13822 (k : Nat) : T82_13822 := fun t3 =>
  some (((t3.toList == (ByteArray.mk #[124, 124]).toList), ()), ())
noncomputable def pa82_6902 : Shape := ⟨[.d .str], []⟩
noncomputable def pw82_6902 : List Vm.Way := [⟨.normal, [16], ⟨[.d .bool], []⟩⟩]
abbrev R82_6902 : Type := ((Bool × Unit) × Unit)
abbrev T82_6902 : Type := ByteArray → Option R82_6902
noncomputable def u82_6902 (f : T82_6902) : (pa82_6902).C → Option (WayC pw82_6902) := fun (x : ((ByteArray × Unit) × Unit)) => f x.1.1
noncomputable def l82_6902 (k : Nat) : T82_6902 := fun t3 =>
  some (((t3.toList == (ByteArray.mk #[33, 61]).toList), ()), ())
noncomputable def pa82_6878 : Shape := ⟨[.d .str], []⟩
noncomputable def pw82_6878 : List Vm.Way := [⟨.normal, [11], ⟨[.d .bool], []⟩⟩]
abbrev R82_6878 : Type := ((Bool × Unit) × Unit)
abbrev T82_6878 : Type := ByteArray → Option R82_6878
noncomputable def u82_6878 (f : T82_6878) : (pa82_6878).C → Option (WayC pw82_6878) := fun (x : ((ByteArray × Unit) × Unit)) => f x.1.1
noncomputable def l82_6878 (k : Nat) : T82_6878 := fun t3 =>
  some (((t3.toList == (ByteArray.mk #[124]).toList), ()), ())
noncomputable def pa82_3454 : Shape := ⟨[.d .str], []⟩
noncomputable def pw82_3454 : List Vm.Way := [⟨.normal, [23], ⟨[.d .bool], []⟩⟩]
abbrev R82_3454 : Type := ((Bool × Unit) × Unit)
abbrev T82_3454 : Type := ByteArray → Option R82_3454
noncomputable def u82_3454 (f : T82_3454) : (pa82_3454).C → Option (WayC pw82_3454) := fun (x : ((ByteArray × Unit) × Unit)) => f x.1.1
noncomputable def l82_3454 (k : Nat) : T82_3454 := fun t3 =>
  some (((t3.toList == (ByteArray.mk #[38, 38]).toList), ()), ())
noncomputable def pa82_1724 : Shape := ⟨[.d .str], []⟩
noncomputable def pw82_1724 : List Vm.Way := [⟨.normal, [16], ⟨[.d .bool], []⟩⟩]
abbrev R82_1724 : Type := ((Bool × Unit) × Unit)
abbrev T82_1724 : Type := ByteArray → Option R82_1724
noncomputable def u82_1724 (f : T82_1724) : (pa82_1724).C → Option (WayC pw82_1724) := fun (x : ((ByteArray × Unit) × Unit)) => f x.1.1
noncomputable def l82_1724 (k : Nat) : T82_1724 := fun t3 =>
  some (((t3.toList == (ByteArray.mk #[61, 61]).toList), ()), ())
noncomputable def pa82_1718 : Shape := ⟨[.d .str], []⟩
noncomputable def pw82_1718 : List Vm.Way := [⟨.normal, [11], ⟨[.d .bool], []⟩⟩]
abbrev R82_1718 : Type := ((Bool × Unit) × Unit)
abbrev T82_1718 : Type := ByteArray → Option R82_1718
noncomputable def u82_1718 (f : T82_1718) : (pa82_1718).C → Option (WayC pw82_1718) := fun (x : ((ByteArray × Unit) × Unit)) => f x.1.1
noncomputable def l82_1718 (k : Nat) : T82_1718 := fun t3 =>
  some (((t3.toList == (ByteArray.mk #[45]).toList), ()), ())
noncomputable def pa82_862 : Shape := ⟨[.d .str], []⟩
noncomputable def pw82_862 : List Vm.Way := [⟨.normal, [16], ⟨[.d .bool], []⟩⟩]
abbrev R82_862 : Type := ((Bool × Unit) × Unit)
abbrev T82_862 : Type := ByteArray → Option R82_862
noncomputable def u82_862 (f : T82_862) : (pa82_862).C → Option (WayC pw82_862) := fun (x : ((ByteArray × Unit) × Unit)) => f x.1.1
noncomputable def l82_862 (k : Nat) : T82_862 := fun t3 =>
  (l82_1724 k t3).bind fun y1 =>
  cond y1.1.1
    (some ((y1.1.1, ()), ()))
    ((l82_6902 k t3).bind fun y2 =>
    cond y2.1.1
      (some ((y2.1.1, ()), ()))
      ((l82_27614 k t3).bind fun y3 =>
      cond y3.1.1
        (some ((y3.1.1, ()), ()))
        ((l82_110462 k t3).bind fun y4 =>
        cond y4.1.1
          (some ((y4.1.1, ()), ()))
          ((l82_441854 k t3).bind fun y5 =>
          cond y5.1.1
            (some ((y5.1.1, ()), ()))
            (some (((t3.toList == (ByteArray.mk #[62, 61]).toList), ()), ()))))))
noncomputable def pa82_428 : Shape := ⟨[.d .str], []⟩
noncomputable def pw82_428 : List Vm.Way := [⟨.normal, [11], ⟨[.d .bool], []⟩⟩]
abbrev R82_428 : Type := ((Bool × Unit) × Unit)
abbrev T82_428 : Type := ByteArray → Option R82_428
noncomputable def u82_428 (f : T82_428) : (pa82_428).C → Option (WayC pw82_428) := fun (x : ((ByteArray × Unit) × Unit)) => f x.1.1
noncomputable def l82_428 (k : Nat) : T82_428 := fun t3 =>
  some (((t3.toList == (ByteArray.mk #[43]).toList), ()), ())
noncomputable def pa82_214 : Shape := ⟨[.d .str], []⟩
noncomputable def pw82_214 : List Vm.Way := [⟨.normal, [11], ⟨[.d .bool], []⟩⟩]
abbrev R82_214 : Type := ((Bool × Unit) × Unit)
abbrev T82_214 : Type := ByteArray → Option R82_214
noncomputable def u82_214 (f : T82_214) : (pa82_214).C → Option (WayC pw82_214) := fun (x : ((ByteArray × Unit) × Unit)) => f x.1.1
noncomputable def l82_214 (k : Nat) : T82_214 := fun t3 =>
  (l82_428 k t3).bind fun y1 =>
  cond y1.1.1
    (some ((y1.1.1, ()), ()))
    ((l82_1718 k t3).bind fun y2 =>
    cond y2.1.1
      (some ((y2.1.1, ()), ()))
      ((l82_6878 k t3).bind fun y3 =>
      cond y3.1.1
        (some ((y3.1.1, ()), ()))
        (some (((t3.toList == (ByteArray.mk #[94]).toList), ()), ()))))
noncomputable def pa82_52 : Shape := ⟨[.d .str], []⟩
noncomputable def pw82_52 : List Vm.Way := [⟨.normal, [4], ⟨[.d .bool], []⟩⟩]
abbrev R82_52 : Type := ((Bool × Unit) × Unit)
abbrev T82_52 : Type := ByteArray → Option R82_52
noncomputable def u82_52 (f : T82_52) : (pa82_52).C → Option (WayC pw82_52) := fun (x : ((ByteArray × Unit) × Unit)) => f x.1.1
noncomputable def l82_52 (k : Nat) : T82_52 := fun t3 =>
  cond (t3.toList == (ByteArray.mk #[42]).toList)
    (some (((t3.toList == (ByteArray.mk #[42]).toList), ()), ()))
    (cond (t3.toList == (ByteArray.mk #[47]).toList)
      (some (((t3.toList == (ByteArray.mk #[47]).toList), ()), ()))
      (cond (t3.toList == (ByteArray.mk #[37]).toList)
        (some (((t3.toList == (ByteArray.mk #[37]).toList), ()), ()))
        (cond (t3.toList == (ByteArray.mk #[60, 60]).toList)
          (some (((t3.toList == (ByteArray.mk #[60, 60]).toList), ()), ()))
          (cond (t3.toList == (ByteArray.mk #[62, 62]).toList)
            (some (((t3.toList == (ByteArray.mk #[62, 62]).toList), ()), ()))
            (some (((t3.toList == (ByteArray.mk #[38]).toList), ()), ()))))))
noncomputable def f82 (k : Nat) : T82 := fun op0 =>
  (l82_52 k op0).bind fun y1 =>
  cond y1.1.1
    (some ((5, ()), ()))
    ((l82_214 k op0).bind fun y2 =>
    cond y2.1.1
      (some ((4, ()), ()))
      ((l82_862 k op0).bind fun y3 =>
      cond y3.1.1
        (some ((3, ()), ()))
        ((l82_3454 k op0).bind fun y4 =>
        cond y4.1.1
          (some ((2, ()), ()))
          ((l82_13822 k op0).bind fun y5 =>
          cond y5.1.1
            (some ((1, ()), ()))
            (some ((0, ()), ()))))))
noncomputable def C82 (k : Nat) : Nat → Fun := mkC []
theorem c82_ok (k : Nat) : ∀ f, SoundFn Try.prog f (C82 k f) := mkC_nil
noncomputable def H82_441854 (k : Nat) : Nat → Option Cut := addH noH 441854 ⟨runCut (wrC (codeAt 441854 (bd Try.f82) 441854)) 27 [3] pa82_441854 pw82_441854 (u82_441854 (l82_441854 k))⟩
theorem e82_441854 (k : Nat) (x : (pa82_441854).C) : pieceF (C82 k) tt noH (codeAt 441854 (bd Try.f82) 441854) 441854 27 [3] pa82_441854 pw82_441854 x = u82_441854 (l82_441854 k) x := by kernel_rfl
theorem h82_441854_ok (k : Nat) : ∀ p S, H82_441854 k p = some S → ∀ c, At (bd Try.f82) p c → CutOk Try.prog c S :=
  have hC := c82_ok k
  addPiece hC ttOk (draw_ok hC ttOk mixed) noH_ok (fun x _ h => (e82_441854 k x).trans h)
noncomputable def H82_110462 (k : Nat) : Nat → Option Cut := addH (H82_441854 k) 110462 ⟨runCut (wrC (codeAt 110462 (bd Try.f82) 110462)) 27 [3] pa82_110462 pw82_110462 (u82_110462 (l82_110462 k))⟩
theorem e82_110462 (k : Nat) (x : (pa82_110462).C) : pieceF (C82 k) tt (H82_441854 k) (codeAt 110462 (bd Try.f82) 110462) 110462 27 [3] pa82_110462 pw82_110462 x = u82_110462 (l82_110462 k) x := by kernel_rfl
theorem h82_110462_ok (k : Nat) : ∀ p S, H82_110462 k p = some S → ∀ c, At (bd Try.f82) p c → CutOk Try.prog c S :=
  have hC := c82_ok k
  addPiece hC ttOk (draw_ok hC ttOk mixed) (h82_441854_ok k) (fun x _ h => (e82_110462 k x).trans h)
noncomputable def H82_27614 (k : Nat) : Nat → Option Cut := addH (H82_110462 k) 27614 ⟨runCut (wrC (codeAt 27614 (bd Try.f82) 27614)) 27 [3] pa82_27614 pw82_27614 (u82_27614 (l82_27614 k))⟩
theorem e82_27614 (k : Nat) (x : (pa82_27614).C) : pieceF (C82 k) tt (H82_110462 k) (codeAt 27614 (bd Try.f82) 27614) 27614 27 [3] pa82_27614 pw82_27614 x = u82_27614 (l82_27614 k) x := by kernel_rfl
theorem h82_27614_ok (k : Nat) : ∀ p S, H82_27614 k p = some S → ∀ c, At (bd Try.f82) p c → CutOk Try.prog c S :=
  have hC := c82_ok k
  addPiece hC ttOk (draw_ok hC ttOk mixed) (h82_110462_ok k) (fun x _ h => (e82_27614 k x).trans h)
noncomputable def H82_13822 (k : Nat) : Nat → Option Cut := addH (H82_27614 k) 13822 ⟨runCut (wrC (codeAt 13822 (bd Try.f82) 13822)) 27 [3] pa82_13822 pw82_13822 (u82_13822 (l82_13822 k))⟩
theorem e82_13822 (k : Nat) (x : (pa82_13822).C) : pieceF (C82 k) tt (H82_27614 k) (codeAt 13822 (bd Try.f82) 13822) 13822 27 [3] pa82_13822 pw82_13822 x = u82_13822 (l82_13822 k) x := by kernel_rfl
theorem h82_13822_ok (k : Nat) : ∀ p S, H82_13822 k p = some S → ∀ c, At (bd Try.f82) p c → CutOk Try.prog c S :=
  have hC := c82_ok k
  addPiece hC ttOk (draw_ok hC ttOk mixed) (h82_27614_ok k) (fun x _ h => (e82_13822 k x).trans h)
noncomputable def H82_6902 (k : Nat) : Nat → Option Cut := addH (H82_13822 k) 6902 ⟨runCut (wrC (codeAt 6902 (bd Try.f82) 6902)) 27 [3] pa82_6902 pw82_6902 (u82_6902 (l82_6902 k))⟩
theorem e82_6902 (k : Nat) (x : (pa82_6902).C) : pieceF (C82 k) tt (H82_13822 k) (codeAt 6902 (bd Try.f82) 6902) 6902 27 [3] pa82_6902 pw82_6902 x = u82_6902 (l82_6902 k) x := by kernel_rfl
theorem h82_6902_ok (k : Nat) : ∀ p S, H82_6902 k p = some S → ∀ c, At (bd Try.f82) p c → CutOk Try.prog c S :=
  have hC := c82_ok k
  addPiece hC ttOk (draw_ok hC ttOk mixed) (h82_13822_ok k) (fun x _ h => (e82_6902 k x).trans h)
noncomputable def H82_6878 (k : Nat) : Nat → Option Cut := addH (H82_6902 k) 6878 ⟨runCut (wrC (codeAt 6878 (bd Try.f82) 6878)) 27 [3] pa82_6878 pw82_6878 (u82_6878 (l82_6878 k))⟩
theorem e82_6878 (k : Nat) (x : (pa82_6878).C) : pieceF (C82 k) tt (H82_6902 k) (codeAt 6878 (bd Try.f82) 6878) 6878 27 [3] pa82_6878 pw82_6878 x = u82_6878 (l82_6878 k) x := by kernel_rfl
theorem h82_6878_ok (k : Nat) : ∀ p S, H82_6878 k p = some S → ∀ c, At (bd Try.f82) p c → CutOk Try.prog c S :=
  have hC := c82_ok k
  addPiece hC ttOk (draw_ok hC ttOk mixed) (h82_6902_ok k) (fun x _ h => (e82_6878 k x).trans h)
noncomputable def H82_3454 (k : Nat) : Nat → Option Cut := addH (H82_6878 k) 3454 ⟨runCut (wrC (codeAt 3454 (bd Try.f82) 3454)) 27 [3] pa82_3454 pw82_3454 (u82_3454 (l82_3454 k))⟩
theorem e82_3454 (k : Nat) (x : (pa82_3454).C) : pieceF (C82 k) tt (H82_6878 k) (codeAt 3454 (bd Try.f82) 3454) 3454 27 [3] pa82_3454 pw82_3454 x = u82_3454 (l82_3454 k) x := by kernel_rfl
theorem h82_3454_ok (k : Nat) : ∀ p S, H82_3454 k p = some S → ∀ c, At (bd Try.f82) p c → CutOk Try.prog c S :=
  have hC := c82_ok k
  addPiece hC ttOk (draw_ok hC ttOk mixed) (h82_6878_ok k) (fun x _ h => (e82_3454 k x).trans h)
noncomputable def H82_1724 (k : Nat) : Nat → Option Cut := addH (H82_3454 k) 1724 ⟨runCut (wrC (codeAt 1724 (bd Try.f82) 1724)) 27 [3] pa82_1724 pw82_1724 (u82_1724 (l82_1724 k))⟩
theorem e82_1724 (k : Nat) (x : (pa82_1724).C) : pieceF (C82 k) tt (H82_3454 k) (codeAt 1724 (bd Try.f82) 1724) 1724 27 [3] pa82_1724 pw82_1724 x = u82_1724 (l82_1724 k) x := by kernel_rfl
theorem h82_1724_ok (k : Nat) : ∀ p S, H82_1724 k p = some S → ∀ c, At (bd Try.f82) p c → CutOk Try.prog c S :=
  have hC := c82_ok k
  addPiece hC ttOk (draw_ok hC ttOk mixed) (h82_3454_ok k) (fun x _ h => (e82_1724 k x).trans h)
noncomputable def H82_1718 (k : Nat) : Nat → Option Cut := addH (H82_1724 k) 1718 ⟨runCut (wrC (codeAt 1718 (bd Try.f82) 1718)) 27 [3] pa82_1718 pw82_1718 (u82_1718 (l82_1718 k))⟩
theorem e82_1718 (k : Nat) (x : (pa82_1718).C) : pieceF (C82 k) tt (H82_1724 k) (codeAt 1718 (bd Try.f82) 1718) 1718 27 [3] pa82_1718 pw82_1718 x = u82_1718 (l82_1718 k) x := by kernel_rfl
theorem h82_1718_ok (k : Nat) : ∀ p S, H82_1718 k p = some S → ∀ c, At (bd Try.f82) p c → CutOk Try.prog c S :=
  have hC := c82_ok k
  addPiece hC ttOk (draw_ok hC ttOk mixed) (h82_1724_ok k) (fun x _ h => (e82_1718 k x).trans h)
noncomputable def H82_862 (k : Nat) : Nat → Option Cut := addH (H82_1718 k) 862 ⟨runCut (wrC (codeAt 862 (bd Try.f82) 862)) 27 [3] pa82_862 pw82_862 (u82_862 (l82_862 k))⟩
theorem e82_862 (k : Nat) (x : (pa82_862).C) : pieceF (C82 k) tt (H82_1718 k) (codeAt 862 (bd Try.f82) 862) 862 27 [3] pa82_862 pw82_862 x = u82_862 (l82_862 k) x := by kernel_rfl
theorem h82_862_ok (k : Nat) : ∀ p S, H82_862 k p = some S → ∀ c, At (bd Try.f82) p c → CutOk Try.prog c S :=
  have hC := c82_ok k
  addPiece hC ttOk (draw_ok hC ttOk mixed) (h82_1718_ok k) (fun x _ h => (e82_862 k x).trans h)
noncomputable def H82_428 (k : Nat) : Nat → Option Cut := addH (H82_862 k) 428 ⟨runCut (wrC (codeAt 428 (bd Try.f82) 428)) 27 [3] pa82_428 pw82_428 (u82_428 (l82_428 k))⟩
theorem e82_428 (k : Nat) (x : (pa82_428).C) : pieceF (C82 k) tt (H82_862 k) (codeAt 428 (bd Try.f82) 428) 428 27 [3] pa82_428 pw82_428 x = u82_428 (l82_428 k) x := by kernel_rfl
theorem h82_428_ok (k : Nat) : ∀ p S, H82_428 k p = some S → ∀ c, At (bd Try.f82) p c → CutOk Try.prog c S :=
  have hC := c82_ok k
  addPiece hC ttOk (draw_ok hC ttOk mixed) (h82_862_ok k) (fun x _ h => (e82_428 k x).trans h)
noncomputable def H82_214 (k : Nat) : Nat → Option Cut := addH (H82_428 k) 214 ⟨runCut (wrC (codeAt 214 (bd Try.f82) 214)) 27 [3] pa82_214 pw82_214 (u82_214 (l82_214 k))⟩
theorem e82_214 (k : Nat) (x : (pa82_214).C) : pieceF (C82 k) tt (H82_428 k) (codeAt 214 (bd Try.f82) 214) 214 27 [3] pa82_214 pw82_214 x = u82_214 (l82_214 k) x := by kernel_rfl
theorem h82_214_ok (k : Nat) : ∀ p S, H82_214 k p = some S → ∀ c, At (bd Try.f82) p c → CutOk Try.prog c S :=
  have hC := c82_ok k
  addPiece hC ttOk (draw_ok hC ttOk mixed) (h82_428_ok k) (fun x _ h => (e82_214 k x).trans h)
noncomputable def H82_52 (k : Nat) : Nat → Option Cut := addH (H82_214 k) 52 ⟨runCut (wrC (codeAt 52 (bd Try.f82) 52)) 27 [3] pa82_52 pw82_52 (u82_52 (l82_52 k))⟩
theorem e82_52 (k : Nat) (x : (pa82_52).C) : pieceF (C82 k) tt (H82_214 k) (codeAt 52 (bd Try.f82) 52) 52 27 [3] pa82_52 pw82_52 x = u82_52 (l82_52 k) x := by kernel_rfl
theorem h82_52_ok (k : Nat) : ∀ p S, H82_52 k p = some S → ∀ c, At (bd Try.f82) p c → CutOk Try.prog c S :=
  have hC := c82_ok k
  addPiece hC ttOk (draw_ok hC ttOk mixed) (h82_214_ok k) (fun x _ h => (e82_52 k x).trans h)
theorem e82 (k : Nat) (x : (a82).C) : bodyR (C82 k) tt (H82_52 k) Try.f82 a82 o82 x = u82 (f82 k) x := by kernel_rfl
theorem s82 (k : Nat) : SoundFn Try.prog 82 (F82 (f82 k)) :=
  have hC := c82_ok k
  fnR_sound hC ttOk (draw_ok hC ttOk mixed) Try.func82 (c0 := bd Try.f82) rfl (entry Try.func82 rfl (by decide)) (h82_52_ok k) rfl (fun x _ h => (e82 k x).trans h)
/-! f83v2 (*fathom/term.Terms).num (R) -/
noncomputable def a83v2 : Shape := ⟨[.ptr 0, .d i64], [.box [.d i64, .d (.slice T_Term), .mp 1], .map T_Term i64]⟩
noncomputable def o83v2 : List Shape := [⟨[.d i64, .d .bool], []⟩]
abbrev R83v2 : Type := ((Int × Bool × Unit) × Unit)
abbrev T83v2 : Type := Int → Int → (List D_Term) → (List (D_Term × Int)) → Option R83v2
noncomputable def u83v2 (f : T83v2) : (a83v2).C → Option (OutC o83v2) := fun (x : ((Unit × Int × Unit) × ((Int × (List D_Term) × Unit × Unit) × (List (D_Term × Int)) × Unit))) => f x.1.2.1 x.2.1.1 x.2.1.2.1 x.2.2.1
noncomputable def F83v2 (f : T83v2) : Fun := ⟨true, runR a83v2 o83v2 (u83v2 f)⟩
noncomputable def f83v2 (k : Nat) : T83v2 := fun i1 o0_0 o0_1 o1 =>
  ix o0_1 i1 fun e1 =>
  ix o0_1 i1 fun e2 =>
  some ((e1.2.2.1, (e2.1 == 1), ()), ())
noncomputable def C83v2 (k : Nat) : Nat → Fun := mkC []
theorem c83v2_ok (k : Nat) : ∀ f, SoundFn Try.prog f (C83v2 k f) := mkC_nil
theorem e83v2 (k : Nat) (x : (a83v2).C) : bodyR (C83v2 k) tt noH Try.f83 a83v2 o83v2 x = u83v2 (f83v2 k) x := by kernel_rfl
theorem s83v2 (k : Nat) : SoundFn Try.prog 83 (F83v2 (f83v2 k)) :=
  have hC := c83v2_ok k
  fnR_sound hC ttOk (draw_ok hC ttOk mixed) Try.func83 (c0 := bd Try.f83) rfl (entry Try.func83 rfl (by decide)) noH_ok rfl (fun x _ h => (e83v2 k x).trans h)
/-! f66 fathom/term.truth (R) -/
noncomputable def a66 : Shape := ⟨[.d .bool], []⟩
noncomputable def o66 : List Shape := [⟨[.d i64], []⟩]
abbrev R66 : Type := ((Int × Unit) × Unit)
abbrev T66 : Type := Bool → Option R66
noncomputable def u66 (f : T66) : (a66).C → Option (OutC o66) := fun (x : ((Bool × Unit) × Unit)) => f x.1.1
noncomputable def F66 (f : T66) : Fun := ⟨true, runR a66 o66 (u66 f)⟩
noncomputable def f66 (k : Nat) : T66 := fun is0 =>
  cond is0
    (some ((1, ()), ()))
    (some ((0, ()), ()))
noncomputable def C66 (k : Nat) : Nat → Fun := mkC []
theorem c66_ok (k : Nat) : ∀ f, SoundFn Try.prog f (C66 k f) := mkC_nil
theorem e66 (k : Nat) (x : (a66).C) : bodyR (C66 k) tt noH Try.f66 a66 o66 x = u66 (f66 k) x := by kernel_rfl
theorem s66 (k : Nat) : SoundFn Try.prog 66 (F66 (f66 k)) :=
  have hC := c66_ok k
  fnR_sound hC ttOk (draw_ok hC ttOk mixed) Try.func66 (c0 := bd Try.f66) rfl (entry Try.func66 rfl (by decide)) noH_ok rfl (fun x _ h => (e66 k x).trans h)
/-! f67 fathom/term.number (R) -/
noncomputable def a67 : Shape := ⟨[.d i64, .d .str, .d i64, .d i64], []⟩
noncomputable def o67 : List Shape := [⟨[.d i64], []⟩]
abbrev R67 : Type := ((Int × Unit) × Unit)
abbrev T67 : Type := Int → ByteArray → Int → Int → Option R67
noncomputable def u67 (f : T67) : (a67).C → Option (OutC o67) := fun (x : ((Int × ByteArray × Int × Int × Unit) × Unit)) => f x.1.1 x.1.2.1 x.1.2.2.1 x.1.2.2.2.1
noncomputable def F67 (f : T67) : Fun := ⟨true, runR a67 o67 (u67 f)⟩
noncomputable def f67 (k : Nat) : T67 := fun w0 op1 a2 b3 =>
  cond (op1.toList == (ByteArray.mk #[42]).toList)
    (some (((w64 (a2 * b3)), ()), ()))
    (cond (op1.toList == (ByteArray.mk #[47]).toList)
      (cond (b3 == 0)
        (some (((-1), ()), ()))
        (cond (decide (b3 = 0))
          (none)
          (some (((w64 (Int.tdiv a2 b3)), ()), ()))))
      (cond (op1.toList == (ByteArray.mk #[37]).toList)
        (cond (b3 == 0)
          (some ((a2, ()), ()))
          (cond (decide (b3 = 0))
            (none)
            (some (((Int.tmod a2 b3), ()), ()))))
        (cond (op1.toList == (ByteArray.mk #[60, 60]).toList)
          (cond (decide (b3 ≥ w0))
            (some ((0, ()), ()))
            (cond (decide (b3 < 0))
              (none)
              (some (((w64 (a2 * 2 ^ (min b3.toNat 64))), ()), ()))))
          (cond (op1.toList == (ByteArray.mk #[62, 62]).toList)
            (cond (decide (b3 ≥ w0))
              (some ((0, ()), ()))
              (cond (decide (b3 < 0))
                (none)
                (some (((Int.fdiv a2 (2 ^ (min b3.toNat 64))), ()), ()))))
            (cond (op1.toList == (ByteArray.mk #[38]).toList)
              (some (((ibits .and .i64 a2 b3), ()), ()))
              (cond (op1.toList == (ByteArray.mk #[43]).toList)
                (some (((w64 (a2 + b3)), ()), ()))
                (cond (op1.toList == (ByteArray.mk #[45]).toList)
                  (some (((w64 (a2 - b3)), ()), ()))
                  (cond (op1.toList == (ByteArray.mk #[124]).toList)
                    (some (((ibits .or .i64 a2 b3), ()), ()))
                    (cond (op1.toList == (ByteArray.mk #[94]).toList)
                      (some (((ibits .xor .i64 a2 b3), ()), ()))
                      (some ((0, ()), ())))))))))))
noncomputable def C67 (k : Nat) : Nat → Fun := mkC []
theorem c67_ok (k : Nat) : ∀ f, SoundFn Try.prog f (C67 k f) := mkC_nil
theorem e67 (k : Nat) (x : (a67).C) : bodyR (C67 k) tt noH Try.f67 a67 o67 x = u67 (f67 k) x := by kernel_rfl
theorem s67 (k : Nat) : SoundFn Try.prog 67 (F67 (f67 k)) :=
  have hC := c67_ok k
  fnR_sound hC ttOk (draw_ok hC ttOk mixed) Try.func67 (c0 := bd Try.f67) rfl (entry Try.func67 rfl (by decide)) noH_ok rfl (fun x _ h => (e67 k x).trans h)
/-! f25 fathom/term.Apply (R) -/
noncomputable def a25 : Shape := ⟨[.d i64, .d .str, .d i64, .d i64], []⟩
noncomputable def o25 : List Shape := [⟨[.d i64], []⟩]
abbrev R25 : Type := ((Int × Unit) × Unit)
abbrev T25 : Type := Int → ByteArray → Int → Int → Option R25
noncomputable def u25 (f : T25) : (a25).C → Option (OutC o25) := fun (x : ((Int × ByteArray × Int × Int × Unit) × Unit)) => f x.1.1 x.1.2.1 x.1.2.2.1 x.1.2.2.2.1
noncomputable def F25 (f : T25) : Fun := ⟨true, runR a25 o25 (u25 f)⟩
noncomputable def f25 (k : Nat) : T25 := fun w0 op1 a2 b3 =>
  (f40 k w0).bind fun y1 =>
  cond (!y1.1.1)
    (some ((0, ()), ()))
    (cond (decide (w0 < 0))
      (none)
      (cond (op1.toList == (ByteArray.mk #[61, 61]).toList)
        ((f66 k ((ibits .and .i64 a2 (w64 ((w64 (1 * 2 ^ (min w0.toNat 64))) - 1))) == (ibits .and .i64 b3 (w64 ((w64 (1 * 2 ^ (min w0.toNat 64))) - 1))))).bind fun y2 =>
        some ((y2.1.1, ()), ()))
        (cond (op1.toList == (ByteArray.mk #[33, 61]).toList)
          ((f66 k ((ibits .and .i64 a2 (w64 ((w64 (1 * 2 ^ (min w0.toNat 64))) - 1))) != (ibits .and .i64 b3 (w64 ((w64 (1 * 2 ^ (min w0.toNat 64))) - 1))))).bind fun y3 =>
          some ((y3.1.1, ()), ()))
          (cond (op1.toList == (ByteArray.mk #[60]).toList)
            ((f66 k (decide ((ibits .and .i64 a2 (w64 ((w64 (1 * 2 ^ (min w0.toNat 64))) - 1))) < (ibits .and .i64 b3 (w64 ((w64 (1 * 2 ^ (min w0.toNat 64))) - 1)))))).bind fun y4 =>
            some ((y4.1.1, ()), ()))
            (cond (op1.toList == (ByteArray.mk #[60, 61]).toList)
              ((f66 k (decide ((ibits .and .i64 a2 (w64 ((w64 (1 * 2 ^ (min w0.toNat 64))) - 1))) ≤ (ibits .and .i64 b3 (w64 ((w64 (1 * 2 ^ (min w0.toNat 64))) - 1)))))).bind fun y5 =>
              some ((y5.1.1, ()), ()))
              (cond (op1.toList == (ByteArray.mk #[62]).toList)
                ((f66 k (decide ((ibits .and .i64 a2 (w64 ((w64 (1 * 2 ^ (min w0.toNat 64))) - 1))) > (ibits .and .i64 b3 (w64 ((w64 (1 * 2 ^ (min w0.toNat 64))) - 1)))))).bind fun y6 =>
                some ((y6.1.1, ()), ()))
                (cond (op1.toList == (ByteArray.mk #[62, 61]).toList)
                  ((f66 k (decide ((ibits .and .i64 a2 (w64 ((w64 (1 * 2 ^ (min w0.toNat 64))) - 1))) ≥ (ibits .and .i64 b3 (w64 ((w64 (1 * 2 ^ (min w0.toNat 64))) - 1)))))).bind fun y7 =>
                  some ((y7.1.1, ()), ()))
                  (cond (op1.toList == (ByteArray.mk #[38, 38]).toList)
                    (cond ((ibits .and .i64 a2 (w64 ((w64 (1 * 2 ^ (min w0.toNat 64))) - 1))) != 0)
                      ((f66 k ((ibits .and .i64 b3 (w64 ((w64 (1 * 2 ^ (min w0.toNat 64))) - 1))) != 0)).bind fun y8 =>
                      some ((y8.1.1, ()), ()))
                      ((f66 k false).bind fun y9 =>
                      some ((y9.1.1, ()), ())))
                    (cond (op1.toList == (ByteArray.mk #[124, 124]).toList)
                      (cond ((ibits .and .i64 a2 (w64 ((w64 (1 * 2 ^ (min w0.toNat 64))) - 1))) != 0)
                        ((f66 k true).bind fun y10 =>
                        some ((y10.1.1, ()), ()))
                        ((f66 k ((ibits .and .i64 b3 (w64 ((w64 (1 * 2 ^ (min w0.toNat 64))) - 1))) != 0)).bind fun y11 =>
                        some ((y11.1.1, ()), ())))
                      ((f67 k w0 op1 (ibits .and .i64 a2 (w64 ((w64 (1 * 2 ^ (min w0.toNat 64))) - 1))) (ibits .and .i64 b3 (w64 ((w64 (1 * 2 ^ (min w0.toNat 64))) - 1)))).bind fun y12 =>
                      let v13 := ibits .and .i64 y12.1.1 (w64 ((w64 (1 * 2 ^ (min w0.toNat 64))) - 1))
                      some ((v13, ()), ())))))))))))
noncomputable def C25 (k : Nat) : Nat → Fun := mkC [(40, (F40 (f40 k))), (66, (F66 (f66 k))), (67, (F67 (f67 k)))]
theorem c25_ok (k : Nat) : ∀ f, SoundFn Try.prog f (C25 k f) := (mkC_cons (s40 k) (mkC_cons (s66 k) (mkC_cons (s67 k) mkC_nil)))
theorem e25 (k : Nat) (x : (a25).C) : bodyR (C25 k) tt noH Try.f25 a25 o25 x = u25 (f25 k) x := by kernel_rfl
theorem s25 (k : Nat) : SoundFn Try.prog 25 (F25 (f25 k)) :=
  have hC := c25_ok k
  fnR_sound hC ttOk (draw_ok hC ttOk mixed) Try.func25 (c0 := bd Try.f25) rfl (entry Try.func25 rfl (by decide)) noH_ok rfl (fun x _ h => (e25 k x).trans h)
/-! f37v2 (*fathom/term.Terms).Binary (W) -/
noncomputable def a37v2 : Shape := ⟨[.ptr 0, .d .str, .d i64, .d i64], [.box [.d i64, .own T_Term, .mp 1], .map T_Term i64]⟩
noncomputable def o37v2 : List Shape := [⟨[.d i64], [.box [.d i64, .own T_Term, .mp 1], .map T_Term i64]⟩]
abbrev R37v2 : Type := ((Int × Unit) × ((Int × (List D_Term) × Unit × Unit) × (List (D_Term × Int)) × Unit))
abbrev T37v2 : Type := ByteArray → Int → Int → Int → (List D_Term) → (List (D_Term × Int)) → Option R37v2
noncomputable def u37v2 (f : T37v2) : (a37v2).C → Option (OutC o37v2) := fun (x : ((Unit × ByteArray × Int × Int × Unit) × ((Int × (List D_Term) × Unit × Unit) × (List (D_Term × Int)) × Unit))) => f x.1.2.1 x.1.2.2.1 x.1.2.2.2.1 x.2.1.1 x.2.1.2.1 x.2.2.1
noncomputable def F37v2 (f : T37v2) : Fun := ⟨false, runW a37v2 o37v2 (u37v2 f)⟩
noncomputable def f37v2 (k : Nat) : T37v2 := fun op1 a2 b3 o0_0 o0_1 o1 =>
  (f81v2 k [a2, b3] o0_0 o0_1 o1).bind fun y1 =>
  cond (!y1.1.1)
    (some (((-1), ()), ((o0_0, o0_1, (), ()), o1, ())))
    ((f82 k op1).bind fun y2 =>
    cond (y2.1.1 == 0)
      (some (((-1), ()), ((o0_0, o0_1, (), ()), o1, ())))
      ((f83v2 k a2 o0_0 o0_1 o1).bind fun y3 =>
      (f83v2 k b3 o0_0 o0_1 o1).bind fun y4 =>
      cond y3.1.2.1
        (cond y4.1.2.1
          ((f25 k o0_0 op1 y3.1.1 y4.1.1).bind fun y5 =>
          (f20 k y5.1.1 o0_0 o0_1 o1).bind fun y6 =>
          some ((y6.1.1, ()), ((y6.2.1.1, y6.2.1.2.1, (), ()), y6.2.2.1, ())))
          ((f58 k (4, op1, 0, a2, b3, 0, ()) o0_0 o0_1 o1).bind fun y7 =>
          some ((y7.1.1, ()), ((y7.2.1.1, y7.2.1.2.1, (), ()), y7.2.2.1, ()))))
        ((f58 k (4, op1, 0, a2, b3, 0, ()) o0_0 o0_1 o1).bind fun y8 =>
        some ((y8.1.1, ()), ((y8.2.1.1, y8.2.1.2.1, (), ()), y8.2.2.1, ())))))
noncomputable def C37v2 (k : Nat) : Nat → Fun := mkC [(20, (F20 (f20 k))), (25, (F25 (f25 k))), (58, (F58 (f58 k))), (81, (F81v2 (f81v2 k))), (82, (F82 (f82 k))), (83, (F83v2 (f83v2 k)))]
theorem c37v2_ok (k : Nat) : ∀ f, SoundFn Try.prog f (C37v2 k f) := (mkC_cons (s20 k) (mkC_cons (s25 k) (mkC_cons (s58 k) (mkC_cons (s81v2 k) (mkC_cons (s82 k) (mkC_cons (s83v2 k) mkC_nil))))))
theorem e37v2 (k : Nat) (x : (a37v2).C) : bodyW (C37v2 k) tt noH Try.f37 a37v2 o37v2 x = u37v2 (f37v2 k) x := by kernel_rfl
theorem s37v2 (k : Nat) : SoundFn Try.prog 37 (F37v2 (f37v2 k)) :=
  have hC := c37v2_ok k
  fnW_sound hC ttOk (draw_ok hC ttOk mixed) Try.func37 (c0 := bd Try.f37) rfl (entry Try.func37 rfl (by decide)) noH_ok (fun x _ h => (e37v2 k x).trans h)
/-! f57v2 slices.Clone[[]fathom/api.Term,fathom/api.Term] (R) -/
noncomputable def a57v2 : Shape := ⟨[.nils], []⟩
noncomputable def o57v2 : List Shape := [⟨[.d (.slice T_Term)], []⟩]
abbrev R57v2 : Type := (((List D_Term) × Unit) × Unit)
abbrev T57v2 : Type := Unit → Option R57v2
noncomputable def u57v2 (f : T57v2) : (a57v2).C → Option (OutC o57v2) := fun (x : ((Unit × Unit) × Unit)) => f ()
noncomputable def F57v2 (f : T57v2) : Fun := ⟨true, runR a57v2 o57v2 (u57v2 f)⟩
noncomputable def f57v2 (k : Nat) : T57v2 := fun _ =>
  some (([], ()), ())
noncomputable def C57v2 (k : Nat) : Nat → Fun := mkC []
theorem c57v2_ok (k : Nat) : ∀ f, SoundFn Try.prog f (C57v2 k f) := mkC_nil
theorem e57v2 (k : Nat) (x : (a57v2).C) : bodyR (C57v2 k) tt noH Try.f57 a57v2 o57v2 x = u57v2 (f57v2 k) x := by kernel_rfl
theorem s57v2 (k : Nat) : SoundFn Try.prog 57 (F57v2 (f57v2 k)) :=
  have hC := c57v2_ok k
  fnR_sound hC ttOk (draw_ok hC ttOk mixed) Try.func57 (c0 := bd Try.f57) rfl (entry Try.func57 rfl (by decide)) noH_ok rfl (fun x _ h => (e57v2 k x).trans h)
/-! f57v3 slices.Clone[[]fathom/api.Term,fathom/api.Term] (R) -/
noncomputable def a57v3 : Shape := ⟨[.nn T_Term], []⟩
noncomputable def o57v3 : List Shape := [⟨[.d (.slice T_Term)], []⟩]
abbrev R57v3 : Type := (((List D_Term) × Unit) × Unit)
abbrev T57v3 : Type := (List D_Term) → Option R57v3
noncomputable def u57v3 (f : T57v3) : (a57v3).C → Option (OutC o57v3) := fun (x : (((List D_Term) × Unit) × Unit)) => f x.1.1
noncomputable def F57v3 (f : T57v3) : Fun := ⟨true, runR a57v3 o57v3 (u57v3 f)⟩
noncomputable def f57v3 (k : Nat) : T57v3 := fun s0 =>
  gd (decide ((0 + s0.length) * 56 ≤ room)) <|
  some (((([] : List D_Term) ++ s0), ()), ())
noncomputable def C57v3 (k : Nat) : Nat → Fun := mkC []
theorem c57v3_ok (k : Nat) : ∀ f, SoundFn Try.prog f (C57v3 k f) := mkC_nil
theorem e57v3 (k : Nat) (x : (a57v3).C) : bodyR (C57v3 k) tt noH Try.f57 a57v3 o57v3 x = u57v3 (f57v3 k) x := by kernel_rfl
theorem s57v3 (k : Nat) : SoundFn Try.prog 57 (F57v3 (f57v3 k)) :=
  have hC := c57v3_ok k
  fnR_sound hC ttOk (draw_ok hC ttOk mixed) Try.func57 (c0 := bd Try.f57) rfl (entry Try.func57 rfl (by decide)) noH_ok rfl (fun x _ h => (e57v3 k x).trans h)
/-! f57 slices.Clone[[]fathom/api.Term,fathom/api.Term] (R) -/
noncomputable def a57 : Shape := ⟨[.d (.slice T_Term)], []⟩
noncomputable def o57 : List Shape := [⟨[.d (.slice T_Term)], []⟩]
abbrev R57 : Type := (((List D_Term) × Unit) × Unit)
abbrev T57 : Type := (List D_Term) → Option R57
noncomputable def u57 (f : T57) : (a57).C → Option (OutC o57) := fun (x : (((List D_Term) × Unit) × Unit)) => f x.1.1
noncomputable def F57 (f : T57) : Fun := ⟨true, runR a57 o57 (u57 f)⟩
noncomputable def f57 (k : Nat) : T57 := fun s0 => f57v3 k s0
theorem s57 (k : Nat) : SoundFn Try.prog 57 (F57 (f57 k)) := splitR (s57v2 k) (s57v3 k) (fun xs y h => ⟨h, fun e => by subst e; exact (show u57v2 (f57v2 k) (((), ()), ()) = u57v3 (f57v3 k) (([], ()), ()) from by kernel_rfl).trans h⟩)
/-! f19v2 (*fathom/term.Terms).All (R) -/
noncomputable def a19v2 : Shape := ⟨[.ptr 0], [.box [.d i64, .d (.slice T_Term), .mp 1], .map T_Term i64]⟩
noncomputable def o19v2 : List Shape := [⟨[.d (.slice T_Term)], []⟩]
abbrev R19v2 : Type := (((List D_Term) × Unit) × Unit)
abbrev T19v2 : Type := Int → (List D_Term) → (List (D_Term × Int)) → Option R19v2
noncomputable def u19v2 (f : T19v2) : (a19v2).C → Option (OutC o19v2) := fun (x : ((Unit × Unit) × ((Int × (List D_Term) × Unit × Unit) × (List (D_Term × Int)) × Unit))) => f x.2.1.1 x.2.1.2.1 x.2.2.1
noncomputable def F19v2 (f : T19v2) : Fun := ⟨true, runR a19v2 o19v2 (u19v2 f)⟩
noncomputable def f19v2 (k : Nat) : T19v2 := fun o0_0 o0_1 o1 =>
  (f57 k o0_1).bind fun y1 =>
  some ((y1.1.1, ()), ())
noncomputable def C19v2 (k : Nat) : Nat → Fun := mkC [(57, (F57 (f57 k)))]
theorem c19v2_ok (k : Nat) : ∀ f, SoundFn Try.prog f (C19v2 k f) := (mkC_cons (s57 k) mkC_nil)
theorem e19v2 (k : Nat) (x : (a19v2).C) : bodyR (C19v2 k) tt noH Try.f19 a19v2 o19v2 x = u19v2 (f19v2 k) x := by kernel_rfl
theorem s19v2 (k : Nat) : SoundFn Try.prog 19 (F19v2 (f19v2 k)) :=
  have hC := c19v2_ok k
  fnR_sound hC ttOk (draw_ok hC ttOk mixed) Try.func19 (c0 := bd Try.f19) rfl (entry Try.func19 rfl (by decide)) noH_ok rfl (fun x _ h => (e19v2 k x).trans h)
/-! f8 fathom/fathomlaw25.awake (R) -/
noncomputable def a8 : Shape := ⟨[], []⟩
noncomputable def o8 : List Shape := [⟨[.d .bool], []⟩]
abbrev R8 : Type := ((Bool × Unit) × Unit)
abbrev T8 : Type := Unit → Option R8
noncomputable def u8 (f : T8) : (a8).C → Option (OutC o8) := fun (x : (Unit × Unit)) => f ()
noncomputable def F8 (f : T8) : Fun := ⟨true, runR a8 o8 (u8 f)⟩
noncomputable def f8 (k : Nat) : T8 := fun _ =>
  (f14 k 2).bind fun y1 =>
  match y1 with
  | .inl y1_0 =>
    cond (y1_0.1.2.1 != 0)
      (some ((false, ()), ()))
      (some ((false, ()), ()))
  | .inr y1_1 =>
    cond (y1_1.1.2.1 != 0)
      (some ((false, ()), ()))
      ((f20 k 3 y1_1.2.1.1 y1_1.2.1.2.1 y1_1.2.2.1).bind fun y2 =>
      (f20 k 2 y2.2.1.1 y2.2.1.2.1 y2.2.2.1).bind fun y3 =>
      (f37v2 k (ByteArray.mk #[43]) y2.1.1 y3.1.1 y3.2.1.1 y3.2.1.2.1 y3.2.2.1).bind fun y4 =>
      cond (y4.1.1 == 2)
        ((f19v2 k y4.2.1.1 y4.2.1.2.1 y4.2.2.1).bind fun y5 =>
        ix y5.1.1 2 fun e6 =>
        cond (e6.2.2.1 == 1)
          ((f37v2 k (ByteArray.mk #[43]) y2.1.1 y3.1.1 y4.2.1.1 y4.2.1.2.1 y4.2.2.1).bind fun y7 =>
          some (((y7.1.1 == y4.1.1), ()), ()))
          (some ((false, ()), ())))
        (some ((false, ()), ())))
noncomputable def C8 (k : Nat) : Nat → Fun := mkC [(14, (F14 (f14 k))), (19, (F19v2 (f19v2 k))), (20, (F20 (f20 k))), (37, (F37v2 (f37v2 k)))]
theorem c8_ok (k : Nat) : ∀ f, SoundFn Try.prog f (C8 k f) := (mkC_cons (s14 k) (mkC_cons (s19v2 k) (mkC_cons (s20 k) (mkC_cons (s37v2 k) mkC_nil))))
theorem e8 (k : Nat) (x : (a8).C) : bodyR (C8 k) tt noH Try.f8 a8 o8 x = u8 (f8 k) x := by kernel_rfl
theorem s8 (k : Nat) : SoundFn Try.prog 8 (F8 (f8 k)) :=
  have hC := c8_ok k
  fnR_sound hC ttOk (draw_ok hC ttOk mixed) Try.func8 (c0 := bd Try.f8) rfl (entry Try.func8 rfl (by decide)) noH_ok rfl (fun x _ h => (e8 k x).trans h)
/-! f19 (*fathom/term.Terms).All (R) -/
noncomputable def a19 : Shape := ⟨[.nilp], []⟩
noncomputable def o19 : List Shape := [⟨[.d (.slice T_Term)], []⟩]
abbrev R19 : Type := (((List D_Term) × Unit) × Unit)
abbrev T19 : Type := Unit → Option R19
noncomputable def u19 (f : T19) : (a19).C → Option (OutC o19) := fun (x : ((Unit × Unit) × Unit)) => f ()
noncomputable def F19 (f : T19) : Fun := ⟨true, runR a19 o19 (u19 f)⟩
noncomputable def f19 (k : Nat) : T19 := fun _ =>
  some (([], ()), ())
noncomputable def C19 (k : Nat) : Nat → Fun := mkC []
theorem c19_ok (k : Nat) : ∀ f, SoundFn Try.prog f (C19 k f) := mkC_nil
theorem e19 (k : Nat) (x : (a19).C) : bodyR (C19 k) tt noH Try.f19 a19 o19 x = u19 (f19 k) x := by kernel_rfl
theorem s19 (k : Nat) : SoundFn Try.prog 19 (F19 (f19 k)) :=
  have hC := c19_ok k
  fnR_sound hC ttOk (draw_ok hC ttOk mixed) Try.func19 (c0 := bd Try.f19) rfl (entry Try.func19 rfl (by decide)) noH_ok rfl (fun x _ h => (e19 k x).trans h)
/-! f59 fathom/fathomref16.Power (R) -/
noncomputable def a59 : Shape := ⟨[.d i64], []⟩
noncomputable def o59 : List Shape := [⟨[.d i64], []⟩]
abbrev R59 : Type := ((Int × Unit) × Unit)
abbrev T59 : Type := Int → Option R59
noncomputable def u59 (f : T59) : (a59).C → Option (OutC o59) := fun (x : ((Int × Unit) × Unit)) => f x.1.1
noncomputable def F59 (f : T59) : Fun := ⟨true, runR a59 o59 (u59 f)⟩
noncomputable def f59 (k : Nat) : T59 := fun w0 =>
  cond (decide (w0 < 0))
    (none)
    (some (((w64 (1 * 2 ^ (min w0.toNat 64))), ()), ()))
noncomputable def C59 (k : Nat) : Nat → Fun := mkC []
theorem c59_ok (k : Nat) : ∀ f, SoundFn Try.prog f (C59 k f) := mkC_nil
theorem e59 (k : Nat) (x : (a59).C) : bodyR (C59 k) tt noH Try.f59 a59 o59 x = u59 (f59 k) x := by kernel_rfl
theorem s59 (k : Nat) : SoundFn Try.prog 59 (F59 (f59 k)) :=
  have hC := c59_ok k
  fnR_sound hC ttOk (draw_ok hC ttOk mixed) Try.func59 (c0 := bd Try.f59) rfl (entry Try.func59 rfl (by decide)) noH_ok rfl (fun x _ h => (e59 k x).trans h)
/-! f84 fathom/fathomref25.ahead (R) -/
noncomputable def a84 : Shape := ⟨[.d i64, .d i64], []⟩
noncomputable def o84 : List Shape := [⟨[.d .bool], []⟩]
abbrev R84 : Type := ((Bool × Unit) × Unit)
abbrev T84 : Type := Int → Int → Option R84
noncomputable def u84 (f : T84) : (a84).C → Option (OutC o84) := fun (x : ((Int × Int × Unit) × Unit)) => f x.1.1 x.1.2.1
noncomputable def F84 (f : T84) : Fun := ⟨true, runR a84 o84 (u84 f)⟩
noncomputable def f84 (k : Nat) : T84 := fun k0 i1 =>
  cond (decide (k0 ≥ 0))
    (some (((decide (k0 < i1)), ()), ()))
    (some ((false, ()), ()))
noncomputable def C84 (k : Nat) : Nat → Fun := mkC []
theorem c84_ok (k : Nat) : ∀ f, SoundFn Try.prog f (C84 k f) := mkC_nil
theorem e84 (k : Nat) (x : (a84).C) : bodyR (C84 k) tt noH Try.f84 a84 o84 x = u84 (f84 k) x := by kernel_rfl
theorem s84 (k : Nat) : SoundFn Try.prog 84 (F84 (f84 k)) :=
  have hC := c84_ok k
  fnR_sound hC ttOk (draw_ok hC ttOk mixed) Try.func84 (c0 := bd Try.f84) rfl (entry Try.func84 rfl (by decide)) noH_ok rfl (fun x _ h => (e84 k x).trans h)
/-! f26 fathom/fathomref21.Binary (R) -/
noncomputable def a26 : Shape := ⟨[.d .str], []⟩
noncomputable def o26 : List Shape := [⟨[.d i64], []⟩]
abbrev R26 : Type := ((Int × Unit) × Unit)
abbrev T26 : Type := ByteArray → Option R26
noncomputable def u26 (f : T26) : (a26).C → Option (OutC o26) := fun (x : ((ByteArray × Unit) × Unit)) => f x.1.1
noncomputable def F26 (f : T26) : Fun := ⟨true, runR a26 o26 (u26 f)⟩
noncomputable def pa26_3730 : Shape := ⟨[.d .str, .own (.slice .str), .d i64, .d i64], []⟩
noncomputable def pw26_3730 : List Vm.Way := [⟨.exit 2, [3], ⟨[.own (.slice .str)], []⟩⟩, ⟨.ret, [2], ⟨[.d i64], []⟩⟩]
abbrev R26_3730 : Type := ((((List (List ByteArray)) × Unit) × Unit) ⊕ ((Int × Unit) × Unit))
abbrev T26_3730 : Type := ByteArray → (List (List ByteArray)) → Int → Int → Option R26_3730
noncomputable def u26_3730 (f : T26_3730) : (pa26_3730).C → Option (WayC pw26_3730) := fun (x : ((ByteArray × (List (List ByteArray)) × Int × Int × Unit) × Unit)) => f x.1.1 x.1.2.1 x.1.2.2.1 x.1.2.2.2.1
noncomputable def b26_3730 (k : Nat) (rec : T26_3730) : T26_3730 := fun op0 l3 i4 k5 =>
  ix l3 i4 fun e1 =>
  cond (decide (k5 < (e1.length : Int)))
    (ix l3 i4 fun e2 =>
    ix e2 k5 fun e3 =>
    cond (e3.toList == op0.toList)
      (some (.inr (((w64 (i4 + 1)), ()), ())))
      ((rec op0 l3 i4 (w64 (k5 + 1))).bind fun y4 =>
      match y4 with
      | .inl y4_0 =>
        some (.inl ((y4_0.1.1, ()), ()))
      | .inr y4_1 =>
        some (.inr ((y4_1.1.1, ()), ()))))
    (some (.inl ((l3, ()), ())))
noncomputable def l26_3730 (k : Nat) : Nat → T26_3730
  | 0 => fun _ _ _ _ => none
  | j + 1 => b26_3730 k (l26_3730 k j)
noncomputable def pa26_58 : Shape := ⟨[.d .str, .own (.slice .str), .d i64], []⟩
noncomputable def pw26_58 : List Vm.Way := [⟨.exit 0, [], ⟨[], []⟩⟩, ⟨.ret, [2], ⟨[.d i64], []⟩⟩]
abbrev R26_58 : Type := ((Unit × Unit) ⊕ ((Int × Unit) × Unit))
abbrev T26_58 : Type := ByteArray → (List (List ByteArray)) → Int → Option R26_58
noncomputable def u26_58 (f : T26_58) : (pa26_58).C → Option (WayC pw26_58) := fun (x : ((ByteArray × (List (List ByteArray)) × Int × Unit) × Unit)) => f x.1.1 x.1.2.1 x.1.2.2.1
noncomputable def b26_58 (k : Nat) (rec : T26_58) : T26_58 := fun op0 l3 i4 =>
  cond (decide (i4 < (l3.length : Int)))
    ((l26_3730 k k op0 l3 i4 0).bind fun y1 =>
    match y1 with
    | .inl y1_0 =>
      (rec op0 y1_0.1.1 (w64 (i4 + 1))).bind fun y2 =>
      match y2 with
      | .inl y2_0 =>
        some (.inl ((), ()))
      | .inr y2_1 =>
        some (.inr ((y2_1.1.1, ()), ()))
    | .inr y1_1 =>
      some (.inr ((y1_1.1.1, ()), ())))
    (some (.inl ((), ())))
noncomputable def l26_58 (k : Nat) : Nat → T26_58
  | 0 => fun _ _ _ => none
  | j + 1 => b26_58 k (l26_58 k j)
noncomputable def f26 (k : Nat) : T26 := fun op0 =>
  (l26_58 k k op0 [[(ByteArray.mk #[124, 124])], [(ByteArray.mk #[38, 38])], [(ByteArray.mk #[61, 61]), (ByteArray.mk #[33, 61]), (ByteArray.mk #[60]), (ByteArray.mk #[60, 61]), (ByteArray.mk #[62]), (ByteArray.mk #[62, 61])], [(ByteArray.mk #[43]), (ByteArray.mk #[45]), (ByteArray.mk #[124]), (ByteArray.mk #[94])], [(ByteArray.mk #[42]), (ByteArray.mk #[47]), (ByteArray.mk #[37]), (ByteArray.mk #[60, 60]), (ByteArray.mk #[62, 62]), (ByteArray.mk #[38])]] 0).bind fun y1 =>
  match y1 with
  | .inl y1_0 =>
    some ((0, ()), ())
  | .inr y1_1 =>
    some ((y1_1.1.1, ()), ())
noncomputable def C26 (k : Nat) : Nat → Fun := mkC []
theorem c26_ok (k : Nat) : ∀ f, SoundFn Try.prog f (C26 k f) := mkC_nil
noncomputable def H26_3730 (k : Nat) : Nat → Option Cut := addH noH 3730 ⟨runCut (wrC (bodyOf (codeAt 3730 (bd Try.f26) 3730))) 38 [0, 3, 4, 5] pa26_3730 pw26_3730 (u26_3730 (l26_3730 k k))⟩
theorem e26_3730 (k : Nat) (rec : T26_3730) (x : (pa26_3730).C) : roundF (C26 k) tt noH (bodyOf (codeAt 3730 (bd Try.f26) 3730)) 7460 38 [0, 3, 4, 5] pa26_3730 pw26_3730 (u26_3730 rec) x = u26_3730 (b26_3730 k rec) x := by kernel_rfl
theorem h26_3730_ok (k : Nat) : ∀ p S, H26_3730 k p = some S → ∀ c, At (bd Try.f26) p c → CutOk Try.prog c S :=
  have hC := c26_ok k
  addLoop hC ttOk (draw_ok hC ttOk mixed) noH_ok (by kernel_rfl) (F := fun j => u26_3730 (l26_3730 k j)) (fun _ => rfl) (fun j x _ h => (e26_3730 k (l26_3730 k j) x).trans h) k
noncomputable def H26_58 (k : Nat) : Nat → Option Cut := addH (H26_3730 k) 58 ⟨runCut (wrC (bodyOf (codeAt 58 (bd Try.f26) 58))) 38 [0, 3, 4] pa26_58 pw26_58 (u26_58 (l26_58 k k))⟩
theorem e26_58 (k : Nat) (rec : T26_58) (x : (pa26_58).C) : roundF (C26 k) tt (H26_3730 k) (bodyOf (codeAt 58 (bd Try.f26) 58)) 116 38 [0, 3, 4] pa26_58 pw26_58 (u26_58 rec) x = u26_58 (b26_58 k rec) x := by kernel_rfl
theorem h26_58_ok (k : Nat) : ∀ p S, H26_58 k p = some S → ∀ c, At (bd Try.f26) p c → CutOk Try.prog c S :=
  have hC := c26_ok k
  addLoop hC ttOk (draw_ok hC ttOk mixed) (h26_3730_ok k) (by kernel_rfl) (F := fun j => u26_58 (l26_58 k j)) (fun _ => rfl) (fun j x _ h => (e26_58 k (l26_58 k j) x).trans h) k
theorem e26 (k : Nat) (x : (a26).C) : bodyR (C26 k) tt (H26_58 k) Try.f26 a26 o26 x = u26 (f26 k) x := by kernel_rfl
theorem s26 (k : Nat) : SoundFn Try.prog 26 (F26 (f26 k)) :=
  have hC := c26_ok k
  fnR_sound hC ttOk (draw_ok hC ttOk mixed) Try.func26 (c0 := bd Try.f26) rfl (entry Try.func26 rfl (by decide)) (h26_58_ok k) rfl (fun x _ h => (e26 k x).trans h)
/-! f39 fathom/fathomref25.Fits (R) -/
noncomputable def a39 : Shape := ⟨[.d i64, .d i64, .d T_Term], []⟩
noncomputable def o39 : List Shape := [⟨[.d .bool], []⟩]
abbrev R39 : Type := ((Bool × Unit) × Unit)
abbrev T39 : Type := Int → Int → D_Term → Option R39
noncomputable def u39 (f : T39) : (a39).C → Option (OutC o39) := fun (x : ((Int × Int × D_Term × Unit) × Unit)) => f x.1.1 x.1.2.1 x.1.2.2.1
noncomputable def F39 (f : T39) : Fun := ⟨true, runR a39 o39 (u39 f)⟩
noncomputable def pa39_126 : Shape := ⟨[.d i64, .ptr 0], [.box [.d i64, .d .str, .d i64, .d i64, .d i64, .d i64]]⟩
noncomputable def pw39_126 : List Vm.Way := [⟨.normal, [11], ⟨[.d .bool], [.box [.d i64, .d .str, .d i64, .d i64, .d i64, .d i64]]⟩⟩]
abbrev R39_126 : Type := ((Bool × Unit) × ((Int × ByteArray × Int × Int × Int × Int × Unit) × Unit))
abbrev T39_126 : Type := Int → Int → ByteArray → Int → Int → Int → Int → Option R39_126
noncomputable def u39_126 (f : T39_126) : (pa39_126).C → Option (WayC pw39_126) := fun (x : ((Int × Unit × Unit) × ((Int × ByteArray × Int × Int × Int × Int × Unit) × Unit))) => f x.1.1 x.2.1.1 x.2.1.2.1 x.2.1.2.2.1 x.2.1.2.2.2.1 x.2.1.2.2.2.2.1 x.2.1.2.2.2.2.2.1
noncomputable def l39_126 (k : Nat) : T39_126 := fun i1 o0_0 o0_1 o0_2 o0_3 o0_4 o0_5 =>
  cond (o0_0 == 5)
    (cond (o0_1.toList == ByteArray.empty.toList)
      (cond (o0_2 == 0)
        ((f84 k o0_3 i1).bind fun y1 =>
        cond y1.1.1
          ((f84 k o0_4 i1).bind fun y2 =>
          cond y2.1.1
            ((f84 k o0_5 i1).bind fun y3 =>
            some ((y3.1.1, ()), ((o0_0, o0_1, o0_2, o0_3, o0_4, o0_5, ()), ())))
            (some ((false, ()), ((o0_0, o0_1, o0_2, o0_3, o0_4, o0_5, ()), ()))))
          (some ((false, ()), ((o0_0, o0_1, o0_2, o0_3, o0_4, o0_5, ()), ()))))
        (some ((false, ()), ((o0_0, o0_1, o0_2, o0_3, o0_4, o0_5, ()), ()))))
      (some ((false, ()), ((o0_0, o0_1, o0_2, o0_3, o0_4, o0_5, ()), ()))))
    (some ((false, ()), ((o0_0, o0_1, o0_2, o0_3, o0_4, o0_5, ()), ())))
noncomputable def pa39_62 : Shape := ⟨[.d i64, .ptr 0], [.box [.d i64, .d .str, .d i64, .d i64, .d i64, .d i64]]⟩
noncomputable def pw39_62 : List Vm.Way := [⟨.normal, [10], ⟨[.d .bool], [.box [.d i64, .d .str, .d i64, .d i64, .d i64, .d i64]]⟩⟩]
abbrev R39_62 : Type := ((Bool × Unit) × ((Int × ByteArray × Int × Int × Int × Int × Unit) × Unit))
abbrev T39_62 : Type := Int → Int → ByteArray → Int → Int → Int → Int → Option R39_62
noncomputable def u39_62 (f : T39_62) : (pa39_62).C → Option (WayC pw39_62) := fun (x : ((Int × Unit × Unit) × ((Int × ByteArray × Int × Int × Int × Int × Unit) × Unit))) => f x.1.1 x.2.1.1 x.2.1.2.1 x.2.1.2.2.1 x.2.1.2.2.2.1 x.2.1.2.2.2.2.1 x.2.1.2.2.2.2.2.1
noncomputable def l39_62 (k : Nat) : T39_62 := fun i1 o0_0 o0_1 o0_2 o0_3 o0_4 o0_5 =>
  cond (o0_0 == 4)
    ((f26 k o0_1).bind fun y1 =>
    cond (decide (y1.1.1 > 0))
      (cond (o0_2 == 0)
        ((f84 k o0_3 i1).bind fun y2 =>
        cond y2.1.1
          ((f84 k o0_4 i1).bind fun y3 =>
          cond y3.1.1
            (some (((o0_5 == 0), ()), ((o0_0, o0_1, o0_2, o0_3, o0_4, o0_5, ()), ())))
            (some ((false, ()), ((o0_0, o0_1, o0_2, o0_3, o0_4, o0_5, ()), ()))))
          (some ((false, ()), ((o0_0, o0_1, o0_2, o0_3, o0_4, o0_5, ()), ()))))
        (some ((false, ()), ((o0_0, o0_1, o0_2, o0_3, o0_4, o0_5, ()), ()))))
      (some ((false, ()), ((o0_0, o0_1, o0_2, o0_3, o0_4, o0_5, ()), ()))))
    (some ((false, ()), ((o0_0, o0_1, o0_2, o0_3, o0_4, o0_5, ()), ())))
noncomputable def pa39_30 : Shape := ⟨[.d i64, .ptr 0], [.box [.d i64, .d .str, .d i64, .d i64, .d i64, .d i64]]⟩
noncomputable def pw39_30 : List Vm.Way := [⟨.normal, [9], ⟨[.d .bool], [.box [.d i64, .d .str, .d i64, .d i64, .d i64, .d i64]]⟩⟩]
abbrev R39_30 : Type := ((Bool × Unit) × ((Int × ByteArray × Int × Int × Int × Int × Unit) × Unit))
abbrev T39_30 : Type := Int → Int → ByteArray → Int → Int → Int → Int → Option R39_30
noncomputable def u39_30 (f : T39_30) : (pa39_30).C → Option (WayC pw39_30) := fun (x : ((Int × Unit × Unit) × ((Int × ByteArray × Int × Int × Int × Int × Unit) × Unit))) => f x.1.1 x.2.1.1 x.2.1.2.1 x.2.1.2.2.1 x.2.1.2.2.2.1 x.2.1.2.2.2.2.1 x.2.1.2.2.2.2.2.1
noncomputable def l39_30 (k : Nat) : T39_30 := fun i1 o0_0 o0_1 o0_2 o0_3 o0_4 o0_5 =>
  cond (o0_0 == 3)
    (cond (o0_1.toList == (ByteArray.mk #[45]).toList)
      (cond (o0_2 == 0)
        ((f84 k o0_3 i1).bind fun y1 =>
        cond y1.1.1
          (cond (o0_4 == 0)
            (some (((o0_5 == 0), ()), ((o0_0, o0_1, o0_2, o0_3, o0_4, o0_5, ()), ())))
            (some ((false, ()), ((o0_0, o0_1, o0_2, o0_3, o0_4, o0_5, ()), ()))))
          (some ((false, ()), ((o0_0, o0_1, o0_2, o0_3, o0_4, o0_5, ()), ()))))
        (some ((false, ()), ((o0_0, o0_1, o0_2, o0_3, o0_4, o0_5, ()), ()))))
      (cond (o0_1.toList == (ByteArray.mk #[126]).toList)
        (cond (o0_2 == 0)
          ((f84 k o0_3 i1).bind fun y2 =>
          cond y2.1.1
            (cond (o0_4 == 0)
              (some (((o0_5 == 0), ()), ((o0_0, o0_1, o0_2, o0_3, o0_4, o0_5, ()), ())))
              (some ((false, ()), ((o0_0, o0_1, o0_2, o0_3, o0_4, o0_5, ()), ()))))
            (some ((false, ()), ((o0_0, o0_1, o0_2, o0_3, o0_4, o0_5, ()), ()))))
          (some ((false, ()), ((o0_0, o0_1, o0_2, o0_3, o0_4, o0_5, ()), ()))))
        (cond (o0_1.toList == (ByteArray.mk #[33]).toList)
          (cond (o0_2 == 0)
            ((f84 k o0_3 i1).bind fun y3 =>
            cond y3.1.1
              (cond (o0_4 == 0)
                (some (((o0_5 == 0), ()), ((o0_0, o0_1, o0_2, o0_3, o0_4, o0_5, ()), ())))
                (some ((false, ()), ((o0_0, o0_1, o0_2, o0_3, o0_4, o0_5, ()), ()))))
              (some ((false, ()), ((o0_0, o0_1, o0_2, o0_3, o0_4, o0_5, ()), ()))))
            (some ((false, ()), ((o0_0, o0_1, o0_2, o0_3, o0_4, o0_5, ()), ()))))
          (some ((false, ()), ((o0_0, o0_1, o0_2, o0_3, o0_4, o0_5, ()), ()))))))
    (some ((false, ()), ((o0_0, o0_1, o0_2, o0_3, o0_4, o0_5, ()), ())))
noncomputable def pa39_14 : Shape := ⟨[.ptr 0], [.box [.d i64, .d .str, .d i64, .d i64, .d i64, .d i64]]⟩
noncomputable def pw39_14 : List Vm.Way := [⟨.normal, [8], ⟨[.d .bool], [.box [.d i64, .d .str, .d i64, .d i64, .d i64, .d i64]]⟩⟩]
abbrev R39_14 : Type := ((Bool × Unit) × ((Int × ByteArray × Int × Int × Int × Int × Unit) × Unit))
abbrev T39_14 : Type := Int → ByteArray → Int → Int → Int → Int → Option R39_14
noncomputable def u39_14 (f : T39_14) : (pa39_14).C → Option (WayC pw39_14) := fun (x : ((Unit × Unit) × ((Int × ByteArray × Int × Int × Int × Int × Unit) × Unit))) => f x.2.1.1 x.2.1.2.1 x.2.1.2.2.1 x.2.1.2.2.2.1 x.2.1.2.2.2.2.1 x.2.1.2.2.2.2.2.1
noncomputable def l39_14 (k : Nat) : T39_14 := fun o0_0 o0_1 o0_2 o0_3 o0_4 o0_5 =>
  cond (o0_0 == 2)
    (cond (o0_1.toList == ByteArray.empty.toList)
      (cond (o0_3 == 0)
        (cond (o0_4 == 0)
          (cond (o0_5 == 0)
            (cond (decide (o0_2 ≥ 0))
              (some (((decide (o0_2 < 64)), ()), ((o0_0, o0_1, o0_2, o0_3, o0_4, o0_5, ()), ())))
              (some ((false, ()), ((o0_0, o0_1, o0_2, o0_3, o0_4, o0_5, ()), ()))))
            (some ((false, ()), ((o0_0, o0_1, o0_2, o0_3, o0_4, o0_5, ()), ()))))
          (some ((false, ()), ((o0_0, o0_1, o0_2, o0_3, o0_4, o0_5, ()), ()))))
        (some ((false, ()), ((o0_0, o0_1, o0_2, o0_3, o0_4, o0_5, ()), ()))))
      (some ((false, ()), ((o0_0, o0_1, o0_2, o0_3, o0_4, o0_5, ()), ()))))
    (some ((false, ()), ((o0_0, o0_1, o0_2, o0_3, o0_4, o0_5, ()), ())))
noncomputable def pa39_6 : Shape := ⟨[.d i64, .ptr 0], [.box [.d i64, .d .str, .d i64, .d i64, .d i64, .d i64]]⟩
noncomputable def pw39_6 : List Vm.Way := [⟨.normal, [7], ⟨[.d .bool], [.box [.d i64, .d .str, .d i64, .d i64, .d i64, .d i64]]⟩⟩]
abbrev R39_6 : Type := ((Bool × Unit) × ((Int × ByteArray × Int × Int × Int × Int × Unit) × Unit))
abbrev T39_6 : Type := Int → Int → ByteArray → Int → Int → Int → Int → Option R39_6
noncomputable def u39_6 (f : T39_6) : (pa39_6).C → Option (WayC pw39_6) := fun (x : ((Int × Unit × Unit) × ((Int × ByteArray × Int × Int × Int × Int × Unit) × Unit))) => f x.1.1 x.2.1.1 x.2.1.2.1 x.2.1.2.2.1 x.2.1.2.2.2.1 x.2.1.2.2.2.2.1 x.2.1.2.2.2.2.2.1
noncomputable def l39_6 (k : Nat) : T39_6 := fun w0 o0_0 o0_1 o0_2 o0_3 o0_4 o0_5 =>
  cond (o0_0 == 1)
    (cond (o0_1.toList == ByteArray.empty.toList)
      (cond (o0_3 == 0)
        (cond (o0_4 == 0)
          (cond (o0_5 == 0)
            (cond (decide (o0_2 ≥ 0))
              ((f59 k w0).bind fun y1 =>
              some (((decide (o0_2 < y1.1.1)), ()), ((o0_0, o0_1, o0_2, o0_3, o0_4, o0_5, ()), ())))
              (some ((false, ()), ((o0_0, o0_1, o0_2, o0_3, o0_4, o0_5, ()), ()))))
            (some ((false, ()), ((o0_0, o0_1, o0_2, o0_3, o0_4, o0_5, ()), ()))))
          (some ((false, ()), ((o0_0, o0_1, o0_2, o0_3, o0_4, o0_5, ()), ()))))
        (some ((false, ()), ((o0_0, o0_1, o0_2, o0_3, o0_4, o0_5, ()), ()))))
      (some ((false, ()), ((o0_0, o0_1, o0_2, o0_3, o0_4, o0_5, ()), ()))))
    (some ((false, ()), ((o0_0, o0_1, o0_2, o0_3, o0_4, o0_5, ()), ())))
noncomputable def f39 (k : Nat) : T39 := fun w0 i1 x2 =>
  (l39_6 k w0 x2.1 x2.2.1 x2.2.2.1 x2.2.2.2.1 x2.2.2.2.2.1 x2.2.2.2.2.2.1).bind fun y1 =>
  (l39_14 k y1.2.1.1 y1.2.1.2.1 y1.2.1.2.2.1 y1.2.1.2.2.2.1 y1.2.1.2.2.2.2.1 y1.2.1.2.2.2.2.2.1).bind fun y2 =>
  (l39_30 k i1 y2.2.1.1 y2.2.1.2.1 y2.2.1.2.2.1 y2.2.1.2.2.2.1 y2.2.1.2.2.2.2.1 y2.2.1.2.2.2.2.2.1).bind fun y3 =>
  (l39_62 k i1 y3.2.1.1 y3.2.1.2.1 y3.2.1.2.2.1 y3.2.1.2.2.2.1 y3.2.1.2.2.2.2.1 y3.2.1.2.2.2.2.2.1).bind fun y4 =>
  (l39_126 k i1 y4.2.1.1 y4.2.1.2.1 y4.2.1.2.2.1 y4.2.1.2.2.2.1 y4.2.1.2.2.2.2.1 y4.2.1.2.2.2.2.2.1).bind fun y5 =>
  cond y1.1.1
    (some ((true, ()), ()))
    (cond y2.1.1
      (some ((true, ()), ()))
      (cond y3.1.1
        (some ((true, ()), ()))
        (cond y4.1.1
          (some ((true, ()), ()))
          (some ((y5.1.1, ()), ())))))
noncomputable def C39 (k : Nat) : Nat → Fun := mkC [(26, (F26 (f26 k))), (59, (F59 (f59 k))), (84, (F84 (f84 k)))]
theorem c39_ok (k : Nat) : ∀ f, SoundFn Try.prog f (C39 k f) := (mkC_cons (s26 k) (mkC_cons (s59 k) (mkC_cons (s84 k) mkC_nil)))
noncomputable def H39_126 (k : Nat) : Nat → Option Cut := addH noH 126 ⟨runCut (wrC (codeAt 126 (bd Try.f39) 126)) 194 [1, 5] pa39_126 pw39_126 (u39_126 (l39_126 k))⟩
theorem e39_126 (k : Nat) (x : (pa39_126).C) : pieceF (C39 k) tt noH (codeAt 126 (bd Try.f39) 126) 126 194 [1, 5] pa39_126 pw39_126 x = u39_126 (l39_126 k) x := by kernel_rfl
theorem h39_126_ok (k : Nat) : ∀ p S, H39_126 k p = some S → ∀ c, At (bd Try.f39) p c → CutOk Try.prog c S :=
  have hC := c39_ok k
  addPiece hC ttOk (draw_ok hC ttOk mixed) noH_ok (fun x _ h => (e39_126 k x).trans h)
noncomputable def H39_62 (k : Nat) : Nat → Option Cut := addH (H39_126 k) 62 ⟨runCut (wrC (codeAt 62 (bd Try.f39) 62)) 194 [1, 5] pa39_62 pw39_62 (u39_62 (l39_62 k))⟩
theorem e39_62 (k : Nat) (x : (pa39_62).C) : pieceF (C39 k) tt (H39_126 k) (codeAt 62 (bd Try.f39) 62) 62 194 [1, 5] pa39_62 pw39_62 x = u39_62 (l39_62 k) x := by kernel_rfl
theorem h39_62_ok (k : Nat) : ∀ p S, H39_62 k p = some S → ∀ c, At (bd Try.f39) p c → CutOk Try.prog c S :=
  have hC := c39_ok k
  addPiece hC ttOk (draw_ok hC ttOk mixed) (h39_126_ok k) (fun x _ h => (e39_62 k x).trans h)
noncomputable def H39_30 (k : Nat) : Nat → Option Cut := addH (H39_62 k) 30 ⟨runCut (wrC (codeAt 30 (bd Try.f39) 30)) 194 [1, 5] pa39_30 pw39_30 (u39_30 (l39_30 k))⟩
theorem e39_30 (k : Nat) (x : (pa39_30).C) : pieceF (C39 k) tt (H39_62 k) (codeAt 30 (bd Try.f39) 30) 30 194 [1, 5] pa39_30 pw39_30 x = u39_30 (l39_30 k) x := by kernel_rfl
theorem h39_30_ok (k : Nat) : ∀ p S, H39_30 k p = some S → ∀ c, At (bd Try.f39) p c → CutOk Try.prog c S :=
  have hC := c39_ok k
  addPiece hC ttOk (draw_ok hC ttOk mixed) (h39_62_ok k) (fun x _ h => (e39_30 k x).trans h)
noncomputable def H39_14 (k : Nat) : Nat → Option Cut := addH (H39_30 k) 14 ⟨runCut (wrC (codeAt 14 (bd Try.f39) 14)) 194 [5] pa39_14 pw39_14 (u39_14 (l39_14 k))⟩
theorem e39_14 (k : Nat) (x : (pa39_14).C) : pieceF (C39 k) tt (H39_30 k) (codeAt 14 (bd Try.f39) 14) 14 194 [5] pa39_14 pw39_14 x = u39_14 (l39_14 k) x := by kernel_rfl
theorem h39_14_ok (k : Nat) : ∀ p S, H39_14 k p = some S → ∀ c, At (bd Try.f39) p c → CutOk Try.prog c S :=
  have hC := c39_ok k
  addPiece hC ttOk (draw_ok hC ttOk mixed) (h39_30_ok k) (fun x _ h => (e39_14 k x).trans h)
noncomputable def H39_6 (k : Nat) : Nat → Option Cut := addH (H39_14 k) 6 ⟨runCut (wrC (codeAt 6 (bd Try.f39) 6)) 194 [0, 5] pa39_6 pw39_6 (u39_6 (l39_6 k))⟩
theorem e39_6 (k : Nat) (x : (pa39_6).C) : pieceF (C39 k) tt (H39_14 k) (codeAt 6 (bd Try.f39) 6) 6 194 [0, 5] pa39_6 pw39_6 x = u39_6 (l39_6 k) x := by kernel_rfl
theorem h39_6_ok (k : Nat) : ∀ p S, H39_6 k p = some S → ∀ c, At (bd Try.f39) p c → CutOk Try.prog c S :=
  have hC := c39_ok k
  addPiece hC ttOk (draw_ok hC ttOk mixed) (h39_14_ok k) (fun x _ h => (e39_6 k x).trans h)
theorem e39 (k : Nat) (x : (a39).C) : bodyR (C39 k) tt (H39_6 k) Try.f39 a39 o39 x = u39 (f39 k) x := by kernel_rfl
theorem s39 (k : Nat) : SoundFn Try.prog 39 (F39 (f39 k)) :=
  have hC := c39_ok k
  fnR_sound hC ttOk (draw_ok hC ttOk mixed) Try.func39 (c0 := bd Try.f39) rfl (entry Try.func39 rfl (by decide)) (h39_6_ok k) rfl (fun x _ h => (e39 k x).trans h)
/-! f10 fathom/fathomref25.May (R) -/
noncomputable def a10 : Shape := ⟨[.d i64, .d (.slice T_Term)], []⟩
noncomputable def o10 : List Shape := [⟨[.d .bool], []⟩]
abbrev R10 : Type := ((Bool × Unit) × Unit)
abbrev T10 : Type := Int → (List D_Term) → Option R10
noncomputable def u10 (f : T10) : (a10).C → Option (OutC o10) := fun (x : ((Int × (List D_Term) × Unit) × Unit)) => f x.1.1 x.1.2.1
noncomputable def F10 (f : T10) : Fun := ⟨true, runR a10 o10 (u10 f)⟩
noncomputable def pa10_58 : Shape := ⟨[.d i64, .d (.slice T_Term), .d i64], []⟩
noncomputable def pw10_58 : List Vm.Way := [⟨.exit 0, [], ⟨[], []⟩⟩, ⟨.ret, [4], ⟨[.d .bool], []⟩⟩]
abbrev R10_58 : Type := ((Unit × Unit) ⊕ ((Bool × Unit) × Unit))
abbrev T10_58 : Type := Int → (List D_Term) → Int → Option R10_58
noncomputable def u10_58 (f : T10_58) : (pa10_58).C → Option (WayC pw10_58) := fun (x : ((Int × (List D_Term) × Int × Unit) × Unit)) => f x.1.1 x.1.2.1 x.1.2.2.1
noncomputable def b10_58 (k : Nat) (rec : T10_58) : T10_58 := fun w0 l1 i5 =>
  cond (decide (i5 < (l1.length : Int)))
    (ix l1 i5 fun e1 =>
    (f39 k w0 i5 e1).bind fun y2 =>
    cond (!y2.1.1)
      (some (.inr ((false, ()), ())))
      ((rec w0 l1 (w64 (i5 + 1))).bind fun y3 =>
      match y3 with
      | .inl y3_0 =>
        some (.inl ((), ()))
      | .inr y3_1 =>
        some (.inr ((y3_1.1.1, ()), ()))))
    (some (.inl ((), ())))
noncomputable def l10_58 (k : Nat) : Nat → T10_58
  | 0 => fun _ _ _ => none
  | j + 1 => b10_58 k (l10_58 k j)
noncomputable def f10 (k : Nat) : T10 := fun w0 l1 =>
  cond (decide (w0 < 1))
    (some ((false, ()), ()))
    (cond (decide (w0 > 8))
      (some ((false, ()), ()))
      (cond (decide ((l1.length : Int) > 8192))
        (some ((false, ()), ()))
        ((l10_58 k k w0 l1 0).bind fun y1 =>
        match y1 with
        | .inl y1_0 =>
          some ((true, ()), ())
        | .inr y1_1 =>
          some ((y1_1.1.1, ()), ()))))
noncomputable def C10 (k : Nat) : Nat → Fun := mkC [(39, (F39 (f39 k)))]
theorem c10_ok (k : Nat) : ∀ f, SoundFn Try.prog f (C10 k f) := (mkC_cons (s39 k) mkC_nil)
noncomputable def H10_58 (k : Nat) : Nat → Option Cut := addH noH 58 ⟨runCut (wrC (bodyOf (codeAt 58 (bd Try.f10) 58))) 31 [0, 1, 5] pa10_58 pw10_58 (u10_58 (l10_58 k k))⟩
theorem e10_58 (k : Nat) (rec : T10_58) (x : (pa10_58).C) : roundF (C10 k) tt noH (bodyOf (codeAt 58 (bd Try.f10) 58)) 116 31 [0, 1, 5] pa10_58 pw10_58 (u10_58 rec) x = u10_58 (b10_58 k rec) x := by kernel_rfl
theorem h10_58_ok (k : Nat) : ∀ p S, H10_58 k p = some S → ∀ c, At (bd Try.f10) p c → CutOk Try.prog c S :=
  have hC := c10_ok k
  addLoop hC ttOk (draw_ok hC ttOk mixed) noH_ok (by kernel_rfl) (F := fun j => u10_58 (l10_58 k j)) (fun _ => rfl) (fun j x _ h => (e10_58 k (l10_58 k j) x).trans h) k
theorem e10 (k : Nat) (x : (a10).C) : bodyR (C10 k) tt (H10_58 k) Try.f10 a10 o10 x = u10 (f10 k) x := by kernel_rfl
theorem s10 (k : Nat) : SoundFn Try.prog 10 (F10 (f10 k)) :=
  have hC := c10_ok k
  fnR_sound hC ttOk (draw_ok hC ttOk mixed) Try.func10 (c0 := bd Try.f10) rfl (entry Try.func10 rfl (by decide)) (h10_58_ok k) rfl (fun x _ h => (e10 k x).trans h)
/-! f20v2 (*fathom/term.Terms).Num (W) -/
noncomputable def a20v2 : Shape := ⟨[.nilp, .d i64], []⟩
noncomputable def o20v2 : List Shape := [⟨[.d i64], []⟩]
abbrev R20v2 : Type := ((Int × Unit) × Unit)
abbrev T20v2 : Type := Int → Option R20v2
noncomputable def u20v2 (f : T20v2) : (a20v2).C → Option (OutC o20v2) := fun (x : ((Unit × Int × Unit) × Unit)) => f x.1.2.1
noncomputable def F20v2 (f : T20v2) : Fun := ⟨false, runW a20v2 o20v2 (u20v2 f)⟩
noncomputable def f20v2 (k : Nat) : T20v2 := fun n1 =>
  some (((-1), ()), ())
noncomputable def C20v2 (k : Nat) : Nat → Fun := mkC []
theorem c20v2_ok (k : Nat) : ∀ f, SoundFn Try.prog f (C20v2 k f) := mkC_nil
theorem e20v2 (k : Nat) (x : (a20v2).C) : bodyW (C20v2 k) tt noH Try.f20 a20v2 o20v2 x = u20v2 (f20v2 k) x := by kernel_rfl
theorem s20v2 (k : Nat) : SoundFn Try.prog 20 (F20v2 (f20v2 k)) :=
  have hC := c20v2_ok k
  fnW_sound hC ttOk (draw_ok hC ttOk mixed) Try.func20 (c0 := bd Try.f20) rfl (entry Try.func20 rfl (by decide)) noH_ok (fun x _ h => (e20v2 k x).trans h)
/-! f58v2 (*fathom/term.Terms).add (W) -/
noncomputable def a58v2 : Shape := ⟨[.nilp, .d T_Term], []⟩
noncomputable def o58v2 : List Shape := [⟨[.d i64], []⟩]
abbrev R58v2 : Type := ((Int × Unit) × Unit)
abbrev T58v2 : Type := D_Term → Option R58v2
noncomputable def u58v2 (f : T58v2) : (a58v2).C → Option (OutC o58v2) := fun (x : ((Unit × D_Term × Unit) × Unit)) => f x.1.2.1
noncomputable def F58v2 (f : T58v2) : Fun := ⟨false, runW a58v2 o58v2 (u58v2 f)⟩
noncomputable def f58v2 (k : Nat) : T58v2 := fun x1 =>
  some (((-1), ()), ())
noncomputable def C58v2 (k : Nat) : Nat → Fun := mkC []
theorem c58v2_ok (k : Nat) : ∀ f, SoundFn Try.prog f (C58v2 k f) := mkC_nil
theorem e58v2 (k : Nat) (x : (a58v2).C) : bodyW (C58v2 k) tt noH Try.f58 a58v2 o58v2 x = u58v2 (f58v2 k) x := by kernel_rfl
theorem s58v2 (k : Nat) : SoundFn Try.prog 58 (F58v2 (f58v2 k)) :=
  have hC := c58v2_ok k
  fnW_sound hC ttOk (draw_ok hC ttOk mixed) Try.func58 (c0 := bd Try.f58) rfl (entry Try.func58 rfl (by decide)) noH_ok (fun x _ h => (e58v2 k x).trans h)
/-! f21 (*fathom/term.Terms).Read (W) -/
noncomputable def a21 : Shape := ⟨[.nilp, .d i64], []⟩
noncomputable def o21 : List Shape := [⟨[.d i64], []⟩]
abbrev R21 : Type := ((Int × Unit) × Unit)
abbrev T21 : Type := Int → Option R21
noncomputable def u21 (f : T21) : (a21).C → Option (OutC o21) := fun (x : ((Unit × Int × Unit) × Unit)) => f x.1.2.1
noncomputable def F21 (f : T21) : Fun := ⟨false, runW a21 o21 (u21 f)⟩
noncomputable def f21 (k : Nat) : T21 := fun i1 =>
  cond (decide (i1 < 0))
    (some (((-1), ()), ()))
    (cond (decide (i1 ≥ 64))
      (some (((-1), ()), ()))
      ((f58v2 k (2, ByteArray.empty, i1, 0, 0, 0, ())).bind fun y1 =>
      some ((y1.1.1, ()), ())))
noncomputable def C21 (k : Nat) : Nat → Fun := mkC [(58, (F58v2 (f58v2 k)))]
theorem c21_ok (k : Nat) : ∀ f, SoundFn Try.prog f (C21 k f) := (mkC_cons (s58v2 k) mkC_nil)
theorem e21 (k : Nat) (x : (a21).C) : bodyW (C21 k) tt noH Try.f21 a21 o21 x = u21 (f21 k) x := by kernel_rfl
theorem s21 (k : Nat) : SoundFn Try.prog 21 (F21 (f21 k)) :=
  have hC := c21_ok k
  fnW_sound hC ttOk (draw_ok hC ttOk mixed) Try.func21 (c0 := bd Try.f21) rfl (entry Try.func21 rfl (by decide)) noH_ok (fun x _ h => (e21 k x).trans h)
/-! f81 (*fathom/term.Terms).is (R) -/
noncomputable def a81 : Shape := ⟨[.nilp, .d (.slice i64)], []⟩
noncomputable def o81 : List Shape := [⟨[.d .bool], []⟩]
abbrev R81 : Type := ((Bool × Unit) × Unit)
abbrev T81 : Type := (List Int) → Option R81
noncomputable def u81 (f : T81) : (a81).C → Option (OutC o81) := fun (x : ((Unit × (List Int) × Unit) × Unit)) => f x.1.2.1
noncomputable def F81 (f : T81) : Fun := ⟨true, runR a81 o81 (u81 f)⟩
noncomputable def f81 (k : Nat) : T81 := fun l1 =>
  some ((false, ()), ())
noncomputable def C81 (k : Nat) : Nat → Fun := mkC []
theorem c81_ok (k : Nat) : ∀ f, SoundFn Try.prog f (C81 k f) := mkC_nil
theorem e81 (k : Nat) (x : (a81).C) : bodyR (C81 k) tt noH Try.f81 a81 o81 x = u81 (f81 k) x := by kernel_rfl
theorem s81 (k : Nat) : SoundFn Try.prog 81 (F81 (f81 k)) :=
  have hC := c81_ok k
  fnR_sound hC ttOk (draw_ok hC ttOk mixed) Try.func81 (c0 := bd Try.f81) rfl (entry Try.func81 rfl (by decide)) noH_ok rfl (fun x _ h => (e81 k x).trans h)
/-! f88 fathom/term.unary (R) -/
noncomputable def a88 : Shape := ⟨[.d .str], []⟩
noncomputable def o88 : List Shape := [⟨[.d .bool], []⟩]
abbrev R88 : Type := ((Bool × Unit) × Unit)
abbrev T88 : Type := ByteArray → Option R88
noncomputable def u88 (f : T88) : (a88).C → Option (OutC o88) := fun (x : ((ByteArray × Unit) × Unit)) => f x.1.1
noncomputable def F88 (f : T88) : Fun := ⟨true, runR a88 o88 (u88 f)⟩
noncomputable def f88 (k : Nat) : T88 := fun op0 =>
  cond (op0.toList == (ByteArray.mk #[45]).toList)
    (some ((true, ()), ()))
    (cond (op0.toList == (ByteArray.mk #[126]).toList)
      (some ((true, ()), ()))
      (some (((op0.toList == (ByteArray.mk #[33]).toList), ()), ())))
noncomputable def C88 (k : Nat) : Nat → Fun := mkC []
theorem c88_ok (k : Nat) : ∀ f, SoundFn Try.prog f (C88 k f) := mkC_nil
theorem e88 (k : Nat) (x : (a88).C) : bodyR (C88 k) tt noH Try.f88 a88 o88 x = u88 (f88 k) x := by kernel_rfl
theorem s88 (k : Nat) : SoundFn Try.prog 88 (F88 (f88 k)) :=
  have hC := c88_ok k
  fnR_sound hC ttOk (draw_ok hC ttOk mixed) Try.func88 (c0 := bd Try.f88) rfl (entry Try.func88 rfl (by decide)) noH_ok rfl (fun x _ h => (e88 k x).trans h)
/-! f42 (*fathom/term.Terms).Unary (W) -/
noncomputable def a42 : Shape := ⟨[.nilp, .d .str, .d i64], []⟩
noncomputable def o42 : List Shape := [⟨[.d i64], []⟩]
abbrev R42 : Type := ((Int × Unit) × Unit)
abbrev T42 : Type := ByteArray → Int → Option R42
noncomputable def u42 (f : T42) : (a42).C → Option (OutC o42) := fun (x : ((Unit × ByteArray × Int × Unit) × Unit)) => f x.1.2.1 x.1.2.2.1
noncomputable def F42 (f : T42) : Fun := ⟨false, runW a42 o42 (u42 f)⟩
noncomputable def f42 (k : Nat) : T42 := fun op1 a2 =>
  (f81 k [a2]).bind fun y1 =>
  cond (!y1.1.1)
    (some (((-1), ()), ()))
    ((f88 k op1).bind fun y2 =>
    cond (!y2.1.1)
      (some (((-1), ()), ()))
      (none))
noncomputable def C42 (k : Nat) : Nat → Fun := mkC [(81, (F81 (f81 k))), (88, (F88 (f88 k)))]
theorem c42_ok (k : Nat) : ∀ f, SoundFn Try.prog f (C42 k f) := (mkC_cons (s81 k) (mkC_cons (s88 k) mkC_nil))
theorem e42 (k : Nat) (x : (a42).C) : bodyW (C42 k) tt noH Try.f42 a42 o42 x = u42 (f42 k) x := by kernel_rfl
theorem s42 (k : Nat) : SoundFn Try.prog 42 (F42 (f42 k)) :=
  have hC := c42_ok k
  fnW_sound hC ttOk (draw_ok hC ttOk mixed) Try.func42 (c0 := bd Try.f42) rfl (entry Try.func42 rfl (by decide)) noH_ok (fun x _ h => (e42 k x).trans h)
/-! f37 (*fathom/term.Terms).Binary (W) -/
noncomputable def a37 : Shape := ⟨[.nilp, .d .str, .d i64, .d i64], []⟩
noncomputable def o37 : List Shape := [⟨[.d i64], []⟩]
abbrev R37 : Type := ((Int × Unit) × Unit)
abbrev T37 : Type := ByteArray → Int → Int → Option R37
noncomputable def u37 (f : T37) : (a37).C → Option (OutC o37) := fun (x : ((Unit × ByteArray × Int × Int × Unit) × Unit)) => f x.1.2.1 x.1.2.2.1 x.1.2.2.2.1
noncomputable def F37 (f : T37) : Fun := ⟨false, runW a37 o37 (u37 f)⟩
noncomputable def f37 (k : Nat) : T37 := fun op1 a2 b3 =>
  (f81 k [a2, b3]).bind fun y1 =>
  cond (!y1.1.1)
    (some (((-1), ()), ()))
    ((f82 k op1).bind fun y2 =>
    cond (y2.1.1 == 0)
      (some (((-1), ()), ()))
      (none))
noncomputable def C37 (k : Nat) : Nat → Fun := mkC [(81, (F81 (f81 k))), (82, (F82 (f82 k)))]
theorem c37_ok (k : Nat) : ∀ f, SoundFn Try.prog f (C37 k f) := (mkC_cons (s81 k) (mkC_cons (s82 k) mkC_nil))
theorem e37 (k : Nat) (x : (a37).C) : bodyW (C37 k) tt noH Try.f37 a37 o37 x = u37 (f37 k) x := by kernel_rfl
theorem s37 (k : Nat) : SoundFn Try.prog 37 (F37 (f37 k)) :=
  have hC := c37_ok k
  fnW_sound hC ttOk (draw_ok hC ttOk mixed) Try.func37 (c0 := bd Try.f37) rfl (entry Try.func37 rfl (by decide)) noH_ok (fun x _ h => (e37 k x).trans h)
/-! f43 (*fathom/term.Terms).Ite (W) -/
noncomputable def a43 : Shape := ⟨[.nilp, .d i64, .d i64, .d i64], []⟩
noncomputable def o43 : List Shape := [⟨[.d i64], []⟩]
abbrev R43 : Type := ((Int × Unit) × Unit)
abbrev T43 : Type := Int → Int → Int → Option R43
noncomputable def u43 (f : T43) : (a43).C → Option (OutC o43) := fun (x : ((Unit × Int × Int × Int × Unit) × Unit)) => f x.1.2.1 x.1.2.2.1 x.1.2.2.2.1
noncomputable def F43 (f : T43) : Fun := ⟨false, runW a43 o43 (u43 f)⟩
noncomputable def f43 (k : Nat) : T43 := fun c1 a2 b3 =>
  (f81 k [c1, a2, b3]).bind fun y1 =>
  cond (!y1.1.1)
    (some (((-1), ()), ()))
    (none)
noncomputable def C43 (k : Nat) : Nat → Fun := mkC [(81, (F81 (f81 k)))]
theorem c43_ok (k : Nat) : ∀ f, SoundFn Try.prog f (C43 k f) := (mkC_cons (s81 k) mkC_nil)
theorem e43 (k : Nat) (x : (a43).C) : bodyW (C43 k) tt noH Try.f43 a43 o43 x = u43 (f43 k) x := by kernel_rfl
theorem s43 (k : Nat) : SoundFn Try.prog 43 (F43 (f43 k)) :=
  have hC := c43_ok k
  fnW_sound hC ttOk (draw_ok hC ttOk mixed) Try.func43 (c0 := bd Try.f43) rfl (entry Try.func43 rfl (by decide)) noH_ok (fun x _ h => (e43 k x).trans h)
/-! f89 (*fathom/term.Terms).truly (R) -/
noncomputable def a89 : Shape := ⟨[.nilp, .d i64], []⟩
noncomputable def o89 : List Shape := [⟨[.d .bool], []⟩]
abbrev R89 : Type := ((Bool × Unit) × Unit)
abbrev T89 : Type := Int → Option R89
noncomputable def u89 (f : T89) : (a89).C → Option (OutC o89) := fun (x : ((Unit × Int × Unit) × Unit)) => f x.1.2.1
noncomputable def F89 (f : T89) : Fun := ⟨true, runR a89 o89 (u89 f)⟩
noncomputable def f89 (k : Nat) : T89 := fun i1 =>
  (f81 k [i1]).bind fun y1 =>
  cond (!y1.1.1)
    (some ((false, ()), ()))
    (none)
noncomputable def C89 (k : Nat) : Nat → Fun := mkC [(81, (F81 (f81 k)))]
theorem c89_ok (k : Nat) : ∀ f, SoundFn Try.prog f (C89 k f) := (mkC_cons (s81 k) mkC_nil)
theorem e89 (k : Nat) (x : (a89).C) : bodyR (C89 k) tt noH Try.f89 a89 o89 x = u89 (f89 k) x := by kernel_rfl
theorem s89 (k : Nat) : SoundFn Try.prog 89 (F89 (f89 k)) :=
  have hC := c89_ok k
  fnR_sound hC ttOk (draw_ok hC ttOk mixed) Try.func89 (c0 := bd Try.f89) rfl (entry Try.func89 rfl (by decide)) noH_ok rfl (fun x _ h => (e89 k x).trans h)
/-! f44 (*fathom/term.Terms).Truth (W) -/
noncomputable def a44 : Shape := ⟨[.nilp, .d i64], []⟩
noncomputable def o44 : List Shape := [⟨[.d i64], []⟩]
abbrev R44 : Type := ((Int × Unit) × Unit)
abbrev T44 : Type := Int → Option R44
noncomputable def u44 (f : T44) : (a44).C → Option (OutC o44) := fun (x : ((Unit × Int × Unit) × Unit)) => f x.1.2.1
noncomputable def F44 (f : T44) : Fun := ⟨false, runW a44 o44 (u44 f)⟩
noncomputable def f44 (k : Nat) : T44 := fun a1 =>
  (f81 k [a1]).bind fun y1 =>
  cond (!y1.1.1)
    (some (((-1), ()), ()))
    ((f89 k a1).bind fun y2 =>
    cond y2.1.1
      (some ((a1, ()), ()))
      ((f20v2 k 0).bind fun y3 =>
      (f37 k (ByteArray.mk #[33, 61]) a1 y3.1.1).bind fun y4 =>
      some ((y4.1.1, ()), ())))
noncomputable def C44 (k : Nat) : Nat → Fun := mkC [(20, (F20v2 (f20v2 k))), (37, (F37 (f37 k))), (81, (F81 (f81 k))), (89, (F89 (f89 k)))]
theorem c44_ok (k : Nat) : ∀ f, SoundFn Try.prog f (C44 k f) := (mkC_cons (s20v2 k) (mkC_cons (s37 k) (mkC_cons (s81 k) (mkC_cons (s89 k) mkC_nil))))
theorem e44 (k : Nat) (x : (a44).C) : bodyW (C44 k) tt noH Try.f44 a44 o44 x = u44 (f44 k) x := by kernel_rfl
theorem s44 (k : Nat) : SoundFn Try.prog 44 (F44 (f44 k)) :=
  have hC := c44_ok k
  fnW_sound hC ttOk (draw_ok hC ttOk mixed) Try.func44 (c0 := bd Try.f44) rfl (entry Try.func44 rfl (by decide)) noH_ok (fun x _ h => (e44 k x).trans h)
/-! f45 (*fathom/term.Terms).Both (W) -/
noncomputable def a45 : Shape := ⟨[.nilp, .d i64, .d i64], []⟩
noncomputable def o45 : List Shape := [⟨[.d i64], []⟩]
abbrev R45 : Type := ((Int × Unit) × Unit)
abbrev T45 : Type := Int → Int → Option R45
noncomputable def u45 (f : T45) : (a45).C → Option (OutC o45) := fun (x : ((Unit × Int × Int × Unit) × Unit)) => f x.1.2.1 x.1.2.2.1
noncomputable def F45 (f : T45) : Fun := ⟨false, runW a45 o45 (u45 f)⟩
noncomputable def f45 (k : Nat) : T45 := fun a1 b2 =>
  (f89 k a1).bind fun y1 =>
  cond (!y1.1.1)
    (some (((-1), ()), ()))
    ((f89 k b2).bind fun y2 =>
    cond (!y2.1.1)
      (some (((-1), ()), ()))
      (none))
noncomputable def C45 (k : Nat) : Nat → Fun := mkC [(89, (F89 (f89 k)))]
theorem c45_ok (k : Nat) : ∀ f, SoundFn Try.prog f (C45 k f) := (mkC_cons (s89 k) mkC_nil)
theorem e45 (k : Nat) (x : (a45).C) : bodyW (C45 k) tt noH Try.f45 a45 o45 x = u45 (f45 k) x := by kernel_rfl
theorem s45 (k : Nat) : SoundFn Try.prog 45 (F45 (f45 k)) :=
  have hC := c45_ok k
  fnW_sound hC ttOk (draw_ok hC ttOk mixed) Try.func45 (c0 := bd Try.f45) rfl (entry Try.func45 rfl (by decide)) noH_ok (fun x _ h => (e45 k x).trans h)
/-! f46 (*fathom/term.Terms).Not (W) -/
noncomputable def a46 : Shape := ⟨[.nilp, .d i64], []⟩
noncomputable def o46 : List Shape := [⟨[.d i64], []⟩]
abbrev R46 : Type := ((Int × Unit) × Unit)
abbrev T46 : Type := Int → Option R46
noncomputable def u46 (f : T46) : (a46).C → Option (OutC o46) := fun (x : ((Unit × Int × Unit) × Unit)) => f x.1.2.1
noncomputable def F46 (f : T46) : Fun := ⟨false, runW a46 o46 (u46 f)⟩
noncomputable def f46 (k : Nat) : T46 := fun a1 =>
  (f89 k a1).bind fun y1 =>
  cond (!y1.1.1)
    (some (((-1), ()), ()))
    (none)
noncomputable def C46 (k : Nat) : Nat → Fun := mkC [(89, (F89 (f89 k)))]
theorem c46_ok (k : Nat) : ∀ f, SoundFn Try.prog f (C46 k f) := (mkC_cons (s89 k) mkC_nil)
theorem e46 (k : Nat) (x : (a46).C) : bodyW (C46 k) tt noH Try.f46 a46 o46 x = u46 (f46 k) x := by kernel_rfl
theorem s46 (k : Nat) : SoundFn Try.prog 46 (F46 (f46 k)) :=
  have hC := c46_ok k
  fnW_sound hC ttOk (draw_ok hC ttOk mixed) Try.func46 (c0 := bd Try.f46) rfl (entry Try.func46 rfl (by decide)) noH_ok (fun x _ h => (e46 k x).trans h)
/-! f47 (*fathom/term.Terms).Either (W) -/
noncomputable def a47 : Shape := ⟨[.nilp, .d i64, .d i64], []⟩
noncomputable def o47 : List Shape := [⟨[.d i64], []⟩]
abbrev R47 : Type := ((Int × Unit) × Unit)
abbrev T47 : Type := Int → Int → Option R47
noncomputable def u47 (f : T47) : (a47).C → Option (OutC o47) := fun (x : ((Unit × Int × Int × Unit) × Unit)) => f x.1.2.1 x.1.2.2.1
noncomputable def F47 (f : T47) : Fun := ⟨false, runW a47 o47 (u47 f)⟩
noncomputable def f47 (k : Nat) : T47 := fun a1 b2 =>
  (f46 k a1).bind fun y1 =>
  (f46 k b2).bind fun y2 =>
  (f45 k y1.1.1 y2.1.1).bind fun y3 =>
  (f46 k y3.1.1).bind fun y4 =>
  some ((y4.1.1, ()), ())
noncomputable def C47 (k : Nat) : Nat → Fun := mkC [(45, (F45 (f45 k))), (46, (F46 (f46 k)))]
theorem c47_ok (k : Nat) : ∀ f, SoundFn Try.prog f (C47 k f) := (mkC_cons (s45 k) (mkC_cons (s46 k) mkC_nil))
theorem e47 (k : Nat) (x : (a47).C) : bodyW (C47 k) tt noH Try.f47 a47 o47 x = u47 (f47 k) x := by kernel_rfl
theorem s47 (k : Nat) : SoundFn Try.prog 47 (F47 (f47 k)) :=
  have hC := c47_ok k
  fnW_sound hC ttOk (draw_ok hC ttOk mixed) Try.func47 (c0 := bd Try.f47) rfl (entry Try.func47 rfl (by decide)) noH_ok (fun x _ h => (e47 k x).trans h)
/-! f16 fathom/fathomlaw25.do (W) -/
noncomputable def a16 : Shape := ⟨[.nilp, .d T_Act], []⟩
noncomputable def o16 : List Shape := [⟨[.d i64], []⟩]
abbrev R16 : Type := ((Int × Unit) × Unit)
abbrev T16 : Type := D_Act → Option R16
noncomputable def u16 (f : T16) : (a16).C → Option (OutC o16) := fun (x : ((Unit × D_Act × Unit) × Unit)) => f x.1.2.1
noncomputable def F16 (f : T16) : Fun := ⟨false, runW a16 o16 (u16 f)⟩
noncomputable def f16 (k : Nat) : T16 := fun x1 =>
  cond (x1.1 == 0)
    ((f20v2 k x1.2.2.1).bind fun y1 =>
    some ((y1.1.1, ()), ()))
    (cond (x1.1 == 1)
      ((f21 k x1.2.2.1).bind fun y2 =>
      some ((y2.1.1, ()), ()))
      (cond (x1.1 == 2)
        ((f42 k x1.2.1 x1.2.2.1).bind fun y3 =>
        some ((y3.1.1, ()), ()))
        (cond (x1.1 == 3)
          ((f37 k x1.2.1 x1.2.2.1 x1.2.2.2.1).bind fun y4 =>
          some ((y4.1.1, ()), ()))
          (cond (x1.1 == 4)
            ((f43 k x1.2.2.2.2.1 x1.2.2.1 x1.2.2.2.1).bind fun y5 =>
            some ((y5.1.1, ()), ()))
            (cond (x1.1 == 5)
              ((f44 k x1.2.2.1).bind fun y6 =>
              some ((y6.1.1, ()), ()))
              (cond (x1.1 == 6)
                ((f45 k x1.2.2.1 x1.2.2.2.1).bind fun y7 =>
                some ((y7.1.1, ()), ()))
                (cond (x1.1 == 7)
                  ((f46 k x1.2.2.1).bind fun y8 =>
                  some ((y8.1.1, ()), ()))
                  ((f47 k x1.2.2.1 x1.2.2.2.1).bind fun y9 =>
                  some ((y9.1.1, ()), ())))))))))
noncomputable def C16 (k : Nat) : Nat → Fun := mkC [(20, (F20v2 (f20v2 k))), (21, (F21 (f21 k))), (37, (F37 (f37 k))), (42, (F42 (f42 k))), (43, (F43 (f43 k))), (44, (F44 (f44 k))), (45, (F45 (f45 k))), (46, (F46 (f46 k))), (47, (F47 (f47 k)))]
theorem c16_ok (k : Nat) : ∀ f, SoundFn Try.prog f (C16 k f) := (mkC_cons (s20v2 k) (mkC_cons (s21 k) (mkC_cons (s37 k) (mkC_cons (s42 k) (mkC_cons (s43 k) (mkC_cons (s44 k) (mkC_cons (s45 k) (mkC_cons (s46 k) (mkC_cons (s47 k) mkC_nil)))))))))
theorem e16 (k : Nat) (x : (a16).C) : bodyW (C16 k) tt noH Try.f16 a16 o16 x = u16 (f16 k) x := by kernel_rfl
theorem s16 (k : Nat) : SoundFn Try.prog 16 (F16 (f16 k)) :=
  have hC := c16_ok k
  fnW_sound hC ttOk (draw_ok hC ttOk mixed) Try.func16 (c0 := bd Try.f16) rfl (entry Try.func16 rfl (by decide)) noH_ok (fun x _ h => (e16 k x).trans h)
/-! f87 fathom/term.fits$1$1 (R) -/
noncomputable def a87 : Shape := ⟨[.d i64, .ptr 0], [.box [.d i64]]⟩
noncomputable def o87 : List Shape := [⟨[.d .bool], []⟩]
abbrev R87 : Type := ((Bool × Unit) × Unit)
abbrev T87 : Type := Int → Int → Option R87
noncomputable def u87 (f : T87) : (a87).C → Option (OutC o87) := fun (x : ((Int × Unit × Unit) × ((Int × Unit) × Unit))) => f x.1.1 x.2.1.1
noncomputable def F87 (f : T87) : Fun := ⟨true, runR a87 o87 (u87 f)⟩
noncomputable def f87 (k : Nat) : T87 := fun k0 o0 =>
  cond (decide (k0 < 0))
    (some ((true, ()), ()))
    (some (((decide (k0 ≥ o0)), ()), ()))
noncomputable def C87 (k : Nat) : Nat → Fun := mkC []
theorem c87_ok (k : Nat) : ∀ f, SoundFn Try.prog f (C87 k f) := mkC_nil
theorem e87 (k : Nat) (x : (a87).C) : bodyR (C87 k) tt noH Try.f87 a87 o87 x = u87 (f87 k) x := by kernel_rfl
theorem s87 (k : Nat) : SoundFn Try.prog 87 (F87 (f87 k)) :=
  have hC := c87_ok k
  fnR_sound hC ttOk (draw_ok hC ttOk mixed) Try.func87 (c0 := bd Try.f87) rfl (entry Try.func87 rfl (by decide)) noH_ok rfl (fun x _ h => (e87 k x).trans h)
/-! f106v2 slices.IndexFunc[[]int,int] (R) -/
noncomputable def a106v2 : Shape := ⟨[.d (.slice i64), .fn 87 [0]], [.box [.d i64]]⟩
noncomputable def o106v2 : List Shape := [⟨[.d i64], []⟩]
abbrev R106v2 : Type := ((Int × Unit) × Unit)
abbrev T106v2 : Type := (List Int) → Int → Option R106v2
noncomputable def u106v2 (f : T106v2) : (a106v2).C → Option (OutC o106v2) := fun (x : (((List Int) × Unit × Unit) × ((Int × Unit) × Unit))) => f x.1.1 x.2.1.1
noncomputable def F106v2 (f : T106v2) : Fun := ⟨true, runR a106v2 o106v2 (u106v2 f)⟩
noncomputable def pa106v2_26 : Shape := ⟨[.d (.slice i64), .fn 87 [0], .d i64, .d i64], [.lk (.box [.d i64])]⟩
noncomputable def pw106v2_26 : List Vm.Way := [⟨.exit 0, [], ⟨[], [.any]⟩⟩, ⟨.ret, [4], ⟨[.d i64], [.any]⟩⟩]
abbrev R106v2_26 : Type := ((Unit × (Unit × Unit)) ⊕ ((Int × Unit) × (Unit × Unit)))
abbrev T106v2_26 : Type := (List Int) → Int → Int → Int → Option R106v2_26
noncomputable def u106v2_26 (f : T106v2_26) : (pa106v2_26).C → Option (WayC pw106v2_26) := fun (x : (((List Int) × Unit × Int × Int × Unit) × ((Int × Unit) × Unit))) => f x.1.1 x.1.2.2.1 x.1.2.2.2.1 x.2.1.1
noncomputable def b106v2_26 (k : Nat) (rec : T106v2_26) : T106v2_26 := fun s0 t7 t8 o0 =>
  cond (decide (t8 < t7))
    (ix s0 t8 fun e1 =>
    (f87 k e1 o0).bind fun y2 =>
    cond y2.1.1
      (some (.inr ((t8, ()), ((), ()))))
      ((rec s0 t7 (w64 (t8 + 1)) o0).bind fun y3 =>
      match y3 with
      | .inl y3_0 =>
        some (.inl ((), ((), ())))
      | .inr y3_1 =>
        some (.inr ((y3_1.1.1, ()), ((), ())))))
    (some (.inl ((), ((), ()))))
noncomputable def l106v2_26 (k : Nat) : Nat → T106v2_26
  | 0 => fun _ _ _ _ => none
  | j + 1 => b106v2_26 k (l106v2_26 k j)
noncomputable def f106v2 (k : Nat) : T106v2 := fun s0 o0 =>
  (l106v2_26 k k s0 (s0.length : Int) 0 o0).bind fun y1 =>
  match y1 with
  | .inl y1_0 =>
    some (((-1), ()), ())
  | .inr y1_1 =>
    some ((y1_1.1.1, ()), ())
noncomputable def C106v2 (k : Nat) : Nat → Fun := mkC [(87, (F87 (f87 k)))]
theorem c106v2_ok (k : Nat) : ∀ f, SoundFn Try.prog f (C106v2 k f) := (mkC_cons (s87 k) mkC_nil)
noncomputable def H106v2_26 (k : Nat) : Nat → Option Cut := addH noH 26 ⟨runCut (wrC (bodyOf (codeAt 26 (bd Try.f106) 26))) 19 [0, 1, 7, 8] pa106v2_26 pw106v2_26 (u106v2_26 (l106v2_26 k k))⟩
theorem e106v2_26 (k : Nat) (rec : T106v2_26) (x : (pa106v2_26).C) : roundF (C106v2 k) tt noH (bodyOf (codeAt 26 (bd Try.f106) 26)) 52 19 [0, 1, 7, 8] pa106v2_26 pw106v2_26 (u106v2_26 rec) x = u106v2_26 (b106v2_26 k rec) x := by kernel_rfl
theorem h106v2_26_ok (k : Nat) : ∀ p S, H106v2_26 k p = some S → ∀ c, At (bd Try.f106) p c → CutOk Try.prog c S :=
  have hC := c106v2_ok k
  addLoop hC ttOk (draw_ok hC ttOk mixed) noH_ok (by kernel_rfl) (F := fun j => u106v2_26 (l106v2_26 k j)) (fun _ => rfl) (fun j x _ h => (e106v2_26 k (l106v2_26 k j) x).trans h) k
theorem e106v2 (k : Nat) (x : (a106v2).C) : bodyR (C106v2 k) tt (H106v2_26 k) Try.f106 a106v2 o106v2 x = u106v2 (f106v2 k) x := by kernel_rfl
theorem s106v2 (k : Nat) : SoundFn Try.prog 106 (F106v2 (f106v2 k)) :=
  have hC := c106v2_ok k
  fnR_sound hC ttOk (draw_ok hC ttOk mixed) Try.func106 (c0 := bd Try.f106) rfl (entry Try.func106 rfl (by decide)) (h106v2_26_ok k) rfl (fun x _ h => (e106v2 k x).trans h)
/-! f86v2 slices.ContainsFunc[[]int,int] (R) -/
noncomputable def a86v2 : Shape := ⟨[.d (.slice i64), .fn 87 [0]], [.box [.d i64]]⟩
noncomputable def o86v2 : List Shape := [⟨[.d .bool], []⟩]
abbrev R86v2 : Type := ((Bool × Unit) × Unit)
abbrev T86v2 : Type := (List Int) → Int → Option R86v2
noncomputable def u86v2 (f : T86v2) : (a86v2).C → Option (OutC o86v2) := fun (x : (((List Int) × Unit × Unit) × ((Int × Unit) × Unit))) => f x.1.1 x.2.1.1
noncomputable def F86v2 (f : T86v2) : Fun := ⟨true, runR a86v2 o86v2 (u86v2 f)⟩
noncomputable def f86v2 (k : Nat) : T86v2 := fun s0 o0 =>
  (f106v2 k s0 o0).bind fun y1 =>
  some (((decide (y1.1.1 ≥ 0)), ()), ())
noncomputable def C86v2 (k : Nat) : Nat → Fun := mkC [(106, (F106v2 (f106v2 k)))]
theorem c86v2_ok (k : Nat) : ∀ f, SoundFn Try.prog f (C86v2 k f) := (mkC_cons (s106v2 k) mkC_nil)
theorem e86v2 (k : Nat) (x : (a86v2).C) : bodyR (C86v2 k) tt noH Try.f86 a86v2 o86v2 x = u86v2 (f86v2 k) x := by kernel_rfl
theorem s86v2 (k : Nat) : SoundFn Try.prog 86 (F86v2 (f86v2 k)) :=
  have hC := c86v2_ok k
  fnR_sound hC ttOk (draw_ok hC ttOk mixed) Try.func86 (c0 := bd Try.f86) rfl (entry Try.func86 rfl (by decide)) noH_ok rfl (fun x _ h => (e86v2 k x).trans h)
/-! f85 fathom/term.fits$1 (R) -/
noncomputable def a85 : Shape := ⟨[.d (.slice i64), .ptr 0], [.box [.d i64]]⟩
noncomputable def o85 : List Shape := [⟨[.d .bool], []⟩]
abbrev R85 : Type := ((Bool × Unit) × Unit)
abbrev T85 : Type := (List Int) → Int → Option R85
noncomputable def u85 (f : T85) : (a85).C → Option (OutC o85) := fun (x : (((List Int) × Unit × Unit) × ((Int × Unit) × Unit))) => f x.1.1 x.2.1.1
noncomputable def F85 (f : T85) : Fun := ⟨true, runR a85 o85 (u85 f)⟩
noncomputable def f85 (k : Nat) : T85 := fun l0 o0 =>
  (f86v2 k l0 o0).bind fun y1 =>
  some (((!y1.1.1), ()), ())
noncomputable def C85 (k : Nat) : Nat → Fun := mkC [(86, (F86v2 (f86v2 k)))]
theorem c85_ok (k : Nat) : ∀ f, SoundFn Try.prog f (C85 k f) := (mkC_cons (s86v2 k) mkC_nil)
theorem e85 (k : Nat) (x : (a85).C) : bodyR (C85 k) tt noH Try.f85 a85 o85 x = u85 (f85 k) x := by kernel_rfl
theorem s85 (k : Nat) : SoundFn Try.prog 85 (F85 (f85 k)) :=
  have hC := c85_ok k
  fnR_sound hC ttOk (draw_ok hC ttOk mixed) Try.func85 (c0 := bd Try.f85) rfl (entry Try.func85 rfl (by decide)) noH_ok rfl (fun x _ h => (e85 k x).trans h)
/-! f41 fathom/term.fits (R) -/
noncomputable def a41 : Shape := ⟨[.d i64, .d i64, .d T_Term], []⟩
noncomputable def o41 : List Shape := [⟨[.d .bool], []⟩]
abbrev R41 : Type := ((Bool × Unit) × Unit)
abbrev T41 : Type := Int → Int → D_Term → Option R41
noncomputable def u41 (f : T41) : (a41).C → Option (OutC o41) := fun (x : ((Int × Int × D_Term × Unit) × Unit)) => f x.1.1 x.1.2.1 x.1.2.2.1
noncomputable def F41 (f : T41) : Fun := ⟨true, runR a41 o41 (u41 f)⟩
noncomputable def f41 (k : Nat) : T41 := fun w0 i1 x2 =>
  cond (x2.1 == 1)
    (cond (beqD T_Term x2 ((x2.1, ByteArray.empty, x2.2.2.1, 0, 0, 0, ()) : D_Term))
      (cond (decide (x2.2.2.1 ≥ 0))
        (cond (decide (w0 < 0))
          (none)
          (some (((decide (x2.2.2.1 < (w64 (1 * 2 ^ (min w0.toNat 64))))), ()), ())))
        (some ((false, ()), ())))
      (some ((false, ()), ())))
    (cond (x2.1 == 2)
      (cond (beqD T_Term x2 ((x2.1, ByteArray.empty, x2.2.2.1, 0, 0, 0, ()) : D_Term))
        (cond (decide (x2.2.2.1 ≥ 0))
          (some (((decide (x2.2.2.1 < 64)), ()), ()))
          (some ((false, ()), ())))
        (some ((false, ()), ())))
      (cond (x2.1 == 3)
        (cond (beqD T_Term x2 ((x2.1, x2.2.1, 0, x2.2.2.2.1, 0, 0, ()) : D_Term))
          ((f88 k x2.2.1).bind fun y1 =>
          cond y1.1.1
            ((f85 k [x2.2.2.2.1] i1).bind fun y2 =>
            some ((y2.1.1, ()), ()))
            (some ((false, ()), ())))
          (some ((false, ()), ())))
        (cond (x2.1 == 4)
          (cond (beqD T_Term x2 ((x2.1, x2.2.1, 0, x2.2.2.2.1, x2.2.2.2.2.1, 0, ()) : D_Term))
            ((f82 k x2.2.1).bind fun y3 =>
            cond (decide (y3.1.1 > 0))
              ((f85 k [x2.2.2.2.1, x2.2.2.2.2.1] i1).bind fun y4 =>
              some ((y4.1.1, ()), ()))
              (some ((false, ()), ())))
            (some ((false, ()), ())))
          (cond (x2.1 == 5)
            (cond (x2.2.1.toList == ByteArray.empty.toList)
              (cond (x2.2.2.1 == 0)
                ((f85 k [x2.2.2.2.1, x2.2.2.2.2.1, x2.2.2.2.2.2.1] i1).bind fun y5 =>
                some ((y5.1.1, ()), ()))
                (some ((false, ()), ())))
              (some ((false, ()), ())))
            (some ((false, ()), ()))))))
noncomputable def C41 (k : Nat) : Nat → Fun := mkC [(82, (F82 (f82 k))), (85, (F85 (f85 k))), (88, (F88 (f88 k)))]
theorem c41_ok (k : Nat) : ∀ f, SoundFn Try.prog f (C41 k f) := (mkC_cons (s82 k) (mkC_cons (s85 k) (mkC_cons (s88 k) mkC_nil)))
theorem e41 (k : Nat) (x : (a41).C) : bodyR (C41 k) tt noH Try.f41 a41 o41 x = u41 (f41 k) x := by kernel_rfl
theorem s41 (k : Nat) : SoundFn Try.prog 41 (F41 (f41 k)) :=
  have hC := c41_ok k
  fnR_sound hC ttOk (draw_ok hC ttOk mixed) Try.func41 (c0 := bd Try.f41) rfl (entry Try.func41 rfl (by decide)) noH_ok rfl (fun x _ h => (e41 k x).trans h)
/-! f11 fathom/term.Check (R) -/
noncomputable def a11 : Shape := ⟨[.d i64, .d (.slice T_Term)], []⟩
noncomputable def o11 : List Shape := [⟨[.d i64], []⟩]
abbrev R11 : Type := ((Int × Unit) × Unit)
abbrev T11 : Type := Int → (List D_Term) → Option R11
noncomputable def u11 (f : T11) : (a11).C → Option (OutC o11) := fun (x : ((Int × (List D_Term) × Unit) × Unit)) => f x.1.1 x.1.2.1
noncomputable def F11 (f : T11) : Fun := ⟨true, runR a11 o11 (u11 f)⟩
noncomputable def pa11_58 : Shape := ⟨[.d i64, .d (.slice T_Term), .d i64, .d i64], []⟩
noncomputable def pw11_58 : List Vm.Way := [⟨.exit 0, [], ⟨[], []⟩⟩, ⟨.ret, [4], ⟨[.d i64], []⟩⟩]
abbrev R11_58 : Type := ((Unit × Unit) ⊕ ((Int × Unit) × Unit))
abbrev T11_58 : Type := Int → (List D_Term) → Int → Int → Option R11_58
noncomputable def u11_58 (f : T11_58) : (pa11_58).C → Option (WayC pw11_58) := fun (x : ((Int × (List D_Term) × Int × Int × Unit) × Unit)) => f x.1.1 x.1.2.1 x.1.2.2.1 x.1.2.2.2.1
noncomputable def b11_58 (k : Nat) (rec : T11_58) : T11_58 := fun width0 t15 t16 t17 =>
  cond (decide (t17 < t16))
    (ix t15 t17 fun e1 =>
    (f41 k width0 t17 e1).bind fun y2 =>
    cond (!y2.1.1)
      (some (.inr ((1, ()), ())))
      ((rec width0 t15 t16 (w64 (t17 + 1))).bind fun y3 =>
      match y3 with
      | .inl y3_0 =>
        some (.inl ((), ()))
      | .inr y3_1 =>
        some (.inr ((y3_1.1.1, ()), ()))))
    (some (.inl ((), ())))
noncomputable def l11_58 (k : Nat) : Nat → T11_58
  | 0 => fun _ _ _ _ => none
  | j + 1 => b11_58 k (l11_58 k j)
noncomputable def f11 (k : Nat) : T11 := fun width0 l1 =>
  (f40 k width0).bind fun y1 =>
  cond (!y1.1.1)
    (some ((1, ()), ()))
    (cond (decide ((l1.length : Int) > 8192))
      (some ((1, ()), ()))
      ((l11_58 k k width0 l1 (l1.length : Int) 0).bind fun y2 =>
      match y2 with
      | .inl y2_0 =>
        some ((0, ()), ())
      | .inr y2_1 =>
        some ((y2_1.1.1, ()), ())))
noncomputable def C11 (k : Nat) : Nat → Fun := mkC [(40, (F40 (f40 k))), (41, (F41 (f41 k)))]
theorem c11_ok (k : Nat) : ∀ f, SoundFn Try.prog f (C11 k f) := (mkC_cons (s40 k) (mkC_cons (s41 k) mkC_nil))
noncomputable def H11_58 (k : Nat) : Nat → Option Cut := addH noH 58 ⟨runCut (wrC (bodyOf (codeAt 58 (bd Try.f11) 58))) 28 [0, 15, 16, 17] pa11_58 pw11_58 (u11_58 (l11_58 k k))⟩
theorem e11_58 (k : Nat) (rec : T11_58) (x : (pa11_58).C) : roundF (C11 k) tt noH (bodyOf (codeAt 58 (bd Try.f11) 58)) 116 28 [0, 15, 16, 17] pa11_58 pw11_58 (u11_58 rec) x = u11_58 (b11_58 k rec) x := by kernel_rfl
theorem h11_58_ok (k : Nat) : ∀ p S, H11_58 k p = some S → ∀ c, At (bd Try.f11) p c → CutOk Try.prog c S :=
  have hC := c11_ok k
  addLoop hC ttOk (draw_ok hC ttOk mixed) noH_ok (by kernel_rfl) (F := fun j => u11_58 (l11_58 k j)) (fun _ => rfl) (fun j x _ h => (e11_58 k (l11_58 k j) x).trans h) k
theorem e11 (k : Nat) (x : (a11).C) : bodyR (C11 k) tt (H11_58 k) Try.f11 a11 o11 x = u11 (f11 k) x := by kernel_rfl
theorem s11 (k : Nat) : SoundFn Try.prog 11 (F11 (f11 k)) :=
  have hC := c11_ok k
  fnR_sound hC ttOk (draw_ok hC ttOk mixed) Try.func11 (c0 := bd Try.f11) rfl (entry Try.func11 rfl (by decide)) (h11_58_ok k) rfl (fun x _ h => (e11 k x).trans h)
/-! f38 fathom/term.one (R) -/
noncomputable def a38 : Shape := ⟨[.d i64, .d .str, .d i64], []⟩
noncomputable def o38 : List Shape := [⟨[.d i64], []⟩]
abbrev R38 : Type := ((Int × Unit) × Unit)
abbrev T38 : Type := Int → ByteArray → Int → Option R38
noncomputable def u38 (f : T38) : (a38).C → Option (OutC o38) := fun (x : ((Int × ByteArray × Int × Unit) × Unit)) => f x.1.1 x.1.2.1 x.1.2.2.1
noncomputable def F38 (f : T38) : Fun := ⟨true, runR a38 o38 (u38 f)⟩
noncomputable def f38 (k : Nat) : T38 := fun w0 op1 a2 =>
  cond (op1.toList == (ByteArray.mk #[45]).toList)
    (cond (decide (w0 < 0))
      (none)
      (let v1 := ibits .and .i64 (w64 (0 - a2)) (w64 ((w64 (1 * 2 ^ (min w0.toNat 64))) - 1))
      some ((v1, ()), ())))
    (cond (op1.toList == (ByteArray.mk #[126]).toList)
      (cond (decide (w0 < 0))
        (none)
        (let v2 := ibits .and .i64 (ibits .xor .i64 (-1) a2) (w64 ((w64 (1 * 2 ^ (min w0.toNat 64))) - 1))
        some ((v2, ()), ())))
      ((f66 k (a2 == 0)).bind fun y3 =>
      some ((y3.1.1, ()), ())))
noncomputable def C38 (k : Nat) : Nat → Fun := mkC [(66, (F66 (f66 k)))]
theorem c38_ok (k : Nat) : ∀ f, SoundFn Try.prog f (C38 k f) := (mkC_cons (s66 k) mkC_nil)
theorem e38 (k : Nat) (x : (a38).C) : bodyR (C38 k) tt noH Try.f38 a38 o38 x = u38 (f38 k) x := by kernel_rfl
theorem s38 (k : Nat) : SoundFn Try.prog 38 (F38 (f38 k)) :=
  have hC := c38_ok k
  fnR_sound hC ttOk (draw_ok hC ttOk mixed) Try.func38 (c0 := bd Try.f38) rfl (entry Try.func38 rfl (by decide)) noH_ok rfl (fun x _ h => (e38 k x).trans h)
/-! f9 fathom/term.Eval (R) -/
noncomputable def a9 : Shape := ⟨[.d i64, .d (.slice T_Term), .d (.slice i64)], []⟩
noncomputable def o9 : List Shape := [⟨[.d (.slice i64)], []⟩]
abbrev R9 : Type := (((List Int) × Unit) × Unit)
abbrev T9 : Type := Int → (List D_Term) → (List Int) → Option R9
noncomputable def u9 (f : T9) : (a9).C → Option (OutC o9) := fun (x : ((Int × (List D_Term) × (List Int) × Unit) × Unit)) => f x.1.1 x.1.2.1 x.1.2.2.1
noncomputable def F9 (f : T9) : Fun := ⟨true, runR a9 o9 (u9 f)⟩
noncomputable def pa9_31334 : Shape := ⟨[.d i64, .d (.slice i64), .own i64, .ptr 0, .d i64], [.box [.d i64, .d .str, .d i64, .d i64, .d i64, .d i64]]⟩
noncomputable def pw9_31334 : List Vm.Way := [⟨.normal, [7, 10], ⟨[.own i64, .d i64], [.box [.d i64, .d .str, .d i64, .d i64, .d i64, .d i64]]⟩⟩]
abbrev R9_31334 : Type := (((List Int) × Int × Unit) × ((Int × ByteArray × Int × Int × Int × Int × Unit) × Unit))
abbrev T9_31334 : Type := Int → (List Int) → (List Int) → Int → Int → ByteArray → Int → Int → Int → Int → Option R9_31334
noncomputable def u9_31334 (f : T9_31334) : (pa9_31334).C → Option (WayC pw9_31334) := fun (x : ((Int × (List Int) × (List Int) × Unit × Int × Unit) × ((Int × ByteArray × Int × Int × Int × Int × Unit) × Unit))) => f x.1.1 x.1.2.1 x.1.2.2.1 x.1.2.2.2.2.1 x.2.1.1 x.2.1.2.1 x.2.1.2.2.1 x.2.1.2.2.2.1 x.2.1.2.2.2.2.1 x.2.1.2.2.2.2.2.1
noncomputable def l9_31334 (k : Nat) : T9_31334 := fun width0 reads2 v7 n10 o0_0 o0_1 o0_2 o0_3 o0_4 o0_5 =>
  cond (o0_0 == 1)
    (some ((v7, o0_2, ()), ((o0_0, o0_1, o0_2, o0_3, o0_4, o0_5, ()), ())))
    (cond (o0_0 == 2)
      (cond (decide (o0_2 < (reads2.length : Int)))
        (ix reads2 o0_2 fun e1 =>
        cond (decide (width0 < 0))
          (none)
          (some ((v7, (ibits .and .i64 e1 (w64 ((w64 (1 * 2 ^ (min width0.toNat 64))) - 1))), ()), ((o0_0, o0_1, o0_2, o0_3, o0_4, o0_5, ()), ()))))
        (some ((v7, n10, ()), ((o0_0, o0_1, o0_2, o0_3, o0_4, o0_5, ()), ()))))
      (cond (o0_0 == 3)
        (ix v7 o0_3 fun e2 =>
        (f38 k width0 o0_1 e2).bind fun y3 =>
        some ((v7, y3.1.1, ()), ((o0_0, o0_1, o0_2, o0_3, o0_4, o0_5, ()), ())))
        (cond (o0_0 == 4)
          (ix v7 o0_3 fun e4 =>
          ix v7 o0_4 fun e5 =>
          (f25 k width0 o0_1 e4 e5).bind fun y6 =>
          some ((v7, y6.1.1, ()), ((o0_0, o0_1, o0_2, o0_3, o0_4, o0_5, ()), ())))
          (ix v7 o0_5 fun e7 =>
          ix v7 o0_3 fun e8 =>
          cond (e8 != 0)
            (ix v7 o0_4 fun e9 =>
            some ((v7, e9, ()), ((o0_0, o0_1, o0_2, o0_3, o0_4, o0_5, ()), ())))
            (some ((v7, e7, ()), ((o0_0, o0_1, o0_2, o0_3, o0_4, o0_5, ()), ())))))))
noncomputable def pa9_122 : Shape := ⟨[.d i64, .d (.slice i64), .own i64, .d (.slice T_Term), .d i64, .d i64], []⟩
noncomputable def pw9_122 : List Vm.Way := [⟨.exit 0, [7], ⟨[.own i64], []⟩⟩]
abbrev R9_122 : Type := (((List Int) × Unit) × Unit)
abbrev T9_122 : Type := Int → (List Int) → (List Int) → (List D_Term) → Int → Int → Option R9_122
noncomputable def u9_122 (f : T9_122) : (pa9_122).C → Option (WayC pw9_122) := fun (x : ((Int × (List Int) × (List Int) × (List D_Term) × Int × Int × Unit) × Unit)) => f x.1.1 x.1.2.1 x.1.2.2.1 x.1.2.2.2.1 x.1.2.2.2.2.1 x.1.2.2.2.2.2.1
noncomputable def b9_122 (k : Nat) (rec : T9_122) : T9_122 := fun width0 reads2 v7 t15 t16 t17 =>
  cond (decide (t17 < t16))
    (ix t15 t17 fun e1 =>
    (l9_31334 k width0 reads2 v7 0 e1.1 e1.2.1 e1.2.2.1 e1.2.2.2.1 e1.2.2.2.2.1 e1.2.2.2.2.2.1).bind fun y2 =>
    gd (decide ((y2.1.1.length + 1) * 8 ≤ room)) <|
    (rec width0 reads2 (y2.1.1 ++ ([y2.1.2.1] : List Int)) t15 t16 (w64 (t17 + 1))).bind fun y3 =>
    some ((y3.1.1, ()), ()))
    (some ((v7, ()), ()))
noncomputable def l9_122 (k : Nat) : Nat → T9_122
  | 0 => fun _ _ _ _ _ _ => none
  | j + 1 => b9_122 k (l9_122 k j)
noncomputable def f9 (k : Nat) : T9 := fun width0 l1 reads2 =>
  (f11 k width0 l1).bind fun y1 =>
  cond (y1.1.1 != 0)
    (some (([], ()), ()))
    ((l9_122 k k width0 reads2 [] l1 (l1.length : Int) 0).bind fun y2 =>
    some ((y2.1.1, ()), ()))
noncomputable def C9 (k : Nat) : Nat → Fun := mkC [(11, (F11 (f11 k))), (25, (F25 (f25 k))), (38, (F38 (f38 k)))]
theorem c9_ok (k : Nat) : ∀ f, SoundFn Try.prog f (C9 k f) := (mkC_cons (s11 k) (mkC_cons (s25 k) (mkC_cons (s38 k) mkC_nil)))
noncomputable def H9_31334 (k : Nat) : Nat → Option Cut := addH noH 31334 ⟨runCut (wrC (codeAt 31334 (bd Try.f9) 31334)) 92 [0, 2, 7, 9, 10] pa9_31334 pw9_31334 (u9_31334 (l9_31334 k))⟩
theorem e9_31334 (k : Nat) (x : (pa9_31334).C) : pieceF (C9 k) tt noH (codeAt 31334 (bd Try.f9) 31334) 31334 92 [0, 2, 7, 9, 10] pa9_31334 pw9_31334 x = u9_31334 (l9_31334 k) x := by kernel_rfl
theorem h9_31334_ok (k : Nat) : ∀ p S, H9_31334 k p = some S → ∀ c, At (bd Try.f9) p c → CutOk Try.prog c S :=
  have hC := c9_ok k
  addPiece hC ttOk (draw_ok hC ttOk mixed) noH_ok (fun x _ h => (e9_31334 k x).trans h)
noncomputable def H9_122 (k : Nat) : Nat → Option Cut := addH (H9_31334 k) 122 ⟨runCut (wrC (bodyOf (codeAt 122 (bd Try.f9) 122))) 92 [0, 2, 7, 15, 16, 17] pa9_122 pw9_122 (u9_122 (l9_122 k k))⟩
theorem e9_122 (k : Nat) (rec : T9_122) (x : (pa9_122).C) : roundF (C9 k) tt (H9_31334 k) (bodyOf (codeAt 122 (bd Try.f9) 122)) 244 92 [0, 2, 7, 15, 16, 17] pa9_122 pw9_122 (u9_122 rec) x = u9_122 (b9_122 k rec) x := by kernel_rfl
theorem h9_122_ok (k : Nat) : ∀ p S, H9_122 k p = some S → ∀ c, At (bd Try.f9) p c → CutOk Try.prog c S :=
  have hC := c9_ok k
  addLoop hC ttOk (draw_ok hC ttOk mixed) (h9_31334_ok k) (by kernel_rfl) (F := fun j => u9_122 (l9_122 k j)) (fun _ => rfl) (fun j x _ h => (e9_122 k (l9_122 k j) x).trans h) k
theorem e9 (k : Nat) (x : (a9).C) : bodyR (C9 k) tt (H9_122 k) Try.f9 a9 o9 x = u9 (f9 k) x := by kernel_rfl
theorem s9 (k : Nat) : SoundFn Try.prog 9 (F9 (f9 k)) :=
  have hC := c9_ok k
  fnR_sound hC ttOk (draw_ok hC ttOk mixed) Try.func9 (c0 := bd Try.f9) rfl (entry Try.func9 rfl (by decide)) (h9_122_ok k) rfl (fun x _ h => (e9 k x).trans h)
/-! f22 fathom/fathomlaw25.at (R) -/
noncomputable def a22 : Shape := ⟨[.d (.slice i64), .d i64], []⟩
noncomputable def o22 : List Shape := [⟨[.d i64], []⟩]
abbrev R22 : Type := ((Int × Unit) × Unit)
abbrev T22 : Type := (List Int) → Int → Option R22
noncomputable def u22 (f : T22) : (a22).C → Option (OutC o22) := fun (x : (((List Int) × Int × Unit) × Unit)) => f x.1.1 x.1.2.1
noncomputable def F22 (f : T22) : Fun := ⟨true, runR a22 o22 (u22 f)⟩
noncomputable def f22 (k : Nat) : T22 := fun v0 i1 =>
  cond (decide (i1 < 0))
    (some ((0, ()), ()))
    (cond (decide (i1 ≥ (v0.length : Int)))
      (some ((0, ()), ()))
      (ix v0 i1 fun e1 =>
      some ((e1, ()), ())))
noncomputable def C22 (k : Nat) : Nat → Fun := mkC []
theorem c22_ok (k : Nat) : ∀ f, SoundFn Try.prog f (C22 k f) := mkC_nil
theorem e22 (k : Nat) (x : (a22).C) : bodyR (C22 k) tt noH Try.f22 a22 o22 x = u22 (f22 k) x := by kernel_rfl
theorem s22 (k : Nat) : SoundFn Try.prog 22 (F22 (f22 k)) :=
  have hC := c22_ok k
  fnR_sound hC ttOk (draw_ok hC ttOk mixed) Try.func22 (c0 := bd Try.f22) rfl (entry Try.func22 rfl (by decide)) noH_ok rfl (fun x _ h => (e22 k x).trans h)
/-! f21v2 (*fathom/term.Terms).Read (W) -/
noncomputable def a21v2 : Shape := ⟨[.ptr 0, .d i64], [.box [.d i64, .own T_Term, .mp 1], .map T_Term i64]⟩
noncomputable def o21v2 : List Shape := [⟨[.d i64], [.box [.d i64, .own T_Term, .mp 1], .map T_Term i64]⟩]
abbrev R21v2 : Type := ((Int × Unit) × ((Int × (List D_Term) × Unit × Unit) × (List (D_Term × Int)) × Unit))
abbrev T21v2 : Type := Int → Int → (List D_Term) → (List (D_Term × Int)) → Option R21v2
noncomputable def u21v2 (f : T21v2) : (a21v2).C → Option (OutC o21v2) := fun (x : ((Unit × Int × Unit) × ((Int × (List D_Term) × Unit × Unit) × (List (D_Term × Int)) × Unit))) => f x.1.2.1 x.2.1.1 x.2.1.2.1 x.2.2.1
noncomputable def F21v2 (f : T21v2) : Fun := ⟨false, runW a21v2 o21v2 (u21v2 f)⟩
noncomputable def f21v2 (k : Nat) : T21v2 := fun i1 o0_0 o0_1 o1 =>
  cond (decide (i1 < 0))
    (some (((-1), ()), ((o0_0, o0_1, (), ()), o1, ())))
    (cond (decide (i1 ≥ 64))
      (some (((-1), ()), ((o0_0, o0_1, (), ()), o1, ())))
      ((f58 k (2, ByteArray.empty, i1, 0, 0, 0, ()) o0_0 o0_1 o1).bind fun y1 =>
      some ((y1.1.1, ()), ((y1.2.1.1, y1.2.1.2.1, (), ()), y1.2.2.1, ()))))
noncomputable def C21v2 (k : Nat) : Nat → Fun := mkC [(58, (F58 (f58 k)))]
theorem c21v2_ok (k : Nat) : ∀ f, SoundFn Try.prog f (C21v2 k f) := (mkC_cons (s58 k) mkC_nil)
theorem e21v2 (k : Nat) (x : (a21v2).C) : bodyW (C21v2 k) tt noH Try.f21 a21v2 o21v2 x = u21v2 (f21v2 k) x := by kernel_rfl
theorem s21v2 (k : Nat) : SoundFn Try.prog 21 (F21v2 (f21v2 k)) :=
  have hC := c21v2_ok k
  fnW_sound hC ttOk (draw_ok hC ttOk mixed) Try.func21 (c0 := bd Try.f21) rfl (entry Try.func21 rfl (by decide)) noH_ok (fun x _ h => (e21v2 k x).trans h)
/-! f42v2 (*fathom/term.Terms).Unary (W) -/
noncomputable def a42v2 : Shape := ⟨[.ptr 0, .d .str, .d i64], [.box [.d i64, .own T_Term, .mp 1], .map T_Term i64]⟩
noncomputable def o42v2 : List Shape := [⟨[.d i64], [.box [.d i64, .own T_Term, .mp 1], .map T_Term i64]⟩]
abbrev R42v2 : Type := ((Int × Unit) × ((Int × (List D_Term) × Unit × Unit) × (List (D_Term × Int)) × Unit))
abbrev T42v2 : Type := ByteArray → Int → Int → (List D_Term) → (List (D_Term × Int)) → Option R42v2
noncomputable def u42v2 (f : T42v2) : (a42v2).C → Option (OutC o42v2) := fun (x : ((Unit × ByteArray × Int × Unit) × ((Int × (List D_Term) × Unit × Unit) × (List (D_Term × Int)) × Unit))) => f x.1.2.1 x.1.2.2.1 x.2.1.1 x.2.1.2.1 x.2.2.1
noncomputable def F42v2 (f : T42v2) : Fun := ⟨false, runW a42v2 o42v2 (u42v2 f)⟩
noncomputable def f42v2 (k : Nat) : T42v2 := fun op1 a2 o0_0 o0_1 o1 =>
  (f81v2 k [a2] o0_0 o0_1 o1).bind fun y1 =>
  cond (!y1.1.1)
    (some (((-1), ()), ((o0_0, o0_1, (), ()), o1, ())))
    ((f88 k op1).bind fun y2 =>
    cond (!y2.1.1)
      (some (((-1), ()), ((o0_0, o0_1, (), ()), o1, ())))
      ((f83v2 k a2 o0_0 o0_1 o1).bind fun y3 =>
      cond y3.1.2.1
        ((f38 k o0_0 op1 y3.1.1).bind fun y4 =>
        (f20 k y4.1.1 o0_0 o0_1 o1).bind fun y5 =>
        some ((y5.1.1, ()), ((y5.2.1.1, y5.2.1.2.1, (), ()), y5.2.2.1, ())))
        ((f58 k (3, op1, 0, a2, 0, 0, ()) o0_0 o0_1 o1).bind fun y6 =>
        some ((y6.1.1, ()), ((y6.2.1.1, y6.2.1.2.1, (), ()), y6.2.2.1, ())))))
noncomputable def C42v2 (k : Nat) : Nat → Fun := mkC [(20, (F20 (f20 k))), (38, (F38 (f38 k))), (58, (F58 (f58 k))), (81, (F81v2 (f81v2 k))), (83, (F83v2 (f83v2 k))), (88, (F88 (f88 k)))]
theorem c42v2_ok (k : Nat) : ∀ f, SoundFn Try.prog f (C42v2 k f) := (mkC_cons (s20 k) (mkC_cons (s38 k) (mkC_cons (s58 k) (mkC_cons (s81v2 k) (mkC_cons (s83v2 k) (mkC_cons (s88 k) mkC_nil))))))
theorem e42v2 (k : Nat) (x : (a42v2).C) : bodyW (C42v2 k) tt noH Try.f42 a42v2 o42v2 x = u42v2 (f42v2 k) x := by kernel_rfl
theorem s42v2 (k : Nat) : SoundFn Try.prog 42 (F42v2 (f42v2 k)) :=
  have hC := c42v2_ok k
  fnW_sound hC ttOk (draw_ok hC ttOk mixed) Try.func42 (c0 := bd Try.f42) rfl (entry Try.func42 rfl (by decide)) noH_ok (fun x _ h => (e42v2 k x).trans h)
/-! f43v2 (*fathom/term.Terms).Ite (W) -/
noncomputable def a43v2 : Shape := ⟨[.ptr 0, .d i64, .d i64, .d i64], [.box [.d i64, .own T_Term, .mp 1], .map T_Term i64]⟩
noncomputable def o43v2 : List Shape := [⟨[.d i64], [.box [.d i64, .own T_Term, .mp 1], .map T_Term i64]⟩]
abbrev R43v2 : Type := ((Int × Unit) × ((Int × (List D_Term) × Unit × Unit) × (List (D_Term × Int)) × Unit))
abbrev T43v2 : Type := Int → Int → Int → Int → (List D_Term) → (List (D_Term × Int)) → Option R43v2
noncomputable def u43v2 (f : T43v2) : (a43v2).C → Option (OutC o43v2) := fun (x : ((Unit × Int × Int × Int × Unit) × ((Int × (List D_Term) × Unit × Unit) × (List (D_Term × Int)) × Unit))) => f x.1.2.1 x.1.2.2.1 x.1.2.2.2.1 x.2.1.1 x.2.1.2.1 x.2.2.1
noncomputable def F43v2 (f : T43v2) : Fun := ⟨false, runW a43v2 o43v2 (u43v2 f)⟩
noncomputable def f43v2 (k : Nat) : T43v2 := fun c1 a2 b3 o0_0 o0_1 o1 =>
  (f81v2 k [c1, a2, b3] o0_0 o0_1 o1).bind fun y1 =>
  cond (!y1.1.1)
    (some (((-1), ()), ((o0_0, o0_1, (), ()), o1, ())))
    ((f83v2 k c1 o0_0 o0_1 o1).bind fun y2 =>
    cond y2.1.2.1
      (cond (y2.1.1 != 0)
        (some ((a2, ()), ((o0_0, o0_1, (), ()), o1, ())))
        (some ((b3, ()), ((o0_0, o0_1, (), ()), o1, ()))))
      (cond (a2 == b3)
        (some ((a2, ()), ((o0_0, o0_1, (), ()), o1, ())))
        ((f58 k (5, ByteArray.empty, 0, c1, a2, b3, ()) o0_0 o0_1 o1).bind fun y3 =>
        some ((y3.1.1, ()), ((y3.2.1.1, y3.2.1.2.1, (), ()), y3.2.2.1, ())))))
noncomputable def C43v2 (k : Nat) : Nat → Fun := mkC [(58, (F58 (f58 k))), (81, (F81v2 (f81v2 k))), (83, (F83v2 (f83v2 k)))]
theorem c43v2_ok (k : Nat) : ∀ f, SoundFn Try.prog f (C43v2 k f) := (mkC_cons (s58 k) (mkC_cons (s81v2 k) (mkC_cons (s83v2 k) mkC_nil)))
theorem e43v2 (k : Nat) (x : (a43v2).C) : bodyW (C43v2 k) tt noH Try.f43 a43v2 o43v2 x = u43v2 (f43v2 k) x := by kernel_rfl
theorem s43v2 (k : Nat) : SoundFn Try.prog 43 (F43v2 (f43v2 k)) :=
  have hC := c43v2_ok k
  fnW_sound hC ttOk (draw_ok hC ttOk mixed) Try.func43 (c0 := bd Try.f43) rfl (entry Try.func43 rfl (by decide)) noH_ok (fun x _ h => (e43v2 k x).trans h)
/-! f89v2 (*fathom/term.Terms).truly (R) -/
noncomputable def a89v2 : Shape := ⟨[.ptr 0, .d i64], [.box [.d i64, .d (.slice T_Term), .mp 1], .map T_Term i64]⟩
noncomputable def o89v2 : List Shape := [⟨[.d .bool], []⟩]
abbrev R89v2 : Type := ((Bool × Unit) × Unit)
abbrev T89v2 : Type := Int → Int → (List D_Term) → (List (D_Term × Int)) → Option R89v2
noncomputable def u89v2 (f : T89v2) : (a89v2).C → Option (OutC o89v2) := fun (x : ((Unit × Int × Unit) × ((Int × (List D_Term) × Unit × Unit) × (List (D_Term × Int)) × Unit))) => f x.1.2.1 x.2.1.1 x.2.1.2.1 x.2.2.1
noncomputable def F89v2 (f : T89v2) : Fun := ⟨true, runR a89v2 o89v2 (u89v2 f)⟩
noncomputable def f89v2 (k : Nat) : T89v2 := fun i1 o0_0 o0_1 o1 =>
  (f81v2 k [i1] o0_0 o0_1 o1).bind fun y1 =>
  cond (!y1.1.1)
    (some ((false, ()), ()))
    (ix o0_1 i1 fun e2 =>
    cond (e2.1 == 1)
      (some (((decide (e2.2.2.1 ≤ 1)), ()), ()))
      (cond (e2.1 == 3)
        (some (((e2.2.1.toList == (ByteArray.mk #[33]).toList), ()), ()))
        (cond (e2.1 == 4)
          ((f82 k e2.2.1).bind fun y3 =>
          some (((decide (y3.1.1 ≤ 3)), ()), ()))
          (some ((false, ()), ())))))
noncomputable def C89v2 (k : Nat) : Nat → Fun := mkC [(81, (F81v2 (f81v2 k))), (82, (F82 (f82 k)))]
theorem c89v2_ok (k : Nat) : ∀ f, SoundFn Try.prog f (C89v2 k f) := (mkC_cons (s81v2 k) (mkC_cons (s82 k) mkC_nil))
theorem e89v2 (k : Nat) (x : (a89v2).C) : bodyR (C89v2 k) tt noH Try.f89 a89v2 o89v2 x = u89v2 (f89v2 k) x := by kernel_rfl
theorem s89v2 (k : Nat) : SoundFn Try.prog 89 (F89v2 (f89v2 k)) :=
  have hC := c89v2_ok k
  fnR_sound hC ttOk (draw_ok hC ttOk mixed) Try.func89 (c0 := bd Try.f89) rfl (entry Try.func89 rfl (by decide)) noH_ok rfl (fun x _ h => (e89v2 k x).trans h)
/-! f44v2 (*fathom/term.Terms).Truth (W) -/
noncomputable def a44v2 : Shape := ⟨[.ptr 0, .d i64], [.box [.d i64, .own T_Term, .mp 1], .map T_Term i64]⟩
noncomputable def o44v2 : List Shape := [⟨[.d i64], [.box [.d i64, .own T_Term, .mp 1], .map T_Term i64]⟩]
abbrev R44v2 : Type := ((Int × Unit) × ((Int × (List D_Term) × Unit × Unit) × (List (D_Term × Int)) × Unit))
abbrev T44v2 : Type := Int → Int → (List D_Term) → (List (D_Term × Int)) → Option R44v2
noncomputable def u44v2 (f : T44v2) : (a44v2).C → Option (OutC o44v2) := fun (x : ((Unit × Int × Unit) × ((Int × (List D_Term) × Unit × Unit) × (List (D_Term × Int)) × Unit))) => f x.1.2.1 x.2.1.1 x.2.1.2.1 x.2.2.1
noncomputable def F44v2 (f : T44v2) : Fun := ⟨false, runW a44v2 o44v2 (u44v2 f)⟩
noncomputable def f44v2 (k : Nat) : T44v2 := fun a1 o0_0 o0_1 o1 =>
  (f81v2 k [a1] o0_0 o0_1 o1).bind fun y1 =>
  cond (!y1.1.1)
    (some (((-1), ()), ((o0_0, o0_1, (), ()), o1, ())))
    ((f89v2 k a1 o0_0 o0_1 o1).bind fun y2 =>
    cond y2.1.1
      (some ((a1, ()), ((o0_0, o0_1, (), ()), o1, ())))
      ((f20 k 0 o0_0 o0_1 o1).bind fun y3 =>
      (f37v2 k (ByteArray.mk #[33, 61]) a1 y3.1.1 y3.2.1.1 y3.2.1.2.1 y3.2.2.1).bind fun y4 =>
      some ((y4.1.1, ()), ((y4.2.1.1, y4.2.1.2.1, (), ()), y4.2.2.1, ()))))
noncomputable def C44v2 (k : Nat) : Nat → Fun := mkC [(20, (F20 (f20 k))), (37, (F37v2 (f37v2 k))), (81, (F81v2 (f81v2 k))), (89, (F89v2 (f89v2 k)))]
theorem c44v2_ok (k : Nat) : ∀ f, SoundFn Try.prog f (C44v2 k f) := (mkC_cons (s20 k) (mkC_cons (s37v2 k) (mkC_cons (s81v2 k) (mkC_cons (s89v2 k) mkC_nil))))
theorem e44v2 (k : Nat) (x : (a44v2).C) : bodyW (C44v2 k) tt noH Try.f44 a44v2 o44v2 x = u44v2 (f44v2 k) x := by kernel_rfl
theorem s44v2 (k : Nat) : SoundFn Try.prog 44 (F44v2 (f44v2 k)) :=
  have hC := c44v2_ok k
  fnW_sound hC ttOk (draw_ok hC ttOk mixed) Try.func44 (c0 := bd Try.f44) rfl (entry Try.func44 rfl (by decide)) noH_ok (fun x _ h => (e44v2 k x).trans h)
/-! f45v2 (*fathom/term.Terms).Both (W) -/
noncomputable def a45v2 : Shape := ⟨[.ptr 0, .d i64, .d i64], [.box [.d i64, .own T_Term, .mp 1], .map T_Term i64]⟩
noncomputable def o45v2 : List Shape := [⟨[.d i64], [.box [.d i64, .own T_Term, .mp 1], .map T_Term i64]⟩]
abbrev R45v2 : Type := ((Int × Unit) × ((Int × (List D_Term) × Unit × Unit) × (List (D_Term × Int)) × Unit))
abbrev T45v2 : Type := Int → Int → Int → (List D_Term) → (List (D_Term × Int)) → Option R45v2
noncomputable def u45v2 (f : T45v2) : (a45v2).C → Option (OutC o45v2) := fun (x : ((Unit × Int × Int × Unit) × ((Int × (List D_Term) × Unit × Unit) × (List (D_Term × Int)) × Unit))) => f x.1.2.1 x.1.2.2.1 x.2.1.1 x.2.1.2.1 x.2.2.1
noncomputable def F45v2 (f : T45v2) : Fun := ⟨false, runW a45v2 o45v2 (u45v2 f)⟩
noncomputable def pa45v2_3998 : Shape := ⟨[.d i64, .d i64, .d .bool], []⟩
noncomputable def pw45v2_3998 : List Vm.Way := [⟨.normal, [51], ⟨[.d .bool], []⟩⟩]
abbrev R45v2_3998 : Type := ((Bool × Unit) × Unit)
abbrev T45v2_3998 : Type := Int → Int → Bool → Option R45v2_3998
noncomputable def u45v2_3998 (f : T45v2_3998) : (pa45v2_3998).C → Option (WayC pw45v2_3998) := fun (x : ((Int × Int × Bool × Unit) × Unit)) => f x.1.1 x.1.2.1 x.1.2.2.1
noncomputable def l45v2_3998 (k : Nat) : T45v2_3998 := fun a1 b2 y10 =>
  cond y10
    (some ((true, ()), ()))
    (some (((a1 == b2), ()), ()))
noncomputable def pa45v2_998 : Shape := ⟨[.d .bool], []⟩
noncomputable def pw45v2_998 : List Vm.Way := [⟨.normal, [48], ⟨[.d .bool], []⟩⟩]
abbrev R45v2_998 : Type := ((Bool × Unit) × Unit)
abbrev T45v2_998 : Type := Bool → Option R45v2_998
noncomputable def u45v2_998 (f : T45v2_998) : (pa45v2_998).C → Option (WayC pw45v2_998) := fun (x : ((Bool × Unit) × Unit)) => f x.1.1
noncomputable def l45v2_998 (k : Nat) : T45v2_998 := fun x8 =>
  some ((x8, ()), ())
noncomputable def pa45v2_248 : Shape := ⟨[.d i64, .d .bool, .d i64, .d .bool], []⟩
noncomputable def pw45v2_248 : List Vm.Way := [⟨.normal, [33], ⟨[.d .bool], []⟩⟩]
abbrev R45v2_248 : Type := ((Bool × Unit) × Unit)
abbrev T45v2_248 : Type := Int → Bool → Int → Bool → Option R45v2_248
noncomputable def u45v2_248 (f : T45v2_248) : (pa45v2_248).C → Option (WayC pw45v2_248) := fun (x : ((Int × Bool × Int × Bool × Unit) × Unit)) => f x.1.1 x.1.2.1 x.1.2.2.1 x.1.2.2.2.1
noncomputable def l45v2_248 (k : Nat) : T45v2_248 := fun n7 x8 m9 y10 =>
  cond x8
    (cond (n7 == 0)
      (some ((true, ()), ()))
      (cond y10
        (some (((m9 == 0), ()), ()))
        (some ((false, ()), ()))))
    (cond y10
      (some (((m9 == 0), ()), ()))
      (some ((false, ()), ())))
noncomputable def f45v2 (k : Nat) : T45v2 := fun a1 b2 o0_0 o0_1 o1 =>
  (f89v2 k a1 o0_0 o0_1 o1).bind fun y1 =>
  cond (!y1.1.1)
    (some (((-1), ()), ((o0_0, o0_1, (), ()), o1, ())))
    ((f89v2 k b2 o0_0 o0_1 o1).bind fun y2 =>
    cond (!y2.1.1)
      (some (((-1), ()), ((o0_0, o0_1, (), ()), o1, ())))
      ((f83v2 k a1 o0_0 o0_1 o1).bind fun y3 =>
      (f83v2 k b2 o0_0 o0_1 o1).bind fun y4 =>
      (l45v2_248 k y3.1.1 y3.1.2.1 y4.1.1 y4.1.2.1).bind fun y5 =>
      cond y5.1.1
        ((f20 k 0 o0_0 o0_1 o1).bind fun y6 =>
        some ((y6.1.1, ()), ((y6.2.1.1, y6.2.1.2.1, (), ()), y6.2.2.1, ())))
        ((l45v2_998 k y3.1.2.1).bind fun y7 =>
        cond y7.1.1
          (some ((b2, ()), ((o0_0, o0_1, (), ()), o1, ())))
          ((l45v2_3998 k a1 b2 y4.1.2.1).bind fun y8 =>
          cond y8.1.1
            (some ((a1, ()), ((o0_0, o0_1, (), ()), o1, ())))
            ((f37v2 k (ByteArray.mk #[38, 38]) a1 b2 o0_0 o0_1 o1).bind fun y9 =>
            some ((y9.1.1, ()), ((y9.2.1.1, y9.2.1.2.1, (), ()), y9.2.2.1, ())))))))
noncomputable def C45v2 (k : Nat) : Nat → Fun := mkC [(20, (F20 (f20 k))), (37, (F37v2 (f37v2 k))), (83, (F83v2 (f83v2 k))), (89, (F89v2 (f89v2 k)))]
theorem c45v2_ok (k : Nat) : ∀ f, SoundFn Try.prog f (C45v2 k f) := (mkC_cons (s20 k) (mkC_cons (s37v2 k) (mkC_cons (s83v2 k) (mkC_cons (s89v2 k) mkC_nil))))
noncomputable def H45v2_3998 (k : Nat) : Nat → Option Cut := addH noH 3998 ⟨runCut (wrC (codeAt 3998 (bd Try.f45) 3998)) 63 [1, 2, 10] pa45v2_3998 pw45v2_3998 (u45v2_3998 (l45v2_3998 k))⟩
theorem e45v2_3998 (k : Nat) (x : (pa45v2_3998).C) : pieceF (C45v2 k) tt noH (codeAt 3998 (bd Try.f45) 3998) 3998 63 [1, 2, 10] pa45v2_3998 pw45v2_3998 x = u45v2_3998 (l45v2_3998 k) x := by kernel_rfl
theorem h45v2_3998_ok (k : Nat) : ∀ p S, H45v2_3998 k p = some S → ∀ c, At (bd Try.f45) p c → CutOk Try.prog c S :=
  have hC := c45v2_ok k
  addPiece hC ttOk (draw_ok hC ttOk mixed) noH_ok (fun x _ h => (e45v2_3998 k x).trans h)
noncomputable def H45v2_998 (k : Nat) : Nat → Option Cut := addH (H45v2_3998 k) 998 ⟨runCut (wrC (codeAt 998 (bd Try.f45) 998)) 63 [8] pa45v2_998 pw45v2_998 (u45v2_998 (l45v2_998 k))⟩
theorem e45v2_998 (k : Nat) (x : (pa45v2_998).C) : pieceF (C45v2 k) tt (H45v2_3998 k) (codeAt 998 (bd Try.f45) 998) 998 63 [8] pa45v2_998 pw45v2_998 x = u45v2_998 (l45v2_998 k) x := by kernel_rfl
theorem h45v2_998_ok (k : Nat) : ∀ p S, H45v2_998 k p = some S → ∀ c, At (bd Try.f45) p c → CutOk Try.prog c S :=
  have hC := c45v2_ok k
  addPiece hC ttOk (draw_ok hC ttOk mixed) (h45v2_3998_ok k) (fun x _ h => (e45v2_998 k x).trans h)
noncomputable def H45v2_248 (k : Nat) : Nat → Option Cut := addH (H45v2_998 k) 248 ⟨runCut (wrC (codeAt 248 (bd Try.f45) 248)) 63 [7, 8, 9, 10] pa45v2_248 pw45v2_248 (u45v2_248 (l45v2_248 k))⟩
theorem e45v2_248 (k : Nat) (x : (pa45v2_248).C) : pieceF (C45v2 k) tt (H45v2_998 k) (codeAt 248 (bd Try.f45) 248) 248 63 [7, 8, 9, 10] pa45v2_248 pw45v2_248 x = u45v2_248 (l45v2_248 k) x := by kernel_rfl
theorem h45v2_248_ok (k : Nat) : ∀ p S, H45v2_248 k p = some S → ∀ c, At (bd Try.f45) p c → CutOk Try.prog c S :=
  have hC := c45v2_ok k
  addPiece hC ttOk (draw_ok hC ttOk mixed) (h45v2_998_ok k) (fun x _ h => (e45v2_248 k x).trans h)
theorem e45v2 (k : Nat) (x : (a45v2).C) : bodyW (C45v2 k) tt (H45v2_248 k) Try.f45 a45v2 o45v2 x = u45v2 (f45v2 k) x := by kernel_rfl
theorem s45v2 (k : Nat) : SoundFn Try.prog 45 (F45v2 (f45v2 k)) :=
  have hC := c45v2_ok k
  fnW_sound hC ttOk (draw_ok hC ttOk mixed) Try.func45 (c0 := bd Try.f45) rfl (entry Try.func45 rfl (by decide)) (h45v2_248_ok k) (fun x _ h => (e45v2 k x).trans h)
/-! f46v2 (*fathom/term.Terms).Not (W) -/
noncomputable def a46v2 : Shape := ⟨[.ptr 0, .d i64], [.box [.d i64, .own T_Term, .mp 1], .map T_Term i64]⟩
noncomputable def o46v2 : List Shape := [⟨[.d i64], [.box [.d i64, .own T_Term, .mp 1], .map T_Term i64]⟩]
abbrev R46v2 : Type := ((Int × Unit) × ((Int × (List D_Term) × Unit × Unit) × (List (D_Term × Int)) × Unit))
abbrev T46v2 : Type := Int → Int → (List D_Term) → (List (D_Term × Int)) → Option R46v2
noncomputable def u46v2 (f : T46v2) : (a46v2).C → Option (OutC o46v2) := fun (x : ((Unit × Int × Unit) × ((Int × (List D_Term) × Unit × Unit) × (List (D_Term × Int)) × Unit))) => f x.1.2.1 x.2.1.1 x.2.1.2.1 x.2.2.1
noncomputable def F46v2 (f : T46v2) : Fun := ⟨false, runW a46v2 o46v2 (u46v2 f)⟩
noncomputable def f46v2 (k : Nat) : T46v2 := fun a1 o0_0 o0_1 o1 =>
  (f89v2 k a1 o0_0 o0_1 o1).bind fun y1 =>
  cond (!y1.1.1)
    (some (((-1), ()), ((o0_0, o0_1, (), ()), o1, ())))
    (ix o0_1 a1 fun e2 =>
    cond (e2.1 == 3)
      ((f89v2 k e2.2.2.2.1 o0_0 o0_1 o1).bind fun y3 =>
      cond y3.1.1
        (some ((e2.2.2.2.1, ()), ((o0_0, o0_1, (), ()), o1, ())))
        ((f42v2 k (ByteArray.mk #[33]) a1 o0_0 o0_1 o1).bind fun y4 =>
        some ((y4.1.1, ()), ((y4.2.1.1, y4.2.1.2.1, (), ()), y4.2.2.1, ()))))
      ((f42v2 k (ByteArray.mk #[33]) a1 o0_0 o0_1 o1).bind fun y5 =>
      some ((y5.1.1, ()), ((y5.2.1.1, y5.2.1.2.1, (), ()), y5.2.2.1, ()))))
noncomputable def C46v2 (k : Nat) : Nat → Fun := mkC [(42, (F42v2 (f42v2 k))), (89, (F89v2 (f89v2 k)))]
theorem c46v2_ok (k : Nat) : ∀ f, SoundFn Try.prog f (C46v2 k f) := (mkC_cons (s42v2 k) (mkC_cons (s89v2 k) mkC_nil))
theorem e46v2 (k : Nat) (x : (a46v2).C) : bodyW (C46v2 k) tt noH Try.f46 a46v2 o46v2 x = u46v2 (f46v2 k) x := by kernel_rfl
theorem s46v2 (k : Nat) : SoundFn Try.prog 46 (F46v2 (f46v2 k)) :=
  have hC := c46v2_ok k
  fnW_sound hC ttOk (draw_ok hC ttOk mixed) Try.func46 (c0 := bd Try.f46) rfl (entry Try.func46 rfl (by decide)) noH_ok (fun x _ h => (e46v2 k x).trans h)
/-! f47v2 (*fathom/term.Terms).Either (W) -/
noncomputable def a47v2 : Shape := ⟨[.ptr 0, .d i64, .d i64], [.box [.d i64, .own T_Term, .mp 1], .map T_Term i64]⟩
noncomputable def o47v2 : List Shape := [⟨[.d i64], [.box [.d i64, .own T_Term, .mp 1], .map T_Term i64]⟩]
abbrev R47v2 : Type := ((Int × Unit) × ((Int × (List D_Term) × Unit × Unit) × (List (D_Term × Int)) × Unit))
abbrev T47v2 : Type := Int → Int → Int → (List D_Term) → (List (D_Term × Int)) → Option R47v2
noncomputable def u47v2 (f : T47v2) : (a47v2).C → Option (OutC o47v2) := fun (x : ((Unit × Int × Int × Unit) × ((Int × (List D_Term) × Unit × Unit) × (List (D_Term × Int)) × Unit))) => f x.1.2.1 x.1.2.2.1 x.2.1.1 x.2.1.2.1 x.2.2.1
noncomputable def F47v2 (f : T47v2) : Fun := ⟨false, runW a47v2 o47v2 (u47v2 f)⟩
noncomputable def f47v2 (k : Nat) : T47v2 := fun a1 b2 o0_0 o0_1 o1 =>
  (f46v2 k a1 o0_0 o0_1 o1).bind fun y1 =>
  (f46v2 k b2 y1.2.1.1 y1.2.1.2.1 y1.2.2.1).bind fun y2 =>
  (f45v2 k y1.1.1 y2.1.1 y2.2.1.1 y2.2.1.2.1 y2.2.2.1).bind fun y3 =>
  (f46v2 k y3.1.1 y3.2.1.1 y3.2.1.2.1 y3.2.2.1).bind fun y4 =>
  some ((y4.1.1, ()), ((y4.2.1.1, y4.2.1.2.1, (), ()), y4.2.2.1, ()))
noncomputable def C47v2 (k : Nat) : Nat → Fun := mkC [(45, (F45v2 (f45v2 k))), (46, (F46v2 (f46v2 k)))]
theorem c47v2_ok (k : Nat) : ∀ f, SoundFn Try.prog f (C47v2 k f) := (mkC_cons (s45v2 k) (mkC_cons (s46v2 k) mkC_nil))
theorem e47v2 (k : Nat) (x : (a47v2).C) : bodyW (C47v2 k) tt noH Try.f47 a47v2 o47v2 x = u47v2 (f47v2 k) x := by kernel_rfl
theorem s47v2 (k : Nat) : SoundFn Try.prog 47 (F47v2 (f47v2 k)) :=
  have hC := c47v2_ok k
  fnW_sound hC ttOk (draw_ok hC ttOk mixed) Try.func47 (c0 := bd Try.f47) rfl (entry Try.func47 rfl (by decide)) noH_ok (fun x _ h => (e47v2 k x).trans h)
/-! f16v2 fathom/fathomlaw25.do (W) -/
noncomputable def a16v2 : Shape := ⟨[.ptr 0, .d T_Act], [.box [.d i64, .own T_Term, .mp 1], .map T_Term i64]⟩
noncomputable def o16v2 : List Shape := [⟨[.d i64], [.box [.d i64, .own T_Term, .mp 1], .map T_Term i64]⟩]
abbrev R16v2 : Type := ((Int × Unit) × ((Int × (List D_Term) × Unit × Unit) × (List (D_Term × Int)) × Unit))
abbrev T16v2 : Type := D_Act → Int → (List D_Term) → (List (D_Term × Int)) → Option R16v2
noncomputable def u16v2 (f : T16v2) : (a16v2).C → Option (OutC o16v2) := fun (x : ((Unit × D_Act × Unit) × ((Int × (List D_Term) × Unit × Unit) × (List (D_Term × Int)) × Unit))) => f x.1.2.1 x.2.1.1 x.2.1.2.1 x.2.2.1
noncomputable def F16v2 (f : T16v2) : Fun := ⟨false, runW a16v2 o16v2 (u16v2 f)⟩
noncomputable def f16v2 (k : Nat) : T16v2 := fun x1 o0_0 o0_1 o1 =>
  cond (x1.1 == 0)
    ((f20 k x1.2.2.1 o0_0 o0_1 o1).bind fun y1 =>
    some ((y1.1.1, ()), ((y1.2.1.1, y1.2.1.2.1, (), ()), y1.2.2.1, ())))
    (cond (x1.1 == 1)
      ((f21v2 k x1.2.2.1 o0_0 o0_1 o1).bind fun y2 =>
      some ((y2.1.1, ()), ((y2.2.1.1, y2.2.1.2.1, (), ()), y2.2.2.1, ())))
      (cond (x1.1 == 2)
        ((f42v2 k x1.2.1 x1.2.2.1 o0_0 o0_1 o1).bind fun y3 =>
        some ((y3.1.1, ()), ((y3.2.1.1, y3.2.1.2.1, (), ()), y3.2.2.1, ())))
        (cond (x1.1 == 3)
          ((f37v2 k x1.2.1 x1.2.2.1 x1.2.2.2.1 o0_0 o0_1 o1).bind fun y4 =>
          some ((y4.1.1, ()), ((y4.2.1.1, y4.2.1.2.1, (), ()), y4.2.2.1, ())))
          (cond (x1.1 == 4)
            ((f43v2 k x1.2.2.2.2.1 x1.2.2.1 x1.2.2.2.1 o0_0 o0_1 o1).bind fun y5 =>
            some ((y5.1.1, ()), ((y5.2.1.1, y5.2.1.2.1, (), ()), y5.2.2.1, ())))
            (cond (x1.1 == 5)
              ((f44v2 k x1.2.2.1 o0_0 o0_1 o1).bind fun y6 =>
              some ((y6.1.1, ()), ((y6.2.1.1, y6.2.1.2.1, (), ()), y6.2.2.1, ())))
              (cond (x1.1 == 6)
                ((f45v2 k x1.2.2.1 x1.2.2.2.1 o0_0 o0_1 o1).bind fun y7 =>
                some ((y7.1.1, ()), ((y7.2.1.1, y7.2.1.2.1, (), ()), y7.2.2.1, ())))
                (cond (x1.1 == 7)
                  ((f46v2 k x1.2.2.1 o0_0 o0_1 o1).bind fun y8 =>
                  some ((y8.1.1, ()), ((y8.2.1.1, y8.2.1.2.1, (), ()), y8.2.2.1, ())))
                  ((f47v2 k x1.2.2.1 x1.2.2.2.1 o0_0 o0_1 o1).bind fun y9 =>
                  some ((y9.1.1, ()), ((y9.2.1.1, y9.2.1.2.1, (), ()), y9.2.2.1, ()))))))))))
noncomputable def C16v2 (k : Nat) : Nat → Fun := mkC [(20, (F20 (f20 k))), (21, (F21v2 (f21v2 k))), (37, (F37v2 (f37v2 k))), (42, (F42v2 (f42v2 k))), (43, (F43v2 (f43v2 k))), (44, (F44v2 (f44v2 k))), (45, (F45v2 (f45v2 k))), (46, (F46v2 (f46v2 k))), (47, (F47v2 (f47v2 k)))]
theorem c16v2_ok (k : Nat) : ∀ f, SoundFn Try.prog f (C16v2 k f) := (mkC_cons (s20 k) (mkC_cons (s21v2 k) (mkC_cons (s37v2 k) (mkC_cons (s42v2 k) (mkC_cons (s43v2 k) (mkC_cons (s44v2 k) (mkC_cons (s45v2 k) (mkC_cons (s46v2 k) (mkC_cons (s47v2 k) mkC_nil)))))))))
theorem e16v2 (k : Nat) (x : (a16v2).C) : bodyW (C16v2 k) tt noH Try.f16 a16v2 o16v2 x = u16v2 (f16v2 k) x := by kernel_rfl
theorem s16v2 (k : Nat) : SoundFn Try.prog 16 (F16v2 (f16v2 k)) :=
  have hC := c16v2_ok k
  fnW_sound hC ttOk (draw_ok hC ttOk mixed) Try.func16 (c0 := bd Try.f16) rfl (entry Try.func16 rfl (by decide)) noH_ok (fun x _ h => (e16v2 k x).trans h)
/-! f27 fathom/fathomref16.Mod (R) -/
noncomputable def a27 : Shape := ⟨[.d i64, .d i64], []⟩
noncomputable def o27 : List Shape := [⟨[.d i64], []⟩]
abbrev R27 : Type := ((Int × Unit) × Unit)
abbrev T27 : Type := Int → Int → Option R27
noncomputable def u27 (f : T27) : (a27).C → Option (OutC o27) := fun (x : ((Int × Int × Unit) × Unit)) => f x.1.1 x.1.2.1
noncomputable def F27 (f : T27) : Fun := ⟨true, runR a27 o27 (u27 f)⟩
noncomputable def f27 (k : Nat) : T27 := fun n0 w1 =>
  (f59 k w1).bind fun y1 =>
  cond (decide (y1.1.1 = 0))
    (none)
    (cond (decide ((Int.tmod n0 y1.1.1) < 0))
      ((f59 k w1).bind fun y2 =>
      some (((w64 ((Int.tmod n0 y1.1.1) + y2.1.1)), ()), ()))
      (some (((Int.tmod n0 y1.1.1), ()), ())))
noncomputable def C27 (k : Nat) : Nat → Fun := mkC [(59, (F59 (f59 k)))]
theorem c27_ok (k : Nat) : ∀ f, SoundFn Try.prog f (C27 k f) := (mkC_cons (s59 k) mkC_nil)
theorem e27 (k : Nat) (x : (a27).C) : bodyR (C27 k) tt noH Try.f27 a27 o27 x = u27 (f27 k) x := by kernel_rfl
theorem s27 (k : Nat) : SoundFn Try.prog 27 (F27 (f27 k)) :=
  have hC := c27_ok k
  fnR_sound hC ttOk (draw_ok hC ttOk mixed) Try.func27 (c0 := bd Try.f27) rfl (entry Try.func27 rfl (by decide)) noH_ok rfl (fun x _ h => (e27 k x).trans h)
/-! f60 fathom/fathomref25.truth (R) -/
noncomputable def a60 : Shape := ⟨[.d .bool], []⟩
noncomputable def o60 : List Shape := [⟨[.d i64], []⟩]
abbrev R60 : Type := ((Int × Unit) × Unit)
abbrev T60 : Type := Bool → Option R60
noncomputable def u60 (f : T60) : (a60).C → Option (OutC o60) := fun (x : ((Bool × Unit) × Unit)) => f x.1.1
noncomputable def F60 (f : T60) : Fun := ⟨true, runR a60 o60 (u60 f)⟩
noncomputable def f60 (k : Nat) : T60 := fun is0 =>
  cond is0
    (some ((1, ()), ()))
    (some ((0, ()), ()))
noncomputable def C60 (k : Nat) : Nat → Fun := mkC []
theorem c60_ok (k : Nat) : ∀ f, SoundFn Try.prog f (C60 k f) := mkC_nil
theorem e60 (k : Nat) (x : (a60).C) : bodyR (C60 k) tt noH Try.f60 a60 o60 x = u60 (f60 k) x := by kernel_rfl
theorem s60 (k : Nat) : SoundFn Try.prog 60 (F60 (f60 k)) :=
  have hC := c60_ok k
  fnR_sound hC ttOk (draw_ok hC ttOk mixed) Try.func60 (c0 := bd Try.f60) rfl (entry Try.func60 rfl (by decide)) noH_ok rfl (fun x _ h => (e60 k x).trans h)
/-! f23 fathom/fathomref25.One (R) -/
noncomputable def a23 : Shape := ⟨[.d i64, .d .str, .d i64], []⟩
noncomputable def o23 : List Shape := [⟨[.d i64], []⟩]
abbrev R23 : Type := ((Int × Unit) × Unit)
abbrev T23 : Type := Int → ByteArray → Int → Option R23
noncomputable def u23 (f : T23) : (a23).C → Option (OutC o23) := fun (x : ((Int × ByteArray × Int × Unit) × Unit)) => f x.1.1 x.1.2.1 x.1.2.2.1
noncomputable def F23 (f : T23) : Fun := ⟨true, runR a23 o23 (u23 f)⟩
noncomputable def f23 (k : Nat) : T23 := fun w0 op1 a2 =>
  cond (op1.toList == (ByteArray.mk #[45]).toList)
    ((f27 k (w64 (0 - a2)) w0).bind fun y1 =>
    some ((y1.1.1, ()), ()))
    (cond (op1.toList == (ByteArray.mk #[126]).toList)
      ((f59 k w0).bind fun y2 =>
      some (((w64 ((w64 (y2.1.1 - 1)) - a2)), ()), ()))
      ((f60 k (a2 == 0)).bind fun y3 =>
      some ((y3.1.1, ()), ())))
noncomputable def C23 (k : Nat) : Nat → Fun := mkC [(27, (F27 (f27 k))), (59, (F59 (f59 k))), (60, (F60 (f60 k)))]
theorem c23_ok (k : Nat) : ∀ f, SoundFn Try.prog f (C23 k f) := (mkC_cons (s27 k) (mkC_cons (s59 k) (mkC_cons (s60 k) mkC_nil)))
theorem e23 (k : Nat) (x : (a23).C) : bodyR (C23 k) tt noH Try.f23 a23 o23 x = u23 (f23 k) x := by kernel_rfl
theorem s23 (k : Nat) : SoundFn Try.prog 23 (F23 (f23 k)) :=
  have hC := c23_ok k
  fnR_sound hC ttOk (draw_ok hC ttOk mixed) Try.func23 (c0 := bd Try.f23) rfl (entry Try.func23 rfl (by decide)) noH_ok rfl (fun x _ h => (e23 k x).trans h)
/-! f61 fathom/fathomref16.Div (R) -/
noncomputable def a61 : Shape := ⟨[.d i64, .d i64, .d i64], []⟩
noncomputable def o61 : List Shape := [⟨[.d i64], []⟩]
abbrev R61 : Type := ((Int × Unit) × Unit)
abbrev T61 : Type := Int → Int → Int → Option R61
noncomputable def u61 (f : T61) : (a61).C → Option (OutC o61) := fun (x : ((Int × Int × Int × Unit) × Unit)) => f x.1.1 x.1.2.1 x.1.2.2.1
noncomputable def F61 (f : T61) : Fun := ⟨true, runR a61 o61 (u61 f)⟩
noncomputable def f61 (k : Nat) : T61 := fun a0 b1 w2 =>
  cond (b1 == 0)
    ((f59 k w2).bind fun y1 =>
    some (((w64 (y1.1.1 - 1)), ()), ()))
    (cond (decide (b1 = 0))
      (none)
      (some (((w64 (Int.tdiv a0 b1)), ()), ())))
noncomputable def C61 (k : Nat) : Nat → Fun := mkC [(59, (F59 (f59 k)))]
theorem c61_ok (k : Nat) : ∀ f, SoundFn Try.prog f (C61 k f) := (mkC_cons (s59 k) mkC_nil)
theorem e61 (k : Nat) (x : (a61).C) : bodyR (C61 k) tt noH Try.f61 a61 o61 x = u61 (f61 k) x := by kernel_rfl
theorem s61 (k : Nat) : SoundFn Try.prog 61 (F61 (f61 k)) :=
  have hC := c61_ok k
  fnR_sound hC ttOk (draw_ok hC ttOk mixed) Try.func61 (c0 := bd Try.f61) rfl (entry Try.func61 rfl (by decide)) noH_ok rfl (fun x _ h => (e61 k x).trans h)
/-! f62 fathom/fathomref16.Rest (R) -/
noncomputable def a62 : Shape := ⟨[.d i64, .d i64], []⟩
noncomputable def o62 : List Shape := [⟨[.d i64], []⟩]
abbrev R62 : Type := ((Int × Unit) × Unit)
abbrev T62 : Type := Int → Int → Option R62
noncomputable def u62 (f : T62) : (a62).C → Option (OutC o62) := fun (x : ((Int × Int × Unit) × Unit)) => f x.1.1 x.1.2.1
noncomputable def F62 (f : T62) : Fun := ⟨true, runR a62 o62 (u62 f)⟩
noncomputable def f62 (k : Nat) : T62 := fun a0 b1 =>
  cond (b1 == 0)
    (some ((a0, ()), ()))
    (cond (decide (b1 = 0))
      (none)
      (some (((Int.tmod a0 b1), ()), ())))
noncomputable def C62 (k : Nat) : Nat → Fun := mkC []
theorem c62_ok (k : Nat) : ∀ f, SoundFn Try.prog f (C62 k f) := mkC_nil
theorem e62 (k : Nat) (x : (a62).C) : bodyR (C62 k) tt noH Try.f62 a62 o62 x = u62 (f62 k) x := by kernel_rfl
theorem s62 (k : Nat) : SoundFn Try.prog 62 (F62 (f62 k)) :=
  have hC := c62_ok k
  fnR_sound hC ttOk (draw_ok hC ttOk mixed) Try.func62 (c0 := bd Try.f62) rfl (entry Try.func62 rfl (by decide)) noH_ok rfl (fun x _ h => (e62 k x).trans h)
/-! f63 fathom/fathomref16.Shl (R) -/
noncomputable def a63 : Shape := ⟨[.d i64, .d i64, .d i64], []⟩
noncomputable def o63 : List Shape := [⟨[.d i64], []⟩]
abbrev R63 : Type := ((Int × Unit) × Unit)
abbrev T63 : Type := Int → Int → Int → Option R63
noncomputable def u63 (f : T63) : (a63).C → Option (OutC o63) := fun (x : ((Int × Int × Int × Unit) × Unit)) => f x.1.1 x.1.2.1 x.1.2.2.1
noncomputable def F63 (f : T63) : Fun := ⟨true, runR a63 o63 (u63 f)⟩
noncomputable def f63 (k : Nat) : T63 := fun a0 b1 w2 =>
  cond (decide (b1 ≥ w2))
    (some ((0, ()), ()))
    ((f59 k b1).bind fun y1 =>
    (f27 k (w64 (a0 * y1.1.1)) w2).bind fun y2 =>
    some ((y2.1.1, ()), ()))
noncomputable def C63 (k : Nat) : Nat → Fun := mkC [(27, (F27 (f27 k))), (59, (F59 (f59 k)))]
theorem c63_ok (k : Nat) : ∀ f, SoundFn Try.prog f (C63 k f) := (mkC_cons (s27 k) (mkC_cons (s59 k) mkC_nil))
theorem e63 (k : Nat) (x : (a63).C) : bodyR (C63 k) tt noH Try.f63 a63 o63 x = u63 (f63 k) x := by kernel_rfl
theorem s63 (k : Nat) : SoundFn Try.prog 63 (F63 (f63 k)) :=
  have hC := c63_ok k
  fnR_sound hC ttOk (draw_ok hC ttOk mixed) Try.func63 (c0 := bd Try.f63) rfl (entry Try.func63 rfl (by decide)) noH_ok rfl (fun x _ h => (e63 k x).trans h)
/-! f64 fathom/fathomref16.Shr (R) -/
noncomputable def a64 : Shape := ⟨[.d i64, .d i64, .d i64], []⟩
noncomputable def o64 : List Shape := [⟨[.d i64], []⟩]
abbrev R64 : Type := ((Int × Unit) × Unit)
abbrev T64 : Type := Int → Int → Int → Option R64
noncomputable def u64 (f : T64) : (a64).C → Option (OutC o64) := fun (x : ((Int × Int × Int × Unit) × Unit)) => f x.1.1 x.1.2.1 x.1.2.2.1
noncomputable def F64 (f : T64) : Fun := ⟨true, runR a64 o64 (u64 f)⟩
noncomputable def f64 (k : Nat) : T64 := fun a0 b1 w2 =>
  cond (decide (b1 ≥ w2))
    (some ((0, ()), ()))
    ((f59 k b1).bind fun y1 =>
    cond (decide (y1.1.1 = 0))
      (none)
      (some (((w64 (Int.tdiv a0 y1.1.1)), ()), ())))
noncomputable def C64 (k : Nat) : Nat → Fun := mkC [(59, (F59 (f59 k)))]
theorem c64_ok (k : Nat) : ∀ f, SoundFn Try.prog f (C64 k f) := (mkC_cons (s59 k) mkC_nil)
theorem e64 (k : Nat) (x : (a64).C) : bodyR (C64 k) tt noH Try.f64 a64 o64 x = u64 (f64 k) x := by kernel_rfl
theorem s64 (k : Nat) : SoundFn Try.prog 64 (F64 (f64 k)) :=
  have hC := c64_ok k
  fnR_sound hC ttOk (draw_ok hC ttOk mixed) Try.func64 (c0 := bd Try.f64) rfl (entry Try.func64 rfl (by decide)) noH_ok rfl (fun x _ h => (e64 k x).trans h)
/-! f93 fathom/fathomref16.Bit (R) -/
noncomputable def a93 : Shape := ⟨[.d i64, .d i64], []⟩
noncomputable def o93 : List Shape := [⟨[.d i64], []⟩]
abbrev R93 : Type := ((Int × Unit) × Unit)
abbrev T93 : Type := Int → Int → Option R93
noncomputable def u93 (f : T93) : (a93).C → Option (OutC o93) := fun (x : ((Int × Int × Unit) × Unit)) => f x.1.1 x.1.2.1
noncomputable def F93 (f : T93) : Fun := ⟨true, runR a93 o93 (u93 f)⟩
noncomputable def pa93_26 : Shape := ⟨[.d i64, .d i64, .d i64], []⟩
noncomputable def pw93_26 : List Vm.Way := [⟨.exit 0, [0], ⟨[.d i64], []⟩⟩]
abbrev R93_26 : Type := ((Int × Unit) × Unit)
abbrev T93_26 : Type := Int → Int → Int → Option R93_26
noncomputable def u93_26 (f : T93_26) : (pa93_26).C → Option (WayC pw93_26) := fun (x : ((Int × Int × Int × Unit) × Unit)) => f x.1.1 x.1.2.1 x.1.2.2.1
noncomputable def b93_26 (k : Nat) (rec : T93_26) : T93_26 := fun n0 i1 k5 =>
  cond (decide (k5 < i1))
    ((rec (w64 (Int.tdiv n0 2)) i1 (w64 (k5 + 1))).bind fun y1 =>
    some ((y1.1.1, ()), ()))
    (some ((n0, ()), ()))
noncomputable def l93_26 (k : Nat) : Nat → T93_26
  | 0 => fun _ _ _ => none
  | j + 1 => b93_26 k (l93_26 k j)
noncomputable def f93 (k : Nat) : T93 := fun n0 i1 =>
  (l93_26 k k n0 i1 0).bind fun y1 =>
  some (((Int.tmod y1.1.1 2), ()), ())
noncomputable def C93 (k : Nat) : Nat → Fun := mkC []
theorem c93_ok (k : Nat) : ∀ f, SoundFn Try.prog f (C93 k f) := mkC_nil
noncomputable def H93_26 (k : Nat) : Nat → Option Cut := addH noH 26 ⟨runCut (wrC (bodyOf (codeAt 26 (bd Try.f93) 26))) 15 [0, 1, 5] pa93_26 pw93_26 (u93_26 (l93_26 k k))⟩
theorem e93_26 (k : Nat) (rec : T93_26) (x : (pa93_26).C) : roundF (C93 k) tt noH (bodyOf (codeAt 26 (bd Try.f93) 26)) 52 15 [0, 1, 5] pa93_26 pw93_26 (u93_26 rec) x = u93_26 (b93_26 k rec) x := by kernel_rfl
theorem h93_26_ok (k : Nat) : ∀ p S, H93_26 k p = some S → ∀ c, At (bd Try.f93) p c → CutOk Try.prog c S :=
  have hC := c93_ok k
  addLoop hC ttOk (draw_ok hC ttOk mixed) noH_ok (by kernel_rfl) (F := fun j => u93_26 (l93_26 k j)) (fun _ => rfl) (fun j x _ h => (e93_26 k (l93_26 k j) x).trans h) k
theorem e93 (k : Nat) (x : (a93).C) : bodyR (C93 k) tt (H93_26 k) Try.f93 a93 o93 x = u93 (f93 k) x := by kernel_rfl
theorem s93 (k : Nat) : SoundFn Try.prog 93 (F93 (f93 k)) :=
  have hC := c93_ok k
  fnR_sound hC ttOk (draw_ok hC ttOk mixed) Try.func93 (c0 := bd Try.f93) rfl (entry Try.func93 rfl (by decide)) (h93_26_ok k) rfl (fun x _ h => (e93 k x).trans h)
/-! f65 fathom/fathomref16.Bits (R) -/
noncomputable def a65 : Shape := ⟨[.d i64, .d i64, .d i64, .d i64], []⟩
noncomputable def o65 : List Shape := [⟨[.d i64], []⟩]
abbrev R65 : Type := ((Int × Unit) × Unit)
abbrev T65 : Type := Int → Int → Int → Int → Option R65
noncomputable def u65 (f : T65) : (a65).C → Option (OutC o65) := fun (x : ((Int × Int × Int × Int × Unit) × Unit)) => f x.1.1 x.1.2.1 x.1.2.2.1 x.1.2.2.2.1
noncomputable def F65 (f : T65) : Fun := ⟨true, runR a65 o65 (u65 f)⟩
noncomputable def pa65_14924 : Shape := ⟨[.d i64, .d i64, .d i64], []⟩
noncomputable def pw65_14924 : List Vm.Way := [⟨.normal, [52], ⟨[.d .bool], []⟩⟩]
abbrev R65_14924 : Type := ((Bool × Unit) × Unit)
abbrev T65_14924 : Type := Int → Int → Int → Option R65_14924
noncomputable def u65_14924 (f : T65_14924) : (pa65_14924).C → Option (WayC pw65_14924) := fun (x : ((Int × Int × Int × Unit) × Unit)) => f x.1.1 x.1.2.1 x.1.2.2.1
noncomputable def l65_14924 (k : Nat) : T65_14924 := fun kind0 x11 y12 =>
  cond (kind0 == 0)
    (cond ((w64 (x11 + y12)) == 2)
      (some ((true, ()), ()))
      (cond (kind0 == 1)
        (cond (decide ((w64 (x11 + y12)) > 0))
          (some ((true, ()), ()))
          (cond (kind0 == 2)
            (some (((x11 != y12), ()), ()))
            (some ((false, ()), ()))))
        (cond (kind0 == 2)
          (some (((x11 != y12), ()), ()))
          (some ((false, ()), ())))))
    (cond (kind0 == 1)
      (cond (decide ((w64 (x11 + y12)) > 0))
        (some ((true, ()), ()))
        (cond (kind0 == 2)
          (some (((x11 != y12), ()), ()))
          (some ((false, ()), ()))))
      (cond (kind0 == 2)
        (some (((x11 != y12), ()), ()))
        (some ((false, ()), ()))))
noncomputable def pa65_58 : Shape := ⟨[.d i64, .d i64, .d i64, .d i64, .d i64], []⟩
noncomputable def pw65_58 : List Vm.Way := [⟨.exit 0, [9], ⟨[.d i64], []⟩⟩]
abbrev R65_58 : Type := ((Int × Unit) × Unit)
abbrev T65_58 : Type := Int → Int → Int → Int → Int → Option R65_58
noncomputable def u65_58 (f : T65_58) : (pa65_58).C → Option (WayC pw65_58) := fun (x : ((Int × Int × Int × Int × Int × Unit) × Unit)) => f x.1.1 x.1.2.1 x.1.2.2.1 x.1.2.2.2.1 x.1.2.2.2.2.1
noncomputable def b65_58 (k : Nat) (rec : T65_58) : T65_58 := fun kind0 a1 b2 out9 i10 =>
  cond (decide (i10 ≥ 0))
    ((f93 k a1 i10).bind fun y1 =>
    (f93 k b2 i10).bind fun y2 =>
    (l65_14924 k kind0 y1.1.1 y2.1.1).bind fun y3 =>
    cond y3.1.1
      ((rec kind0 a1 b2 (w64 ((w64 (2 * out9)) + 1)) (w64 (i10 - 1))).bind fun y4 =>
      some ((y4.1.1, ()), ()))
      ((rec kind0 a1 b2 (w64 ((w64 (2 * out9)) + 0)) (w64 (i10 - 1))).bind fun y5 =>
      some ((y5.1.1, ()), ())))
    (some ((out9, ()), ()))
noncomputable def l65_58 (k : Nat) : Nat → T65_58
  | 0 => fun _ _ _ _ _ => none
  | j + 1 => b65_58 k (l65_58 k j)
noncomputable def f65 (k : Nat) : T65 := fun kind0 a1 b2 w3 =>
  (l65_58 k k kind0 a1 b2 0 (w64 (w3 - 1))).bind fun y1 =>
  some ((y1.1.1, ()), ())
noncomputable def C65 (k : Nat) : Nat → Fun := mkC [(93, (F93 (f93 k)))]
theorem c65_ok (k : Nat) : ∀ f, SoundFn Try.prog f (C65 k f) := (mkC_cons (s93 k) mkC_nil)
noncomputable def H65_14924 (k : Nat) : Nat → Option Cut := addH noH 14924 ⟨runCut (wrC (codeAt 14924 (bd Try.f65) 14924)) 58 [0, 11, 12] pa65_14924 pw65_14924 (u65_14924 (l65_14924 k))⟩
theorem e65_14924 (k : Nat) (x : (pa65_14924).C) : pieceF (C65 k) tt noH (codeAt 14924 (bd Try.f65) 14924) 14924 58 [0, 11, 12] pa65_14924 pw65_14924 x = u65_14924 (l65_14924 k) x := by kernel_rfl
theorem h65_14924_ok (k : Nat) : ∀ p S, H65_14924 k p = some S → ∀ c, At (bd Try.f65) p c → CutOk Try.prog c S :=
  have hC := c65_ok k
  addPiece hC ttOk (draw_ok hC ttOk mixed) noH_ok (fun x _ h => (e65_14924 k x).trans h)
noncomputable def H65_58 (k : Nat) : Nat → Option Cut := addH (H65_14924 k) 58 ⟨runCut (wrC (bodyOf (codeAt 58 (bd Try.f65) 58))) 58 [0, 1, 2, 9, 10] pa65_58 pw65_58 (u65_58 (l65_58 k k))⟩
theorem e65_58 (k : Nat) (rec : T65_58) (x : (pa65_58).C) : roundF (C65 k) tt (H65_14924 k) (bodyOf (codeAt 58 (bd Try.f65) 58)) 116 58 [0, 1, 2, 9, 10] pa65_58 pw65_58 (u65_58 rec) x = u65_58 (b65_58 k rec) x := by kernel_rfl
theorem h65_58_ok (k : Nat) : ∀ p S, H65_58 k p = some S → ∀ c, At (bd Try.f65) p c → CutOk Try.prog c S :=
  have hC := c65_ok k
  addLoop hC ttOk (draw_ok hC ttOk mixed) (h65_14924_ok k) (by kernel_rfl) (F := fun j => u65_58 (l65_58 k j)) (fun _ => rfl) (fun j x _ h => (e65_58 k (l65_58 k j) x).trans h) k
theorem e65 (k : Nat) (x : (a65).C) : bodyR (C65 k) tt (H65_58 k) Try.f65 a65 o65 x = u65 (f65 k) x := by kernel_rfl
theorem s65 (k : Nat) : SoundFn Try.prog 65 (F65 (f65 k)) :=
  have hC := c65_ok k
  fnR_sound hC ttOk (draw_ok hC ttOk mixed) Try.func65 (c0 := bd Try.f65) rfl (entry Try.func65 rfl (by decide)) (h65_58_ok k) rfl (fun x _ h => (e65 k x).trans h)
/-! f24 fathom/fathomref25.Apply (R) -/
noncomputable def a24 : Shape := ⟨[.d i64, .d .str, .d i64, .d i64], []⟩
noncomputable def o24 : List Shape := [⟨[.d i64], []⟩]
abbrev R24 : Type := ((Int × Unit) × Unit)
abbrev T24 : Type := Int → ByteArray → Int → Int → Option R24
noncomputable def u24 (f : T24) : (a24).C → Option (OutC o24) := fun (x : ((Int × ByteArray × Int × Int × Unit) × Unit)) => f x.1.1 x.1.2.1 x.1.2.2.1 x.1.2.2.2.1
noncomputable def F24 (f : T24) : Fun := ⟨true, runR a24 o24 (u24 f)⟩
noncomputable def f24 (k : Nat) : T24 := fun w0 op1 a2 b3 =>
  cond (op1.toList == (ByteArray.mk #[42]).toList)
    ((f27 k (w64 (a2 * b3)) w0).bind fun y1 =>
    some ((y1.1.1, ()), ()))
    (cond (op1.toList == (ByteArray.mk #[47]).toList)
      ((f61 k a2 b3 w0).bind fun y2 =>
      some ((y2.1.1, ()), ()))
      (cond (op1.toList == (ByteArray.mk #[37]).toList)
        ((f62 k a2 b3).bind fun y3 =>
        some ((y3.1.1, ()), ()))
        (cond (op1.toList == (ByteArray.mk #[60, 60]).toList)
          ((f63 k a2 b3 w0).bind fun y4 =>
          some ((y4.1.1, ()), ()))
          (cond (op1.toList == (ByteArray.mk #[62, 62]).toList)
            ((f64 k a2 b3 w0).bind fun y5 =>
            some ((y5.1.1, ()), ()))
            (cond (op1.toList == (ByteArray.mk #[38]).toList)
              ((f65 k 0 a2 b3 w0).bind fun y6 =>
              some ((y6.1.1, ()), ()))
              (cond (op1.toList == (ByteArray.mk #[124]).toList)
                ((f65 k 1 a2 b3 w0).bind fun y7 =>
                some ((y7.1.1, ()), ()))
                (cond (op1.toList == (ByteArray.mk #[94]).toList)
                  ((f65 k 2 a2 b3 w0).bind fun y8 =>
                  some ((y8.1.1, ()), ()))
                  (cond (op1.toList == (ByteArray.mk #[43]).toList)
                    ((f27 k (w64 (a2 + b3)) w0).bind fun y9 =>
                    some ((y9.1.1, ()), ()))
                    (cond (op1.toList == (ByteArray.mk #[45]).toList)
                      ((f27 k (w64 (a2 - b3)) w0).bind fun y10 =>
                      some ((y10.1.1, ()), ()))
                      (cond (op1.toList == (ByteArray.mk #[61, 61]).toList)
                        ((f60 k (a2 == b3)).bind fun y11 =>
                        some ((y11.1.1, ()), ()))
                        (cond (op1.toList == (ByteArray.mk #[33, 61]).toList)
                          ((f60 k (a2 != b3)).bind fun y12 =>
                          some ((y12.1.1, ()), ()))
                          (cond (op1.toList == (ByteArray.mk #[60]).toList)
                            ((f60 k (decide (a2 < b3))).bind fun y13 =>
                            some ((y13.1.1, ()), ()))
                            (cond (op1.toList == (ByteArray.mk #[60, 61]).toList)
                              ((f60 k (decide (a2 ≤ b3))).bind fun y14 =>
                              some ((y14.1.1, ()), ()))
                              (cond (op1.toList == (ByteArray.mk #[62]).toList)
                                ((f60 k (decide (a2 > b3))).bind fun y15 =>
                                some ((y15.1.1, ()), ()))
                                (cond (op1.toList == (ByteArray.mk #[62, 61]).toList)
                                  ((f60 k (decide (a2 ≥ b3))).bind fun y16 =>
                                  some ((y16.1.1, ()), ()))
                                  (cond (op1.toList == (ByteArray.mk #[38, 38]).toList)
                                    (cond (a2 != 0)
                                      ((f60 k (b3 != 0)).bind fun y17 =>
                                      some ((y17.1.1, ()), ()))
                                      ((f60 k false).bind fun y18 =>
                                      some ((y18.1.1, ()), ())))
                                    (cond (op1.toList == (ByteArray.mk #[124, 124]).toList)
                                      (cond (a2 != 0)
                                        ((f60 k true).bind fun y19 =>
                                        some ((y19.1.1, ()), ()))
                                        ((f60 k (b3 != 0)).bind fun y20 =>
                                        some ((y20.1.1, ()), ())))
                                      (some ((0, ()), ())))))))))))))))))))
noncomputable def C24 (k : Nat) : Nat → Fun := mkC [(27, (F27 (f27 k))), (60, (F60 (f60 k))), (61, (F61 (f61 k))), (62, (F62 (f62 k))), (63, (F63 (f63 k))), (64, (F64 (f64 k))), (65, (F65 (f65 k)))]
theorem c24_ok (k : Nat) : ∀ f, SoundFn Try.prog f (C24 k f) := (mkC_cons (s27 k) (mkC_cons (s60 k) (mkC_cons (s61 k) (mkC_cons (s62 k) (mkC_cons (s63 k) (mkC_cons (s64 k) (mkC_cons (s65 k) mkC_nil)))))))
theorem e24 (k : Nat) (x : (a24).C) : bodyR (C24 k) tt noH Try.f24 a24 o24 x = u24 (f24 k) x := by kernel_rfl
theorem s24 (k : Nat) : SoundFn Try.prog 24 (F24 (f24 k)) :=
  have hC := c24_ok k
  fnR_sound hC ttOk (draw_ok hC ttOk mixed) Try.func24 (c0 := bd Try.f24) rfl (entry Try.func24 rfl (by decide)) noH_ok rfl (fun x _ h => (e24 k x).trans h)
/-! f6 fathom/fathomlaw25.TermMeans (R) -/
noncomputable def a6 : Shape := ⟨[.d (.int .u8), .d (.slice T_Act), .d (.slice i64)], []⟩
noncomputable def o6 : List Shape := [⟨[.d .bool], []⟩]
abbrev R6 : Type := ((Bool × Unit) × Unit)
abbrev T6 : Type := Int → (List D_Act) → (List Int) → Option R6
noncomputable def u6 (f : T6) : (a6).C → Option (OutC o6) := fun (x : ((Int × (List D_Act) × (List Int) × Unit) × Unit)) => f x.1.1 x.1.2.1 x.1.2.2.1
noncomputable def F6 (f : T6) : Fun := ⟨true, runR a6 o6 (u6 f)⟩
noncomputable def pa6_1025278 : Shape := ⟨[.d i64, .d (.slice i64), .d i64], []⟩
noncomputable def pw6_1025278 : List Vm.Way := [⟨.normal, [141], ⟨[.d .bool], []⟩⟩]
abbrev R6_1025278 : Type := ((Bool × Unit) × Unit)
abbrev T6_1025278 : Type := Int → (List Int) → Int → Option R6_1025278
noncomputable def u6_1025278 (f : T6_1025278) : (pa6_1025278).C → Option (WayC pw6_1025278) := fun (x : ((Int × (List Int) × Int × Unit) × Unit)) => f x.1.1 x.1.2.1 x.1.2.2.1
noncomputable def l6_1025278 (k : Nat) : T6_1025278 := fun k12 v13 want17 =>
  ix v13 k12 fun e1 =>
  some (((e1 != want17), ()), ())
noncomputable def pa6_512638 : Shape := ⟨[.d i64, .ptr 0, .d i64, .d i64, .d i64, .d i64], [.box [.d i64, .d .str, .d i64, .d i64, .d i64]]⟩
noncomputable def pw6_512638 : List Vm.Way := [⟨.normal, [17], ⟨[.d i64], [.box [.d i64, .d .str, .d i64, .d i64, .d i64]]⟩⟩]
abbrev R6_512638 : Type := ((Int × Unit) × ((Int × ByteArray × Int × Int × Int × Unit) × Unit))
abbrev T6_512638 : Type := Int → Int → Int → Int → Int → Int → ByteArray → Int → Int → Int → Option R6_512638
noncomputable def u6_512638 (f : T6_512638) : (pa6_512638).C → Option (WayC pw6_512638) := fun (x : ((Int × Unit × Int × Int × Int × Int × Unit) × ((Int × ByteArray × Int × Int × Int × Unit) × Unit))) => f x.1.1 x.1.2.2.1 x.1.2.2.2.1 x.1.2.2.2.2.1 x.1.2.2.2.2.2.1 x.2.1.1 x.2.1.2.1 x.2.1.2.2.1 x.2.1.2.2.2.1 x.2.1.2.2.2.2.1
noncomputable def l6_512638 (k : Nat) : T6_512638 := fun w7 a14 b15 c16 want17 o0_0 o0_1 o0_2 o0_3 o0_4 =>
  cond (o0_0 == 2)
    ((f23 k w7 o0_1 a14).bind fun y1 =>
    some ((y1.1.1, ()), ((o0_0, o0_1, o0_2, o0_3, o0_4, ()), ())))
    (cond (o0_0 == 3)
      ((f24 k w7 o0_1 a14 b15).bind fun y2 =>
      some ((y2.1.1, ()), ((o0_0, o0_1, o0_2, o0_3, o0_4, ()), ())))
      (cond (o0_0 == 4)
        (cond (c16 != 0)
          (some ((a14, ()), ((o0_0, o0_1, o0_2, o0_3, o0_4, ()), ())))
          (some ((b15, ()), ((o0_0, o0_1, o0_2, o0_3, o0_4, ()), ()))))
        (cond (o0_0 == 5)
          ((f24 k w7 (ByteArray.mk #[33, 61]) a14 0).bind fun y3 =>
          some ((y3.1.1, ()), ((o0_0, o0_1, o0_2, o0_3, o0_4, ()), ())))
          (cond (o0_0 == 6)
            ((f24 k w7 (ByteArray.mk #[38, 38]) a14 b15).bind fun y4 =>
            some ((y4.1.1, ()), ((o0_0, o0_1, o0_2, o0_3, o0_4, ()), ())))
            (cond (o0_0 == 7)
              ((f23 k w7 (ByteArray.mk #[33]) a14).bind fun y5 =>
              some ((y5.1.1, ()), ((o0_0, o0_1, o0_2, o0_3, o0_4, ()), ())))
              (cond (o0_0 == 8)
                ((f24 k w7 (ByteArray.mk #[124, 124]) a14 b15).bind fun y6 =>
                some ((y6.1.1, ()), ((o0_0, o0_1, o0_2, o0_3, o0_4, ()), ())))
                (some ((want17, ()), ((o0_0, o0_1, o0_2, o0_3, o0_4, ()), ())))))))))
noncomputable def pa6_65170 : Shape := ⟨[.d (.slice T_Term), .d i64, .d i64], []⟩
noncomputable def pw6_65170 : List Vm.Way := [⟨.exit 5, [], ⟨[], []⟩⟩, ⟨.ret, [6], ⟨[.d .bool], []⟩⟩]
abbrev R6_65170 : Type := ((Unit × Unit) ⊕ ((Bool × Unit) × Unit))
abbrev T6_65170 : Type := (List D_Term) → Int → Int → Option R6_65170
noncomputable def u6_65170 (f : T6_65170) : (pa6_65170).C → Option (WayC pw6_65170) := fun (x : (((List D_Term) × Int × Int × Unit) × Unit)) => f x.1.1 x.1.2.1 x.1.2.2.1
noncomputable def b6_65170 (k : Nat) (rec : T6_65170) : T6_65170 := fun all18 i19 k20 =>
  cond (decide (k20 < i19))
    (ix all18 i19 fun e1 =>
    ix all18 k20 fun e2 =>
    cond (beqD T_Term e1 e2)
      (some (.inr ((false, ()), ())))
      ((rec all18 i19 (w64 (k20 + 1))).bind fun y3 =>
      match y3 with
      | .inl y3_0 =>
        some (.inl ((), ()))
      | .inr y3_1 =>
        some (.inr ((y3_1.1.1, ()), ()))))
    (some (.inl ((), ())))
noncomputable def l6_65170 (k : Nat) : Nat → T6_65170
  | 0 => fun _ _ _ => none
  | j + 1 => b6_65170 k (l6_65170 k j)
noncomputable def pa6_2002s0 : Shape := ⟨[.d (.slice T_Act), .d (.slice i64), .d i64, .nilp, .d i64], []⟩
noncomputable def pw6_2002s0 : List Vm.Way := [⟨.normal, [], ⟨[], []⟩⟩, ⟨.ret, [6], ⟨[.d .bool], []⟩⟩]
abbrev R6_2002s0 : Type := ((Unit × Unit) ⊕ ((Bool × Unit) × Unit))
abbrev T6_2002s0 : Type := (List D_Act) → (List Int) → Int → Int → Option R6_2002s0
noncomputable def u6_2002s0 (f : T6_2002s0) : (pa6_2002s0).C → Option (WayC pw6_2002s0) := fun (x : (((List D_Act) × (List Int) × Int × Unit × Int × Unit) × Unit)) => f x.1.1 x.1.2.1 x.1.2.2.1 x.1.2.2.2.2.1
noncomputable def pa6_2002s1 : Shape := ⟨[.d (.slice T_Act), .d (.slice i64), .d i64, .ptr 0, .d i64], [.box [.d i64, .own T_Term, .mp 1], .map T_Term i64]⟩
noncomputable def pw6_2002s1 : List Vm.Way := [⟨.normal, [], ⟨[], [.box [.d i64, .own T_Term, .mp 1], .map T_Term i64]⟩⟩, ⟨.ret, [6], ⟨[.d .bool], [.box [.d i64, .own T_Term, .mp 1], .map T_Term i64]⟩⟩]
abbrev R6_2002s1 : Type := ((Unit × ((Int × (List D_Term) × Unit × Unit) × (List (D_Term × Int)) × Unit)) ⊕ ((Bool × Unit) × ((Int × (List D_Term) × Unit × Unit) × (List (D_Term × Int)) × Unit)))
abbrev T6_2002s1 : Type := (List D_Act) → (List Int) → Int → Int → Int → (List D_Term) → (List (D_Term × Int)) → Option R6_2002s1
noncomputable def u6_2002s1 (f : T6_2002s1) : (pa6_2002s1).C → Option (WayC pw6_2002s1) := fun (x : (((List D_Act) × (List Int) × Int × Unit × Int × Unit) × ((Int × (List D_Term) × Unit × Unit) × (List (D_Term × Int)) × Unit))) => f x.1.1 x.1.2.1 x.1.2.2.1 x.1.2.2.2.2.1 x.2.1.1 x.2.1.2.1 x.2.2.1
noncomputable def l6_2002s0 (k : Nat) : T6_2002s0 := fun l1 reads2 w7 i10 =>
  ix l1 i10 fun e1 =>
  (f16 k e1).bind fun y2 =>
  (f19 k ()).bind fun y3 =>
  (f9 k w7 y3.1.1 reads2).bind fun y4 =>
  cond (decide (y2.1.1 < 0))
    (some (.inl ((), ())))
    (cond (decide (y2.1.1 ≥ (y4.1.1.length : Int)))
      (some (.inl ((), ())))
      (cond (decide (e1.1 < 2))
        (some (.inl ((), ())))
        (cond (decide (e1.1 > 8))
          (some (.inl ((), ())))
          ((f22 k y4.1.1 e1.2.2.1).bind fun y5 =>
          (f22 k y4.1.1 e1.2.2.2.1).bind fun y6 =>
          (f22 k y4.1.1 e1.2.2.2.2.1).bind fun y7 =>
          (l6_512638 k w7 y5.1.1 y6.1.1 y7.1.1 0 e1.1 e1.2.1 e1.2.2.1 e1.2.2.2.1 e1.2.2.2.2.1).bind fun y8 =>
          (l6_1025278 k y2.1.1 y4.1.1 y8.1.1).bind fun y9 =>
          cond y9.1.1
            (some (.inr ((false, ()), ())))
            (some (.inl ((), ())))))))
noncomputable def l6_2002s1 (k : Nat) : T6_2002s1 := fun l1 reads2 w7 i10 o0_0 o0_1 o1 =>
  ix l1 i10 fun e1 =>
  (f16v2 k e1 o0_0 o0_1 o1).bind fun y2 =>
  (f19v2 k y2.2.1.1 y2.2.1.2.1 y2.2.2.1).bind fun y3 =>
  (f9 k w7 y3.1.1 reads2).bind fun y4 =>
  cond (decide (y2.1.1 < 0))
    (some (.inl ((), ((y2.2.1.1, y2.2.1.2.1, (), ()), y2.2.2.1, ()))))
    (cond (decide (y2.1.1 ≥ (y4.1.1.length : Int)))
      (some (.inl ((), ((y2.2.1.1, y2.2.1.2.1, (), ()), y2.2.2.1, ()))))
      (cond (decide (e1.1 < 2))
        (some (.inl ((), ((y2.2.1.1, y2.2.1.2.1, (), ()), y2.2.2.1, ()))))
        (cond (decide (e1.1 > 8))
          (some (.inl ((), ((y2.2.1.1, y2.2.1.2.1, (), ()), y2.2.2.1, ()))))
          ((f22 k y4.1.1 e1.2.2.1).bind fun y5 =>
          (f22 k y4.1.1 e1.2.2.2.1).bind fun y6 =>
          (f22 k y4.1.1 e1.2.2.2.2.1).bind fun y7 =>
          (l6_512638 k w7 y5.1.1 y6.1.1 y7.1.1 0 e1.1 e1.2.1 e1.2.2.1 e1.2.2.2.1 e1.2.2.2.2.1).bind fun y8 =>
          (l6_1025278 k y2.1.1 y4.1.1 y8.1.1).bind fun y9 =>
          cond y9.1.1
            (some (.inr ((false, ()), ((y2.2.1.1, y2.2.1.2.1, (), ()), y2.2.2.1, ()))))
            (some (.inl ((), ((y2.2.1.1, y2.2.1.2.1, (), ()), y2.2.2.1, ()))))))))
noncomputable def pa6_1018 : Shape := ⟨[.d (.slice T_Term), .d i64], []⟩
noncomputable def pw6_1018 : List Vm.Way := [⟨.exit 3, [], ⟨[], []⟩⟩, ⟨.ret, [6], ⟨[.d .bool], []⟩⟩]
abbrev R6_1018 : Type := ((Unit × Unit) ⊕ ((Bool × Unit) × Unit))
abbrev T6_1018 : Type := (List D_Term) → Int → Option R6_1018
noncomputable def u6_1018 (f : T6_1018) : (pa6_1018).C → Option (WayC pw6_1018) := fun (x : (((List D_Term) × Int × Unit) × Unit)) => f x.1.1 x.1.2.1
noncomputable def b6_1018 (k : Nat) (rec : T6_1018) : T6_1018 := fun all18 i19 =>
  cond (decide (i19 < (all18.length : Int)))
    ((l6_65170 k k all18 i19 0).bind fun y1 =>
    match y1 with
    | .inl y1_0 =>
      (rec all18 (w64 (i19 + 1))).bind fun y2 =>
      match y2 with
      | .inl y2_0 =>
        some (.inl ((), ()))
      | .inr y2_1 =>
        some (.inr ((y2_1.1.1, ()), ()))
    | .inr y1_1 =>
      some (.inr ((y1_1.1.1, ()), ())))
    (some (.inl ((), ())))
noncomputable def l6_1018 (k : Nat) : Nat → T6_1018
  | 0 => fun _ _ => none
  | j + 1 => b6_1018 k (l6_1018 k j)
noncomputable def pa6_250s0 : Shape := ⟨[.d (.slice T_Act), .d (.slice i64), .d i64, .nilp, .d i64], []⟩
noncomputable def pw6_250s0 : List Vm.Way := [⟨.exit 0, [], ⟨[], []⟩⟩, ⟨.ret, [6], ⟨[.d .bool], []⟩⟩]
abbrev R6_250s0 : Type := ((Unit × Unit) ⊕ ((Bool × Unit) × Unit))
abbrev T6_250s0 : Type := (List D_Act) → (List Int) → Int → Int → Option R6_250s0
noncomputable def u6_250s0 (f : T6_250s0) : (pa6_250s0).C → Option (WayC pw6_250s0) := fun (x : (((List D_Act) × (List Int) × Int × Unit × Int × Unit) × Unit)) => f x.1.1 x.1.2.1 x.1.2.2.1 x.1.2.2.2.2.1
noncomputable def pa6_250s1 : Shape := ⟨[.d (.slice T_Act), .d (.slice i64), .d i64, .ptr 0, .d i64], [.box [.d i64, .own T_Term, .mp 1], .map T_Term i64]⟩
noncomputable def pw6_250s1 : List Vm.Way := [⟨.exit 0, [], ⟨[], [.box [.d i64, .own T_Term, .mp 1], .map T_Term i64]⟩⟩, ⟨.ret, [6], ⟨[.d .bool], [.box [.d i64, .own T_Term, .mp 1], .map T_Term i64]⟩⟩]
abbrev R6_250s1 : Type := ((Unit × ((Int × (List D_Term) × Unit × Unit) × (List (D_Term × Int)) × Unit)) ⊕ ((Bool × Unit) × ((Int × (List D_Term) × Unit × Unit) × (List (D_Term × Int)) × Unit)))
abbrev T6_250s1 : Type := (List D_Act) → (List Int) → Int → Int → Int → (List D_Term) → (List (D_Term × Int)) → Option R6_250s1
noncomputable def u6_250s1 (f : T6_250s1) : (pa6_250s1).C → Option (WayC pw6_250s1) := fun (x : (((List D_Act) × (List Int) × Int × Unit × Int × Unit) × ((Int × (List D_Term) × Unit × Unit) × (List (D_Term × Int)) × Unit))) => f x.1.1 x.1.2.1 x.1.2.2.1 x.1.2.2.2.2.1 x.2.1.1 x.2.1.2.1 x.2.2.1
noncomputable def b6_250s0 (k : Nat) (rec0 : T6_250s0) (rec1 : T6_250s1) : T6_250s0 := fun l1 reads2 w7 i10 =>
  cond (decide (i10 < (l1.length : Int)))
    (cond (decide (i10 < 25))
      ((l6_2002s0 k l1 reads2 w7 i10).bind fun y1 =>
      match y1 with
      | .inl y1_0 =>
        (rec0 l1 reads2 w7 (w64 (i10 + 1))).bind fun y2 =>
        match y2 with
        | .inl y2_0 =>
          some (.inl ((), ()))
        | .inr y2_1 =>
          some (.inr ((y2_1.1.1, ()), ()))
      | .inr y1_1 =>
        some (.inr ((y1_1.1.1, ()), ())))
      (some (.inl ((), ()))))
    (some (.inl ((), ())))
noncomputable def b6_250s1 (k : Nat) (rec0 : T6_250s0) (rec1 : T6_250s1) : T6_250s1 := fun l1 reads2 w7 i10 o0_0 o0_1 o1 =>
  cond (decide (i10 < (l1.length : Int)))
    (cond (decide (i10 < 25))
      ((l6_2002s1 k l1 reads2 w7 i10 o0_0 o0_1 o1).bind fun y1 =>
      match y1 with
      | .inl y1_0 =>
        (rec1 l1 reads2 w7 (w64 (i10 + 1)) y1_0.2.1.1 y1_0.2.1.2.1 y1_0.2.2.1).bind fun y2 =>
        match y2 with
        | .inl y2_0 =>
          some (.inl ((), ((y2_0.2.1.1, y2_0.2.1.2.1, (), ()), y2_0.2.2.1, ())))
        | .inr y2_1 =>
          some (.inr ((y2_1.1.1, ()), ((y2_1.2.1.1, y2_1.2.1.2.1, (), ()), y2_1.2.2.1, ())))
      | .inr y1_1 =>
        some (.inr ((y1_1.1.1, ()), ((y1_1.2.1.1, y1_1.2.1.2.1, (), ()), y1_1.2.2.1, ()))))
      (some (.inl ((), ((o0_0, o0_1, (), ()), o1, ())))))
    (some (.inl ((), ((o0_0, o0_1, (), ()), o1, ()))))
noncomputable def L6_250 (k : Nat) : Nat → T6_250s0 × T6_250s1
  | 0 => (fun _ _ _ _ => none, fun _ _ _ _ _ _ _ => none)
  | j + 1 => (b6_250s0 k (L6_250 k j).1 (L6_250 k j).2, b6_250s1 k (L6_250 k j).1 (L6_250 k j).2)
noncomputable def l6_250s0 (k : Nat) (j : Nat) : T6_250s0 := (L6_250 k j).1
noncomputable def l6_250s1 (k : Nat) (j : Nat) : T6_250s1 := (L6_250 k j).2
theorem l6_250s0_succ (k : Nat) (j : Nat) : l6_250s0 k (j + 1) = b6_250s0 k (l6_250s0 k j) (l6_250s1 k j) := rfl
theorem l6_250s1_succ (k : Nat) (j : Nat) : l6_250s1 k (j + 1) = b6_250s1 k (l6_250s0 k j) (l6_250s1 k j) := rfl
noncomputable def f6 (k : Nat) : T6 := fun width0 l1 reads2 =>
  (f15 k l1).bind fun y1 =>
  cond (!y1.1.1)
    ((f8 k ()).bind fun y2 =>
    some ((y2.1.1, ()), ()))
    (cond (decide ((reads2.length : Int) > 100))
      ((f8 k ()).bind fun y3 =>
      some ((y3.1.1, ()), ()))
      ((f14 k (w64 (1 + (w64 ((Int.tmod width0 8)))))).bind fun y4 =>
      match y4 with
      | .inl y4_0 =>
        (l6_250s0 k k l1 reads2 (w64 (1 + (w64 ((Int.tmod width0 8))))) 0).bind fun y5 =>
        match y5 with
        | .inl y5_0 =>
          (f19 k ()).bind fun y6 =>
          (l6_1018 k k y6.1.1 0).bind fun y7 =>
          match y7 with
          | .inl y7_0 =>
            (f10 k (w64 (1 + (w64 ((Int.tmod width0 8))))) y6.1.1).bind fun y8 =>
            cond y8.1.1
              ((f8 k ()).bind fun y9 =>
              some ((y9.1.1, ()), ()))
              (some ((false, ()), ()))
          | .inr y7_1 =>
            some ((y7_1.1.1, ()), ())
        | .inr y5_1 =>
          some ((y5_1.1.1, ()), ())
      | .inr y4_1 =>
        (l6_250s1 k k l1 reads2 (w64 (1 + (w64 ((Int.tmod width0 8))))) 0 y4_1.2.1.1 y4_1.2.1.2.1 y4_1.2.2.1).bind fun y10 =>
        match y10 with
        | .inl y10_0 =>
          (f19v2 k y10_0.2.1.1 y10_0.2.1.2.1 y10_0.2.2.1).bind fun y11 =>
          (l6_1018 k k y11.1.1 0).bind fun y12 =>
          match y12 with
          | .inl y12_0 =>
            (f10 k (w64 (1 + (w64 ((Int.tmod width0 8))))) y11.1.1).bind fun y13 =>
            cond y13.1.1
              ((f8 k ()).bind fun y14 =>
              some ((y14.1.1, ()), ()))
              (some ((false, ()), ()))
          | .inr y12_1 =>
            some ((y12_1.1.1, ()), ())
        | .inr y10_1 =>
          some ((y10_1.1.1, ()), ())))
noncomputable def C6 (k : Nat) : Nat → Fun := mkC [(8, (F8 (f8 k))), (9, (F9 (f9 k))), (10, (F10 (f10 k))), (14, (F14 (f14 k))), (15, (F15 (f15 k))), (16, (altF a16 true (F16 (f16 k)) (F16v2 (f16v2 k)))), (19, (altF a19 false (F19 (f19 k)) (F19v2 (f19v2 k)))), (22, (F22 (f22 k))), (23, (F23 (f23 k))), (24, (F24 (f24 k)))]
theorem c6_ok (k : Nat) : ∀ f, SoundFn Try.prog f (C6 k f) := (mkC_cons (s8 k) (mkC_cons (s9 k) (mkC_cons (s10 k) (mkC_cons (s14 k) (mkC_cons (s15 k) (mkC_cons (altF_ok (s16 k) (s16v2 k) rfl) (mkC_cons (altF_ok (s19 k) (s19v2 k) rfl) (mkC_cons (s22 k) (mkC_cons (s23 k) (mkC_cons (s24 k) mkC_nil))))))))))
noncomputable def H6_1025278 (k : Nat) : Nat → Option Cut := addH noH 1025278 ⟨runCut (wrC (codeAt 1025278 (bd Try.f6) 1025278)) 170 [12, 13, 17] pa6_1025278 pw6_1025278 (u6_1025278 (l6_1025278 k))⟩
theorem e6_1025278 (k : Nat) (x : (pa6_1025278).C) : pieceF (C6 k) tt noH (codeAt 1025278 (bd Try.f6) 1025278) 1025278 170 [12, 13, 17] pa6_1025278 pw6_1025278 x = u6_1025278 (l6_1025278 k) x := by kernel_rfl
theorem h6_1025278_ok (k : Nat) : ∀ p S, H6_1025278 k p = some S → ∀ c, At (bd Try.f6) p c → CutOk Try.prog c S :=
  have hC := c6_ok k
  addPiece hC ttOk (draw_ok hC ttOk mixed) noH_ok (fun x _ h => (e6_1025278 k x).trans h)
noncomputable def H6_512638 (k : Nat) : Nat → Option Cut := addH (H6_1025278 k) 512638 ⟨runCut (wrC (codeAt 512638 (bd Try.f6) 512638)) 170 [7, 11, 14, 15, 16, 17] pa6_512638 pw6_512638 (u6_512638 (l6_512638 k))⟩
theorem e6_512638 (k : Nat) (x : (pa6_512638).C) : pieceF (C6 k) tt (H6_1025278 k) (codeAt 512638 (bd Try.f6) 512638) 512638 170 [7, 11, 14, 15, 16, 17] pa6_512638 pw6_512638 x = u6_512638 (l6_512638 k) x := by kernel_rfl
theorem h6_512638_ok (k : Nat) : ∀ p S, H6_512638 k p = some S → ∀ c, At (bd Try.f6) p c → CutOk Try.prog c S :=
  have hC := c6_ok k
  addPiece hC ttOk (draw_ok hC ttOk mixed) (h6_1025278_ok k) (fun x _ h => (e6_512638 k x).trans h)
noncomputable def H6_65170 (k : Nat) : Nat → Option Cut := addH (H6_512638 k) 65170 ⟨runCut (wrC (bodyOf (codeAt 65170 (bd Try.f6) 65170))) 170 [18, 19, 20] pa6_65170 pw6_65170 (u6_65170 (l6_65170 k k))⟩
theorem e6_65170 (k : Nat) (rec : T6_65170) (x : (pa6_65170).C) : roundF (C6 k) tt (H6_512638 k) (bodyOf (codeAt 65170 (bd Try.f6) 65170)) 130340 170 [18, 19, 20] pa6_65170 pw6_65170 (u6_65170 rec) x = u6_65170 (b6_65170 k rec) x := by kernel_rfl
theorem h6_65170_ok (k : Nat) : ∀ p S, H6_65170 k p = some S → ∀ c, At (bd Try.f6) p c → CutOk Try.prog c S :=
  have hC := c6_ok k
  addLoop hC ttOk (draw_ok hC ttOk mixed) (h6_512638_ok k) (by kernel_rfl) (F := fun j => u6_65170 (l6_65170 k j)) (fun _ => rfl) (fun j x _ h => (e6_65170 k (l6_65170 k j) x).trans h) k
noncomputable def H6_2002 (k : Nat) : Nat → Option Cut := addH (H6_65170 k) 2002 (altCut [1, 2, 7, 8, 10] pa6_2002s0 ⟨runCut (wrC (codeAt 2002 (bd Try.f6) 2002)) 170 [1, 2, 7, 8, 10] pa6_2002s0 pw6_2002s0 (u6_2002s0 (l6_2002s0 k))⟩ ⟨runCut (wrC (codeAt 2002 (bd Try.f6) 2002)) 170 [1, 2, 7, 8, 10] pa6_2002s1 pw6_2002s1 (u6_2002s1 (l6_2002s1 k))⟩)
theorem e6_2002s0 (k : Nat) (x : (pa6_2002s0).C) : pieceF (C6 k) tt (H6_65170 k) (codeAt 2002 (bd Try.f6) 2002) 2002 170 [1, 2, 7, 8, 10] pa6_2002s0 pw6_2002s0 x = u6_2002s0 (l6_2002s0 k) x := by kernel_rfl
theorem e6_2002s1 (k : Nat) (x : (pa6_2002s1).C) : pieceF (C6 k) tt (H6_65170 k) (codeAt 2002 (bd Try.f6) 2002) 2002 170 [1, 2, 7, 8, 10] pa6_2002s1 pw6_2002s1 x = u6_2002s1 (l6_2002s1 k) x := by kernel_rfl
theorem h6_2002_ok (k : Nat) : ∀ p S, H6_2002 k p = some S → ∀ c, At (bd Try.f6) p c → CutOk Try.prog c S :=
  have hC := c6_ok k
  addCut (h6_65170_ok k) (fun hc => (altCut_ok (piece_ok hC ttOk (draw_ok hC ttOk mixed) (h6_65170_ok k) hc (fun x _ h => (e6_2002s0 k x).trans h)) (piece_ok hC ttOk (draw_ok hC ttOk mixed) (h6_65170_ok k) hc (fun x _ h => (e6_2002s1 k x).trans h))))
noncomputable def H6_1018 (k : Nat) : Nat → Option Cut := addH (H6_2002 k) 1018 ⟨runCut (wrC (bodyOf (codeAt 1018 (bd Try.f6) 1018))) 170 [18, 19] pa6_1018 pw6_1018 (u6_1018 (l6_1018 k k))⟩
theorem e6_1018 (k : Nat) (rec : T6_1018) (x : (pa6_1018).C) : roundF (C6 k) tt (H6_2002 k) (bodyOf (codeAt 1018 (bd Try.f6) 1018)) 2036 170 [18, 19] pa6_1018 pw6_1018 (u6_1018 rec) x = u6_1018 (b6_1018 k rec) x := by kernel_rfl
theorem h6_1018_ok (k : Nat) : ∀ p S, H6_1018 k p = some S → ∀ c, At (bd Try.f6) p c → CutOk Try.prog c S :=
  have hC := c6_ok k
  addLoop hC ttOk (draw_ok hC ttOk mixed) (h6_2002_ok k) (by kernel_rfl) (F := fun j => u6_1018 (l6_1018 k j)) (fun _ => rfl) (fun j x _ h => (e6_1018 k (l6_1018 k j) x).trans h) k
noncomputable def X6_250 (k : Nat) (r_0 : T6_250s0) (r_1 : T6_250s1) : Cut := (altCut [1, 2, 7, 8, 10] pa6_250s0 ⟨runCut (wrC (bodyOf (codeAt 250 (bd Try.f6) 250))) 170 [1, 2, 7, 8, 10] pa6_250s0 pw6_250s0 (u6_250s0 r_0)⟩ ⟨runCut (wrC (bodyOf (codeAt 250 (bd Try.f6) 250))) 170 [1, 2, 7, 8, 10] pa6_250s1 pw6_250s1 (u6_250s1 r_1)⟩)
noncomputable def H6_250 (k : Nat) : Nat → Option Cut := addH (H6_1018 k) 250 (X6_250 k (l6_250s0 k k) (l6_250s1 k k))
theorem e6_250s0 (k : Nat) (r_0 : T6_250s0) (r_1 : T6_250s1) (x : (pa6_250s0).C) : roundS (C6 k) tt (H6_1018 k) (bodyOf (codeAt 250 (bd Try.f6) 250)) 500 170 [1, 2, 7, 8, 10] pa6_250s0 pw6_250s0 (X6_250 k r_0 r_1) x = u6_250s0 (b6_250s0 k r_0 r_1) x := by kernel_rfl
theorem e6_250s1 (k : Nat) (r_0 : T6_250s0) (r_1 : T6_250s1) (x : (pa6_250s1).C) : roundS (C6 k) tt (H6_1018 k) (bodyOf (codeAt 250 (bd Try.f6) 250)) 500 170 [1, 2, 7, 8, 10] pa6_250s1 pw6_250s1 (X6_250 k r_0 r_1) x = u6_250s1 (b6_250s1 k r_0 r_1) x := by kernel_rfl
theorem h6_250_ok (k : Nat) : ∀ p S, H6_250 k p = some S → ∀ c, At (bd Try.f6) p c → CutOk Try.prog c S :=
  have hC := c6_ok k
  addLoops (h6_1018_ok k) (by kernel_rfl) (S := fun j => X6_250 k (l6_250s0 k j) (l6_250s1 k j)) (fun hb => ⟨(rounds_alt (rounds_none (fun _ => rfl)) (rounds_none (fun _ => rfl))), fun j ih => (rounds_alt (rounds_step hC ttOk (draw_ok hC ttOk mixed) (h6_1018_ok k) hb ih (fun x _ h => (e6_250s0 k (l6_250s0 k j) (l6_250s1 k j) x).trans h)) (rounds_step hC ttOk (draw_ok hC ttOk mixed) (h6_1018_ok k) hb ih (fun x _ h => (e6_250s1 k (l6_250s0 k j) (l6_250s1 k j) x).trans h)))⟩) k
theorem e6 (k : Nat) (x : (a6).C) : bodyR (C6 k) tt (H6_250 k) Try.f6 a6 o6 x = u6 (f6 k) x := by kernel_rfl
theorem s6 (k : Nat) : SoundFn Try.prog 6 (F6 (f6 k)) :=
  have hC := c6_ok k
  fnR_sound hC ttOk (draw_ok hC ttOk mixed) Try.func6 (c0 := bd Try.f6) rfl (entry Try.func6 rfl (by decide)) (h6_250_ok k) rfl (fun x _ h => (e6 k x).trans h)
end Go.Proofs.Ytepfhidiahleiaa.M
