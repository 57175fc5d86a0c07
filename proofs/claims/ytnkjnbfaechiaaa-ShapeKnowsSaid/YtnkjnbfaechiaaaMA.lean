/-
PRINTED BY vmp.py: the functions of a law, each as a Lean function, and that it is what the code computes.
-/
import Derived.Test.YtnkjnbfaechiaaaGiv
import Derived.Test.YtnkjnbfaechiaaaVm42
import Derived.Test.YtnkjnbfaechiaaaProg
import Derived.Test.YtnkjnbfaechiaaaChecked
import Derived.KernelRfl
set_option linter.unusedVariables false
set_option maxRecDepth 100000
namespace Go.Proofs.Ytnkjnbfaechiaaa.M
open Go Go.Proofs Go.Proofs.Ytnkjnbfaechiaaa.Vm
abbrev T_errorAddressString : Ty := (.pair .str (.pair (.int .u64) .unit))
abbrev D_errorAddressString : Type := (ByteArray × Int × Unit)
abbrev T_boundsError : Ty := (.pair i64 (.pair i64 (.pair .bool (.pair (.int .u8) .unit))))
abbrev D_boundsError : Type := (Int × Int × Bool × Int × Unit)
abbrev T_Event : Ty := (.pair i64 (.pair i64 (.pair i64 (.pair i64 .unit))))
abbrev D_Event : Type := (Int × Int × Int × Int × Unit)
abbrev T_Shape : Ty := (.pair (.slice T_Event) (.pair (.slice i64) .unit))
abbrev D_Shape : Type := ((List D_Event) × (List Int) × Unit)
def tl : List (Nat × TI) := [(3, .dat i64 0), (4, .dat .bool 0), (22, .dat (.slice T_Event) 32), (23, .dat (.slice i64) 8), (25, .dat T_Shape 0), (28, .dat (.slice (.slice .bool)) 24), (33, .dat (.slice .bool) 1), (38, .dat T_Event 0)]
def tt := mkT tl
theorem ttOk : TtOk Try.prog tt := mkT_ok (by kernel_rfl)
theorem mixed : Try.prog.follows .mixedOrders = true := by kernel_rfl
/-! f25 slices.Equal[[]int,int] (R) -/
noncomputable def a25 : Shape := ⟨[.d (.slice i64), .d (.slice i64)], []⟩
noncomputable def o25 : List Shape := [⟨[.d .bool], []⟩]
abbrev R25 : Type := ((Bool × Unit) × Unit)
abbrev T25 : Type := (List Int) → (List Int) → Option R25
noncomputable def u25 (f : T25) : (a25).C → Option (OutC o25) := fun (x : (((List Int) × (List Int) × Unit) × Unit)) => f x.1.1 x.1.2.1
noncomputable def F25 (f : T25) : Fun := ⟨true, runR a25 o25 (u25 f)⟩
noncomputable def pa25_58 : Shape := ⟨[.d (.slice i64), .d (.slice i64), .d i64, .d i64], []⟩
noncomputable def pw25_58 : List Vm.Way := [⟨.exit 0, [], ⟨[], []⟩⟩, ⟨.ret, [4], ⟨[.d .bool], []⟩⟩]
abbrev R25_58 : Type := ((Unit × Unit) ⊕ ((Bool × Unit) × Unit))
abbrev T25_58 : Type := (List Int) → (List Int) → Int → Int → Option R25_58
noncomputable def u25_58 (f : T25_58) : (pa25_58).C → Option (WayC pw25_58) := fun (x : (((List Int) × (List Int) × Int × Int × Unit) × Unit)) => f x.1.1 x.1.2.1 x.1.2.2.1 x.1.2.2.2.1
noncomputable def b25_58 (k : Nat) (rec : T25_58) : T25_58 := fun s10 s21 t12 t13 =>
  cond (decide (t13 < t12))
    (ix s10 t13 fun e1 =>
    ix s21 t13 fun e2 =>
    cond (e1 != e2)
      (some (.inr ((false, ()), ())))
      ((rec s10 s21 t12 (w64 (t13 + 1))).bind fun y3 =>
      match y3 with
      | .inl y3_0 =>
        some (.inl ((), ()))
      | .inr y3_1 =>
        some (.inr ((y3_1.1.1, ()), ()))))
    (some (.inl ((), ())))
noncomputable def l25_58 (k : Nat) : Nat → T25_58
  | 0 => fun _ _ _ _ => none
  | j + 1 => b25_58 k (l25_58 k j)
noncomputable def f25 (k : Nat) : T25 := fun s10 s21 =>
  cond ((s10.length : Int) != (s21.length : Int))
    (some ((false, ()), ()))
    ((l25_58 k k s10 s21 (s10.length : Int) 0).bind fun y1 =>
    match y1 with
    | .inl y1_0 =>
      some ((true, ()), ())
    | .inr y1_1 =>
      some ((y1_1.1.1, ()), ()))
noncomputable def C25 (k : Nat) : Nat → Fun := mkC []
theorem c25_ok (k : Nat) : ∀ f, SoundFn Try.prog f (C25 k f) := mkC_nil
noncomputable def H25_58 (k : Nat) : Nat → Option Cut := addH noH 58 ⟨runCut (wrC (bodyOf (codeAt 58 (bd Try.f25) 58))) 26 [0, 1, 12, 13] pa25_58 pw25_58 (u25_58 (l25_58 k k))⟩
theorem e25_58 (k : Nat) (rec : T25_58) (x : (pa25_58).C) : roundF (C25 k) tt noH (bodyOf (codeAt 58 (bd Try.f25) 58)) 116 26 [0, 1, 12, 13] pa25_58 pw25_58 (u25_58 rec) x = u25_58 (b25_58 k rec) x := by kernel_rfl
theorem h25_58_ok (k : Nat) : ∀ p S, H25_58 k p = some S → ∀ c, At (bd Try.f25) p c → CutOk Try.prog c S :=
  have hC := c25_ok k
  addLoop hC ttOk (draw_ok hC ttOk mixed) noH_ok (by kernel_rfl) (F := fun j => u25_58 (l25_58 k j)) (fun _ => rfl) (fun j x _ h => (e25_58 k (l25_58 k j) x).trans h) k
theorem e25 (k : Nat) (x : (a25).C) : bodyR (C25 k) tt (H25_58 k) Try.f25 a25 o25 x = u25 (f25 k) x := by kernel_rfl
theorem s25 (k : Nat) : SoundFn Try.prog 25 (F25 (f25 k)) :=
  have hC := c25_ok k
  fnR_sound hC ttOk (draw_ok hC ttOk mixed) Try.func25 (c0 := bd Try.f25) rfl (entry Try.func25 rfl (by decide)) (h25_58_ok k) rfl (fun x _ h => (e25 k x).trans h)
/-! f24 fathom/shape.object (R) -/
noncomputable def a24 : Shape := ⟨[.d T_Shape, .d T_Event], []⟩
noncomputable def o24 : List Shape := [⟨[.d .bool], []⟩]
abbrev R24 : Type := ((Bool × Unit) × Unit)
abbrev T24 : Type := D_Shape → D_Event → Option R24
noncomputable def u24 (f : T24) : (a24).C → Option (OutC o24) := fun (x : ((D_Shape × D_Event × Unit) × Unit)) => f x.1.1 x.1.2.1
noncomputable def F24 (f : T24) : Fun := ⟨true, runR a24 o24 (u24 f)⟩
noncomputable def f24 (k : Nat) : T24 := fun s0 e_1 =>
  cond (e_1.2.2.1 == 11)
    (cond (decide (e_1.2.2.2.1 > e_1.1))
      (some (((decide (e_1.2.2.2.1 < (s0.2.1.length : Int))), ()), ()))
      (some ((false, ()), ())))
    (cond (decide (e_1.2.2.2.1 ≥ 0))
      (some (((decide (e_1.2.2.2.1 < 12)), ()), ()))
      (some ((false, ()), ())))
noncomputable def C24 (k : Nat) : Nat → Fun := mkC []
theorem c24_ok (k : Nat) : ∀ f, SoundFn Try.prog f (C24 k f) := mkC_nil
theorem e24 (k : Nat) (x : (a24).C) : bodyR (C24 k) tt noH Try.f24 a24 o24 x = u24 (f24 k) x := by kernel_rfl
theorem s24 (k : Nat) : SoundFn Try.prog 24 (F24 (f24 k)) :=
  have hC := c24_ok k
  fnR_sound hC ttOk (draw_ok hC ttOk mixed) Try.func24 (c0 := bd Try.f24) rfl (entry Try.func24 rfl (by decide)) noH_ok rfl (fun x _ h => (e24 k x).trans h)
/-! f13 fathom/shape.Check (R) -/
noncomputable def a13 : Shape := ⟨[.d T_Shape], []⟩
noncomputable def o13 : List Shape := [⟨[.d i64], []⟩]
abbrev R13 : Type := ((Int × Unit) × Unit)
abbrev T13 : Type := D_Shape → Option R13
noncomputable def u13 (f : T13) : (a13).C → Option (OutC o13) := fun (x : ((D_Shape × Unit) × Unit)) => f x.1.1
noncomputable def F13 (f : T13) : Fun := ⟨true, runR a13 o13 (u13 f)⟩
noncomputable def pa13_518556 : Shape := ⟨[.ptr 0], [.box [.d i64, .d i64, .d i64, .d i64]]⟩
noncomputable def pw13_518556 : List Vm.Way := [⟨.normal, [94], ⟨[.d .bool], [.box [.d i64, .d i64, .d i64, .d i64]]⟩⟩]
abbrev R13_518556 : Type := ((Bool × Unit) × ((Int × Int × Int × Int × Unit) × Unit))
abbrev T13_518556 : Type := Int → Int → Int → Int → Option R13_518556
noncomputable def u13_518556 (f : T13_518556) : (pa13_518556).C → Option (WayC pw13_518556) := fun (x : ((Unit × Unit) × ((Int × Int × Int × Int × Unit) × Unit))) => f x.2.1.1 x.2.1.2.1 x.2.1.2.2.1 x.2.1.2.2.2.1
noncomputable def l13_518556 (k : Nat) : T13_518556 := fun o0_0 o0_1 o0_2 o0_3 =>
  some (((o0_2 == 11), ()), ((o0_0, o0_1, o0_2, o0_3, ()), ()))
noncomputable def pa13_259276 : Shape := ⟨[.ptr 0, .ptr 1], [.box [.d i64, .d i64, .d i64, .d i64], .box [.d i64, .d i64, .d i64, .d i64]]⟩
noncomputable def pw13_259276 : List Vm.Way := [⟨.normal, [91], ⟨[.d .bool], [.box [.d i64, .d i64, .d i64, .d i64], .box [.d i64, .d i64, .d i64, .d i64]]⟩⟩]
abbrev R13_259276 : Type := ((Bool × Unit) × ((Int × Int × Int × Int × Unit) × (Int × Int × Int × Int × Unit) × Unit))
abbrev T13_259276 : Type := Int → Int → Int → Int → Int → Int → Int → Int → Option R13_259276
noncomputable def u13_259276 (f : T13_259276) : (pa13_259276).C → Option (WayC pw13_259276) := fun (x : ((Unit × Unit × Unit) × ((Int × Int × Int × Int × Unit) × (Int × Int × Int × Int × Unit) × Unit))) => f x.2.1.1 x.2.1.2.1 x.2.1.2.2.1 x.2.1.2.2.2.1 x.2.2.1.1 x.2.2.1.2.1 x.2.2.1.2.2.1 x.2.2.1.2.2.2.1
noncomputable def l13_259276 (k : Nat) : T13_259276 := fun o0_0 o0_1 o0_2 o0_3 o1_0 o1_1 o1_2 o1_3 =>
  cond (decide (o1_1 < 0))
    (some ((true, ()), ((o0_0, o0_1, o0_2, o0_3, ()), (o1_0, o1_1, o1_2, o1_3, ()), ())))
    (cond (o1_0 == o0_0)
      (some (((decide (o1_1 ≤ o0_1)), ()), ((o0_0, o0_1, o0_2, o0_3, ()), (o1_0, o1_1, o1_2, o1_3, ()), ())))
      (some ((false, ()), ((o0_0, o0_1, o0_2, o0_3, ()), (o1_0, o1_1, o1_2, o1_3, ()), ()))))
noncomputable def pa13_506 : Shape := ⟨[.ptr 0, .msl 1 i64, .ptr 2, .d (.slice T_Event), .d i64, .d i64], [.box [.d (.slice T_Event), .d (.slice i64)], .arr none i64, .box [.d i64, .d i64, .d i64, .d i64]]⟩
noncomputable def pw13_506 : List Vm.Way := [⟨.exit 2, [], ⟨[], [.box [.d (.slice T_Event), .d (.slice i64)], .arr none i64, .box [.d i64, .d i64, .d i64, .d i64]]⟩⟩, ⟨.ret, [2], ⟨[.d i64], [.box [.d (.slice T_Event), .d (.slice i64)], .arr none i64, .box [.d i64, .d i64, .d i64, .d i64]]⟩⟩]
abbrev R13_506 : Type := ((Unit × (((List D_Event) × (List Int) × Unit) × (List Int) × (Int × Int × Int × Int × Unit) × Unit)) ⊕ ((Int × Unit) × (((List D_Event) × (List Int) × Unit) × (List Int) × (Int × Int × Int × Int × Unit) × Unit)))
abbrev T13_506 : Type := Nat → (List D_Event) → Int → Int → (List D_Event) → (List Int) → (List Int) → Int → Int → Int → Int → Option R13_506
noncomputable def u13_506 (f : T13_506) : (pa13_506).C → Option (WayC pw13_506) := fun (x : ((Unit × Nat × Unit × (List D_Event) × Int × Int × Unit) × (((List D_Event) × (List Int) × Unit) × (List Int) × (Int × Int × Int × Int × Unit) × Unit))) => f x.1.2.1 x.1.2.2.2.1 x.1.2.2.2.2.1 x.1.2.2.2.2.2.1 x.2.1.1 x.2.1.2.1 x.2.2.1 x.2.2.2.1.1 x.2.2.2.1.2.1 x.2.2.2.1.2.2.1 x.2.2.2.1.2.2.2.1
noncomputable def b13_506 (k : Nat) (rec : T13_506) : T13_506 := fun starts3 t39 t40 t41 o0_0 o0_1 o1 o2_0 o2_1 o2_2 o2_3 =>
  cond (decide (t41 < t40))
    (ix t39 t41 fun e1 =>
    cond (decide (e1.1 < o2_0))
      (some (.inr ((1, ()), ((o0_0, o0_1, ()), o1, (o2_0, o2_1, o2_2, o2_3, ()), ()))))
      (cond (decide (e1.1 ≥ (o0_1.length : Int)))
        (some (.inr ((1, ()), ((o0_0, o0_1, ()), o1, (o2_0, o2_1, o2_2, o2_3, ()), ()))))
        (cond (decide (e1.2.2.1 < 1))
          (some (.inr ((1, ()), ((o0_0, o0_1, ()), o1, (o2_0, o2_1, o2_2, o2_3, ()), ()))))
          (cond (decide (e1.2.2.1 > 11))
            (some (.inr ((1, ()), ((o0_0, o0_1, ()), o1, (o2_0, o2_1, o2_2, o2_3, ()), ()))))
            ((f24 k (o0_0, o0_1, ()) e1).bind fun y2 =>
            cond (!y2.1.1)
              (some (.inr ((1, ()), ((o0_0, o0_1, ()), o1, (o2_0, o2_1, o2_2, o2_3, ()), ()))))
              ((l13_259276 k o2_0 o2_1 o2_2 o2_3 e1.1 e1.2.1 e1.2.2.1 e1.2.2.2.1).bind fun y3 =>
              cond y3.1.1
                (some (.inr ((1, ()), ((o0_0, o0_1, ()), o1, (y3.2.1.1, y3.2.1.2.1, y3.2.1.2.2.1, y3.2.1.2.2.2.1, ()), ()))))
                ((l13_518556 k y3.2.2.1.1 y3.2.2.1.2.1 y3.2.2.1.2.2.1 y3.2.2.1.2.2.2.1).bind fun y4 =>
                cond y4.1.1
                  (gd (decide (0 ≤ y4.2.1.2.2.2.1)) <|
                  gd (decide (y4.2.1.2.2.2.1.toNat < starts3)) <|
                  (o1[(0 + y4.2.1.2.2.2.1.toNat)]?).bind fun e5 =>
                  cond (decide (e5 ≥ 0))
                    (some (.inr ((1, ()), ((o0_0, o0_1, ()), o1, (y3.2.1.1, y3.2.1.2.1, y3.2.1.2.2.1, y3.2.1.2.2.2.1, ()), ()))))
                    (gd (decide (0 ≤ y4.2.1.2.2.2.1)) <|
                    gd (decide (y4.2.1.2.2.2.1.toNat < starts3)) <|
                    gd (decide ((0 + y4.2.1.2.2.2.1.toNat) < o1.length)) <|
                    (rec starts3 t39 t40 (w64 (t41 + 1)) o0_0 o0_1 (o1.set (0 + y4.2.1.2.2.2.1.toNat) t41) y4.2.1.1 y4.2.1.2.1 y4.2.1.2.2.1 y4.2.1.2.2.2.1).bind fun y6 =>
                    match y6 with
                    | .inl y6_0 =>
                      some (.inl ((), ((y6_0.2.1.1, y6_0.2.1.2.1, ()), y6_0.2.2.1, (y6_0.2.2.2.1.1, y6_0.2.2.2.1.2.1, y6_0.2.2.2.1.2.2.1, y6_0.2.2.2.1.2.2.2.1, ()), ())))
                    | .inr y6_1 =>
                      some (.inr ((y6_1.1.1, ()), ((y6_1.2.1.1, y6_1.2.1.2.1, ()), y6_1.2.2.1, (y6_1.2.2.2.1.1, y6_1.2.2.2.1.2.1, y6_1.2.2.2.1.2.2.1, y6_1.2.2.2.1.2.2.2.1, ()), ())))))
                  ((rec starts3 t39 t40 (w64 (t41 + 1)) o0_0 o0_1 o1 y4.2.1.1 y4.2.1.2.1 y4.2.1.2.2.1 y4.2.1.2.2.2.1).bind fun y7 =>
                  match y7 with
                  | .inl y7_0 =>
                    some (.inl ((), ((y7_0.2.1.1, y7_0.2.1.2.1, ()), y7_0.2.2.1, (y7_0.2.2.2.1.1, y7_0.2.2.2.1.2.1, y7_0.2.2.2.1.2.2.1, y7_0.2.2.2.1.2.2.2.1, ()), ())))
                  | .inr y7_1 =>
                    some (.inr ((y7_1.1.1, ()), ((y7_1.2.1.1, y7_1.2.1.2.1, ()), y7_1.2.2.1, (y7_1.2.2.2.1.1, y7_1.2.2.2.1.2.1, y7_1.2.2.2.1.2.2.1, y7_1.2.2.2.1.2.2.2.1, ()), ())))))))))))
    (some (.inl ((), ((o0_0, o0_1, ()), o1, (o2_0, o2_1, o2_2, o2_3, ()), ()))))
noncomputable def l13_506 (k : Nat) : Nat → T13_506
  | 0 => fun _ _ _ _ _ _ _ _ _ _ _ => none
  | j + 1 => b13_506 k (l13_506 k j)
noncomputable def pa13_122 : Shape := ⟨[.msl 0 i64, .d i64, .d i64], [.arr none i64]⟩
noncomputable def pw13_122 : List Vm.Way := [⟨.exit 0, [], ⟨[], [.arr none i64]⟩⟩]
abbrev R13_122 : Type := (Unit × ((List Int) × Unit))
abbrev T13_122 : Type := Nat → Int → Int → (List Int) → Option R13_122
noncomputable def u13_122 (f : T13_122) : (pa13_122).C → Option (WayC pw13_122) := fun (x : ((Nat × Int × Int × Unit) × ((List Int) × Unit))) => f x.1.1 x.1.2.1 x.1.2.2.1 x.2.1
noncomputable def b13_122 (k : Nat) (rec : T13_122) : T13_122 := fun starts3 t29 t30 o0 =>
  cond (decide (t30 < t29))
    (gd (decide (0 ≤ t30)) <|
    gd (decide (t30.toNat < starts3)) <|
    gd (decide ((0 + t30.toNat) < o0.length)) <|
    (rec starts3 t29 (w64 (t30 + 1)) (o0.set (0 + t30.toNat) (-1))).bind fun y1 =>
    some ((), (y1.2.1, ())))
    (some ((), (o0, ())))
noncomputable def l13_122 (k : Nat) : Nat → T13_122
  | 0 => fun _ _ _ _ => none
  | j + 1 => b13_122 k (l13_122 k j)
noncomputable def f13 (k : Nat) : T13 := fun s0 =>
  cond (decide ((s0.1.length : Int) > 40))
    (some ((1, ()), ()))
    (cond (decide ((s0.2.1.length : Int) < 1))
      (some ((1, ()), ()))
      (cond (decide ((s0.2.1.length : Int) > 6))
        (some ((1, ()), ()))
        (gd (decide (0 ≤ (s0.2.1.length : Int))) <|
        gd (decide ((s0.2.1.length : Int) ≤ (s0.2.1.length : Int))) <|
        gd (decide ((s0.2.1.length : Int).toNat * 8 ≤ room)) <|
        (l13_122 k k (s0.2.1.length : Int).toNat ((s0.2.1.length : Int).toNat : Int) 0 (List.replicate (s0.2.1.length : Int).toNat 0)).bind fun y1 =>
        (l13_506 k k (s0.2.1.length : Int).toNat s0.1 (s0.1.length : Int) 0 s0.1 s0.2.1 y1.2.1 0 (-1) 0 0).bind fun y2 =>
        match y2 with
        | .inl y2_0 =>
          gd (decide (0 + (s0.2.1.length : Int).toNat ≤ y2_0.2.2.1.length)) <|
          (f25 k ((y2_0.2.2.1.drop 0).take (s0.2.1.length : Int).toNat) y2_0.2.1.2.1).bind fun y3 =>
          cond (!y3.1.1)
            (some ((1, ()), ()))
            (some ((0, ()), ()))
        | .inr y2_1 =>
          some ((y2_1.1.1, ()), ()))))
noncomputable def C13 (k : Nat) : Nat → Fun := mkC [(24, (F24 (f24 k))), (25, (F25 (f25 k)))]
theorem c13_ok (k : Nat) : ∀ f, SoundFn Try.prog f (C13 k f) := (mkC_cons (s24 k) (mkC_cons (s25 k) mkC_nil))
noncomputable def H13_518556 (k : Nat) : Nat → Option Cut := addH noH 518556 ⟨runCut (wrC (codeAt 518556 (bd Try.f13) 518556)) 113 [7] pa13_518556 pw13_518556 (u13_518556 (l13_518556 k))⟩
theorem e13_518556 (k : Nat) (x : (pa13_518556).C) : pieceF (C13 k) tt noH (codeAt 518556 (bd Try.f13) 518556) 518556 113 [7] pa13_518556 pw13_518556 x = u13_518556 (l13_518556 k) x := by kernel_rfl
theorem h13_518556_ok (k : Nat) : ∀ p S, H13_518556 k p = some S → ∀ c, At (bd Try.f13) p c → CutOk Try.prog c S :=
  have hC := c13_ok k
  addPiece hC ttOk (draw_ok hC ttOk mixed) noH_ok (fun x _ h => (e13_518556 k x).trans h)
noncomputable def H13_259276 (k : Nat) : Nat → Option Cut := addH (H13_518556 k) 259276 ⟨runCut (wrC (codeAt 259276 (bd Try.f13) 259276)) 113 [5, 7] pa13_259276 pw13_259276 (u13_259276 (l13_259276 k))⟩
theorem e13_259276 (k : Nat) (x : (pa13_259276).C) : pieceF (C13 k) tt (H13_518556 k) (codeAt 259276 (bd Try.f13) 259276) 259276 113 [5, 7] pa13_259276 pw13_259276 x = u13_259276 (l13_259276 k) x := by kernel_rfl
theorem h13_259276_ok (k : Nat) : ∀ p S, H13_259276 k p = some S → ∀ c, At (bd Try.f13) p c → CutOk Try.prog c S :=
  have hC := c13_ok k
  addPiece hC ttOk (draw_ok hC ttOk mixed) (h13_518556_ok k) (fun x _ h => (e13_259276 k x).trans h)
noncomputable def H13_506 (k : Nat) : Nat → Option Cut := addH (H13_259276 k) 506 ⟨runCut (wrC (bodyOf (codeAt 506 (bd Try.f13) 506))) 113 [1, 3, 5, 39, 40, 41] pa13_506 pw13_506 (u13_506 (l13_506 k k))⟩
theorem e13_506 (k : Nat) (rec : T13_506) (x : (pa13_506).C) : roundF (C13 k) tt (H13_259276 k) (bodyOf (codeAt 506 (bd Try.f13) 506)) 1012 113 [1, 3, 5, 39, 40, 41] pa13_506 pw13_506 (u13_506 rec) x = u13_506 (b13_506 k rec) x := by kernel_rfl
theorem h13_506_ok (k : Nat) : ∀ p S, H13_506 k p = some S → ∀ c, At (bd Try.f13) p c → CutOk Try.prog c S :=
  have hC := c13_ok k
  addLoop hC ttOk (draw_ok hC ttOk mixed) (h13_259276_ok k) (by kernel_rfl) (F := fun j => u13_506 (l13_506 k j)) (fun _ => rfl) (fun j x _ h => (e13_506 k (l13_506 k j) x).trans h) k
noncomputable def H13_122 (k : Nat) : Nat → Option Cut := addH (H13_506 k) 122 ⟨runCut (wrC (bodyOf (codeAt 122 (bd Try.f13) 122))) 113 [3, 29, 30] pa13_122 pw13_122 (u13_122 (l13_122 k k))⟩
theorem e13_122 (k : Nat) (rec : T13_122) (x : (pa13_122).C) : roundF (C13 k) tt (H13_506 k) (bodyOf (codeAt 122 (bd Try.f13) 122)) 244 113 [3, 29, 30] pa13_122 pw13_122 (u13_122 rec) x = u13_122 (b13_122 k rec) x := by kernel_rfl
theorem h13_122_ok (k : Nat) : ∀ p S, H13_122 k p = some S → ∀ c, At (bd Try.f13) p c → CutOk Try.prog c S :=
  have hC := c13_ok k
  addLoop hC ttOk (draw_ok hC ttOk mixed) (h13_506_ok k) (by kernel_rfl) (F := fun j => u13_122 (l13_122 k j)) (fun _ => rfl) (fun j x _ h => (e13_122 k (l13_122 k j) x).trans h) k
theorem e13 (k : Nat) (x : (a13).C) : bodyR (C13 k) tt (H13_122 k) Try.f13 a13 o13 x = u13 (f13 k) x := by kernel_rfl
theorem s13 (k : Nat) : SoundFn Try.prog 13 (F13 (f13 k)) :=
  have hC := c13_ok k
  fnR_sound hC ttOk (draw_ok hC ttOk mixed) Try.func13 (c0 := bd Try.f13) rfl (entry Try.func13 rfl (by decide)) (h13_122_ok k) rfl (fun x _ h => (e13 k x).trans h)
/-! f20 fathom/shape.there (R) -/
noncomputable def a20 : Shape := ⟨[.d T_Shape, .d i64], []⟩
noncomputable def o20 : List Shape := [⟨[.d .bool], []⟩]
abbrev R20 : Type := ((Bool × Unit) × Unit)
abbrev T20 : Type := D_Shape → Int → Option R20
noncomputable def u20 (f : T20) : (a20).C → Option (OutC o20) := fun (x : ((D_Shape × Int × Unit) × Unit)) => f x.1.1 x.1.2.1
noncomputable def F20 (f : T20) : Fun := ⟨true, runR a20 o20 (u20 f)⟩
noncomputable def f20 (k : Nat) : T20 := fun s0 e_1 =>
  (f13 k s0).bind fun y1 =>
  cond (y1.1.1 == 0)
    (cond (decide (e_1 ≥ 0))
      (some (((decide (e_1 < (s0.1.length : Int))), ()), ()))
      (some ((false, ()), ())))
    (some ((false, ()), ()))
noncomputable def C20 (k : Nat) : Nat → Fun := mkC [(13, (F13 (f13 k)))]
theorem c20_ok (k : Nat) : ∀ f, SoundFn Try.prog f (C20 k f) := (mkC_cons (s13 k) mkC_nil)
theorem e20 (k : Nat) (x : (a20).C) : bodyR (C20 k) tt noH Try.f20 a20 o20 x = u20 (f20 k) x := by kernel_rfl
theorem s20 (k : Nat) : SoundFn Try.prog 20 (F20 (f20 k)) :=
  have hC := c20_ok k
  fnR_sound hC ttOk (draw_ok hC ttOk mixed) Try.func20 (c0 := bd Try.f20) rfl (entry Try.func20 rfl (by decide)) noH_ok rfl (fun x _ h => (e20 k x).trans h)
/-! f21 fathom/shape.plain (R) -/
noncomputable def a21 : Shape := ⟨[.d i64], []⟩
noncomputable def o21 : List Shape := [⟨[.d .bool], []⟩]
abbrev R21 : Type := ((Bool × Unit) × Unit)
abbrev T21 : Type := Int → Option R21
noncomputable def u21 (f : T21) : (a21).C → Option (OutC o21) := fun (x : ((Int × Unit) × Unit)) => f x.1.1
noncomputable def F21 (f : T21) : Fun := ⟨true, runR a21 o21 (u21 f)⟩
noncomputable def f21 (k : Nat) : T21 := fun kind0 =>
  cond (kind0 == 1)
    (some ((true, ()), ()))
    (some (((kind0 == 2), ()), ()))
noncomputable def C21 (k : Nat) : Nat → Fun := mkC []
theorem c21_ok (k : Nat) : ∀ f, SoundFn Try.prog f (C21 k f) := mkC_nil
theorem e21 (k : Nat) (x : (a21).C) : bodyR (C21 k) tt noH Try.f21 a21 o21 x = u21 (f21 k) x := by kernel_rfl
theorem s21 (k : Nat) : SoundFn Try.prog 21 (F21 (f21 k)) :=
  have hC := c21_ok k
  fnR_sound hC ttOk (draw_ok hC ttOk mixed) Try.func21 (c0 := bd Try.f21) rfl (entry Try.func21 rfl (by decide)) noH_ok rfl (fun x _ h => (e21 k x).trans h)

/-! f10 fathom/shape.Rivals (R) -/
noncomputable def a10 : Shape := ⟨[.d T_Shape, .d i64], []⟩
noncomputable def o10 : List Shape := [⟨[.d (.slice i64)], []⟩]
abbrev R10 : Type := (((List Int) × Unit) × Unit)
abbrev T10 : Type := D_Shape → Int → Option R10
noncomputable def u10 (f : T10) : (a10).C → Option (OutC o10) := fun (x : ((D_Shape × Int × Unit) × Unit)) => f x.1.1 x.1.2.1
noncomputable def F10 (f : T10) : Fun := ⟨true, runR a10 o10 (u10 f)⟩
noncomputable def pa10_64818 : Shape := ⟨[.d i64, .d (.slice (.slice .bool)), .ptr 0, .d i64, .ptr 1], [.box [.d i64, .d i64, .d i64, .d i64], .box [.d i64, .d i64, .d i64, .d i64]]⟩
noncomputable def pw10_64818 : List Vm.Way := [⟨.normal, [85], ⟨[.d .bool], [.box [.d i64, .d i64, .d i64, .d i64], .box [.d i64, .d i64, .d i64, .d i64]]⟩⟩]
abbrev R10_64818 : Type := ((Bool × Unit) × ((Int × Int × Int × Int × Unit) × (Int × Int × Int × Int × Unit) × Unit))
abbrev T10_64818 : Type := Int → (List (List Bool)) → Int → Int → Int → Int → Int → Int → Int → Int → Int → Option R10_64818
noncomputable def u10_64818 (f : T10_64818) : (pa10_64818).C → Option (WayC pw10_64818) := fun (x : ((Int × (List (List Bool)) × Unit × Int × Unit × Unit) × ((Int × Int × Int × Int × Unit) × (Int × Int × Int × Int × Unit) × Unit))) => f x.1.1 x.1.2.1 x.1.2.2.2.1 x.2.1.1 x.2.1.2.1 x.2.1.2.2.1 x.2.1.2.2.2.1 x.2.2.1.1 x.2.2.1.2.1 x.2.2.1.2.2.1 x.2.2.1.2.2.2.1
noncomputable def l10_64818 (k : Nat) : T10_64818 := fun e_1 ahead6 i8 o0_0 o0_1 o0_2 o0_3 o1_0 o1_1 o1_2 o1_3 =>
  (f21 k o1_2).bind fun y1 =>
  cond y1.1.1
    (cond (o1_0 != o0_0)
      (cond (o1_3 == o0_3)
        (cond (o0_2 == 2)
          (ix ahead6 e_1 fun e2 =>
          ix e2 i8 fun e3 =>
          cond (!e3)
            (ix ahead6 i8 fun e4 =>
            ix e4 e_1 fun e5 =>
            some (((!e5), ()), ((o0_0, o0_1, o0_2, o0_3, ()), (o1_0, o1_1, o1_2, o1_3, ()), ())))
            (some ((false, ()), ((o0_0, o0_1, o0_2, o0_3, ()), (o1_0, o1_1, o1_2, o1_3, ()), ()))))
          (cond (o1_2 == 2)
            (ix ahead6 e_1 fun e6 =>
            ix e6 i8 fun e7 =>
            cond (!e7)
              (ix ahead6 i8 fun e8 =>
              ix e8 e_1 fun e9 =>
              some (((!e9), ()), ((o0_0, o0_1, o0_2, o0_3, ()), (o1_0, o1_1, o1_2, o1_3, ()), ())))
              (some ((false, ()), ((o0_0, o0_1, o0_2, o0_3, ()), (o1_0, o1_1, o1_2, o1_3, ()), ()))))
            (some ((false, ()), ((o0_0, o0_1, o0_2, o0_3, ()), (o1_0, o1_1, o1_2, o1_3, ()), ())))))
        (some ((false, ()), ((o0_0, o0_1, o0_2, o0_3, ()), (o1_0, o1_1, o1_2, o1_3, ()), ()))))
      (some ((false, ()), ((o0_0, o0_1, o0_2, o0_3, ()), (o1_0, o1_1, o1_2, o1_3, ()), ()))))
    (some ((false, ()), ((o0_0, o0_1, o0_2, o0_3, ()), (o1_0, o1_1, o1_2, o1_3, ()), ())))
noncomputable def pa10_506 : Shape := ⟨[.d i64, .own i64, .d (.slice (.slice .bool)), .ptr 0, .d (.slice T_Event), .d i64, .d i64], [.box [.d i64, .d i64, .d i64, .d i64]]⟩
noncomputable def pw10_506 : List Vm.Way := [⟨.exit 0, [5], ⟨[.own i64], [.box [.d i64, .d i64, .d i64, .d i64]]⟩⟩]
abbrev R10_506 : Type := (((List Int) × Unit) × ((Int × Int × Int × Int × Unit) × Unit))
abbrev T10_506 : Type := Int → (List Int) → (List (List Bool)) → (List D_Event) → Int → Int → Int → Int → Int → Int → Option R10_506
noncomputable def u10_506 (f : T10_506) : (pa10_506).C → Option (WayC pw10_506) := fun (x : ((Int × (List Int) × (List (List Bool)) × Unit × (List D_Event) × Int × Int × Unit) × ((Int × Int × Int × Int × Unit) × Unit))) => f x.1.1 x.1.2.1 x.1.2.2.1 x.1.2.2.2.2.1 x.1.2.2.2.2.2.1 x.1.2.2.2.2.2.2.1 x.2.1.1 x.2.1.2.1 x.2.1.2.2.1 x.2.1.2.2.2.1
noncomputable def b10_506 (k : Nat) (rec : T10_506) : T10_506 := fun e_1 l5 ahead6 t32 t33 t34 o0_0 o0_1 o0_2 o0_3 =>
  cond (decide (t34 < t33))
    (ix t32 t34 fun e1 =>
    (l10_64818 k e_1 ahead6 t34 o0_0 o0_1 o0_2 o0_3 e1.1 e1.2.1 e1.2.2.1 e1.2.2.2.1).bind fun y2 =>
    cond y2.1.1
      (gd (decide ((l5.length + 1) * 8 ≤ room)) <|
      (rec e_1 (l5 ++ ([t34] : List Int)) ahead6 t32 t33 (w64 (t34 + 1)) y2.2.1.1 y2.2.1.2.1 y2.2.1.2.2.1 y2.2.1.2.2.2.1).bind fun y3 =>
      some ((y3.1.1, ()), ((y3.2.1.1, y3.2.1.2.1, y3.2.1.2.2.1, y3.2.1.2.2.2.1, ()), ())))
      ((rec e_1 l5 ahead6 t32 t33 (w64 (t34 + 1)) y2.2.1.1 y2.2.1.2.1 y2.2.1.2.2.1 y2.2.1.2.2.2.1).bind fun y4 =>
      some ((y4.1.1, ()), ((y4.2.1.1, y4.2.1.2.1, y4.2.1.2.2.1, y4.2.1.2.2.2.1, ()), ()))))
    (some ((l5, ()), ((o0_0, o0_1, o0_2, o0_3, ()), ())))
noncomputable def l10_506 (k : Nat) : Nat → T10_506
  | 0 => fun _ _ _ _ _ _ _ _ _ _ => none
  | j + 1 => b10_506 k (l10_506 k j)
noncomputable def f10 (k : Nat) : T10 := fun s0 e_1 =>
  (f20 k s0 e_1).bind fun y1 =>
  cond (!y1.1.1)
    (some (([], ()), ()))
    (ix s0.1 e_1 fun e2 =>
    (f21 k e2.2.2.1).bind fun y3 =>
    cond (!y3.1.1)
      (some (([], ()), ()))
      ((f8 k s0).bind fun y4 =>
      ix s0.1 e_1 fun e5 =>
      (l10_506 k k e_1 [] y4.1.1 s0.1 (s0.1.length : Int) 0 e5.1 e5.2.1 e5.2.2.1 e5.2.2.2.1).bind fun y6 =>
      some ((y6.1.1, ()), ())))
noncomputable def C10 (k : Nat) : Nat → Fun := mkC [(8, (F8 (f8 k))), (20, (F20 (f20 k))), (21, (F21 (f21 k)))]
theorem c10_ok (k : Nat) : ∀ f, SoundFn Try.prog f (C10 k f) := (mkC_cons (s8 k) (mkC_cons (s20 k) (mkC_cons (s21 k) mkC_nil)))
noncomputable def H10_64818 (k : Nat) : Nat → Option Cut := addH noH 64818 ⟨runCut (wrC (codeAt 64818 (bd Try.f10) 64818)) 92 [1, 6, 7, 8, 9] pa10_64818 pw10_64818 (u10_64818 (l10_64818 k))⟩
theorem e10_64818 (k : Nat) (x : (pa10_64818).C) : pieceF (C10 k) tt noH (codeAt 64818 (bd Try.f10) 64818) 64818 92 [1, 6, 7, 8, 9] pa10_64818 pw10_64818 x = u10_64818 (l10_64818 k) x := by kernel_rfl
theorem h10_64818_ok (k : Nat) : ∀ p S, H10_64818 k p = some S → ∀ c, At (bd Try.f10) p c → CutOk Try.prog c S :=
  have hC := c10_ok k
  addPiece hC ttOk (draw_ok hC ttOk mixed) noH_ok (fun x _ h => (e10_64818 k x).trans h)
noncomputable def H10_506 (k : Nat) : Nat → Option Cut := addH (H10_64818 k) 506 ⟨runCut (wrC (bodyOf (codeAt 506 (bd Try.f10) 506))) 92 [1, 5, 6, 7, 32, 33, 34] pa10_506 pw10_506 (u10_506 (l10_506 k k))⟩
theorem e10_506 (k : Nat) (rec : T10_506) (x : (pa10_506).C) : roundF (C10 k) tt (H10_64818 k) (bodyOf (codeAt 506 (bd Try.f10) 506)) 1012 92 [1, 5, 6, 7, 32, 33, 34] pa10_506 pw10_506 (u10_506 rec) x = u10_506 (b10_506 k rec) x := by kernel_rfl
theorem h10_506_ok (k : Nat) : ∀ p S, H10_506 k p = some S → ∀ c, At (bd Try.f10) p c → CutOk Try.prog c S :=
  have hC := c10_ok k
  addLoop hC ttOk (draw_ok hC ttOk mixed) (h10_64818_ok k) (by kernel_rfl) (F := fun j => u10_506 (l10_506 k j)) (fun _ => rfl) (fun j x _ h => (e10_506 k (l10_506 k j) x).trans h) k
theorem e10 (k : Nat) (x : (a10).C) : bodyR (C10 k) tt (H10_506 k) Try.f10 a10 o10 x = u10 (f10 k) x := by kernel_rfl
theorem s10 (k : Nat) : SoundFn Try.prog 10 (F10 (f10 k)) :=
  have hC := c10_ok k
  fnR_sound hC ttOk (draw_ok hC ttOk mixed) Try.func10 (c0 := bd Try.f10) rfl (entry Try.func10 rfl (by decide)) (h10_506_ok k) rfl (fun x _ h => (e10 k x).trans h)
/-! f18 fathom/fathomref01.Ints (R) -/
noncomputable def a18 : Shape := ⟨[.d (.slice i64), .d (.slice i64)], []⟩
noncomputable def o18 : List Shape := [⟨[.d .bool], []⟩]
abbrev R18 : Type := ((Bool × Unit) × Unit)
abbrev T18 : Type := (List Int) → (List Int) → Option R18
noncomputable def u18 (f : T18) : (a18).C → Option (OutC o18) := fun (x : (((List Int) × (List Int) × Unit) × Unit)) => f x.1.1 x.1.2.1
noncomputable def F18 (f : T18) : Fun := ⟨true, runR a18 o18 (u18 f)⟩
noncomputable def pa18_58 : Shape := ⟨[.d (.slice i64), .d (.slice i64), .d i64], []⟩
noncomputable def pw18_58 : List Vm.Way := [⟨.exit 0, [], ⟨[], []⟩⟩, ⟨.ret, [4], ⟨[.d .bool], []⟩⟩]
abbrev R18_58 : Type := ((Unit × Unit) ⊕ ((Bool × Unit) × Unit))
abbrev T18_58 : Type := (List Int) → (List Int) → Int → Option R18_58
noncomputable def u18_58 (f : T18_58) : (pa18_58).C → Option (WayC pw18_58) := fun (x : (((List Int) × (List Int) × Int × Unit) × Unit)) => f x.1.1 x.1.2.1 x.1.2.2.1
noncomputable def b18_58 (k : Nat) (rec : T18_58) : T18_58 := fun a0 b1 i5 =>
  cond (decide (i5 < (a0.length : Int)))
    (ix a0 i5 fun e1 =>
    ix b1 i5 fun e2 =>
    cond (e1 != e2)
      (some (.inr ((false, ()), ())))
      ((rec a0 b1 (w64 (i5 + 1))).bind fun y3 =>
      match y3 with
      | .inl y3_0 =>
        some (.inl ((), ()))
      | .inr y3_1 =>
        some (.inr ((y3_1.1.1, ()), ()))))
    (some (.inl ((), ())))
noncomputable def l18_58 (k : Nat) : Nat → T18_58
  | 0 => fun _ _ _ => none
  | j + 1 => b18_58 k (l18_58 k j)
noncomputable def f18 (k : Nat) : T18 := fun a0 b1 =>
  cond ((a0.length : Int) != (b1.length : Int))
    (some ((false, ()), ()))
    ((l18_58 k k a0 b1 0).bind fun y1 =>
    match y1 with
    | .inl y1_0 =>
      some ((true, ()), ())
    | .inr y1_1 =>
      some ((y1_1.1.1, ()), ()))
noncomputable def C18 (k : Nat) : Nat → Fun := mkC []
theorem c18_ok (k : Nat) : ∀ f, SoundFn Try.prog f (C18 k f) := mkC_nil
noncomputable def H18_58 (k : Nat) : Nat → Option Cut := addH noH 58 ⟨runCut (wrC (bodyOf (codeAt 58 (bd Try.f18) 58))) 26 [0, 1, 5] pa18_58 pw18_58 (u18_58 (l18_58 k k))⟩
theorem e18_58 (k : Nat) (rec : T18_58) (x : (pa18_58).C) : roundF (C18 k) tt noH (bodyOf (codeAt 58 (bd Try.f18) 58)) 116 26 [0, 1, 5] pa18_58 pw18_58 (u18_58 rec) x = u18_58 (b18_58 k rec) x := by kernel_rfl
theorem h18_58_ok (k : Nat) : ∀ p S, H18_58 k p = some S → ∀ c, At (bd Try.f18) p c → CutOk Try.prog c S :=
  have hC := c18_ok k
  addLoop hC ttOk (draw_ok hC ttOk mixed) noH_ok (by kernel_rfl) (F := fun j => u18_58 (l18_58 k j)) (fun _ => rfl) (fun j x _ h => (e18_58 k (l18_58 k j) x).trans h) k
theorem e18 (k : Nat) (x : (a18).C) : bodyR (C18 k) tt (H18_58 k) Try.f18 a18 o18 x = u18 (f18 k) x := by kernel_rfl
theorem s18 (k : Nat) : SoundFn Try.prog 18 (F18 (f18 k)) :=
  have hC := c18_ok k
  fnR_sound hC ttOk (draw_ok hC ttOk mixed) Try.func18 (c0 := bd Try.f18) rfl (entry Try.func18 rfl (by decide)) (h18_58_ok k) rfl (fun x _ h => (e18 k x).trans h)
/-! f23 fathom/shape.At$1 (R) -/
noncomputable def a23 : Shape := ⟨[.d T_Event, .ptr 0, .ptr 1], [.box [.d i64], .box [.d i64]]⟩
noncomputable def o23 : List Shape := [⟨[.d .bool], []⟩]
abbrev R23 : Type := ((Bool × Unit) × Unit)
abbrev T23 : Type := D_Event → Int → Int → Option R23
noncomputable def u23 (f : T23) : (a23).C → Option (OutC o23) := fun (x : ((D_Event × Unit × Unit × Unit) × ((Int × Unit) × (Int × Unit) × Unit))) => f x.1.1 x.2.1.1 x.2.2.1.1
noncomputable def F23 (f : T23) : Fun := ⟨true, runR a23 o23 (u23 f)⟩
noncomputable def f23 (k : Nat) : T23 := fun e_0 o0 o1 =>
  cond (e_0.1 == o0)
    (some (((e_0.2.1 == o1), ()), ()))
    (some ((false, ()), ()))
noncomputable def C23 (k : Nat) : Nat → Fun := mkC []
theorem c23_ok (k : Nat) : ∀ f, SoundFn Try.prog f (C23 k f) := mkC_nil
theorem e23 (k : Nat) (x : (a23).C) : bodyR (C23 k) tt noH Try.f23 a23 o23 x = u23 (f23 k) x := by kernel_rfl
theorem s23 (k : Nat) : SoundFn Try.prog 23 (F23 (f23 k)) :=
  have hC := c23_ok k
  fnR_sound hC ttOk (draw_ok hC ttOk mixed) Try.func23 (c0 := bd Try.f23) rfl (entry Try.func23 rfl (by decide)) noH_ok rfl (fun x _ h => (e23 k x).trans h)
/-! f22 slices.IndexFunc[[]fathom/api.Event,fathom/api.Event] (R) -/
noncomputable def a22 : Shape := ⟨[.d (.slice T_Event), .fn 23 [0, 1]], [.box [.d i64], .box [.d i64]]⟩
noncomputable def o22 : List Shape := [⟨[.d i64], []⟩]
abbrev R22 : Type := ((Int × Unit) × Unit)
abbrev T22 : Type := (List D_Event) → Int → Int → Option R22
noncomputable def u22 (f : T22) : (a22).C → Option (OutC o22) := fun (x : (((List D_Event) × Unit × Unit) × ((Int × Unit) × (Int × Unit) × Unit))) => f x.1.1 x.2.1.1 x.2.2.1.1
noncomputable def F22 (f : T22) : Fun := ⟨true, runR a22 o22 (u22 f)⟩
noncomputable def pa22_26 : Shape := ⟨[.d (.slice T_Event), .fn 23 [0, 1], .d i64, .d i64], [.lk (.box [.d i64]), .lk (.box [.d i64])]⟩
noncomputable def pw22_26 : List Vm.Way := [⟨.exit 0, [], ⟨[], [.any, .any]⟩⟩, ⟨.ret, [4], ⟨[.d i64], [.any, .any]⟩⟩]
abbrev R22_26 : Type := ((Unit × (Unit × Unit × Unit)) ⊕ ((Int × Unit) × (Unit × Unit × Unit)))
abbrev T22_26 : Type := (List D_Event) → Int → Int → Int → Int → Option R22_26
noncomputable def u22_26 (f : T22_26) : (pa22_26).C → Option (WayC pw22_26) := fun (x : (((List D_Event) × Unit × Int × Int × Unit) × ((Int × Unit) × (Int × Unit) × Unit))) => f x.1.1 x.1.2.2.1 x.1.2.2.2.1 x.2.1.1 x.2.2.1.1
noncomputable def b22_26 (k : Nat) (rec : T22_26) : T22_26 := fun s0 t7 t8 o0 o1 =>
  cond (decide (t8 < t7))
    (ix s0 t8 fun e1 =>
    (f23 k e1 o0 o1).bind fun y2 =>
    cond y2.1.1
      (some (.inr ((t8, ()), ((), (), ()))))
      ((rec s0 t7 (w64 (t8 + 1)) o0 o1).bind fun y3 =>
      match y3 with
      | .inl y3_0 =>
        some (.inl ((), ((), (), ())))
      | .inr y3_1 =>
        some (.inr ((y3_1.1.1, ()), ((), (), ())))))
    (some (.inl ((), ((), (), ()))))
noncomputable def l22_26 (k : Nat) : Nat → T22_26
  | 0 => fun _ _ _ _ _ => none
  | j + 1 => b22_26 k (l22_26 k j)
noncomputable def f22 (k : Nat) : T22 := fun s0 o0 o1 =>
  (l22_26 k k s0 (s0.length : Int) 0 o0 o1).bind fun y1 =>
  match y1 with
  | .inl y1_0 =>
    some (((-1), ()), ())
  | .inr y1_1 =>
    some ((y1_1.1.1, ()), ())
noncomputable def C22 (k : Nat) : Nat → Fun := mkC [(23, (F23 (f23 k)))]
theorem c22_ok (k : Nat) : ∀ f, SoundFn Try.prog f (C22 k f) := (mkC_cons (s23 k) mkC_nil)
noncomputable def H22_26 (k : Nat) : Nat → Option Cut := addH noH 26 ⟨runCut (wrC (bodyOf (codeAt 26 (bd Try.f22) 26))) 19 [0, 1, 7, 8] pa22_26 pw22_26 (u22_26 (l22_26 k k))⟩
theorem e22_26 (k : Nat) (rec : T22_26) (x : (pa22_26).C) : roundF (C22 k) tt noH (bodyOf (codeAt 26 (bd Try.f22) 26)) 52 19 [0, 1, 7, 8] pa22_26 pw22_26 (u22_26 rec) x = u22_26 (b22_26 k rec) x := by kernel_rfl
theorem h22_26_ok (k : Nat) : ∀ p S, H22_26 k p = some S → ∀ c, At (bd Try.f22) p c → CutOk Try.prog c S :=
  have hC := c22_ok k
  addLoop hC ttOk (draw_ok hC ttOk mixed) noH_ok (by kernel_rfl) (F := fun j => u22_26 (l22_26 k j)) (fun _ => rfl) (fun j x _ h => (e22_26 k (l22_26 k j) x).trans h) k
theorem e22 (k : Nat) (x : (a22).C) : bodyR (C22 k) tt (H22_26 k) Try.f22 a22 o22 x = u22 (f22 k) x := by kernel_rfl
theorem s22 (k : Nat) : SoundFn Try.prog 22 (F22 (f22 k)) :=
  have hC := c22_ok k
  fnR_sound hC ttOk (draw_ok hC ttOk mixed) Try.func22 (c0 := bd Try.f22) rfl (entry Try.func22 rfl (by decide)) (h22_26_ok k) rfl (fun x _ h => (e22 k x).trans h)
/-! f12 fathom/shape.At (R) -/
noncomputable def a12 : Shape := ⟨[.d T_Shape, .d i64, .d i64], []⟩
noncomputable def o12 : List Shape := [⟨[.d i64], []⟩]
abbrev R12 : Type := ((Int × Unit) × Unit)
abbrev T12 : Type := D_Shape → Int → Int → Option R12
noncomputable def u12 (f : T12) : (a12).C → Option (OutC o12) := fun (x : ((D_Shape × Int × Int × Unit) × Unit)) => f x.1.1 x.1.2.1 x.1.2.2.1
noncomputable def F12 (f : T12) : Fun := ⟨true, runR a12 o12 (u12 f)⟩
noncomputable def f12 (k : Nat) : T12 := fun s0 proc1 inst2 =>
  (f13 k s0).bind fun y1 =>
  cond (y1.1.1 != 0)
    (some (((-1), ()), ()))
    ((f22 k s0.1 proc1 inst2).bind fun y2 =>
    some ((y2.1.1, ()), ()))
noncomputable def C12 (k : Nat) : Nat → Fun := mkC [(13, (F13 (f13 k))), (22, (F22 (f22 k)))]
theorem c12_ok (k : Nat) : ∀ f, SoundFn Try.prog f (C12 k f) := (mkC_cons (s13 k) (mkC_cons (s22 k) mkC_nil))
theorem e12 (k : Nat) (x : (a12).C) : bodyR (C12 k) tt noH Try.f12 a12 o12 x = u12 (f12 k) x := by kernel_rfl
theorem s12 (k : Nat) : SoundFn Try.prog 12 (F12 (f12 k)) :=
  have hC := c12_ok k
  fnR_sound hC ttOk (draw_ok hC ttOk mixed) Try.func12 (c0 := bd Try.f12) rfl (entry Try.func12 rfl (by decide)) noH_ok rfl (fun x _ h => (e12 k x).trans h)
/-! f7 fathom/fathomlaw27.awake (R) -/
noncomputable def a7 : Shape := ⟨[], []⟩
noncomputable def o7 : List Shape := [⟨[.d .bool], []⟩]
abbrev R7 : Type := ((Bool × Unit) × Unit)
abbrev T7 : Type := Unit → Option R7
noncomputable def u7 (f : T7) : (a7).C → Option (OutC o7) := fun (x : (Unit × Unit)) => f ()
noncomputable def F7 (f : T7) : Fun := ⟨true, runR a7 o7 (u7 f)⟩
noncomputable def f7 (k : Nat) : T7 := fun _ =>
  (f13 k ([(0, 0, 11, 1, ()), (0, 1, 2, 0, ()), (1, 0, 2, 0, ())], [(-1), 0], ())).bind fun y1 =>
  cond (y1.1.1 == 0)
    ((f10 k ([(0, 0, 11, 1, ()), (0, 1, 2, 0, ()), (1, 0, 2, 0, ())], [(-1), 0], ()) 1).bind fun y2 =>
    (f18 k y2.1.1 [2]).bind fun y3 =>
    cond y3.1.1
      ((f12 k ([(0, 0, 11, 1, ()), (0, 1, 2, 0, ()), (1, 0, 2, 0, ())], [(-1), 0], ()) 1 0).bind fun y4 =>
      some (((y4.1.1 == 2), ()), ()))
      (some ((false, ()), ())))
    (some ((false, ()), ()))
noncomputable def C7 (k : Nat) : Nat → Fun := mkC [(10, (F10 (f10 k))), (12, (F12 (f12 k))), (13, (F13 (f13 k))), (18, (F18 (f18 k)))]
theorem c7_ok (k : Nat) : ∀ f, SoundFn Try.prog f (C7 k f) := (mkC_cons (s10 k) (mkC_cons (s12 k) (mkC_cons (s13 k) (mkC_cons (s18 k) mkC_nil))))
theorem e7 (k : Nat) (x : (a7).C) : bodyR (C7 k) tt noH Try.f7 a7 o7 x = u7 (f7 k) x := by kernel_rfl
theorem s7 (k : Nat) : SoundFn Try.prog 7 (F7 (f7 k)) :=
  have hC := c7_ok k
  fnR_sound hC ttOk (draw_ok hC ttOk mixed) Try.func7 (c0 := bd Try.f7) rfl (entry Try.func7 rfl (by decide)) noH_ok rfl (fun x _ h => (e7 k x).trans h)
/-! f6 fathom/fathomref27.May (R) -/
noncomputable def a6 : Shape := ⟨[.d T_Shape], []⟩
noncomputable def o6 : List Shape := [⟨[.d .bool], []⟩]
abbrev R6 : Type := ((Bool × Unit) × Unit)
abbrev T6 : Type := D_Shape → Option R6
noncomputable def u6 (f : T6) : (a6).C → Option (OutC o6) := fun (x : ((D_Shape × Unit) × Unit)) => f x.1.1
noncomputable def F6 (f : T6) : Fun := ⟨true, runR a6 o6 (u6 f)⟩
noncomputable def pa6_14926 : Shape := ⟨[.ptr 0, .d i64, .ptr 1], [.box [.d (.slice T_Event), .d (.slice i64)], .box [.d i64, .d i64, .d i64, .d i64]]⟩
noncomputable def pw6_14926 : List Vm.Way := [⟨.normal, [141], ⟨[.d .bool], [.box [.d (.slice T_Event), .d (.slice i64)], .box [.d i64, .d i64, .d i64, .d i64]]⟩⟩]
abbrev R6_14926 : Type := ((Bool × Unit) × (((List D_Event) × (List Int) × Unit) × (Int × Int × Int × Int × Unit) × Unit))
abbrev T6_14926 : Type := Int → (List D_Event) → (List Int) → Int → Int → Int → Int → Option R6_14926
noncomputable def u6_14926 (f : T6_14926) : (pa6_14926).C → Option (WayC pw6_14926) := fun (x : ((Unit × Int × Unit × Unit) × (((List D_Event) × (List Int) × Unit) × (Int × Int × Int × Int × Unit) × Unit))) => f x.1.2.1 x.2.1.1 x.2.1.2.1 x.2.2.1.1 x.2.2.1.2.1 x.2.2.1.2.2.1 x.2.2.1.2.2.2.1
noncomputable def l6_14926 (k : Nat) : T6_14926 := fun i3 o0_0 o0_1 o1_0 o1_1 o1_2 o1_3 =>
  cond (o1_2 == 11)
    (cond (decide (o1_3 ≤ o1_0))
      (some ((true, ()), ((o0_0, o0_1, ()), (o1_0, o1_1, o1_2, o1_3, ()), ())))
      (cond (decide (o1_3 ≥ (o0_1.length : Int)))
        (some ((true, ()), ((o0_0, o0_1, ()), (o1_0, o1_1, o1_2, o1_3, ()), ())))
        (ix o0_1 o1_3 fun e1 =>
        cond (e1 != i3)
          (some ((true, ()), ((o0_0, o0_1, ()), (o1_0, o1_1, o1_2, o1_3, ()), ())))
          (cond (o1_2 != 11)
            (some (((decide (o1_3 ≥ 12)), ()), ((o0_0, o0_1, ()), (o1_0, o1_1, o1_2, o1_3, ()), ())))
            (some ((false, ()), ((o0_0, o0_1, ()), (o1_0, o1_1, o1_2, o1_3, ()), ())))))))
    (cond (o1_2 != 11)
      (some (((decide (o1_3 ≥ 12)), ()), ((o0_0, o0_1, ()), (o1_0, o1_1, o1_2, o1_3, ()), ())))
      (some ((false, ()), ((o0_0, o0_1, ()), (o1_0, o1_1, o1_2, o1_3, ()), ()))))
noncomputable def pa6_14924 : Shape := ⟨[.ptr 0, .d i64, .ptr 1], [.box [.d (.slice T_Event), .d (.slice i64)], .box [.d i64, .d i64, .d i64, .d i64]]⟩
noncomputable def pw6_14924 : List Vm.Way := [⟨.normal, [103], ⟨[.d .bool], [.box [.d (.slice T_Event), .d (.slice i64)], .box [.d i64, .d i64, .d i64, .d i64]]⟩⟩]
abbrev R6_14924 : Type := ((Bool × Unit) × (((List D_Event) × (List Int) × Unit) × (Int × Int × Int × Int × Unit) × Unit))
abbrev T6_14924 : Type := Int → (List D_Event) → (List Int) → Int → Int → Int → Int → Option R6_14924
noncomputable def u6_14924 (f : T6_14924) : (pa6_14924).C → Option (WayC pw6_14924) := fun (x : ((Unit × Int × Unit × Unit) × (((List D_Event) × (List Int) × Unit) × (Int × Int × Int × Int × Unit) × Unit))) => f x.1.2.1 x.2.1.1 x.2.1.2.1 x.2.2.1.1 x.2.2.1.2.1 x.2.2.1.2.2.1 x.2.2.1.2.2.2.1
noncomputable def l6_14924 (k : Nat) : T6_14924 := fun i3 o0_0 o0_1 o1_0 o1_1 o1_2 o1_3 =>
  cond (decide (i3 > 0))
    (ix o0_0 (w64 (i3 - 1)) fun e1 =>
    cond (decide (o1_0 < e1.1))
      (some ((true, ()), ((o0_0, o0_1, ()), (o1_0, o1_1, o1_2, o1_3, ()), ())))
      (ix o0_0 (w64 (i3 - 1)) fun e2 =>
      cond (o1_0 == e2.1)
        (ix o0_0 (w64 (i3 - 1)) fun e3 =>
        some (((decide (o1_1 ≤ e3.2.1)), ()), ((o0_0, o0_1, ()), (o1_0, o1_1, o1_2, o1_3, ()), ())))
        (some ((false, ()), ((o0_0, o0_1, ()), (o1_0, o1_1, o1_2, o1_3, ()), ())))))
    (some ((false, ()), ((o0_0, o0_1, ()), (o1_0, o1_1, o1_2, o1_3, ()), ())))
noncomputable def pa6_122 : Shape := ⟨[.ptr 0, .d i64], [.box [.d (.slice T_Event), .d (.slice i64)]]⟩
noncomputable def pw6_122 : List Vm.Way := [⟨.exit 2, [], ⟨[], [.box [.d (.slice T_Event), .d (.slice i64)]]⟩⟩, ⟨.ret, [2], ⟨[.d .bool], [.box [.d (.slice T_Event), .d (.slice i64)]]⟩⟩]
abbrev R6_122 : Type := ((Unit × (((List D_Event) × (List Int) × Unit) × Unit)) ⊕ ((Bool × Unit) × (((List D_Event) × (List Int) × Unit) × Unit)))
abbrev T6_122 : Type := Int → (List D_Event) → (List Int) → Option R6_122
noncomputable def u6_122 (f : T6_122) : (pa6_122).C → Option (WayC pw6_122) := fun (x : ((Unit × Int × Unit) × (((List D_Event) × (List Int) × Unit) × Unit))) => f x.1.2.1 x.2.1.1 x.2.1.2.1
noncomputable def b6_122 (k : Nat) (rec : T6_122) : T6_122 := fun p5 o0_0 o0_1 =>
  cond (decide (p5 < (o0_1.length : Int)))
    (ix o0_1 p5 fun e1 =>
    cond (decide (e1 < (-1)))
      (some (.inr ((false, ()), ((o0_0, o0_1, ()), ()))))
      (cond (decide (e1 ≥ (o0_0.length : Int)))
        (some (.inr ((false, ()), ((o0_0, o0_1, ()), ()))))
        (cond (decide (e1 ≥ 0))
          (ix o0_0 e1 fun e2 =>
          cond (e2.2.2.1 != 11)
            (some (.inr ((false, ()), ((o0_0, o0_1, ()), ()))))
            (ix o0_0 e1 fun e3 =>
            cond (e3.2.2.2.1 != p5)
              (some (.inr ((false, ()), ((o0_0, o0_1, ()), ()))))
              ((rec (w64 (p5 + 1)) o0_0 o0_1).bind fun y4 =>
              match y4 with
              | .inl y4_0 =>
                some (.inl ((), ((y4_0.2.1.1, y4_0.2.1.2.1, ()), ())))
              | .inr y4_1 =>
                some (.inr ((y4_1.1.1, ()), ((y4_1.2.1.1, y4_1.2.1.2.1, ()), ()))))))
          ((rec (w64 (p5 + 1)) o0_0 o0_1).bind fun y5 =>
          match y5 with
          | .inl y5_0 =>
            some (.inl ((), ((y5_0.2.1.1, y5_0.2.1.2.1, ()), ())))
          | .inr y5_1 =>
            some (.inr ((y5_1.1.1, ()), ((y5_1.2.1.1, y5_1.2.1.2.1, ()), ())))))))
    (some (.inl ((), ((o0_0, o0_1, ()), ()))))
noncomputable def l6_122 (k : Nat) : Nat → T6_122
  | 0 => fun _ _ _ => none
  | j + 1 => b6_122 k (l6_122 k j)
noncomputable def pa6_58 : Shape := ⟨[.ptr 0, .d i64], [.box [.d (.slice T_Event), .d (.slice i64)]]⟩
noncomputable def pw6_58 : List Vm.Way := [⟨.exit 0, [], ⟨[], [.box [.d (.slice T_Event), .d (.slice i64)]]⟩⟩, ⟨.ret, [2], ⟨[.d .bool], [.box [.d (.slice T_Event), .d (.slice i64)]]⟩⟩]
abbrev R6_58 : Type := ((Unit × (((List D_Event) × (List Int) × Unit) × Unit)) ⊕ ((Bool × Unit) × (((List D_Event) × (List Int) × Unit) × Unit)))
abbrev T6_58 : Type := Int → (List D_Event) → (List Int) → Option R6_58
noncomputable def u6_58 (f : T6_58) : (pa6_58).C → Option (WayC pw6_58) := fun (x : ((Unit × Int × Unit) × (((List D_Event) × (List Int) × Unit) × Unit))) => f x.1.2.1 x.2.1.1 x.2.1.2.1
noncomputable def b6_58 (k : Nat) (rec : T6_58) : T6_58 := fun i3 o0_0 o0_1 =>
  cond (decide (i3 < (o0_0.length : Int)))
    (ix o0_0 i3 fun e1 =>
    cond (decide (e1.1 < 0))
      (some (.inr ((false, ()), ((o0_0, o0_1, ()), ()))))
      (cond (decide (e1.1 ≥ (o0_1.length : Int)))
        (some (.inr ((false, ()), ((o0_0, o0_1, ()), ()))))
        (cond (decide (e1.2.1 < 0))
          (some (.inr ((false, ()), ((o0_0, o0_1, ()), ()))))
          (cond (decide (e1.2.2.1 < 1))
            (some (.inr ((false, ()), ((o0_0, o0_1, ()), ()))))
            (cond (decide (e1.2.2.1 > 11))
              (some (.inr ((false, ()), ((o0_0, o0_1, ()), ()))))
              (cond (decide (e1.2.2.2.1 < 0))
                (some (.inr ((false, ()), ((o0_0, o0_1, ()), ()))))
                ((l6_14924 k i3 o0_0 o0_1 e1.1 e1.2.1 e1.2.2.1 e1.2.2.2.1).bind fun y2 =>
                cond y2.1.1
                  (some (.inr ((false, ()), ((y2.2.1.1, y2.2.1.2.1, ()), ()))))
                  ((l6_14926 k i3 y2.2.1.1 y2.2.1.2.1 y2.2.2.1.1 y2.2.2.1.2.1 y2.2.2.1.2.2.1 y2.2.2.1.2.2.2.1).bind fun y3 =>
                  cond y3.1.1
                    (some (.inr ((false, ()), ((y3.2.1.1, y3.2.1.2.1, ()), ()))))
                    ((rec (w64 (i3 + 1)) y3.2.1.1 y3.2.1.2.1).bind fun y4 =>
                    match y4 with
                    | .inl y4_0 =>
                      some (.inl ((), ((y4_0.2.1.1, y4_0.2.1.2.1, ()), ())))
                    | .inr y4_1 =>
                      some (.inr ((y4_1.1.1, ()), ((y4_1.2.1.1, y4_1.2.1.2.1, ()), ()))))))))))))
    (some (.inl ((), ((o0_0, o0_1, ()), ()))))
noncomputable def l6_58 (k : Nat) : Nat → T6_58
  | 0 => fun _ _ _ => none
  | j + 1 => b6_58 k (l6_58 k j)
noncomputable def f6 (k : Nat) : T6 := fun s0 =>
  cond (decide ((s0.1.length : Int) > 40))
    (some ((false, ()), ()))
    (cond (decide ((s0.2.1.length : Int) < 1))
      (some ((false, ()), ()))
      (cond (decide ((s0.2.1.length : Int) > 6))
        (some ((false, ()), ()))
        ((l6_58 k k 0 s0.1 s0.2.1).bind fun y1 =>
        match y1 with
        | .inl y1_0 =>
          (l6_122 k k 0 y1_0.2.1.1 y1_0.2.1.2.1).bind fun y2 =>
          match y2 with
          | .inl y2_0 =>
            some ((true, ()), ())
          | .inr y2_1 =>
            some ((y2_1.1.1, ()), ())
        | .inr y1_1 =>
          some ((y1_1.1.1, ()), ()))))
noncomputable def C6 (k : Nat) : Nat → Fun := mkC []
theorem c6_ok (k : Nat) : ∀ f, SoundFn Try.prog f (C6 k f) := mkC_nil
noncomputable def H6_14926 (k : Nat) : Nat → Option Cut := addH noH 14926 ⟨runCut (wrC (codeAt 14926 (bd Try.f6) 14926)) 184 [1, 3, 4] pa6_14926 pw6_14926 (u6_14926 (l6_14926 k))⟩
theorem e6_14926 (k : Nat) (x : (pa6_14926).C) : pieceF (C6 k) tt noH (codeAt 14926 (bd Try.f6) 14926) 14926 184 [1, 3, 4] pa6_14926 pw6_14926 x = u6_14926 (l6_14926 k) x := by kernel_rfl
theorem h6_14926_ok (k : Nat) : ∀ p S, H6_14926 k p = some S → ∀ c, At (bd Try.f6) p c → CutOk Try.prog c S :=
  have hC := c6_ok k
  addPiece hC ttOk (draw_ok hC ttOk mixed) noH_ok (fun x _ h => (e6_14926 k x).trans h)
noncomputable def H6_14924 (k : Nat) : Nat → Option Cut := addH (H6_14926 k) 14924 ⟨runCut (wrC (codeAt 14924 (bd Try.f6) 14924)) 184 [1, 3, 4] pa6_14924 pw6_14924 (u6_14924 (l6_14924 k))⟩
theorem e6_14924 (k : Nat) (x : (pa6_14924).C) : pieceF (C6 k) tt (H6_14926 k) (codeAt 14924 (bd Try.f6) 14924) 14924 184 [1, 3, 4] pa6_14924 pw6_14924 x = u6_14924 (l6_14924 k) x := by kernel_rfl
theorem h6_14924_ok (k : Nat) : ∀ p S, H6_14924 k p = some S → ∀ c, At (bd Try.f6) p c → CutOk Try.prog c S :=
  have hC := c6_ok k
  addPiece hC ttOk (draw_ok hC ttOk mixed) (h6_14926_ok k) (fun x _ h => (e6_14924 k x).trans h)
noncomputable def H6_122 (k : Nat) : Nat → Option Cut := addH (H6_14924 k) 122 ⟨runCut (wrC (bodyOf (codeAt 122 (bd Try.f6) 122))) 184 [1, 5] pa6_122 pw6_122 (u6_122 (l6_122 k k))⟩
theorem e6_122 (k : Nat) (rec : T6_122) (x : (pa6_122).C) : roundF (C6 k) tt (H6_14924 k) (bodyOf (codeAt 122 (bd Try.f6) 122)) 244 184 [1, 5] pa6_122 pw6_122 (u6_122 rec) x = u6_122 (b6_122 k rec) x := by kernel_rfl
theorem h6_122_ok (k : Nat) : ∀ p S, H6_122 k p = some S → ∀ c, At (bd Try.f6) p c → CutOk Try.prog c S :=
  have hC := c6_ok k
  addLoop hC ttOk (draw_ok hC ttOk mixed) (h6_14924_ok k) (by kernel_rfl) (F := fun j => u6_122 (l6_122 k j)) (fun _ => rfl) (fun j x _ h => (e6_122 k (l6_122 k j) x).trans h) k
noncomputable def H6_58 (k : Nat) : Nat → Option Cut := addH (H6_122 k) 58 ⟨runCut (wrC (bodyOf (codeAt 58 (bd Try.f6) 58))) 184 [1, 3] pa6_58 pw6_58 (u6_58 (l6_58 k k))⟩
theorem e6_58 (k : Nat) (rec : T6_58) (x : (pa6_58).C) : roundF (C6 k) tt (H6_122 k) (bodyOf (codeAt 58 (bd Try.f6) 58)) 116 184 [1, 3] pa6_58 pw6_58 (u6_58 rec) x = u6_58 (b6_58 k rec) x := by kernel_rfl
theorem h6_58_ok (k : Nat) : ∀ p S, H6_58 k p = some S → ∀ c, At (bd Try.f6) p c → CutOk Try.prog c S :=
  have hC := c6_ok k
  addLoop hC ttOk (draw_ok hC ttOk mixed) (h6_122_ok k) (by kernel_rfl) (F := fun j => u6_58 (l6_58 k j)) (fun _ => rfl) (fun j x _ h => (e6_58 k (l6_58 k j) x).trans h) k
theorem e6 (k : Nat) (x : (a6).C) : bodyR (C6 k) tt (H6_58 k) Try.f6 a6 o6 x = u6 (f6 k) x := by kernel_rfl
theorem s6 (k : Nat) : SoundFn Try.prog 6 (F6 (f6 k)) :=
  have hC := c6_ok k
  fnR_sound hC ttOk (draw_ok hC ttOk mixed) Try.func6 (c0 := bd Try.f6) rfl (entry Try.func6 rfl (by decide)) (h6_58_ok k) rfl (fun x _ h => (e6 k x).trans h)
/-! f9 fathom/fathomref19.Square (R) -/
noncomputable def a9 : Shape := ⟨[.d (.slice (.slice .bool))], []⟩
noncomputable def o9 : List Shape := [⟨[.d .bool], []⟩]
abbrev R9 : Type := ((Bool × Unit) × Unit)
abbrev T9 : Type := (List (List Bool)) → Option R9
noncomputable def u9 (f : T9) : (a9).C → Option (OutC o9) := fun (x : (((List (List Bool)) × Unit) × Unit)) => f x.1.1
noncomputable def F9 (f : T9) : Fun := ⟨true, runR a9 o9 (u9 f)⟩
noncomputable def pa9_26 : Shape := ⟨[.d (.slice (.slice .bool)), .d i64], []⟩
noncomputable def pw9_26 : List Vm.Way := [⟨.exit 0, [], ⟨[], []⟩⟩, ⟨.ret, [2], ⟨[.d .bool], []⟩⟩]
abbrev R9_26 : Type := ((Unit × Unit) ⊕ ((Bool × Unit) × Unit))
abbrev T9_26 : Type := (List (List Bool)) → Int → Option R9_26
noncomputable def u9_26 (f : T9_26) : (pa9_26).C → Option (WayC pw9_26) := fun (x : (((List (List Bool)) × Int × Unit) × Unit)) => f x.1.1 x.1.2.1
noncomputable def b9_26 (k : Nat) (rec : T9_26) : T9_26 := fun s0 i3 =>
  cond (decide (i3 < (s0.length : Int)))
    (ix s0 i3 fun e1 =>
    cond ((e1.length : Int) != (s0.length : Int))
      (some (.inr ((false, ()), ())))
      ((rec s0 (w64 (i3 + 1))).bind fun y2 =>
      match y2 with
      | .inl y2_0 =>
        some (.inl ((), ()))
      | .inr y2_1 =>
        some (.inr ((y2_1.1.1, ()), ()))))
    (some (.inl ((), ())))
noncomputable def l9_26 (k : Nat) : Nat → T9_26
  | 0 => fun _ _ => none
  | j + 1 => b9_26 k (l9_26 k j)
noncomputable def f9 (k : Nat) : T9 := fun s0 =>
  (l9_26 k k s0 0).bind fun y1 =>
  match y1 with
  | .inl y1_0 =>
    some (((decide ((s0.length : Int) ≤ 40)), ()), ())
  | .inr y1_1 =>
    some ((y1_1.1.1, ()), ())
noncomputable def C9 (k : Nat) : Nat → Fun := mkC []
theorem c9_ok (k : Nat) : ∀ f, SoundFn Try.prog f (C9 k f) := mkC_nil
noncomputable def H9_26 (k : Nat) : Nat → Option Cut := addH noH 26 ⟨runCut (wrC (bodyOf (codeAt 26 (bd Try.f9) 26))) 21 [0, 3] pa9_26 pw9_26 (u9_26 (l9_26 k k))⟩
theorem e9_26 (k : Nat) (rec : T9_26) (x : (pa9_26).C) : roundF (C9 k) tt noH (bodyOf (codeAt 26 (bd Try.f9) 26)) 52 21 [0, 3] pa9_26 pw9_26 (u9_26 rec) x = u9_26 (b9_26 k rec) x := by kernel_rfl
theorem h9_26_ok (k : Nat) : ∀ p S, H9_26 k p = some S → ∀ c, At (bd Try.f9) p c → CutOk Try.prog c S :=
  have hC := c9_ok k
  addLoop hC ttOk (draw_ok hC ttOk mixed) noH_ok (by kernel_rfl) (F := fun j => u9_26 (l9_26 k j)) (fun _ => rfl) (fun j x _ h => (e9_26 k (l9_26 k j) x).trans h) k
theorem e9 (k : Nat) (x : (a9).C) : bodyR (C9 k) tt (H9_26 k) Try.f9 a9 o9 x = u9 (f9 k) x := by kernel_rfl
theorem s9 (k : Nat) : SoundFn Try.prog 9 (F9 (f9 k)) :=
  have hC := c9_ok k
  fnR_sound hC ttOk (draw_ok hC ttOk mixed) Try.func9 (c0 := bd Try.f9) rfl (entry Try.func9 rfl (by decide)) (h9_26_ok k) rfl (fun x _ h => (e9 k x).trans h)
/-! f11 fathom/fathomref01.Has (R) -/
noncomputable def a11 : Shape := ⟨[.d (.slice i64), .d i64], []⟩
noncomputable def o11 : List Shape := [⟨[.d .bool], []⟩]
abbrev R11 : Type := ((Bool × Unit) × Unit)
abbrev T11 : Type := (List Int) → Int → Option R11
noncomputable def u11 (f : T11) : (a11).C → Option (OutC o11) := fun (x : (((List Int) × Int × Unit) × Unit)) => f x.1.1 x.1.2.1
noncomputable def F11 (f : T11) : Fun := ⟨true, runR a11 o11 (u11 f)⟩
noncomputable def pa11_26 : Shape := ⟨[.d (.slice i64), .d i64, .d i64], []⟩
noncomputable def pw11_26 : List Vm.Way := [⟨.exit 0, [], ⟨[], []⟩⟩, ⟨.ret, [4], ⟨[.d .bool], []⟩⟩]
abbrev R11_26 : Type := ((Unit × Unit) ⊕ ((Bool × Unit) × Unit))
abbrev T11_26 : Type := (List Int) → Int → Int → Option R11_26
noncomputable def u11_26 (f : T11_26) : (pa11_26).C → Option (WayC pw11_26) := fun (x : (((List Int) × Int × Int × Unit) × Unit)) => f x.1.1 x.1.2.1 x.1.2.2.1
noncomputable def b11_26 (k : Nat) (rec : T11_26) : T11_26 := fun l0 n1 i5 =>
  cond (decide (i5 < (l0.length : Int)))
    (ix l0 i5 fun e1 =>
    cond (e1 == n1)
      (some (.inr ((true, ()), ())))
      ((rec l0 n1 (w64 (i5 + 1))).bind fun y2 =>
      match y2 with
      | .inl y2_0 =>
        some (.inl ((), ()))
      | .inr y2_1 =>
        some (.inr ((y2_1.1.1, ()), ()))))
    (some (.inl ((), ())))
noncomputable def l11_26 (k : Nat) : Nat → T11_26
  | 0 => fun _ _ _ => none
  | j + 1 => b11_26 k (l11_26 k j)
noncomputable def f11 (k : Nat) : T11 := fun l0 n1 =>
  (l11_26 k k l0 n1 0).bind fun y1 =>
  match y1 with
  | .inl y1_0 =>
    some ((false, ()), ())
  | .inr y1_1 =>
    some ((y1_1.1.1, ()), ())
noncomputable def C11 (k : Nat) : Nat → Fun := mkC []
theorem c11_ok (k : Nat) : ∀ f, SoundFn Try.prog f (C11 k f) := mkC_nil
noncomputable def H11_26 (k : Nat) : Nat → Option Cut := addH noH 26 ⟨runCut (wrC (bodyOf (codeAt 26 (bd Try.f11) 26))) 18 [0, 1, 5] pa11_26 pw11_26 (u11_26 (l11_26 k k))⟩
theorem e11_26 (k : Nat) (rec : T11_26) (x : (pa11_26).C) : roundF (C11 k) tt noH (bodyOf (codeAt 26 (bd Try.f11) 26)) 52 18 [0, 1, 5] pa11_26 pw11_26 (u11_26 rec) x = u11_26 (b11_26 k rec) x := by kernel_rfl
theorem h11_26_ok (k : Nat) : ∀ p S, H11_26 k p = some S → ∀ c, At (bd Try.f11) p c → CutOk Try.prog c S :=
  have hC := c11_ok k
  addLoop hC ttOk (draw_ok hC ttOk mixed) noH_ok (by kernel_rfl) (F := fun j => u11_26 (l11_26 k j)) (fun _ => rfl) (fun j x _ h => (e11_26 k (l11_26 k j) x).trans h) k
theorem e11 (k : Nat) (x : (a11).C) : bodyR (C11 k) tt (H11_26 k) Try.f11 a11 o11 x = u11 (f11 k) x := by kernel_rfl
theorem s11 (k : Nat) : SoundFn Try.prog 11 (F11 (f11 k)) :=
  have hC := c11_ok k
  fnR_sound hC ttOk (draw_ok hC ttOk mixed) Try.func11 (c0 := bd Try.f11) rfl (entry Try.func11 rfl (by decide)) (h11_26_ok k) rfl (fun x _ h => (e11 k x).trans h)
/-! f3 fathom/fathomlaw27.ShapeOrders (R) -/
noncomputable def a3 : Shape := ⟨[.d T_Shape], []⟩
noncomputable def o3 : List Shape := [⟨[.d .bool], []⟩]
abbrev R3 : Type := ((Bool × Unit) × Unit)
abbrev T3 : Type := D_Shape → Option R3
noncomputable def u3 (f : T3) : (a3).C → Option (OutC o3) := fun (x : ((D_Shape × Unit) × Unit)) => f x.1.1
noncomputable def F3 (f : T3) : Fun := ⟨true, runR a3 o3 (u3 f)⟩
noncomputable def pa3_8201874 : Shape := ⟨[.d (.slice (.slice .bool)), .d i64, .d i64, .d i64], []⟩
noncomputable def pw3_8201874 : List Vm.Way := [⟨.exit 6, [], ⟨[], []⟩⟩, ⟨.ret, [2], ⟨[.d .bool], []⟩⟩]
abbrev R3_8201874 : Type := ((Unit × Unit) ⊕ ((Bool × Unit) × Unit))
abbrev T3_8201874 : Type := (List (List Bool)) → Int → Int → Int → Option R3_8201874
noncomputable def u3_8201874 (f : T3_8201874) : (pa3_8201874).C → Option (WayC pw3_8201874) := fun (x : (((List (List Bool)) × Int × Int × Int × Unit) × Unit)) => f x.1.1 x.1.2.1 x.1.2.2.1 x.1.2.2.2.1
noncomputable def b3_8201874 (k : Nat) (rec : T3_8201874) : T3_8201874 := fun a3 i4 k7 j8 =>
  cond (decide (j8 < (a3.length : Int)))
    (ix a3 i4 fun e1 =>
    ix e1 k7 fun e2 =>
    cond e2
      (ix a3 k7 fun e3 =>
      ix e3 j8 fun e4 =>
      cond e4
        (ix a3 i4 fun e5 =>
        ix e5 j8 fun e6 =>
        cond (!e6)
          (some (.inr ((false, ()), ())))
          ((rec a3 i4 k7 (w64 (j8 + 1))).bind fun y7 =>
          match y7 with
          | .inl y7_0 =>
            some (.inl ((), ()))
          | .inr y7_1 =>
            some (.inr ((y7_1.1.1, ()), ()))))
        ((rec a3 i4 k7 (w64 (j8 + 1))).bind fun y8 =>
        match y8 with
        | .inl y8_0 =>
          some (.inl ((), ()))
        | .inr y8_1 =>
          some (.inr ((y8_1.1.1, ()), ()))))
      (some (.inl ((), ()))))
    (some (.inl ((), ())))
noncomputable def l3_8201874 (k : Nat) : Nat → T3_8201874
  | 0 => fun _ _ _ _ => none
  | j + 1 => b3_8201874 k (l3_8201874 k j)
noncomputable def pa3_128154 : Shape := ⟨[.d (.slice (.slice .bool)), .d i64, .d i64], []⟩
noncomputable def pw3_128154 : List Vm.Way := [⟨.exit 4, [], ⟨[], []⟩⟩, ⟨.ret, [2], ⟨[.d .bool], []⟩⟩]
abbrev R3_128154 : Type := ((Unit × Unit) ⊕ ((Bool × Unit) × Unit))
abbrev T3_128154 : Type := (List (List Bool)) → Int → Int → Option R3_128154
noncomputable def u3_128154 (f : T3_128154) : (pa3_128154).C → Option (WayC pw3_128154) := fun (x : (((List (List Bool)) × Int × Int × Unit) × Unit)) => f x.1.1 x.1.2.1 x.1.2.2.1
noncomputable def b3_128154 (k : Nat) (rec : T3_128154) : T3_128154 := fun a3 i4 k7 =>
  cond (decide (k7 < (a3.length : Int)))
    ((l3_8201874 k k a3 i4 k7 0).bind fun y1 =>
    match y1 with
    | .inl y1_0 =>
      (rec a3 i4 (w64 (k7 + 1))).bind fun y2 =>
      match y2 with
      | .inl y2_0 =>
        some (.inl ((), ()))
      | .inr y2_1 =>
        some (.inr ((y2_1.1.1, ()), ()))
    | .inr y1_1 =>
      some (.inr ((y1_1.1.1, ()), ())))
    (some (.inl ((), ())))
noncomputable def l3_128154 (k : Nat) : Nat → T3_128154
  | 0 => fun _ _ _ => none
  | j + 1 => b3_128154 k (l3_128154 k j)
noncomputable def pa3_64074 : Shape := ⟨[.ptr 0, .d i64, .d (.slice i64), .d i64], [.box [.d (.slice T_Event), .d (.slice i64)]]⟩
noncomputable def pw3_64074 : List Vm.Way := [⟨.exit 2, [], ⟨[], [.box [.d (.slice T_Event), .d (.slice i64)]]⟩⟩, ⟨.ret, [2], ⟨[.d .bool], [.box [.d (.slice T_Event), .d (.slice i64)]]⟩⟩]
abbrev R3_64074 : Type := ((Unit × (((List D_Event) × (List Int) × Unit) × Unit)) ⊕ ((Bool × Unit) × (((List D_Event) × (List Int) × Unit) × Unit)))
abbrev T3_64074 : Type := Int → (List Int) → Int → (List D_Event) → (List Int) → Option R3_64074
noncomputable def u3_64074 (f : T3_64074) : (pa3_64074).C → Option (WayC pw3_64074) := fun (x : ((Unit × Int × (List Int) × Int × Unit) × (((List D_Event) × (List Int) × Unit) × Unit))) => f x.1.2.1 x.1.2.2.1 x.1.2.2.2.1 x.2.1.1 x.2.1.2.1
noncomputable def b3_64074 (k : Nat) (rec : T3_64074) : T3_64074 := fun i4 r5 k6 o0_0 o0_1 =>
  cond (decide (k6 < (r5.length : Int)))
    (ix r5 k6 fun e1 =>
    cond (e1 == i4)
      (some (.inr ((false, ()), ((o0_0, o0_1, ()), ()))))
      (ix r5 k6 fun e2 =>
      (f10 k (o0_0, o0_1, ()) e2).bind fun y3 =>
      (f11 k y3.1.1 i4).bind fun y4 =>
      cond (!y4.1.1)
        (some (.inr ((false, ()), ((o0_0, o0_1, ()), ()))))
        ((rec i4 r5 (w64 (k6 + 1)) o0_0 o0_1).bind fun y5 =>
        match y5 with
        | .inl y5_0 =>
          some (.inl ((), ((y5_0.2.1.1, y5_0.2.1.2.1, ()), ())))
        | .inr y5_1 =>
          some (.inr ((y5_1.1.1, ()), ((y5_1.2.1.1, y5_1.2.1.2.1, ()), ()))))))
    (some (.inl ((), ((o0_0, o0_1, ()), ()))))
noncomputable def l3_64074 (k : Nat) : Nat → T3_64074
  | 0 => fun _ _ _ _ _ => none
  | j + 1 => b3_64074 k (l3_64074 k j)
noncomputable def pa3_250 : Shape := ⟨[.ptr 0, .d (.slice (.slice .bool)), .d i64], [.box [.d (.slice T_Event), .d (.slice i64)]]⟩
noncomputable def pw3_250 : List Vm.Way := [⟨.exit 0, [], ⟨[], [.box [.d (.slice T_Event), .d (.slice i64)]]⟩⟩, ⟨.ret, [2], ⟨[.d .bool], [.box [.d (.slice T_Event), .d (.slice i64)]]⟩⟩]
abbrev R3_250 : Type := ((Unit × (((List D_Event) × (List Int) × Unit) × Unit)) ⊕ ((Bool × Unit) × (((List D_Event) × (List Int) × Unit) × Unit)))
abbrev T3_250 : Type := (List (List Bool)) → Int → (List D_Event) → (List Int) → Option R3_250
noncomputable def u3_250 (f : T3_250) : (pa3_250).C → Option (WayC pw3_250) := fun (x : ((Unit × (List (List Bool)) × Int × Unit) × (((List D_Event) × (List Int) × Unit) × Unit))) => f x.1.2.1 x.1.2.2.1 x.2.1.1 x.2.1.2.1
noncomputable def b3_250 (k : Nat) (rec : T3_250) : T3_250 := fun a3 i4 o0_0 o0_1 =>
  cond (decide (i4 < (a3.length : Int)))
    ((f10 k (o0_0, o0_1, ()) i4).bind fun y1 =>
    (l3_64074 k k i4 y1.1.1 0 o0_0 o0_1).bind fun y2 =>
    match y2 with
    | .inl y2_0 =>
      (l3_128154 k k a3 i4 0).bind fun y3 =>
      match y3 with
      | .inl y3_0 =>
        ix a3 i4 fun e4 =>
        ix e4 i4 fun e5 =>
        cond e5
          (some (.inr ((false, ()), ((y2_0.2.1.1, y2_0.2.1.2.1, ()), ()))))
          ((rec a3 (w64 (i4 + 1)) y2_0.2.1.1 y2_0.2.1.2.1).bind fun y6 =>
          match y6 with
          | .inl y6_0 =>
            some (.inl ((), ((y6_0.2.1.1, y6_0.2.1.2.1, ()), ())))
          | .inr y6_1 =>
            some (.inr ((y6_1.1.1, ()), ((y6_1.2.1.1, y6_1.2.1.2.1, ()), ()))))
      | .inr y3_1 =>
        some (.inr ((y3_1.1.1, ()), ((y2_0.2.1.1, y2_0.2.1.2.1, ()), ())))
    | .inr y2_1 =>
      some (.inr ((y2_1.1.1, ()), ((y2_1.2.1.1, y2_1.2.1.2.1, ()), ()))))
    (some (.inl ((), ((o0_0, o0_1, ()), ()))))
noncomputable def l3_250 (k : Nat) : Nat → T3_250
  | 0 => fun _ _ _ _ => none
  | j + 1 => b3_250 k (l3_250 k j)
noncomputable def f3 (k : Nat) : T3 := fun s0 =>
  cond (decide ((s0.1.length : Int) > 60))
    ((f7 k ()).bind fun y1 =>
    some ((y1.1.1, ()), ()))
    (cond (decide ((s0.2.1.length : Int) > 60))
      ((f7 k ()).bind fun y2 =>
      some ((y2.1.1, ()), ()))
      ((f6 k s0).bind fun y3 =>
      cond (!y3.1.1)
        ((f7 k ()).bind fun y4 =>
        some ((y4.1.1, ()), ()))
        ((f8 k s0).bind fun y5 =>
        (f9 k y5.1.1).bind fun y6 =>
        cond (!y6.1.1)
          (some ((false, ()), ()))
          ((l3_250 k k y5.1.1 0 s0.1 s0.2.1).bind fun y7 =>
          match y7 with
          | .inl y7_0 =>
            cond ((y5.1.1.length : Int) == (y7_0.2.1.1.length : Int))
              ((f7 k ()).bind fun y8 =>
              some ((y8.1.1, ()), ()))
              (some ((false, ()), ()))
          | .inr y7_1 =>
            some ((y7_1.1.1, ()), ())))))
noncomputable def C3 (k : Nat) : Nat → Fun := mkC [(6, (F6 (f6 k))), (7, (F7 (f7 k))), (8, (F8 (f8 k))), (9, (F9 (f9 k))), (10, (F10 (f10 k))), (11, (F11 (f11 k)))]
theorem c3_ok (k : Nat) : ∀ f, SoundFn Try.prog f (C3 k f) := (mkC_cons (s6 k) (mkC_cons (s7 k) (mkC_cons (s8 k) (mkC_cons (s9 k) (mkC_cons (s10 k) (mkC_cons (s11 k) mkC_nil))))))
noncomputable def H3_8201874 (k : Nat) : Nat → Option Cut := addH noH 8201874 ⟨runCut (wrC (bodyOf (codeAt 8201874 (bd Try.f3) 8201874))) 116 [3, 4, 7, 8] pa3_8201874 pw3_8201874 (u3_8201874 (l3_8201874 k k))⟩
theorem e3_8201874 (k : Nat) (rec : T3_8201874) (x : (pa3_8201874).C) : roundF (C3 k) tt noH (bodyOf (codeAt 8201874 (bd Try.f3) 8201874)) 16403748 116 [3, 4, 7, 8] pa3_8201874 pw3_8201874 (u3_8201874 rec) x = u3_8201874 (b3_8201874 k rec) x := by kernel_rfl
theorem h3_8201874_ok (k : Nat) : ∀ p S, H3_8201874 k p = some S → ∀ c, At (bd Try.f3) p c → CutOk Try.prog c S :=
  have hC := c3_ok k
  addLoop hC ttOk (draw_ok hC ttOk mixed) noH_ok (by kernel_rfl) (F := fun j => u3_8201874 (l3_8201874 k j)) (fun _ => rfl) (fun j x _ h => (e3_8201874 k (l3_8201874 k j) x).trans h) k
noncomputable def H3_128154 (k : Nat) : Nat → Option Cut := addH (H3_8201874 k) 128154 ⟨runCut (wrC (bodyOf (codeAt 128154 (bd Try.f3) 128154))) 116 [3, 4, 7] pa3_128154 pw3_128154 (u3_128154 (l3_128154 k k))⟩
theorem e3_128154 (k : Nat) (rec : T3_128154) (x : (pa3_128154).C) : roundF (C3 k) tt (H3_8201874 k) (bodyOf (codeAt 128154 (bd Try.f3) 128154)) 256308 116 [3, 4, 7] pa3_128154 pw3_128154 (u3_128154 rec) x = u3_128154 (b3_128154 k rec) x := by kernel_rfl
theorem h3_128154_ok (k : Nat) : ∀ p S, H3_128154 k p = some S → ∀ c, At (bd Try.f3) p c → CutOk Try.prog c S :=
  have hC := c3_ok k
  addLoop hC ttOk (draw_ok hC ttOk mixed) (h3_8201874_ok k) (by kernel_rfl) (F := fun j => u3_128154 (l3_128154 k j)) (fun _ => rfl) (fun j x _ h => (e3_128154 k (l3_128154 k j) x).trans h) k
noncomputable def H3_64074 (k : Nat) : Nat → Option Cut := addH (H3_128154 k) 64074 ⟨runCut (wrC (bodyOf (codeAt 64074 (bd Try.f3) 64074))) 116 [1, 4, 5, 6] pa3_64074 pw3_64074 (u3_64074 (l3_64074 k k))⟩
theorem e3_64074 (k : Nat) (rec : T3_64074) (x : (pa3_64074).C) : roundF (C3 k) tt (H3_128154 k) (bodyOf (codeAt 64074 (bd Try.f3) 64074)) 128148 116 [1, 4, 5, 6] pa3_64074 pw3_64074 (u3_64074 rec) x = u3_64074 (b3_64074 k rec) x := by kernel_rfl
theorem h3_64074_ok (k : Nat) : ∀ p S, H3_64074 k p = some S → ∀ c, At (bd Try.f3) p c → CutOk Try.prog c S :=
  have hC := c3_ok k
  addLoop hC ttOk (draw_ok hC ttOk mixed) (h3_128154_ok k) (by kernel_rfl) (F := fun j => u3_64074 (l3_64074 k j)) (fun _ => rfl) (fun j x _ h => (e3_64074 k (l3_64074 k j) x).trans h) k
noncomputable def H3_250 (k : Nat) : Nat → Option Cut := addH (H3_64074 k) 250 ⟨runCut (wrC (bodyOf (codeAt 250 (bd Try.f3) 250))) 116 [1, 3, 4] pa3_250 pw3_250 (u3_250 (l3_250 k k))⟩
theorem e3_250 (k : Nat) (rec : T3_250) (x : (pa3_250).C) : roundF (C3 k) tt (H3_64074 k) (bodyOf (codeAt 250 (bd Try.f3) 250)) 500 116 [1, 3, 4] pa3_250 pw3_250 (u3_250 rec) x = u3_250 (b3_250 k rec) x := by kernel_rfl
theorem h3_250_ok (k : Nat) : ∀ p S, H3_250 k p = some S → ∀ c, At (bd Try.f3) p c → CutOk Try.prog c S :=
  have hC := c3_ok k
  addLoop hC ttOk (draw_ok hC ttOk mixed) (h3_64074_ok k) (by kernel_rfl) (F := fun j => u3_250 (l3_250 k j)) (fun _ => rfl) (fun j x _ h => (e3_250 k (l3_250 k j) x).trans h) k
theorem e3 (k : Nat) (x : (a3).C) : bodyR (C3 k) tt (H3_250 k) Try.f3 a3 o3 x = u3 (f3 k) x := by kernel_rfl
theorem s3 (k : Nat) : SoundFn Try.prog 3 (F3 (f3 k)) :=
  have hC := c3_ok k
  fnR_sound hC ttOk (draw_ok hC ttOk mixed) Try.func3 (c0 := bd Try.f3) rfl (entry Try.func3 rfl (by decide)) (h3_250_ok k) rfl (fun x _ h => (e3 k x).trans h)
/-! f26 fathom/shape.feeds (R) -/
noncomputable def a26 : Shape := ⟨[.d i64, .d i64], []⟩
noncomputable def o26 : List Shape := [⟨[.d .bool], []⟩]
abbrev R26 : Type := ((Bool × Unit) × Unit)
abbrev T26 : Type := Int → Int → Option R26
noncomputable def u26 (f : T26) : (a26).C → Option (OutC o26) := fun (x : ((Int × Int × Unit) × Unit)) => f x.1.1 x.1.2.1
noncomputable def F26 (f : T26) : Fun := ⟨true, runR a26 o26 (u26 f)⟩
noncomputable def pa26_214 : Shape := ⟨[.d i64], []⟩
noncomputable def pw26_214 : List Vm.Way := [⟨.normal, [10], ⟨[.d .bool], []⟩⟩]
abbrev R26_214 : Type := ((Bool × Unit) × Unit)
abbrev T26_214 : Type := Int → Option R26_214
noncomputable def u26_214 (f : T26_214) : (pa26_214).C → Option (WayC pw26_214) := fun (x : ((Int × Unit) × Unit)) => f x.1.1
noncomputable def l26_214 (k : Nat) : T26_214 := fun t5 =>
  cond (t5 == 3)
    (some (((t5 == 3), ()), ()))
    (cond (t5 == 5)
      (some (((t5 == 5), ()), ()))
      (some (((t5 == 6), ()), ())))
noncomputable def f26 (k : Nat) : T26 := fun writer0 reader1 =>
  cond (reader1 == 1)
    (some (((writer0 == 2), ()), ()))
    ((l26_214 k reader1).bind fun y1 =>
    cond y1.1.1
      (cond (writer0 == 4)
        (some ((true, ()), ()))
        (cond (writer0 == 5)
          (some ((true, ()), ()))
          (some (((writer0 == 6), ()), ()))))
      (cond (reader1 == 10)
        (some (((writer0 == 9), ()), ()))
        (some ((false, ()), ()))))
noncomputable def C26 (k : Nat) : Nat → Fun := mkC []
theorem c26_ok (k : Nat) : ∀ f, SoundFn Try.prog f (C26 k f) := mkC_nil
noncomputable def H26_214 (k : Nat) : Nat → Option Cut := addH noH 214 ⟨runCut (wrC (codeAt 214 (bd Try.f26) 214)) 28 [5] pa26_214 pw26_214 (u26_214 (l26_214 k))⟩
theorem e26_214 (k : Nat) (x : (pa26_214).C) : pieceF (C26 k) tt noH (codeAt 214 (bd Try.f26) 214) 214 28 [5] pa26_214 pw26_214 x = u26_214 (l26_214 k) x := by kernel_rfl
theorem h26_214_ok (k : Nat) : ∀ p S, H26_214 k p = some S → ∀ c, At (bd Try.f26) p c → CutOk Try.prog c S :=
  have hC := c26_ok k
  addPiece hC ttOk (draw_ok hC ttOk mixed) noH_ok (fun x _ h => (e26_214 k x).trans h)
theorem e26 (k : Nat) (x : (a26).C) : bodyR (C26 k) tt (H26_214 k) Try.f26 a26 o26 x = u26 (f26 k) x := by kernel_rfl
theorem s26 (k : Nat) : SoundFn Try.prog 26 (F26 (f26 k)) :=
  have hC := c26_ok k
  fnR_sound hC ttOk (draw_ok hC ttOk mixed) Try.func26 (c0 := bd Try.f26) rfl (entry Try.func26 rfl (by decide)) (h26_214_ok k) rfl (fun x _ h => (e26 k x).trans h)
/-! f14 fathom/shape.Sources (R) -/
noncomputable def a14 : Shape := ⟨[.d T_Shape, .d i64], []⟩
noncomputable def o14 : List Shape := [⟨[.d (.slice i64)], []⟩]
abbrev R14 : Type := (((List Int) × Unit) × Unit)
abbrev T14 : Type := D_Shape → Int → Option R14
noncomputable def u14 (f : T14) : (a14).C → Option (OutC o14) := fun (x : ((D_Shape × Int × Unit) × Unit)) => f x.1.1 x.1.2.1
noncomputable def F14 (f : T14) : Fun := ⟨true, runR a14 o14 (u14 f)⟩
noncomputable def pa14_250 : Shape := ⟨[.d i64, .ptr 0, .own i64, .d (.slice (.slice .bool)), .d (.slice T_Event), .d i64, .d i64], [.box [.d (.slice T_Event), .d (.slice i64)]]⟩
noncomputable def pw14_250 : List Vm.Way := [⟨.exit 0, [5], ⟨[.own i64], [.box [.d (.slice T_Event), .d (.slice i64)]]⟩⟩]
abbrev R14_250 : Type := (((List Int) × Unit) × (((List D_Event) × (List Int) × Unit) × Unit))
abbrev T14_250 : Type := Int → (List Int) → (List (List Bool)) → (List D_Event) → Int → Int → (List D_Event) → (List Int) → Option R14_250
noncomputable def u14_250 (f : T14_250) : (pa14_250).C → Option (WayC pw14_250) := fun (x : ((Int × Unit × (List Int) × (List (List Bool)) × (List D_Event) × Int × Int × Unit) × (((List D_Event) × (List Int) × Unit) × Unit))) => f x.1.1 x.1.2.2.1 x.1.2.2.2.1 x.1.2.2.2.2.1 x.1.2.2.2.2.2.1 x.1.2.2.2.2.2.2.1 x.2.1.1 x.2.1.2.1
noncomputable def b14_250 (k : Nat) (rec : T14_250) : T14_250 := fun e_1 l5 ahead6 t16 t17 t18 o0_0 o0_1 =>
  cond (decide (t18 < t17))
    (ix t16 t18 fun e1 =>
    cond (t18 != e_1)
      (ix o0_0 e_1 fun e2 =>
      cond (e1.2.2.2.1 == e2.2.2.2.1)
        (ix o0_0 e_1 fun e3 =>
        (f26 k e1.2.2.1 e3.2.2.1).bind fun y4 =>
        cond y4.1.1
          (ix ahead6 e_1 fun e5 =>
          ix e5 t18 fun e6 =>
          cond (!e6)
            (gd (decide ((l5.length + 1) * 8 ≤ room)) <|
            (rec e_1 (l5 ++ ([t18] : List Int)) ahead6 t16 t17 (w64 (t18 + 1)) o0_0 o0_1).bind fun y7 =>
            some ((y7.1.1, ()), ((y7.2.1.1, y7.2.1.2.1, ()), ())))
            ((rec e_1 l5 ahead6 t16 t17 (w64 (t18 + 1)) o0_0 o0_1).bind fun y8 =>
            some ((y8.1.1, ()), ((y8.2.1.1, y8.2.1.2.1, ()), ()))))
          ((rec e_1 l5 ahead6 t16 t17 (w64 (t18 + 1)) o0_0 o0_1).bind fun y9 =>
          some ((y9.1.1, ()), ((y9.2.1.1, y9.2.1.2.1, ()), ()))))
        ((rec e_1 l5 ahead6 t16 t17 (w64 (t18 + 1)) o0_0 o0_1).bind fun y10 =>
        some ((y10.1.1, ()), ((y10.2.1.1, y10.2.1.2.1, ()), ()))))
      ((rec e_1 l5 ahead6 t16 t17 (w64 (t18 + 1)) o0_0 o0_1).bind fun y11 =>
      some ((y11.1.1, ()), ((y11.2.1.1, y11.2.1.2.1, ()), ()))))
    (some ((l5, ()), ((o0_0, o0_1, ()), ())))
noncomputable def l14_250 (k : Nat) : Nat → T14_250
  | 0 => fun _ _ _ _ _ _ _ _ => none
  | j + 1 => b14_250 k (l14_250 k j)
noncomputable def f14 (k : Nat) : T14 := fun s0 e_1 =>
  (f20 k s0 e_1).bind fun y1 =>
  cond (!y1.1.1)
    (some (([], ()), ()))
    ((f8 k s0).bind fun y2 =>
    (l14_250 k k e_1 [] y2.1.1 s0.1 (s0.1.length : Int) 0 s0.1 s0.2.1).bind fun y3 =>
    some ((y3.1.1, ()), ()))
noncomputable def C14 (k : Nat) : Nat → Fun := mkC [(8, (F8 (f8 k))), (20, (F20 (f20 k))), (26, (F26 (f26 k)))]
theorem c14_ok (k : Nat) : ∀ f, SoundFn Try.prog f (C14 k f) := (mkC_cons (s8 k) (mkC_cons (s20 k) (mkC_cons (s26 k) mkC_nil)))
noncomputable def H14_250 (k : Nat) : Nat → Option Cut := addH noH 250 ⟨runCut (wrC (bodyOf (codeAt 250 (bd Try.f14) 250))) 64 [1, 2, 5, 6, 16, 17, 18] pa14_250 pw14_250 (u14_250 (l14_250 k k))⟩
theorem e14_250 (k : Nat) (rec : T14_250) (x : (pa14_250).C) : roundF (C14 k) tt noH (bodyOf (codeAt 250 (bd Try.f14) 250)) 500 64 [1, 2, 5, 6, 16, 17, 18] pa14_250 pw14_250 (u14_250 rec) x = u14_250 (b14_250 k rec) x := by kernel_rfl
theorem h14_250_ok (k : Nat) : ∀ p S, H14_250 k p = some S → ∀ c, At (bd Try.f14) p c → CutOk Try.prog c S :=
  have hC := c14_ok k
  addLoop hC ttOk (draw_ok hC ttOk mixed) noH_ok (by kernel_rfl) (F := fun j => u14_250 (l14_250 k j)) (fun _ => rfl) (fun j x _ h => (e14_250 k (l14_250 k j) x).trans h) k
theorem e14 (k : Nat) (x : (a14).C) : bodyR (C14 k) tt (H14_250 k) Try.f14 a14 o14 x = u14 (f14 k) x := by kernel_rfl
theorem s14 (k : Nat) : SoundFn Try.prog 14 (F14 (f14 k)) :=
  have hC := c14_ok k
  fnR_sound hC ttOk (draw_ok hC ttOk mixed) Try.func14 (c0 := bd Try.f14) rfl (entry Try.func14 rfl (by decide)) (h14_250_ok k) rfl (fun x _ h => (e14 k x).trans h)
/-! f4 fathom/fathomlaw27.ShapeChecks (R) -/
noncomputable def a4 : Shape := ⟨[.d T_Shape, .d i64, .d i64], []⟩
noncomputable def o4 : List Shape := [⟨[.d .bool], []⟩]
abbrev R4 : Type := ((Bool × Unit) × Unit)
abbrev T4 : Type := D_Shape → Int → Int → Option R4
noncomputable def u4 (f : T4) : (a4).C → Option (OutC o4) := fun (x : ((D_Shape × Int × Int × Unit) × Unit)) => f x.1.1 x.1.2.1 x.1.2.2.1
noncomputable def F4 (f : T4) : Fun := ⟨true, runR a4 o4 (u4 f)⟩
noncomputable def pa4_506 : Shape := ⟨[.d i64, .d i64, .ptr 0, .d i64, .d i64], [.box [.d (.slice T_Event), .d (.slice i64)]]⟩
noncomputable def pw4_506 : List Vm.Way := [⟨.exit 0, [8], ⟨[.d i64], [.box [.d (.slice T_Event), .d (.slice i64)]]⟩⟩]
abbrev R4_506 : Type := ((Int × Unit) × (((List D_Event) × (List Int) × Unit) × Unit))
abbrev T4_506 : Type := Int → Int → Int → Int → (List D_Event) → (List Int) → Option R4_506
noncomputable def u4_506 (f : T4_506) : (pa4_506).C → Option (WayC pw4_506) := fun (x : ((Int × Int × Unit × Int × Int × Unit) × (((List D_Event) × (List Int) × Unit) × Unit))) => f x.1.1 x.1.2.1 x.1.2.2.2.1 x.1.2.2.2.2.1 x.2.1.1 x.2.1.2.1
noncomputable def b4_506 (k : Nat) (rec : T4_506) : T4_506 := fun proc1 inst2 want8 i9 o0_0 o0_1 =>
  cond (decide (i9 < (o0_0.length : Int)))
    (ix o0_0 i9 fun e1 =>
    cond (e1.1 == proc1)
      (ix o0_0 i9 fun e2 =>
      cond (e2.2.1 == inst2)
        ((rec proc1 inst2 i9 (w64 (i9 + 1)) o0_0 o0_1).bind fun y3 =>
        some ((y3.1.1, ()), ((y3.2.1.1, y3.2.1.2.1, ()), ())))
        ((rec proc1 inst2 want8 (w64 (i9 + 1)) o0_0 o0_1).bind fun y4 =>
        some ((y4.1.1, ()), ((y4.2.1.1, y4.2.1.2.1, ()), ()))))
      ((rec proc1 inst2 want8 (w64 (i9 + 1)) o0_0 o0_1).bind fun y5 =>
      some ((y5.1.1, ()), ((y5.2.1.1, y5.2.1.2.1, ()), ()))))
    (some ((want8, ()), ((o0_0, o0_1, ()), ())))
noncomputable def l4_506 (k : Nat) : Nat → T4_506
  | 0 => fun _ _ _ _ _ _ => none
  | j + 1 => b4_506 k (l4_506 k j)
noncomputable def f4 (k : Nat) : T4 := fun s0 proc1 inst2 =>
  cond (decide ((s0.1.length : Int) > 60))
    ((f7 k ()).bind fun y1 =>
    some ((y1.1.1, ()), ()))
    (cond (decide ((s0.2.1.length : Int) > 60))
      ((f7 k ()).bind fun y2 =>
      some ((y2.1.1, ()), ()))
      ((f12 k s0 proc1 inst2).bind fun y3 =>
      (f6 k s0).bind fun y4 =>
      cond (!y4.1.1)
        ((f13 k s0).bind fun y5 =>
        cond (y5.1.1 == 1)
          (cond (y3.1.1 == (-1))
            ((f8 k s0).bind fun y6 =>
            cond ((y6.1.1.length : Int) == 0)
              ((f14 k s0 0).bind fun y7 =>
              cond ((y7.1.1.length : Int) == 0)
                ((f10 k s0 0).bind fun y8 =>
                cond ((y8.1.1.length : Int) == 0)
                  ((f7 k ()).bind fun y9 =>
                  some ((y9.1.1, ()), ()))
                  (some ((false, ()), ())))
                (some ((false, ()), ())))
              (some ((false, ()), ())))
            (some ((false, ()), ())))
          (some ((false, ()), ())))
        ((l4_506 k k proc1 inst2 (-1) 0 s0.1 s0.2.1).bind fun y10 =>
        (f13 k (y10.2.1.1, y10.2.1.2.1, ())).bind fun y11 =>
        cond (y11.1.1 == 0)
          (cond (y3.1.1 == y10.1.1)
            ((f7 k ()).bind fun y12 =>
            some ((y12.1.1, ()), ()))
            (some ((false, ()), ())))
          (some ((false, ()), ())))))
noncomputable def C4 (k : Nat) : Nat → Fun := mkC [(6, (F6 (f6 k))), (7, (F7 (f7 k))), (8, (F8 (f8 k))), (10, (F10 (f10 k))), (12, (F12 (f12 k))), (13, (F13 (f13 k))), (14, (F14 (f14 k)))]
theorem c4_ok (k : Nat) : ∀ f, SoundFn Try.prog f (C4 k f) := (mkC_cons (s6 k) (mkC_cons (s7 k) (mkC_cons (s8 k) (mkC_cons (s10 k) (mkC_cons (s12 k) (mkC_cons (s13 k) (mkC_cons (s14 k) mkC_nil)))))))
noncomputable def H4_506 (k : Nat) : Nat → Option Cut := addH noH 506 ⟨runCut (wrC (bodyOf (codeAt 506 (bd Try.f4) 506))) 93 [1, 2, 3, 8, 9] pa4_506 pw4_506 (u4_506 (l4_506 k k))⟩
theorem e4_506 (k : Nat) (rec : T4_506) (x : (pa4_506).C) : roundF (C4 k) tt noH (bodyOf (codeAt 506 (bd Try.f4) 506)) 1012 93 [1, 2, 3, 8, 9] pa4_506 pw4_506 (u4_506 rec) x = u4_506 (b4_506 k rec) x := by kernel_rfl
theorem h4_506_ok (k : Nat) : ∀ p S, H4_506 k p = some S → ∀ c, At (bd Try.f4) p c → CutOk Try.prog c S :=
  have hC := c4_ok k
  addLoop hC ttOk (draw_ok hC ttOk mixed) noH_ok (by kernel_rfl) (F := fun j => u4_506 (l4_506 k j)) (fun _ => rfl) (fun j x _ h => (e4_506 k (l4_506 k j) x).trans h) k
theorem e4 (k : Nat) (x : (a4).C) : bodyR (C4 k) tt (H4_506 k) Try.f4 a4 o4 x = u4 (f4 k) x := by kernel_rfl
theorem s4 (k : Nat) : SoundFn Try.prog 4 (F4 (f4 k)) :=
  have hC := c4_ok k
  fnR_sound hC ttOk (draw_ok hC ttOk mixed) Try.func4 (c0 := bd Try.f4) rfl (entry Try.func4 rfl (by decide)) (h4_506_ok k) rfl (fun x _ h => (e4 k x).trans h)
/-! f27 fathom/fathomref27.Feeds (R) -/
noncomputable def a27 : Shape := ⟨[.d i64, .d i64], []⟩
noncomputable def o27 : List Shape := [⟨[.d .bool], []⟩]
abbrev R27 : Type := ((Bool × Unit) × Unit)
abbrev T27 : Type := Int → Int → Option R27
noncomputable def u27 (f : T27) : (a27).C → Option (OutC o27) := fun (x : ((Int × Int × Unit) × Unit)) => f x.1.1 x.1.2.1
noncomputable def F27 (f : T27) : Fun := ⟨true, runR a27 o27 (u27 f)⟩
noncomputable def f27 (k : Nat) : T27 := fun writer0 reader1 =>
  cond (reader1 == 1)
    (some (((writer0 == 2), ()), ()))
    (cond (reader1 == 10)
      (some (((writer0 == 9), ()), ()))
      (cond (reader1 == 3)
        (cond (writer0 == 4)
          (some ((true, ()), ()))
          (cond (writer0 == 5)
            (some ((true, ()), ()))
            (some (((writer0 == 6), ()), ()))))
        (cond (reader1 == 5)
          (cond (writer0 == 4)
            (some ((true, ()), ()))
            (cond (writer0 == 5)
              (some ((true, ()), ()))
              (some (((writer0 == 6), ()), ()))))
          (cond (reader1 == 6)
            (cond (writer0 == 4)
              (some ((true, ()), ()))
              (cond (writer0 == 5)
                (some ((true, ()), ()))
                (some (((writer0 == 6), ()), ()))))
            (some ((false, ()), ()))))))
noncomputable def C27 (k : Nat) : Nat → Fun := mkC []
theorem c27_ok (k : Nat) : ∀ f, SoundFn Try.prog f (C27 k f) := mkC_nil
theorem e27 (k : Nat) (x : (a27).C) : bodyR (C27 k) tt noH Try.f27 a27 o27 x = u27 (f27 k) x := by kernel_rfl
theorem s27 (k : Nat) : SoundFn Try.prog 27 (F27 (f27 k)) :=
  have hC := c27_ok k
  fnR_sound hC ttOk (draw_ok hC ttOk mixed) Try.func27 (c0 := bd Try.f27) rfl (entry Try.func27 rfl (by decide)) noH_ok rfl (fun x _ h => (e27 k x).trans h)
/-! f15 fathom/fathomref27.Ahead (R) -/
noncomputable def a15 : Shape := ⟨[.d T_Shape, .d i64, .d i64], []⟩
noncomputable def o15 : List Shape := [⟨[.d .bool], []⟩]
abbrev R15 : Type := ((Bool × Unit) × Unit)
abbrev T15 : Type := D_Shape → Int → Int → Option R15
noncomputable def u15 (f : T15) : (a15).C → Option (OutC o15) := fun (x : ((D_Shape × Int × Int × Unit) × Unit)) => f x.1.1 x.1.2.1 x.1.2.2.1
noncomputable def F15 (f : T15) : Fun := ⟨true, runR a15 o15 (u15 f)⟩
noncomputable def b15 (k : Nat) (r15 : T15) : T15 := fun s0 a1 b2 =>
  ix s0.1 a1 fun e1 =>
  ix s0.1 b2 fun e2 =>
  cond (e1.1 == e2.1)
    (some (((decide (a1 < b2)), ()), ()))
    (ix s0.1 b2 fun e3 =>
    ix s0.2.1 e3.1 fun e4 =>
    cond (decide (e4 ≥ 0))
      (cond (e4 == a1)
        (some ((true, ()), ()))
        ((r15 s0 a1 e4).bind fun y5 =>
        some ((y5.1.1, ()), ())))
      (some ((false, ()), ())))
noncomputable def S15 : Nat → T15
  | 0 => (fun _ _ _ => none)
  | k + 1 => (b15 k (S15 k))
noncomputable def f15 (k : Nat) : T15 := (S15 k)
theorem f15_succ (k : Nat) : f15 (k + 1) = b15 k (f15 k) := rfl
noncomputable def C15 (k : Nat) (r15 : T15) : Nat → Fun := mkC [(15, (F15 r15))]
theorem c15_ok (k : Nat) (r15 : T15) (h15 : SoundFn Try.prog 15 (F15 r15)) : ∀ f, SoundFn Try.prog f (C15 k r15 f) := (mkC_cons h15 mkC_nil)
theorem e15 (k : Nat) (r15 : T15) (x : (a15).C) : bodyR (C15 k r15) tt noH Try.f15 a15 o15 x = u15 (b15 k r15) x := by kernel_rfl
theorem q15 (k : Nat) (r15 : T15) (h15 : SoundFn Try.prog 15 (F15 r15)) : SoundFn Try.prog 15 (F15 (b15 k r15)) :=
  have hC := c15_ok k r15 h15
  fnR_sound hC ttOk (draw_ok hC ttOk mixed) Try.func15 (c0 := bd Try.f15) rfl (entry Try.func15 rfl (by decide)) noH_ok rfl (fun x _ h => (e15 k r15 x).trans h)
theorem sAll15 : ∀ k : Nat, SoundFn Try.prog 15 (F15 (f15 k))
  | 0 => noneR_ok (by intro x; rfl)
  | k + 1 =>
    have ih := sAll15 k
    q15 k (f15 k) ih
theorem s15 (k : Nat) : SoundFn Try.prog 15 (F15 (f15 k)) := (sAll15 k)
/-! f16 fathom/fathomref27.Source (R) -/
noncomputable def a16 : Shape := ⟨[.d T_Shape, .d i64, .d i64], []⟩
noncomputable def o16 : List Shape := [⟨[.d .bool], []⟩]
abbrev R16 : Type := ((Bool × Unit) × Unit)
abbrev T16 : Type := D_Shape → Int → Int → Option R16
noncomputable def u16 (f : T16) : (a16).C → Option (OutC o16) := fun (x : ((D_Shape × Int × Int × Unit) × Unit)) => f x.1.1 x.1.2.1 x.1.2.2.1
noncomputable def F16 (f : T16) : Fun := ⟨true, runR a16 o16 (u16 f)⟩
noncomputable def f16 (k : Nat) : T16 := fun s0 e_1 w2 =>
  cond (e_1 != w2)
    (ix s0.1 e_1 fun e1 =>
    ix s0.1 w2 fun e2 =>
    cond (e1.2.2.2.1 == e2.2.2.2.1)
      (ix s0.1 w2 fun e3 =>
      ix s0.1 e_1 fun e4 =>
      (f27 k e3.2.2.1 e4.2.2.1).bind fun y5 =>
      cond y5.1.1
        ((f15 k s0 e_1 w2).bind fun y6 =>
        some (((!y6.1.1), ()), ()))
        (some ((false, ()), ())))
      (some ((false, ()), ())))
    (some ((false, ()), ()))
noncomputable def C16 (k : Nat) : Nat → Fun := mkC [(15, (F15 (f15 k))), (27, (F27 (f27 k)))]
theorem c16_ok (k : Nat) : ∀ f, SoundFn Try.prog f (C16 k f) := (mkC_cons (s15 k) (mkC_cons (s27 k) mkC_nil))
theorem e16 (k : Nat) (x : (a16).C) : bodyR (C16 k) tt noH Try.f16 a16 o16 x = u16 (f16 k) x := by kernel_rfl
theorem s16 (k : Nat) : SoundFn Try.prog 16 (F16 (f16 k)) :=
  have hC := c16_ok k
  fnR_sound hC ttOk (draw_ok hC ttOk mixed) Try.func16 (c0 := bd Try.f16) rfl (entry Try.func16 rfl (by decide)) noH_ok rfl (fun x _ h => (e16 k x).trans h)
/-! f17 fathom/fathomref27.Rival (R) -/
noncomputable def a17 : Shape := ⟨[.d T_Shape, .d i64, .d i64], []⟩
noncomputable def o17 : List Shape := [⟨[.d .bool], []⟩]
abbrev R17 : Type := ((Bool × Unit) × Unit)
abbrev T17 : Type := D_Shape → Int → Int → Option R17
noncomputable def u17 (f : T17) : (a17).C → Option (OutC o17) := fun (x : ((D_Shape × Int × Int × Unit) × Unit)) => f x.1.1 x.1.2.1 x.1.2.2.1
noncomputable def F17 (f : T17) : Fun := ⟨true, runR a17 o17 (u17 f)⟩
noncomputable def f17 (k : Nat) : T17 := fun s0 e_1 w2 =>
  ix s0.1 e_1 fun e1 =>
  ix s0.1 w2 fun e2 =>
  cond (decide (e1.2.2.1 ≤ 2))
    (cond (decide (e2.2.2.1 ≤ 2))
      (cond (e1.1 != e2.1)
        (cond (e1.2.2.2.1 == e2.2.2.2.1)
          (cond (e1.2.2.1 == 2)
            ((f15 k s0 e_1 w2).bind fun y3 =>
            cond (!y3.1.1)
              ((f15 k s0 w2 e_1).bind fun y4 =>
              some (((!y4.1.1), ()), ()))
              (some ((false, ()), ())))
            (cond (e2.2.2.1 == 2)
              ((f15 k s0 e_1 w2).bind fun y5 =>
              cond (!y5.1.1)
                ((f15 k s0 w2 e_1).bind fun y6 =>
                some (((!y6.1.1), ()), ()))
                (some ((false, ()), ())))
              (some ((false, ()), ()))))
          (some ((false, ()), ())))
        (some ((false, ()), ())))
      (some ((false, ()), ())))
    (some ((false, ()), ()))
noncomputable def C17 (k : Nat) : Nat → Fun := mkC [(15, (F15 (f15 k)))]
theorem c17_ok (k : Nat) : ∀ f, SoundFn Try.prog f (C17 k f) := (mkC_cons (s15 k) mkC_nil)
theorem e17 (k : Nat) (x : (a17).C) : bodyR (C17 k) tt noH Try.f17 a17 o17 x = u17 (f17 k) x := by kernel_rfl
theorem s17 (k : Nat) : SoundFn Try.prog 17 (F17 (f17 k)) :=
  have hC := c17_ok k
  fnR_sound hC ttOk (draw_ok hC ttOk mixed) Try.func17 (c0 := bd Try.f17) rfl (entry Try.func17 rfl (by decide)) noH_ok rfl (fun x _ h => (e17 k x).trans h)
/-! f5 fathom/fathomlaw27.ShapeKnows (R) -/
noncomputable def a5 : Shape := ⟨[.d T_Shape, .d i64], []⟩
noncomputable def o5 : List Shape := [⟨[.d .bool], []⟩]
abbrev R5 : Type := ((Bool × Unit) × Unit)
abbrev T5 : Type := D_Shape → Int → Option R5
noncomputable def u5 (f : T5) : (a5).C → Option (OutC o5) := fun (x : ((D_Shape × Int × Unit) × Unit)) => f x.1.1 x.1.2.1
noncomputable def F5 (f : T5) : Fun := ⟨true, runR a5 o5 (u5 f)⟩
noncomputable def pa5_32038 : Shape := ⟨[.ptr 0, .d (.slice (.slice .bool)), .d i64, .d i64], [.box [.d (.slice T_Event), .d (.slice i64)]]⟩
noncomputable def pw5_32038 : List Vm.Way := [⟨.exit 2, [], ⟨[], [.box [.d (.slice T_Event), .d (.slice i64)]]⟩⟩, ⟨.ret, [4], ⟨[.d .bool], [.box [.d (.slice T_Event), .d (.slice i64)]]⟩⟩]
abbrev R5_32038 : Type := ((Unit × (((List D_Event) × (List Int) × Unit) × Unit)) ⊕ ((Bool × Unit) × (((List D_Event) × (List Int) × Unit) × Unit)))
abbrev T5_32038 : Type := (List (List Bool)) → Int → Int → (List D_Event) → (List Int) → Option R5_32038
noncomputable def u5_32038 (f : T5_32038) : (pa5_32038).C → Option (WayC pw5_32038) := fun (x : ((Unit × (List (List Bool)) × Int × Int × Unit) × (((List D_Event) × (List Int) × Unit) × Unit))) => f x.1.2.1 x.1.2.2.1 x.1.2.2.2.1 x.2.1.1 x.2.1.2.1
noncomputable def b5_32038 (k : Nat) (rec : T5_32038) : T5_32038 := fun a5 i6 k7 o0_0 o0_1 =>
  cond (decide (k7 < (a5.length : Int)))
    (ix a5 i6 fun e1 =>
    ix e1 k7 fun e2 =>
    (f15 k (o0_0, o0_1, ()) i6 k7).bind fun y3 =>
    cond (!(e2 == y3.1.1))
      (some (.inr ((false, ()), ((o0_0, o0_1, ()), ()))))
      ((rec a5 i6 (w64 (k7 + 1)) o0_0 o0_1).bind fun y4 =>
      match y4 with
      | .inl y4_0 =>
        some (.inl ((), ((y4_0.2.1.1, y4_0.2.1.2.1, ()), ())))
      | .inr y4_1 =>
        some (.inr ((y4_1.1.1, ()), ((y4_1.2.1.1, y4_1.2.1.2.1, ()), ())))))
    (some (.inl ((), ((o0_0, o0_1, ()), ()))))
noncomputable def l5_32038 (k : Nat) : Nat → T5_32038
  | 0 => fun _ _ _ _ _ => none
  | j + 1 => b5_32038 k (l5_32038 k j)
noncomputable def pa5_2042 : Shape := ⟨[.d i64, .ptr 0, .own i64, .own i64, .d i64], [.box [.d (.slice T_Event), .d (.slice i64)]]⟩
noncomputable def pw5_2042 : List Vm.Way := [⟨.exit 4, [10, 11], ⟨[.own i64, .own i64], [.box [.d (.slice T_Event), .d (.slice i64)]]⟩⟩]
abbrev R5_2042 : Type := (((List Int) × (List Int) × Unit) × (((List D_Event) × (List Int) × Unit) × Unit))
abbrev T5_2042 : Type := Int → (List Int) → (List Int) → Int → (List D_Event) → (List Int) → Option R5_2042
noncomputable def u5_2042 (f : T5_2042) : (pa5_2042).C → Option (WayC pw5_2042) := fun (x : ((Int × Unit × (List Int) × (List Int) × Int × Unit) × (((List D_Event) × (List Int) × Unit) × Unit))) => f x.1.1 x.1.2.2.1 x.1.2.2.2.1 x.1.2.2.2.2.1 x.2.1.1 x.2.1.2.1
noncomputable def b5_2042 (k : Nat) (rec : T5_2042) : T5_2042 := fun e_1 p10 q11 i12 o0_0 o0_1 =>
  cond (decide (i12 < (o0_0.length : Int)))
    (cond (decide (e_1 ≥ 0))
      (cond (decide (e_1 < (o0_0.length : Int)))
        ((f16 k (o0_0, o0_1, ()) e_1 i12).bind fun y1 =>
        cond y1.1.1
          (gd (decide ((p10.length + 1) * 8 ≤ room)) <|
          (f17 k (o0_0, o0_1, ()) e_1 i12).bind fun y2 =>
          cond y2.1.1
            (gd (decide ((q11.length + 1) * 8 ≤ room)) <|
            (rec e_1 (p10 ++ ([i12] : List Int)) (q11 ++ ([i12] : List Int)) (w64 (i12 + 1)) o0_0 o0_1).bind fun y3 =>
            some ((y3.1.1, y3.1.2.1, ()), ((y3.2.1.1, y3.2.1.2.1, ()), ())))
            ((rec e_1 (p10 ++ ([i12] : List Int)) q11 (w64 (i12 + 1)) o0_0 o0_1).bind fun y4 =>
            some ((y4.1.1, y4.1.2.1, ()), ((y4.2.1.1, y4.2.1.2.1, ()), ()))))
          ((f17 k (o0_0, o0_1, ()) e_1 i12).bind fun y5 =>
          cond y5.1.1
            (gd (decide ((q11.length + 1) * 8 ≤ room)) <|
            (rec e_1 p10 (q11 ++ ([i12] : List Int)) (w64 (i12 + 1)) o0_0 o0_1).bind fun y6 =>
            some ((y6.1.1, y6.1.2.1, ()), ((y6.2.1.1, y6.2.1.2.1, ()), ())))
            ((rec e_1 p10 q11 (w64 (i12 + 1)) o0_0 o0_1).bind fun y7 =>
            some ((y7.1.1, y7.1.2.1, ()), ((y7.2.1.1, y7.2.1.2.1, ()), ())))))
        (some ((p10, q11, ()), ((o0_0, o0_1, ()), ()))))
      (some ((p10, q11, ()), ((o0_0, o0_1, ()), ()))))
    (some ((p10, q11, ()), ((o0_0, o0_1, ()), ())))
noncomputable def l5_2042 (k : Nat) : Nat → T5_2042
  | 0 => fun _ _ _ _ _ _ => none
  | j + 1 => b5_2042 k (l5_2042 k j)
noncomputable def pa5_250 : Shape := ⟨[.ptr 0, .d (.slice (.slice .bool)), .d i64], [.box [.d (.slice T_Event), .d (.slice i64)]]⟩
noncomputable def pw5_250 : List Vm.Way := [⟨.exit 0, [], ⟨[], [.box [.d (.slice T_Event), .d (.slice i64)]]⟩⟩, ⟨.ret, [4], ⟨[.d .bool], [.box [.d (.slice T_Event), .d (.slice i64)]]⟩⟩]
abbrev R5_250 : Type := ((Unit × (((List D_Event) × (List Int) × Unit) × Unit)) ⊕ ((Bool × Unit) × (((List D_Event) × (List Int) × Unit) × Unit)))
abbrev T5_250 : Type := (List (List Bool)) → Int → (List D_Event) → (List Int) → Option R5_250
noncomputable def u5_250 (f : T5_250) : (pa5_250).C → Option (WayC pw5_250) := fun (x : ((Unit × (List (List Bool)) × Int × Unit) × (((List D_Event) × (List Int) × Unit) × Unit))) => f x.1.2.1 x.1.2.2.1 x.2.1.1 x.2.1.2.1
noncomputable def b5_250 (k : Nat) (rec : T5_250) : T5_250 := fun a5 i6 o0_0 o0_1 =>
  cond (decide (i6 < (a5.length : Int)))
    (ix a5 i6 fun e1 =>
    cond ((e1.length : Int) != (a5.length : Int))
      (some (.inr ((false, ()), ((o0_0, o0_1, ()), ()))))
      ((l5_32038 k k a5 i6 0 o0_0 o0_1).bind fun y2 =>
      match y2 with
      | .inl y2_0 =>
        (rec a5 (w64 (i6 + 1)) y2_0.2.1.1 y2_0.2.1.2.1).bind fun y3 =>
        match y3 with
        | .inl y3_0 =>
          some (.inl ((), ((y3_0.2.1.1, y3_0.2.1.2.1, ()), ())))
        | .inr y3_1 =>
          some (.inr ((y3_1.1.1, ()), ((y3_1.2.1.1, y3_1.2.1.2.1, ()), ())))
      | .inr y2_1 =>
        some (.inr ((y2_1.1.1, ()), ((y2_1.2.1.1, y2_1.2.1.2.1, ()), ())))))
    (some (.inl ((), ((o0_0, o0_1, ()), ()))))
noncomputable def l5_250 (k : Nat) : Nat → T5_250
  | 0 => fun _ _ _ _ => none
  | j + 1 => b5_250 k (l5_250 k j)
noncomputable def f5 (k : Nat) : T5 := fun s0 e_1 =>
  cond (decide ((s0.1.length : Int) > 60))
    ((f7 k ()).bind fun y1 =>
    some ((y1.1.1, ()), ()))
    (cond (decide ((s0.2.1.length : Int) > 60))
      ((f7 k ()).bind fun y2 =>
      some ((y2.1.1, ()), ()))
      ((f6 k s0).bind fun y3 =>
      cond (!y3.1.1)
        ((f7 k ()).bind fun y4 =>
        some ((y4.1.1, ()), ()))
        ((f8 k s0).bind fun y5 =>
        cond ((y5.1.1.length : Int) != (s0.1.length : Int))
          (some ((false, ()), ()))
          ((l5_250 k k y5.1.1 0 s0.1 s0.2.1).bind fun y6 =>
          match y6 with
          | .inl y6_0 =>
            (f14 k (y6_0.2.1.1, y6_0.2.1.2.1, ()) e_1).bind fun y7 =>
            (f10 k (y6_0.2.1.1, y6_0.2.1.2.1, ()) e_1).bind fun y8 =>
            (l5_2042 k k e_1 [] [] 0 y6_0.2.1.1 y6_0.2.1.2.1).bind fun y9 =>
            (f18 k y7.1.1 y9.1.1).bind fun y10 =>
            cond y10.1.1
              ((f18 k y8.1.1 y9.1.2.1).bind fun y11 =>
              cond y11.1.1
                ((f7 k ()).bind fun y12 =>
                some ((y12.1.1, ()), ()))
                (some ((false, ()), ())))
              (some ((false, ()), ()))
          | .inr y6_1 =>
            some ((y6_1.1.1, ()), ())))))
noncomputable def C5 (k : Nat) : Nat → Fun := mkC [(6, (F6 (f6 k))), (7, (F7 (f7 k))), (8, (F8 (f8 k))), (10, (F10 (f10 k))), (14, (F14 (f14 k))), (15, (F15 (f15 k))), (16, (F16 (f16 k))), (17, (F17 (f17 k))), (18, (F18 (f18 k)))]
theorem c5_ok (k : Nat) : ∀ f, SoundFn Try.prog f (C5 k f) := (mkC_cons (s6 k) (mkC_cons (s7 k) (mkC_cons (s8 k) (mkC_cons (s10 k) (mkC_cons (s14 k) (mkC_cons (s15 k) (mkC_cons (s16 k) (mkC_cons (s17 k) (mkC_cons (s18 k) mkC_nil)))))))))
noncomputable def H5_32038 (k : Nat) : Nat → Option Cut := addH noH 32038 ⟨runCut (wrC (bodyOf (codeAt 32038 (bd Try.f5) 32038))) 122 [2, 5, 6, 7] pa5_32038 pw5_32038 (u5_32038 (l5_32038 k k))⟩
theorem e5_32038 (k : Nat) (rec : T5_32038) (x : (pa5_32038).C) : roundF (C5 k) tt noH (bodyOf (codeAt 32038 (bd Try.f5) 32038)) 64076 122 [2, 5, 6, 7] pa5_32038 pw5_32038 (u5_32038 rec) x = u5_32038 (b5_32038 k rec) x := by kernel_rfl
theorem h5_32038_ok (k : Nat) : ∀ p S, H5_32038 k p = some S → ∀ c, At (bd Try.f5) p c → CutOk Try.prog c S :=
  have hC := c5_ok k
  addLoop hC ttOk (draw_ok hC ttOk mixed) noH_ok (by kernel_rfl) (F := fun j => u5_32038 (l5_32038 k j)) (fun _ => rfl) (fun j x _ h => (e5_32038 k (l5_32038 k j) x).trans h) k
noncomputable def H5_2042 (k : Nat) : Nat → Option Cut := addH (H5_32038 k) 2042 ⟨runCut (wrC (bodyOf (codeAt 2042 (bd Try.f5) 2042))) 122 [1, 2, 10, 11, 12] pa5_2042 pw5_2042 (u5_2042 (l5_2042 k k))⟩
theorem e5_2042 (k : Nat) (rec : T5_2042) (x : (pa5_2042).C) : roundF (C5 k) tt (H5_32038 k) (bodyOf (codeAt 2042 (bd Try.f5) 2042)) 4084 122 [1, 2, 10, 11, 12] pa5_2042 pw5_2042 (u5_2042 rec) x = u5_2042 (b5_2042 k rec) x := by kernel_rfl
theorem h5_2042_ok (k : Nat) : ∀ p S, H5_2042 k p = some S → ∀ c, At (bd Try.f5) p c → CutOk Try.prog c S :=
  have hC := c5_ok k
  addLoop hC ttOk (draw_ok hC ttOk mixed) (h5_32038_ok k) (by kernel_rfl) (F := fun j => u5_2042 (l5_2042 k j)) (fun _ => rfl) (fun j x _ h => (e5_2042 k (l5_2042 k j) x).trans h) k
noncomputable def H5_250 (k : Nat) : Nat → Option Cut := addH (H5_2042 k) 250 ⟨runCut (wrC (bodyOf (codeAt 250 (bd Try.f5) 250))) 122 [2, 5, 6] pa5_250 pw5_250 (u5_250 (l5_250 k k))⟩
theorem e5_250 (k : Nat) (rec : T5_250) (x : (pa5_250).C) : roundF (C5 k) tt (H5_2042 k) (bodyOf (codeAt 250 (bd Try.f5) 250)) 500 122 [2, 5, 6] pa5_250 pw5_250 (u5_250 rec) x = u5_250 (b5_250 k rec) x := by kernel_rfl
theorem h5_250_ok (k : Nat) : ∀ p S, H5_250 k p = some S → ∀ c, At (bd Try.f5) p c → CutOk Try.prog c S :=
  have hC := c5_ok k
  addLoop hC ttOk (draw_ok hC ttOk mixed) (h5_2042_ok k) (by kernel_rfl) (F := fun j => u5_250 (l5_250 k j)) (fun _ => rfl) (fun j x _ h => (e5_250 k (l5_250 k j) x).trans h) k
theorem e5 (k : Nat) (x : (a5).C) : bodyR (C5 k) tt (H5_250 k) Try.f5 a5 o5 x = u5 (f5 k) x := by kernel_rfl
theorem s5 (k : Nat) : SoundFn Try.prog 5 (F5 (f5 k)) :=
  have hC := c5_ok k
  fnR_sound hC ttOk (draw_ok hC ttOk mixed) Try.func5 (c0 := bd Try.f5) rfl (entry Try.func5 rfl (by decide)) (h5_250_ok k) rfl (fun x _ h => (e5 k x).trans h)
end Go.Proofs.Ytnkjnbfaechiaaa.M
