/-
PRINTED BY vmp.py: the functions of a law, each as a Lean function, and that it is what the code computes.
-/
import Derived.Test.YtnkjnbfaechiaaaVm42
import Derived.Test.YtnkjnbfaechiaaaProg
import Derived.Test.YtnkjnbfaechiaaaChecked
import Derived.KernelRfl
set_option linter.unusedVariables false
set_option maxRecDepth 100000
namespace Go.Proofs.Ytnkjnbfaechiaaa.B
open Go Go.Proofs Go.Proofs.Ytnkjnbfaechiaaa.Vm
abbrev T_errorAddressString : Ty := (.pair .str (.pair (.int .u64) .unit))
abbrev D_errorAddressString : Type := (ByteArray × Int × Unit)
abbrev T_boundsError : Ty := (.pair i64 (.pair i64 (.pair .bool (.pair (.int .u8) .unit))))
abbrev D_boundsError : Type := (Int × Int × Bool × Int × Unit)
abbrev T_Event : Ty := (.pair i64 (.pair i64 (.pair i64 (.pair i64 .unit))))
abbrev D_Event : Type := (Int × Int × Int × Int × Unit)
abbrev T_Shape : Ty := (.pair (.slice T_Event) (.pair (.slice i64) .unit))
abbrev D_Shape : Type := ((List D_Event) × (List Int) × Unit)
def tl : List (Nat × TI) := [(3, .dat i64 0), (4, .dat .bool 0), (22, .dat (.slice T_Event) 32), (23, .dat (.slice i64) 8), (25, .dat T_Shape 0), (28, .dat (.slice (.slice .bool)) 24), (33, .dat (.slice .bool) 1), (38, .dat T_Event 0)]
def tt := mkT tl
theorem ttOk : TtOk Try.prog tt := mkT_ok (by kernel_rfl)
theorem mixed : Try.prog.follows .mixedOrders = true := by kernel_rfl
/-! f25 slices.Equal[[]int,int] (R) -/
noncomputable def a25 : Shape := ⟨[.d (.slice i64), .d (.slice i64)], []⟩
noncomputable def o25 : List Shape := [⟨[.d .bool], []⟩]
abbrev R25 : Type := ((Bool × Unit) × Unit)
abbrev T25 : Type := (List Int) → (List Int) → Option R25
noncomputable def u25 (f : T25) : (a25).C → Option (OutC o25) := fun (x : (((List Int) × (List Int) × Unit) × Unit)) => f x.1.1 x.1.2.1
noncomputable def F25 (f : T25) : Fun := ⟨true, runR a25 o25 (u25 f)⟩
noncomputable def pa25_58 : Shape := ⟨[.d (.slice i64), .d (.slice i64), .d i64, .d i64], []⟩
noncomputable def pw25_58 : List Vm.Way := [⟨.exit 0, [], ⟨[], []⟩⟩, ⟨.ret, [4], ⟨[.d .bool], []⟩⟩]
abbrev R25_58 : Type := ((Unit × Unit) ⊕ ((Bool × Unit) × Unit))
abbrev T25_58 : Type := (List Int) → (List Int) → Int → Int → Option R25_58
noncomputable def u25_58 (f : T25_58) : (pa25_58).C → Option (WayC pw25_58) := fun (x : (((List Int) × (List Int) × Int × Int × Unit) × Unit)) => f x.1.1 x.1.2.1 x.1.2.2.1 x.1.2.2.2.1
noncomputable def b25_58 (k : Nat) (rec : T25_58) : T25_58 := fun s10 s21 t12 t13 =>
  cond (decide (t13 < t12))
    (ix s10 t13 fun e1 =>
    ix s21 t13 fun e2 =>
    cond (e1 != e2)
      (some (.inr ((false, ()), ())))
      ((rec s10 s21 t12 (w64 (t13 + 1))).bind fun y3 =>
      match y3 with
      | .inl y3_0 =>
        some (.inl ((), ()))
      | .inr y3_1 =>
        some (.inr ((y3_1.1.1, ()), ()))))
    (some (.inl ((), ())))
noncomputable def l25_58 (k : Nat) : Nat → T25_58
  | 0 => fun _ _ _ _ => none
  | j + 1 => b25_58 k (l25_58 k j)
noncomputable def f25 (k : Nat) : T25 := fun s10 s21 =>
  cond ((s10.length : Int) != (s21.length : Int))
    (some ((false, ()), ()))
    ((l25_58 k k s10 s21 (s10.length : Int) 0).bind fun y1 =>
    match y1 with
    | .inl y1_0 =>
      some ((true, ()), ())
    | .inr y1_1 =>
      some ((y1_1.1.1, ()), ()))
noncomputable def C25 (k : Nat) : Nat → Fun := mkC []
theorem c25_ok (k : Nat) : ∀ f, SoundFn Try.prog f (C25 k f) := mkC_nil
noncomputable def H25_58 (k : Nat) : Nat → Option Cut := addH noH 58 ⟨runCut (wrC (bodyOf (codeAt 58 (bd Try.f25) 58))) 26 [0, 1, 12, 13] pa25_58 pw25_58 (u25_58 (l25_58 k k))⟩
theorem e25_58 (k : Nat) (rec : T25_58) (x : (pa25_58).C) : roundF (C25 k) tt noH (bodyOf (codeAt 58 (bd Try.f25) 58)) 116 26 [0, 1, 12, 13] pa25_58 pw25_58 (u25_58 rec) x = u25_58 (b25_58 k rec) x := by kernel_rfl
theorem h25_58_ok (k : Nat) : ∀ p S, H25_58 k p = some S → ∀ c, At (bd Try.f25) p c → CutOk Try.prog c S :=
  have hC := c25_ok k
  addLoop hC ttOk (draw_ok hC ttOk mixed) noH_ok (by kernel_rfl) (F := fun j => u25_58 (l25_58 k j)) (fun _ => rfl) (fun j x _ h => (e25_58 k (l25_58 k j) x).trans h) k
theorem e25 (k : Nat) (x : (a25).C) : bodyR (C25 k) tt (H25_58 k) Try.f25 a25 o25 x = u25 (f25 k) x := by kernel_rfl
theorem s25 (k : Nat) : SoundFn Try.prog 25 (F25 (f25 k)) :=
  have hC := c25_ok k
  fnR_sound hC ttOk (draw_ok hC ttOk mixed) Try.func25 (c0 := bd Try.f25) rfl (entry Try.func25 rfl (by decide)) (h25_58_ok k) rfl (fun x _ h => (e25 k x).trans h)
/-! f24 fathom/shape.object (R) -/
noncomputable def a24 : Shape := ⟨[.d T_Shape, .d T_Event], []⟩
noncomputable def o24 : List Shape := [⟨[.d .bool], []⟩]
abbrev R24 : Type := ((Bool × Unit) × Unit)
abbrev T24 : Type := D_Shape → D_Event → Option R24
noncomputable def u24 (f : T24) : (a24).C → Option (OutC o24) := fun (x : ((D_Shape × D_Event × Unit) × Unit)) => f x.1.1 x.1.2.1
noncomputable def F24 (f : T24) : Fun := ⟨true, runR a24 o24 (u24 f)⟩
noncomputable def f24 (k : Nat) : T24 := fun s0 e1 =>
  cond (e1.2.2.1 == 11)
    (cond (decide (e1.2.2.2.1 > e1.1))
      (some (((decide (e1.2.2.2.1 < (s0.2.1.length : Int))), ()), ()))
      (some ((false, ()), ())))
    (cond (decide (e1.2.2.2.1 ≥ 0))
      (some (((decide (e1.2.2.2.1 < 12)), ()), ()))
      (some ((false, ()), ())))
noncomputable def C24 (k : Nat) : Nat → Fun := mkC []
theorem c24_ok (k : Nat) : ∀ f, SoundFn Try.prog f (C24 k f) := mkC_nil
theorem e24 (k : Nat) (x : (a24).C) : bodyR (C24 k) tt noH Try.f24 a24 o24 x = u24 (f24 k) x := by kernel_rfl
theorem s24 (k : Nat) : SoundFn Try.prog 24 (F24 (f24 k)) :=
  have hC := c24_ok k
  fnR_sound hC ttOk (draw_ok hC ttOk mixed) Try.func24 (c0 := bd Try.f24) rfl (entry Try.func24 rfl (by decide)) noH_ok rfl (fun x _ h => (e24 k x).trans h)
/-! f13 fathom/shape.Check (R) -/
noncomputable def a13 : Shape := ⟨[.d T_Shape], []⟩
noncomputable def o13 : List Shape := [⟨[.d i64], []⟩]
abbrev R13 : Type := ((Int × Unit) × Unit)
abbrev T13 : Type := D_Shape → Option R13
noncomputable def u13 (f : T13) : (a13).C → Option (OutC o13) := fun (x : ((D_Shape × Unit) × Unit)) => f x.1.1
noncomputable def F13 (f : T13) : Fun := ⟨true, runR a13 o13 (u13 f)⟩
noncomputable def pa13_518556 : Shape := ⟨[.ptr 0], [.box [.d i64, .d i64, .d i64, .d i64]]⟩
noncomputable def pw13_518556 : List Vm.Way := [⟨.normal, [94], ⟨[.d .bool], [.box [.d i64, .d i64, .d i64, .d i64]]⟩⟩]
abbrev R13_518556 : Type := ((Bool × Unit) × ((Int × Int × Int × Int × Unit) × Unit))
abbrev T13_518556 : Type := Int → Int → Int → Int → Option R13_518556
noncomputable def u13_518556 (f : T13_518556) : (pa13_518556).C → Option (WayC pw13_518556) := fun (x : ((Unit × Unit) × ((Int × Int × Int × Int × Unit) × Unit))) => f x.2.1.1 x.2.1.2.1 x.2.1.2.2.1 x.2.1.2.2.2.1
noncomputable def l13_518556 (k : Nat) : T13_518556 := fun o0_0 o0_1 o0_2 o0_3 =>
  some (((o0_2 == 11), ()), ((o0_0, o0_1, o0_2, o0_3, ()), ()))
noncomputable def pa13_259276 : Shape := ⟨[.ptr 0, .ptr 1], [.box [.d i64, .d i64, .d i64, .d i64], .box [.d i64, .d i64, .d i64, .d i64]]⟩
noncomputable def pw13_259276 : List Vm.Way := [⟨.normal, [91], ⟨[.d .bool], [.box [.d i64, .d i64, .d i64, .d i64], .box [.d i64, .d i64, .d i64, .d i64]]⟩⟩]
abbrev R13_259276 : Type := ((Bool × Unit) × ((Int × Int × Int × Int × Unit) × (Int × Int × Int × Int × Unit) × Unit))
abbrev T13_259276 : Type := Int → Int → Int → Int → Int → Int → Int → Int → Option R13_259276
noncomputable def u13_259276 (f : T13_259276) : (pa13_259276).C → Option (WayC pw13_259276) := fun (x : ((Unit × Unit × Unit) × ((Int × Int × Int × Int × Unit) × (Int × Int × Int × Int × Unit) × Unit))) => f x.2.1.1 x.2.1.2.1 x.2.1.2.2.1 x.2.1.2.2.2.1 x.2.2.1.1 x.2.2.1.2.1 x.2.2.1.2.2.1 x.2.2.1.2.2.2.1
noncomputable def l13_259276 (k : Nat) : T13_259276 := fun o0_0 o0_1 o0_2 o0_3 o1_0 o1_1 o1_2 o1_3 =>
  cond (decide (o1_1 < 0))
    (some ((true, ()), ((o0_0, o0_1, o0_2, o0_3, ()), (o1_0, o1_1, o1_2, o1_3, ()), ())))
    (cond (o1_0 == o0_0)
      (some (((decide (o1_1 ≤ o0_1)), ()), ((o0_0, o0_1, o0_2, o0_3, ()), (o1_0, o1_1, o1_2, o1_3, ()), ())))
      (some ((false, ()), ((o0_0, o0_1, o0_2, o0_3, ()), (o1_0, o1_1, o1_2, o1_3, ()), ()))))
noncomputable def pa13_506 : Shape := ⟨[.ptr 0, .msl 1 i64, .ptr 2, .d (.slice T_Event), .d i64, .d i64], [.box [.d (.slice T_Event), .d (.slice i64)], .arr none i64, .box [.d i64, .d i64, .d i64, .d i64]]⟩
noncomputable def pw13_506 : List Vm.Way := [⟨.exit 2, [], ⟨[], [.box [.d (.slice T_Event), .d (.slice i64)], .arr none i64, .box [.d i64, .d i64, .d i64, .d i64]]⟩⟩, ⟨.ret, [2], ⟨[.d i64], [.box [.d (.slice T_Event), .d (.slice i64)], .arr none i64, .box [.d i64, .d i64, .d i64, .d i64]]⟩⟩]
abbrev R13_506 : Type := ((Unit × (((List D_Event) × (List Int) × Unit) × (List Int) × (Int × Int × Int × Int × Unit) × Unit)) ⊕ ((Int × Unit) × (((List D_Event) × (List Int) × Unit) × (List Int) × (Int × Int × Int × Int × Unit) × Unit)))
abbrev T13_506 : Type := Nat → (List D_Event) → Int → Int → (List D_Event) → (List Int) → (List Int) → Int → Int → Int → Int → Option R13_506
noncomputable def u13_506 (f : T13_506) : (pa13_506).C → Option (WayC pw13_506) := fun (x : ((Unit × Nat × Unit × (List D_Event) × Int × Int × Unit) × (((List D_Event) × (List Int) × Unit) × (List Int) × (Int × Int × Int × Int × Unit) × Unit))) => f x.1.2.1 x.1.2.2.2.1 x.1.2.2.2.2.1 x.1.2.2.2.2.2.1 x.2.1.1 x.2.1.2.1 x.2.2.1 x.2.2.2.1.1 x.2.2.2.1.2.1 x.2.2.2.1.2.2.1 x.2.2.2.1.2.2.2.1
noncomputable def b13_506 (k : Nat) (rec : T13_506) : T13_506 := fun starts3 t39 t40 t41 o0_0 o0_1 o1 o2_0 o2_1 o2_2 o2_3 =>
  cond (decide (t41 < t40))
    (ix t39 t41 fun e1 =>
    cond (decide (e1.1 < o2_0))
      (some (.inr ((1, ()), ((o0_0, o0_1, ()), o1, (o2_0, o2_1, o2_2, o2_3, ()), ()))))
      (cond (decide (e1.1 ≥ (o0_1.length : Int)))
        (some (.inr ((1, ()), ((o0_0, o0_1, ()), o1, (o2_0, o2_1, o2_2, o2_3, ()), ()))))
        (cond (decide (e1.2.2.1 < 1))
          (some (.inr ((1, ()), ((o0_0, o0_1, ()), o1, (o2_0, o2_1, o2_2, o2_3, ()), ()))))
          (cond (decide (e1.2.2.1 > 11))
            (some (.inr ((1, ()), ((o0_0, o0_1, ()), o1, (o2_0, o2_1, o2_2, o2_3, ()), ()))))
            ((f24 k (o0_0, o0_1, ()) e1).bind fun y2 =>
            cond (!y2.1.1)
              (some (.inr ((1, ()), ((o0_0, o0_1, ()), o1, (o2_0, o2_1, o2_2, o2_3, ()), ()))))
              ((l13_259276 k o2_0 o2_1 o2_2 o2_3 e1.1 e1.2.1 e1.2.2.1 e1.2.2.2.1).bind fun y3 =>
              cond y3.1.1
                (some (.inr ((1, ()), ((o0_0, o0_1, ()), o1, (y3.2.1.1, y3.2.1.2.1, y3.2.1.2.2.1, y3.2.1.2.2.2.1, ()), ()))))
                ((l13_518556 k y3.2.2.1.1 y3.2.2.1.2.1 y3.2.2.1.2.2.1 y3.2.2.1.2.2.2.1).bind fun y4 =>
                cond y4.1.1
                  (gd (decide (0 ≤ y4.2.1.2.2.2.1)) <|
                  gd (decide (y4.2.1.2.2.2.1.toNat < starts3)) <|
                  (o1[(0 + y4.2.1.2.2.2.1.toNat)]?).bind fun e5 =>
                  cond (decide (e5 ≥ 0))
                    (some (.inr ((1, ()), ((o0_0, o0_1, ()), o1, (y3.2.1.1, y3.2.1.2.1, y3.2.1.2.2.1, y3.2.1.2.2.2.1, ()), ()))))
                    (gd (decide (0 ≤ y4.2.1.2.2.2.1)) <|
                    gd (decide (y4.2.1.2.2.2.1.toNat < starts3)) <|
                    gd (decide ((0 + y4.2.1.2.2.2.1.toNat) < o1.length)) <|
                    (rec starts3 t39 t40 (w64 (t41 + 1)) o0_0 o0_1 (o1.set (0 + y4.2.1.2.2.2.1.toNat) t41) y4.2.1.1 y4.2.1.2.1 y4.2.1.2.2.1 y4.2.1.2.2.2.1).bind fun y6 =>
                    match y6 with
                    | .inl y6_0 =>
                      some (.inl ((), ((y6_0.2.1.1, y6_0.2.1.2.1, ()), y6_0.2.2.1, (y6_0.2.2.2.1.1, y6_0.2.2.2.1.2.1, y6_0.2.2.2.1.2.2.1, y6_0.2.2.2.1.2.2.2.1, ()), ())))
                    | .inr y6_1 =>
                      some (.inr ((y6_1.1.1, ()), ((y6_1.2.1.1, y6_1.2.1.2.1, ()), y6_1.2.2.1, (y6_1.2.2.2.1.1, y6_1.2.2.2.1.2.1, y6_1.2.2.2.1.2.2.1, y6_1.2.2.2.1.2.2.2.1, ()), ())))))
                  ((rec starts3 t39 t40 (w64 (t41 + 1)) o0_0 o0_1 o1 y4.2.1.1 y4.2.1.2.1 y4.2.1.2.2.1 y4.2.1.2.2.2.1).bind fun y7 =>
                  match y7 with
                  | .inl y7_0 =>
                    some (.inl ((), ((y7_0.2.1.1, y7_0.2.1.2.1, ()), y7_0.2.2.1, (y7_0.2.2.2.1.1, y7_0.2.2.2.1.2.1, y7_0.2.2.2.1.2.2.1, y7_0.2.2.2.1.2.2.2.1, ()), ())))
                  | .inr y7_1 =>
                    some (.inr ((y7_1.1.1, ()), ((y7_1.2.1.1, y7_1.2.1.2.1, ()), y7_1.2.2.1, (y7_1.2.2.2.1.1, y7_1.2.2.2.1.2.1, y7_1.2.2.2.1.2.2.1, y7_1.2.2.2.1.2.2.2.1, ()), ())))))))))))
    (some (.inl ((), ((o0_0, o0_1, ()), o1, (o2_0, o2_1, o2_2, o2_3, ()), ()))))
noncomputable def l13_506 (k : Nat) : Nat → T13_506
  | 0 => fun _ _ _ _ _ _ _ _ _ _ _ => none
  | j + 1 => b13_506 k (l13_506 k j)
noncomputable def pa13_122 : Shape := ⟨[.msl 0 i64, .d i64, .d i64], [.arr none i64]⟩
noncomputable def pw13_122 : List Vm.Way := [⟨.exit 0, [], ⟨[], [.arr none i64]⟩⟩]
abbrev R13_122 : Type := (Unit × ((List Int) × Unit))
abbrev T13_122 : Type := Nat → Int → Int → (List Int) → Option R13_122
noncomputable def u13_122 (f : T13_122) : (pa13_122).C → Option (WayC pw13_122) := fun (x : ((Nat × Int × Int × Unit) × ((List Int) × Unit))) => f x.1.1 x.1.2.1 x.1.2.2.1 x.2.1
noncomputable def b13_122 (k : Nat) (rec : T13_122) : T13_122 := fun starts3 t29 t30 o0 =>
  cond (decide (t30 < t29))
    (gd (decide (0 ≤ t30)) <|
    gd (decide (t30.toNat < starts3)) <|
    gd (decide ((0 + t30.toNat) < o0.length)) <|
    (rec starts3 t29 (w64 (t30 + 1)) (o0.set (0 + t30.toNat) (-1))).bind fun y1 =>
    some ((), (y1.2.1, ())))
    (some ((), (o0, ())))
noncomputable def l13_122 (k : Nat) : Nat → T13_122
  | 0 => fun _ _ _ _ => none
  | j + 1 => b13_122 k (l13_122 k j)
noncomputable def f13 (k : Nat) : T13 := fun s0 =>
  cond (decide ((s0.1.length : Int) > 40))
    (some ((1, ()), ()))
    (cond (decide ((s0.2.1.length : Int) < 1))
      (some ((1, ()), ()))
      (cond (decide ((s0.2.1.length : Int) > 6))
        (some ((1, ()), ()))
        (gd (decide (0 ≤ (s0.2.1.length : Int))) <|
        gd (decide ((s0.2.1.length : Int) ≤ (s0.2.1.length : Int))) <|
        gd (decide ((s0.2.1.length : Int).toNat * 8 ≤ room)) <|
        (l13_122 k k (s0.2.1.length : Int).toNat ((s0.2.1.length : Int).toNat : Int) 0 (List.replicate (s0.2.1.length : Int).toNat 0)).bind fun y1 =>
        (l13_506 k k (s0.2.1.length : Int).toNat s0.1 (s0.1.length : Int) 0 s0.1 s0.2.1 y1.2.1 0 (-1) 0 0).bind fun y2 =>
        match y2 with
        | .inl y2_0 =>
          gd (decide (0 + (s0.2.1.length : Int).toNat ≤ y2_0.2.2.1.length)) <|
          (f25 k ((y2_0.2.2.1.drop 0).take (s0.2.1.length : Int).toNat) y2_0.2.1.2.1).bind fun y3 =>
          cond (!y3.1.1)
            (some ((1, ()), ()))
            (some ((0, ()), ()))
        | .inr y2_1 =>
          some ((y2_1.1.1, ()), ()))))
noncomputable def C13 (k : Nat) : Nat → Fun := mkC [(24, (F24 (f24 k))), (25, (F25 (f25 k)))]
theorem c13_ok (k : Nat) : ∀ f, SoundFn Try.prog f (C13 k f) := (mkC_cons (s24 k) (mkC_cons (s25 k) mkC_nil))
noncomputable def H13_518556 (k : Nat) : Nat → Option Cut := addH noH 518556 ⟨runCut (wrC (codeAt 518556 (bd Try.f13) 518556)) 113 [7] pa13_518556 pw13_518556 (u13_518556 (l13_518556 k))⟩
theorem e13_518556 (k : Nat) (x : (pa13_518556).C) : pieceF (C13 k) tt noH (codeAt 518556 (bd Try.f13) 518556) 518556 113 [7] pa13_518556 pw13_518556 x = u13_518556 (l13_518556 k) x := by kernel_rfl
theorem h13_518556_ok (k : Nat) : ∀ p S, H13_518556 k p = some S → ∀ c, At (bd Try.f13) p c → CutOk Try.prog c S :=
  have hC := c13_ok k
  addPiece hC ttOk (draw_ok hC ttOk mixed) noH_ok (fun x _ h => (e13_518556 k x).trans h)
noncomputable def H13_259276 (k : Nat) : Nat → Option Cut := addH (H13_518556 k) 259276 ⟨runCut (wrC (codeAt 259276 (bd Try.f13) 259276)) 113 [5, 7] pa13_259276 pw13_259276 (u13_259276 (l13_259276 k))⟩
theorem e13_259276 (k : Nat) (x : (pa13_259276).C) : pieceF (C13 k) tt (H13_518556 k) (codeAt 259276 (bd Try.f13) 259276) 259276 113 [5, 7] pa13_259276 pw13_259276 x = u13_259276 (l13_259276 k) x := by kernel_rfl
theorem h13_259276_ok (k : Nat) : ∀ p S, H13_259276 k p = some S → ∀ c, At (bd Try.f13) p c → CutOk Try.prog c S :=
  have hC := c13_ok k
  addPiece hC ttOk (draw_ok hC ttOk mixed) (h13_518556_ok k) (fun x _ h => (e13_259276 k x).trans h)
noncomputable def H13_506 (k : Nat) : Nat → Option Cut := addH (H13_259276 k) 506 ⟨runCut (wrC (bodyOf (codeAt 506 (bd Try.f13) 506))) 113 [1, 3, 5, 39, 40, 41] pa13_506 pw13_506 (u13_506 (l13_506 k k))⟩
theorem e13_506 (k : Nat) (rec : T13_506) (x : (pa13_506).C) : roundF (C13 k) tt (H13_259276 k) (bodyOf (codeAt 506 (bd Try.f13) 506)) 1012 113 [1, 3, 5, 39, 40, 41] pa13_506 pw13_506 (u13_506 rec) x = u13_506 (b13_506 k rec) x := by kernel_rfl
theorem h13_506_ok (k : Nat) : ∀ p S, H13_506 k p = some S → ∀ c, At (bd Try.f13) p c → CutOk Try.prog c S :=
  have hC := c13_ok k
  addLoop hC ttOk (draw_ok hC ttOk mixed) (h13_259276_ok k) (by kernel_rfl) (F := fun j => u13_506 (l13_506 k j)) (fun _ => rfl) (fun j x _ h => (e13_506 k (l13_506 k j) x).trans h) k
noncomputable def H13_122 (k : Nat) : Nat → Option Cut := addH (H13_506 k) 122 ⟨runCut (wrC (bodyOf (codeAt 122 (bd Try.f13) 122))) 113 [3, 29, 30] pa13_122 pw13_122 (u13_122 (l13_122 k k))⟩
theorem e13_122 (k : Nat) (rec : T13_122) (x : (pa13_122).C) : roundF (C13 k) tt (H13_506 k) (bodyOf (codeAt 122 (bd Try.f13) 122)) 244 113 [3, 29, 30] pa13_122 pw13_122 (u13_122 rec) x = u13_122 (b13_122 k rec) x := by kernel_rfl
theorem h13_122_ok (k : Nat) : ∀ p S, H13_122 k p = some S → ∀ c, At (bd Try.f13) p c → CutOk Try.prog c S :=
  have hC := c13_ok k
  addLoop hC ttOk (draw_ok hC ttOk mixed) (h13_506_ok k) (by kernel_rfl) (F := fun j => u13_122 (l13_122 k j)) (fun _ => rfl) (fun j x _ h => (e13_122 k (l13_122 k j) x).trans h) k
theorem e13 (k : Nat) (x : (a13).C) : bodyR (C13 k) tt (H13_122 k) Try.f13 a13 o13 x = u13 (f13 k) x := by kernel_rfl
theorem s13 (k : Nat) : SoundFn Try.prog 13 (F13 (f13 k)) :=
  have hC := c13_ok k
  fnR_sound hC ttOk (draw_ok hC ttOk mixed) Try.func13 (c0 := bd Try.f13) rfl (entry Try.func13 rfl (by decide)) (h13_122_ok k) rfl (fun x _ h => (e13 k x).trans h)
/-! f31 fathom/rank.squared$1 (R) -/
noncomputable def a31 : Shape := ⟨[.d (.slice .bool), .ptr 0], [.box [.d (.slice (.slice .bool))]]⟩
noncomputable def o31 : List Shape := [⟨[.d .bool], []⟩]
abbrev R31 : Type := ((Bool × Unit) × Unit)
abbrev T31 : Type := (List Bool) → (List (List Bool)) → Option R31
noncomputable def u31 (f : T31) : (a31).C → Option (OutC o31) := fun (x : (((List Bool) × Unit × Unit) × (((List (List Bool)) × Unit) × Unit))) => f x.1.1 x.2.1.1
noncomputable def F31 (f : T31) : Fun := ⟨true, runR a31 o31 (u31 f)⟩
noncomputable def f31 (k : Nat) : T31 := fun r0 o0 =>
  some ((((r0.length : Int) != (o0.length : Int)), ()), ())
noncomputable def C31 (k : Nat) : Nat → Fun := mkC []
theorem c31_ok (k : Nat) : ∀ f, SoundFn Try.prog f (C31 k f) := mkC_nil
theorem e31 (k : Nat) (x : (a31).C) : bodyR (C31 k) tt noH Try.f31 a31 o31 x = u31 (f31 k) x := by kernel_rfl
theorem s31 (k : Nat) : SoundFn Try.prog 31 (F31 (f31 k)) :=
  have hC := c31_ok k
  fnR_sound hC ttOk (draw_ok hC ttOk mixed) Try.func31 (c0 := bd Try.f31) rfl (entry Try.func31 rfl (by decide)) noH_ok rfl (fun x _ h => (e31 k x).trans h)
/-! f32 slices.IndexFunc[[][]bool,[]bool] (R) -/
noncomputable def a32 : Shape := ⟨[.d (.slice (.slice .bool)), .fn 31 [0]], [.box [.d (.slice (.slice .bool))]]⟩
noncomputable def o32 : List Shape := [⟨[.d i64], []⟩]
abbrev R32 : Type := ((Int × Unit) × Unit)
abbrev T32 : Type := (List (List Bool)) → (List (List Bool)) → Option R32
noncomputable def u32 (f : T32) : (a32).C → Option (OutC o32) := fun (x : (((List (List Bool)) × Unit × Unit) × (((List (List Bool)) × Unit) × Unit))) => f x.1.1 x.2.1.1
noncomputable def F32 (f : T32) : Fun := ⟨true, runR a32 o32 (u32 f)⟩
noncomputable def pa32_26 : Shape := ⟨[.d (.slice (.slice .bool)), .fn 31 [0], .d i64, .d i64], [.lk (.box [.d (.slice (.slice .bool))])]⟩
noncomputable def pw32_26 : List Vm.Way := [⟨.exit 0, [], ⟨[], [.any]⟩⟩, ⟨.ret, [4], ⟨[.d i64], [.any]⟩⟩]
abbrev R32_26 : Type := ((Unit × (Unit × Unit)) ⊕ ((Int × Unit) × (Unit × Unit)))
abbrev T32_26 : Type := (List (List Bool)) → Int → Int → (List (List Bool)) → Option R32_26
noncomputable def u32_26 (f : T32_26) : (pa32_26).C → Option (WayC pw32_26) := fun (x : (((List (List Bool)) × Unit × Int × Int × Unit) × (((List (List Bool)) × Unit) × Unit))) => f x.1.1 x.1.2.2.1 x.1.2.2.2.1 x.2.1.1
noncomputable def b32_26 (k : Nat) (rec : T32_26) : T32_26 := fun s0 t7 t8 o0 =>
  cond (decide (t8 < t7))
    (ix s0 t8 fun e1 =>
    (f31 k e1 o0).bind fun y2 =>
    cond y2.1.1
      (some (.inr ((t8, ()), ((), ()))))
      ((rec s0 t7 (w64 (t8 + 1)) o0).bind fun y3 =>
      match y3 with
      | .inl y3_0 =>
        some (.inl ((), ((), ())))
      | .inr y3_1 =>
        some (.inr ((y3_1.1.1, ()), ((), ())))))
    (some (.inl ((), ((), ()))))
noncomputable def l32_26 (k : Nat) : Nat → T32_26
  | 0 => fun _ _ _ _ => none
  | j + 1 => b32_26 k (l32_26 k j)
noncomputable def f32 (k : Nat) : T32 := fun s0 o0 =>
  (l32_26 k k s0 (s0.length : Int) 0 o0).bind fun y1 =>
  match y1 with
  | .inl y1_0 =>
    some (((-1), ()), ())
  | .inr y1_1 =>
    some ((y1_1.1.1, ()), ())
noncomputable def C32 (k : Nat) : Nat → Fun := mkC [(31, (F31 (f31 k)))]
theorem c32_ok (k : Nat) : ∀ f, SoundFn Try.prog f (C32 k f) := (mkC_cons (s31 k) mkC_nil)
noncomputable def H32_26 (k : Nat) : Nat → Option Cut := addH noH 26 ⟨runCut (wrC (bodyOf (codeAt 26 (bd Try.f32) 26))) 19 [0, 1, 7, 8] pa32_26 pw32_26 (u32_26 (l32_26 k k))⟩
theorem e32_26 (k : Nat) (rec : T32_26) (x : (pa32_26).C) : roundF (C32 k) tt noH (bodyOf (codeAt 26 (bd Try.f32) 26)) 52 19 [0, 1, 7, 8] pa32_26 pw32_26 (u32_26 rec) x = u32_26 (b32_26 k rec) x := by kernel_rfl
theorem h32_26_ok (k : Nat) : ∀ p S, H32_26 k p = some S → ∀ c, At (bd Try.f32) p c → CutOk Try.prog c S :=
  have hC := c32_ok k
  addLoop hC ttOk (draw_ok hC ttOk mixed) noH_ok (by kernel_rfl) (F := fun j => u32_26 (l32_26 k j)) (fun _ => rfl) (fun j x _ h => (e32_26 k (l32_26 k j) x).trans h) k
theorem e32 (k : Nat) (x : (a32).C) : bodyR (C32 k) tt (H32_26 k) Try.f32 a32 o32 x = u32 (f32 k) x := by kernel_rfl
theorem s32 (k : Nat) : SoundFn Try.prog 32 (F32 (f32 k)) :=
  have hC := c32_ok k
  fnR_sound hC ttOk (draw_ok hC ttOk mixed) Try.func32 (c0 := bd Try.f32) rfl (entry Try.func32 rfl (by decide)) (h32_26_ok k) rfl (fun x _ h => (e32 k x).trans h)
/-! f30 slices.ContainsFunc[[][]bool,[]bool] (R) -/
noncomputable def a30 : Shape := ⟨[.d (.slice (.slice .bool)), .fn 31 [0]], [.box [.d (.slice (.slice .bool))]]⟩
noncomputable def o30 : List Shape := [⟨[.d .bool], []⟩]
abbrev R30 : Type := ((Bool × Unit) × Unit)
abbrev T30 : Type := (List (List Bool)) → (List (List Bool)) → Option R30
noncomputable def u30 (f : T30) : (a30).C → Option (OutC o30) := fun (x : (((List (List Bool)) × Unit × Unit) × (((List (List Bool)) × Unit) × Unit))) => f x.1.1 x.2.1.1
noncomputable def F30 (f : T30) : Fun := ⟨true, runR a30 o30 (u30 f)⟩
noncomputable def f30 (k : Nat) : T30 := fun s0 o0 =>
  (f32 k s0 o0).bind fun y1 =>
  some (((decide (y1.1.1 ≥ 0)), ()), ())
noncomputable def C30 (k : Nat) : Nat → Fun := mkC [(32, (F32 (f32 k)))]
theorem c30_ok (k : Nat) : ∀ f, SoundFn Try.prog f (C30 k f) := (mkC_cons (s32 k) mkC_nil)
theorem e30 (k : Nat) (x : (a30).C) : bodyR (C30 k) tt noH Try.f30 a30 o30 x = u30 (f30 k) x := by kernel_rfl
theorem s30 (k : Nat) : SoundFn Try.prog 30 (F30 (f30 k)) :=
  have hC := c30_ok k
  fnR_sound hC ttOk (draw_ok hC ttOk mixed) Try.func30 (c0 := bd Try.f30) rfl (entry Try.func30 rfl (by decide)) noH_ok rfl (fun x _ h => (e30 k x).trans h)
/-! f28 fathom/rank.squared (R) -/
noncomputable def a28 : Shape := ⟨[.d (.slice (.slice .bool))], []⟩
noncomputable def o28 : List Shape := [⟨[.d .bool], []⟩]
abbrev R28 : Type := ((Bool × Unit) × Unit)
abbrev T28 : Type := (List (List Bool)) → Option R28
noncomputable def u28 (f : T28) : (a28).C → Option (OutC o28) := fun (x : (((List (List Bool)) × Unit) × Unit)) => f x.1.1
noncomputable def F28 (f : T28) : Fun := ⟨true, runR a28 o28 (u28 f)⟩
noncomputable def f28 (k : Nat) : T28 := fun s0 =>
  cond (decide ((s0.length : Int) ≤ 40))
    ((f30 k s0 s0).bind fun y1 =>
    some (((!y1.1.1), ()), ()))
    (some ((false, ()), ()))
noncomputable def C28 (k : Nat) : Nat → Fun := mkC [(30, (F30 (f30 k)))]
theorem c28_ok (k : Nat) : ∀ f, SoundFn Try.prog f (C28 k f) := (mkC_cons (s30 k) mkC_nil)
theorem e28 (k : Nat) (x : (a28).C) : bodyR (C28 k) tt noH Try.f28 a28 o28 x = u28 (f28 k) x := by kernel_rfl
theorem s28 (k : Nat) : SoundFn Try.prog 28 (F28 (f28 k)) :=
  have hC := c28_ok k
  fnR_sound hC ttOk (draw_ok hC ttOk mixed) Try.func28 (c0 := bd Try.f28) rfl (entry Try.func28 rfl (by decide)) noH_ok rfl (fun x _ h => (e28 k x).trans h)
end Go.Proofs.Ytnkjnbfaechiaaa.B
