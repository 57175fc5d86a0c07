/-
PRINTED BY vmp.py: the functions of a law, part 2.
-/
import Derived.Test.YtgljnnokifggkaaMCp1
set_option linter.unusedVariables false
set_option maxRecDepth 100000
namespace Go.Proofs.Ytgljnnokifggkaa.M
open Go Go.Proofs Go.Proofs.Ytgljnnokifggkaa.Vm
/-! f13 fathom/fathomlaw16.VecChecks (R) -/
noncomputable def a13 : Shape := ⟨[.d (.slice T_Gate), .d (.slice i64), .d (.slice i64)], []⟩
noncomputable def o13 : List Shape := [⟨[.d .bool], []⟩]
abbrev R13 : Type := ((Bool × Unit) × Unit)
abbrev T13 : Type := (List D_Gate) → (List Int) → (List Int) → Option R13
noncomputable def u13 (f : T13) : (a13).C → Option (OutC o13) := fun (x : (((List D_Gate) × (List Int) × (List Int) × Unit) × Unit)) => f x.1.1 x.1.2.1 x.1.2.2.1
noncomputable def F13 (f : T13) : Fun := ⟨true, runR a13 o13 (u13 f)⟩
noncomputable def pa13_16380 : Shape := ⟨[.d (.slice i64), .d (.slice i64), .ptr 0, .d .bool], [.box [.own T_Gate, .mp 1], .map T_Gate i64]⟩
noncomputable def pw13_16380 : List Vm.Way := [⟨.normal, [175], ⟨[.d .bool], [.box [.own T_Gate, .mp 1], .map T_Gate i64]⟩⟩]
abbrev R13_16380 : Type := ((Bool × Unit) × (((List D_Gate) × Unit × Unit) × (List (D_Gate × Int)) × Unit))
abbrev T13_16380 : Type := (List Int) → (List Int) → Bool → (List D_Gate) → (List (D_Gate × Int)) → Option R13_16380
noncomputable def u13_16380 (f : T13_16380) : (pa13_16380).C → Option (WayC pw13_16380) := fun (x : (((List Int) × (List Int) × Unit × Bool × Unit) × (((List D_Gate) × Unit × Unit) × (List (D_Gate × Int)) × Unit))) => f x.1.1 x.1.2.1 x.1.2.2.2.1 x.2.1.1 x.2.2.1
noncomputable def l13_16380 (k : Nat) : T13_16380 := fun a1 b2 both11 o0 o1 =>
  (f46 k a1 b2 o0 o1).bind fun y1 =>
  match y1 with
  | .inl y1_0 =>
    cond (!(false == both11))
      (some ((true, ()), ((y1_0.2.1.1, (), ()), y1_0.2.2.1, ())))
      ((f47 k a1 b2 y1_0.2.1.1 y1_0.2.2.1).bind fun y2 =>
      cond (!((decide ((y2.1.1.length : Int) > 0)) == both11))
        (some ((true, ()), ((y2.2.1.1, (), ()), y2.2.2.1, ())))
        ((f50 k a1 b2 y2.2.1.1 y2.2.2.1).bind fun y3 =>
        cond (!((decide ((y3.1.1.length : Int) > 0)) == both11))
          (some ((true, ()), ((y3.2.1.1, (), ()), y3.2.2.1, ())))
          ((f56 k a1 b2 y3.2.1.1 y3.2.2.1).bind fun y4 =>
          match y4 with
          | .inl y4_0 =>
            cond (!((decide ((y4_0.1.1.length : Int) > 0)) == both11))
              (some ((true, ()), ((y4_0.2.1.1, (), ()), y4_0.2.2.1, ())))
              ((f63 k 1 a1 b2 y4_0.2.1.1 y4_0.2.2.1).bind fun y5 =>
              some (((!((decide ((y5.1.1.length : Int) > 0)) == both11)), ()), ((y5.2.1.1, (), ()), y5.2.2.1, ())))
          | .inr y4_1 =>
            cond (!((decide ((y4_1.1.1 : Int) > 0)) == both11))
              (some ((true, ()), ((y4_1.2.1.1, (), ()), y4_1.2.2.1, ())))
              ((f63 k 1 a1 b2 y4_1.2.1.1 y4_1.2.2.1).bind fun y6 =>
              some (((!((decide ((y6.1.1.length : Int) > 0)) == both11)), ()), ((y6.2.1.1, (), ()), y6.2.2.1, ()))))))
  | .inr y1_1 =>
    cond (!((decide ((y1_1.1.1.length : Int) > 0)) == both11))
      (some ((true, ()), ((y1_1.2.1.1, (), ()), y1_1.2.2.1, ())))
      ((f47 k a1 b2 y1_1.2.1.1 y1_1.2.2.1).bind fun y7 =>
      cond (!((decide ((y7.1.1.length : Int) > 0)) == both11))
        (some ((true, ()), ((y7.2.1.1, (), ()), y7.2.2.1, ())))
        ((f50 k a1 b2 y7.2.1.1 y7.2.2.1).bind fun y8 =>
        cond (!((decide ((y8.1.1.length : Int) > 0)) == both11))
          (some ((true, ()), ((y8.2.1.1, (), ()), y8.2.2.1, ())))
          ((f56 k a1 b2 y8.2.1.1 y8.2.2.1).bind fun y9 =>
          match y9 with
          | .inl y9_0 =>
            cond (!((decide ((y9_0.1.1.length : Int) > 0)) == both11))
              (some ((true, ()), ((y9_0.2.1.1, (), ()), y9_0.2.2.1, ())))
              ((f63 k 1 a1 b2 y9_0.2.1.1 y9_0.2.2.1).bind fun y10 =>
              some (((!((decide ((y10.1.1.length : Int) > 0)) == both11)), ()), ((y10.2.1.1, (), ()), y10.2.2.1, ())))
          | .inr y9_1 =>
            cond (!((decide ((y9_1.1.1 : Int) > 0)) == both11))
              (some ((true, ()), ((y9_1.2.1.1, (), ()), y9_1.2.2.1, ())))
              ((f63 k 1 a1 b2 y9_1.2.1.1 y9_1.2.2.1).bind fun y11 =>
              some (((!((decide ((y11.1.1.length : Int) > 0)) == both11)), ()), ((y11.2.1.1, (), ()), y11.2.2.1, ()))))))
noncomputable def pa13_8190 : Shape := ⟨[.d (.slice i64), .d (.slice i64), .ptr 0, .d .bool], [.box [.own T_Gate, .mp 1], .map T_Gate i64]⟩
noncomputable def pw13_8190 : List Vm.Way := [⟨.normal, [], ⟨[], [.box [.own T_Gate, .mp 1], .map T_Gate i64]⟩⟩, ⟨.ret, [6], ⟨[.d .bool], [.box [.own T_Gate, .mp 1], .map T_Gate i64]⟩⟩]
abbrev R13_8190 : Type := ((Unit × (((List D_Gate) × Unit × Unit) × (List (D_Gate × Int)) × Unit)) ⊕ ((Bool × Unit) × (((List D_Gate) × Unit × Unit) × (List (D_Gate × Int)) × Unit)))
abbrev T13_8190 : Type := (List Int) → (List Int) → Bool → (List D_Gate) → (List (D_Gate × Int)) → Option R13_8190
noncomputable def u13_8190 (f : T13_8190) : (pa13_8190).C → Option (WayC pw13_8190) := fun (x : (((List Int) × (List Int) × Unit × Bool × Unit) × (((List D_Gate) × Unit × Unit) × (List (D_Gate × Int)) × Unit))) => f x.1.1 x.1.2.1 x.1.2.2.2.1 x.2.1.1 x.2.2.1
noncomputable def l13_8190 (k : Nat) : T13_8190 := fun a1 b2 both11 o0 o1 =>
  (l13_16380 k a1 b2 both11 o0 o1).bind fun y1 =>
  cond y1.1.1
    (some (.inr ((false, ()), ((y1.2.1.1, (), ()), y1.2.2.1, ()))))
    (some (.inl ((), ((y1.2.1.1, (), ()), y1.2.2.1, ()))))
noncomputable def pa13_8188s0 : Shape := ⟨[.d .bool, .own i64, .own i64], []⟩
noncomputable def pw13_8188s0 : List Vm.Way := [⟨.normal, [127], ⟨[.d .bool], []⟩⟩]
abbrev R13_8188s0 : Type := ((Bool × Unit) × Unit)
abbrev T13_8188s0 : Type := Bool → (List Int) → (List Int) → Option R13_8188s0
noncomputable def u13_8188s0 (f : T13_8188s0) : (pa13_8188s0).C → Option (WayC pw13_8188s0) := fun (x : ((Bool × (List Int) × (List Int) × Unit) × Unit)) => f x.1.1 x.1.2.1 x.1.2.2.1
noncomputable def pa13_8188s1 : Shape := ⟨[.d .bool, .msl 0 i64, .d (.slice i64)], [.arr none i64]⟩
noncomputable def pw13_8188s1 : List Vm.Way := [⟨.normal, [127], ⟨[.d .bool], [.arr none i64]⟩⟩]
abbrev R13_8188s1 : Type := ((Bool × Unit) × ((List Int) × Unit))
abbrev T13_8188s1 : Type := Bool → Nat → (List Int) → (List Int) → Option R13_8188s1
noncomputable def u13_8188s1 (f : T13_8188s1) : (pa13_8188s1).C → Option (WayC pw13_8188s1) := fun (x : ((Bool × Nat × (List Int) × Unit) × ((List Int) × Unit))) => f x.1.1 x.1.2.1 x.1.2.2.1 x.2.1
noncomputable def pa13_8188s2 : Shape := ⟨[.d .bool, .msl 0 i64, .msl 1 i64], [.arr none i64, .arr none i64]⟩
noncomputable def pw13_8188s2 : List Vm.Way := [⟨.normal, [127], ⟨[.d .bool], [.arr none i64, .arr none i64]⟩⟩]
abbrev R13_8188s2 : Type := ((Bool × Unit) × ((List Int) × (List Int) × Unit))
abbrev T13_8188s2 : Type := Bool → Nat → Nat → (List Int) → (List Int) → Option R13_8188s2
noncomputable def u13_8188s2 (f : T13_8188s2) : (pa13_8188s2).C → Option (WayC pw13_8188s2) := fun (x : ((Bool × Nat × Nat × Unit) × ((List Int) × (List Int) × Unit))) => f x.1.1 x.1.2.1 x.1.2.2.1 x.2.1 x.2.2.1
noncomputable def l13_8188s0 (k : Nat) : T13_8188s0 := fun both11 q13 r14 =>
  cond (!((decide ((q13.length : Int) > 0)) == both11))
    (some ((true, ()), ()))
    (some (((!((decide ((r14.length : Int) > 0)) == both11)), ()), ()))
noncomputable def l13_8188s1 (k : Nat) : T13_8188s1 := fun both11 q13 r14 o0 =>
  cond (!((decide ((q13 : Int) > 0)) == both11))
    (some ((true, ()), (o0, ())))
    (some (((!((decide ((r14.length : Int) > 0)) == both11)), ()), (o0, ())))
noncomputable def l13_8188s2 (k : Nat) : T13_8188s2 := fun both11 q13 r14 o0 o1 =>
  cond (!((decide ((q13 : Int) > 0)) == both11))
    (some ((true, ()), (o0, o1, ())))
    (some (((!((decide ((r14 : Int) > 0)) == both11)), ()), (o0, o1, ())))
noncomputable def pa13_4094s0 : Shape := ⟨[.d .bool, .own i64, .own i64], []⟩
noncomputable def pw13_4094s0 : List Vm.Way := [⟨.normal, [], ⟨[], []⟩⟩, ⟨.ret, [6], ⟨[.d .bool], []⟩⟩]
abbrev R13_4094s0 : Type := ((Unit × Unit) ⊕ ((Bool × Unit) × Unit))
abbrev T13_4094s0 : Type := Bool → (List Int) → (List Int) → Option R13_4094s0
noncomputable def u13_4094s0 (f : T13_4094s0) : (pa13_4094s0).C → Option (WayC pw13_4094s0) := fun (x : ((Bool × (List Int) × (List Int) × Unit) × Unit)) => f x.1.1 x.1.2.1 x.1.2.2.1
noncomputable def pa13_4094s1 : Shape := ⟨[.d .bool, .msl 0 i64, .d (.slice i64)], [.arr none i64]⟩
noncomputable def pw13_4094s1 : List Vm.Way := [⟨.normal, [], ⟨[], [.arr none i64]⟩⟩, ⟨.ret, [6], ⟨[.d .bool], [.arr none i64]⟩⟩]
abbrev R13_4094s1 : Type := ((Unit × ((List Int) × Unit)) ⊕ ((Bool × Unit) × ((List Int) × Unit)))
abbrev T13_4094s1 : Type := Bool → Nat → (List Int) → (List Int) → Option R13_4094s1
noncomputable def u13_4094s1 (f : T13_4094s1) : (pa13_4094s1).C → Option (WayC pw13_4094s1) := fun (x : ((Bool × Nat × (List Int) × Unit) × ((List Int) × Unit))) => f x.1.1 x.1.2.1 x.1.2.2.1 x.2.1
noncomputable def pa13_4094s2 : Shape := ⟨[.d .bool, .msl 0 i64, .msl 1 i64], [.arr none i64, .arr none i64]⟩
noncomputable def pw13_4094s2 : List Vm.Way := [⟨.normal, [], ⟨[], [.arr none i64, .arr none i64]⟩⟩, ⟨.ret, [6], ⟨[.d .bool], [.arr none i64, .arr none i64]⟩⟩]
abbrev R13_4094s2 : Type := ((Unit × ((List Int) × (List Int) × Unit)) ⊕ ((Bool × Unit) × ((List Int) × (List Int) × Unit)))
abbrev T13_4094s2 : Type := Bool → Nat → Nat → (List Int) → (List Int) → Option R13_4094s2
noncomputable def u13_4094s2 (f : T13_4094s2) : (pa13_4094s2).C → Option (WayC pw13_4094s2) := fun (x : ((Bool × Nat × Nat × Unit) × ((List Int) × (List Int) × Unit))) => f x.1.1 x.1.2.1 x.1.2.2.1 x.2.1 x.2.2.1
noncomputable def l13_4094s0 (k : Nat) : T13_4094s0 := fun both11 q13 r14 =>
  (l13_8188s0 k both11 q13 r14).bind fun y1 =>
  cond y1.1.1
    (some (.inr ((false, ()), ())))
    (some (.inl ((), ())))
noncomputable def l13_4094s1 (k : Nat) : T13_4094s1 := fun both11 q13 r14 o0 =>
  (l13_8188s1 k both11 q13 r14 o0).bind fun y1 =>
  cond y1.1.1
    (some (.inr ((false, ()), (y1.2.1, ()))))
    (some (.inl ((), (y1.2.1, ()))))
noncomputable def l13_4094s2 (k : Nat) : T13_4094s2 := fun both11 q13 r14 o0 o1 =>
  (l13_8188s2 k both11 q13 r14 o0 o1).bind fun y1 =>
  cond y1.1.1
    (some (.inr ((false, ()), (y1.2.1, y1.2.2.1, ()))))
    (some (.inl ((), (y1.2.1, y1.2.2.1, ()))))
noncomputable def pa13_2046 : Shape := ⟨[.d (.slice i64), .d (.slice i64), .ptr 0], [.box [.own T_Gate, .mp 1], .map T_Gate i64]⟩
noncomputable def pw13_2046 : List Vm.Way := [⟨.normal, [13, 14], ⟨[.own i64, .own i64], [.box [.own T_Gate, .mp 1], .map T_Gate i64]⟩⟩, ⟨.normal, [13, 14], ⟨[.msl 2 i64, .d (.slice i64)], [.box [.own T_Gate, .mp 1], .map T_Gate i64, .arr none i64]⟩⟩, ⟨.normal, [13, 14], ⟨[.msl 2 i64, .msl 3 i64], [.box [.own T_Gate, .mp 1], .map T_Gate i64, .arr none i64, .arr none i64]⟩⟩]
abbrev R13_2046 : Type := ((((List Int) × (List Int) × Unit) × (((List D_Gate) × Unit × Unit) × (List (D_Gate × Int)) × Unit)) ⊕ (((Nat × (List Int) × Unit) × (((List D_Gate) × Unit × Unit) × (List (D_Gate × Int)) × (List Int) × Unit)) ⊕ ((Nat × Nat × Unit) × (((List D_Gate) × Unit × Unit) × (List (D_Gate × Int)) × (List Int) × (List Int) × Unit))))
abbrev T13_2046 : Type := (List Int) → (List Int) → (List D_Gate) → (List (D_Gate × Int)) → Option R13_2046
noncomputable def u13_2046 (f : T13_2046) : (pa13_2046).C → Option (WayC pw13_2046) := fun (x : (((List Int) × (List Int) × Unit × Unit) × (((List D_Gate) × Unit × Unit) × (List (D_Gate × Int)) × Unit))) => f x.1.1 x.1.2.1 x.2.1.1 x.2.2.1
noncomputable def l13_2046 (k : Nat) : T13_2046 := fun a1 b2 o0 o1 =>
  (f60 k a1 b2 o0 o1).bind fun y1 =>
  match y1 with
  | .inl y1_0 =>
    some (.inl ((y1_0.1.1, y1_0.1.2.1, ()), ((y1_0.2.1.1, (), ()), y1_0.2.2.1, ())))
  | .inr y1r =>
    match y1r with
    | .inl y1_1 =>
      some (.inr (.inl ((y1_1.1.1, y1_1.1.2.1, ()), ((y1_1.2.1.1, (), ()), y1_1.2.2.1, y1_1.2.2.2.1, ()))))
    | .inr y1_2 =>
      some (.inr (.inr ((y1_2.1.1, y1_2.1.2.1, ()), ((y1_2.2.1.1, (), ()), y1_2.2.2.1, y1_2.2.2.2.1, y1_2.2.2.2.2.1, ()))))
noncomputable def pa13_2044 : Shape := ⟨[.d (.slice i64), .ptr 0, .d .bool], [.box [.own T_Gate, .mp 1], .map T_Gate i64]⟩
noncomputable def pw13_2044 : List Vm.Way := [⟨.normal, [108], ⟨[.d .bool], [.box [.own T_Gate, .mp 1], .map T_Gate i64]⟩⟩]
abbrev R13_2044 : Type := ((Bool × Unit) × (((List D_Gate) × Unit × Unit) × (List (D_Gate × Int)) × Unit))
abbrev T13_2044 : Type := (List Int) → Bool → (List D_Gate) → (List (D_Gate × Int)) → Option R13_2044
noncomputable def u13_2044 (f : T13_2044) : (pa13_2044).C → Option (WayC pw13_2044) := fun (x : (((List Int) × Unit × Bool × Unit) × (((List D_Gate) × Unit × Unit) × (List (D_Gate × Int)) × Unit))) => f x.1.1 x.1.2.2.1 x.2.1.1 x.2.2.1
noncomputable def l13_2044 (k : Nat) : T13_2044 := fun a1 may9 o0 o1 =>
  (f68 k a1 o0 o1).bind fun y1 =>
  cond (decide ((a1.length : Int) ≥ 1))
    (cond (decide ((a1.length : Int) ≤ 16))
      (some (((!((y1.1.1 == 0) == may9)), ()), ((o0, (), ()), o1, ())))
      (some (((!((y1.1.1 == 0) == false)), ()), ((o0, (), ()), o1, ()))))
    (some (((!((y1.1.1 == 0) == false)), ()), ((o0, (), ()), o1, ())))
noncomputable def pa13_2042 : Shape := ⟨[.d (.slice T_Gate), .d (.slice i64), .d .bool, .d i64], []⟩
noncomputable def pw13_2042 : List Vm.Way := [⟨.exit 2, [11], ⟨[.d .bool], []⟩⟩]
abbrev R13_2042 : Type := ((Bool × Unit) × Unit)
abbrev T13_2042 : Type := (List D_Gate) → (List Int) → Bool → Int → Option R13_2042
noncomputable def u13_2042 (f : T13_2042) : (pa13_2042).C → Option (WayC pw13_2042) := fun (x : (((List D_Gate) × (List Int) × Bool × Int × Unit) × Unit)) => f x.1.1 x.1.2.1 x.1.2.2.1 x.1.2.2.2.1
noncomputable def b13_2042 (k : Nat) (rec : T13_2042) : T13_2042 := fun g0 b2 both11 i12 =>
  cond (decide (i12 < (b2.length : Int)))
    (cond both11
      (ix b2 i12 fun e1 =>
      (f67 k g0 e1).bind fun y2 =>
      (rec g0 b2 y2.1.1 (w64 (i12 + 1))).bind fun y3 =>
      some ((y3.1.1, ()), ()))
      ((rec g0 b2 false (w64 (i12 + 1))).bind fun y4 =>
      some ((y4.1.1, ()), ())))
    (some ((both11, ()), ()))
noncomputable def l13_2042 (k : Nat) : Nat → T13_2042
  | 0 => fun _ _ _ _ => none
  | j + 1 => b13_2042 k (l13_2042 k j)
noncomputable def pa13_1022 : Shape := ⟨[.d (.slice i64), .ptr 0, .d .bool], [.box [.own T_Gate, .mp 1], .map T_Gate i64]⟩
noncomputable def pw13_1022 : List Vm.Way := [⟨.normal, [], ⟨[], [.box [.own T_Gate, .mp 1], .map T_Gate i64]⟩⟩, ⟨.ret, [6], ⟨[.d .bool], [.box [.own T_Gate, .mp 1], .map T_Gate i64]⟩⟩]
abbrev R13_1022 : Type := ((Unit × (((List D_Gate) × Unit × Unit) × (List (D_Gate × Int)) × Unit)) ⊕ ((Bool × Unit) × (((List D_Gate) × Unit × Unit) × (List (D_Gate × Int)) × Unit)))
abbrev T13_1022 : Type := (List Int) → Bool → (List D_Gate) → (List (D_Gate × Int)) → Option R13_1022
noncomputable def u13_1022 (f : T13_1022) : (pa13_1022).C → Option (WayC pw13_1022) := fun (x : (((List Int) × Unit × Bool × Unit) × (((List D_Gate) × Unit × Unit) × (List (D_Gate × Int)) × Unit))) => f x.1.1 x.1.2.2.1 x.2.1.1 x.2.2.1
noncomputable def l13_1022 (k : Nat) : T13_1022 := fun a1 may9 o0 o1 =>
  (l13_2044 k a1 may9 o0 o1).bind fun y1 =>
  cond y1.1.1
    (some (.inr ((false, ()), ((y1.2.1.1, (), ()), y1.2.2.1, ()))))
    (some (.inl ((), ((y1.2.1.1, (), ()), y1.2.2.1, ()))))
noncomputable def pa13_1020 : Shape := ⟨[], []⟩
noncomputable def pw13_1020 : List Vm.Way := [⟨.normal, [12], ⟨[.d i64], []⟩⟩]
abbrev R13_1020 : Type := ((Int × Unit) × Unit)
abbrev T13_1020 : Type := Unit → Option R13_1020
noncomputable def u13_1020 (f : T13_1020) : (pa13_1020).C → Option (WayC pw13_1020) := fun (x : (Unit × Unit)) => f ()
noncomputable def l13_1020 (k : Nat) : T13_1020 := fun _ =>
  some ((0, ()), ())
noncomputable def pa13_510 : Shape := ⟨[.d (.slice T_Gate), .d (.slice i64), .d .bool], []⟩
noncomputable def pw13_510 : List Vm.Way := [⟨.normal, [11], ⟨[.d .bool], []⟩⟩]
abbrev R13_510 : Type := ((Bool × Unit) × Unit)
abbrev T13_510 : Type := (List D_Gate) → (List Int) → Bool → Option R13_510
noncomputable def u13_510 (f : T13_510) : (pa13_510).C → Option (WayC pw13_510) := fun (x : (((List D_Gate) × (List Int) × Bool × Unit) × Unit)) => f x.1.1 x.1.2.1 x.1.2.2.1
noncomputable def l13_510 (k : Nat) : T13_510 := fun g0 b2 both11 =>
  (l13_1020 k ()).bind fun y1 =>
  (l13_2042 k k g0 b2 both11 y1.1.1).bind fun y2 =>
  some ((y2.1.1, ()), ())
noncomputable def pa13_506 : Shape := ⟨[.d (.slice T_Gate), .d (.slice i64), .d .bool, .d i64], []⟩
noncomputable def pw13_506 : List Vm.Way := [⟨.exit 0, [9], ⟨[.d .bool], []⟩⟩]
abbrev R13_506 : Type := ((Bool × Unit) × Unit)
abbrev T13_506 : Type := (List D_Gate) → (List Int) → Bool → Int → Option R13_506
noncomputable def u13_506 (f : T13_506) : (pa13_506).C → Option (WayC pw13_506) := fun (x : (((List D_Gate) × (List Int) × Bool × Int × Unit) × Unit)) => f x.1.1 x.1.2.1 x.1.2.2.1 x.1.2.2.2.1
noncomputable def b13_506 (k : Nat) (rec : T13_506) : T13_506 := fun g0 a1 may9 i10 =>
  cond (decide (i10 < (a1.length : Int)))
    (cond may9
      (ix a1 i10 fun e1 =>
      (f67 k g0 e1).bind fun y2 =>
      (rec g0 a1 y2.1.1 (w64 (i10 + 1))).bind fun y3 =>
      some ((y3.1.1, ()), ()))
      ((rec g0 a1 false (w64 (i10 + 1))).bind fun y4 =>
      some ((y4.1.1, ()), ())))
    (some ((may9, ()), ()))
noncomputable def l13_506 (k : Nat) : Nat → T13_506
  | 0 => fun _ _ _ _ => none
  | j + 1 => b13_506 k (l13_506 k j)
noncomputable def pa13_254 : Shape := ⟨[.d (.slice i64), .d (.slice i64), .d .bool], []⟩
noncomputable def pw13_254 : List Vm.Way := [⟨.normal, [11], ⟨[.d .bool], []⟩⟩]
abbrev R13_254 : Type := ((Bool × Unit) × Unit)
abbrev T13_254 : Type := (List Int) → (List Int) → Bool → Option R13_254
noncomputable def u13_254 (f : T13_254) : (pa13_254).C → Option (WayC pw13_254) := fun (x : (((List Int) × (List Int) × Bool × Unit) × Unit)) => f x.1.1 x.1.2.1 x.1.2.2.1
noncomputable def l13_254 (k : Nat) : T13_254 := fun a1 b2 may9 =>
  cond (decide ((a1.length : Int) ≥ 1))
    (cond (decide ((a1.length : Int) ≤ 16))
      (cond ((a1.length : Int) == (b2.length : Int))
        (some ((may9, ()), ()))
        (some ((false, ()), ())))
      (some ((false, ()), ())))
    (some ((false, ()), ()))
noncomputable def f13 (k : Nat) : T13 := fun g0 a1 b2 =>
  cond (decide ((g0.length : Int) > 12))
    ((f40 k ()).bind fun y1 =>
    some ((y1.1.1, ()), ()))
    (cond (decide ((a1.length : Int) > 40))
      ((f40 k ()).bind fun y2 =>
      some ((y2.1.1, ()), ()))
      (cond (decide ((b2.length : Int) > 40))
        ((f40 k ()).bind fun y3 =>
        some ((y3.1.1, ()), ()))
        ((f32 k g0).bind fun y4 =>
        cond (!y4.1.1)
          ((f40 k ()).bind fun y5 =>
          some ((y5.1.1, ()), ()))
          ((f30 k g0).bind fun y6 =>
          match y6 with
          | .inl y6_0 =>
            cond (y6_0.1.2.1 != 0)
              (some ((false, ()), ()))
              (some ((false, ()), ()))
          | .inr y6_1 =>
            cond (y6_1.1.2.1 != 0)
              (some ((false, ()), ()))
              ((l13_506 k k g0 a1 true 0).bind fun y7 =>
              (l13_254 k a1 b2 y7.1.1).bind fun y8 =>
              (l13_510 k g0 b2 y8.1.1).bind fun y9 =>
              (l13_1022 k a1 y7.1.1 y6_1.2.1.1 y6_1.2.2.1).bind fun y10 =>
              match y10 with
              | .inl y10_0 =>
                (l13_2046 k a1 b2 y10_0.2.1.1 y10_0.2.2.1).bind fun y11 =>
                match y11 with
                | .inl y11_0 =>
                  (l13_4094s0 k y9.1.1 y11_0.1.1 y11_0.1.2.1).bind fun y12 =>
                  match y12 with
                  | .inl y12_0 =>
                    (l13_8190 k a1 b2 y9.1.1 y11_0.2.1.1 y11_0.2.2.1).bind fun y13 =>
                    match y13 with
                    | .inl y13_0 =>
                      (f64 k a1 b2 y13_0.2.1.1 y13_0.2.2.1).bind fun y14 =>
                      cond ((decide (y14.1.1 ≥ 0)) == y9.1.1)
                        ((f65 k a1 b2 y14.2.1.1 y14.2.2.1).bind fun y15 =>
                        cond ((decide (y15.1.1 ≥ 0)) == y9.1.1)
                          ((f63 k (-1) a1 b2 y15.2.1.1 y15.2.2.1).bind fun y16 =>
                          cond ((y16.1.1.length : Int) == 0)
                            ((f40 k ()).bind fun y17 =>
                            some ((y17.1.1, ()), ()))
                            (some ((false, ()), ())))
                          (some ((false, ()), ())))
                        (some ((false, ()), ()))
                    | .inr y13_1 =>
                      some ((y13_1.1.1, ()), ())
                  | .inr y12_1 =>
                    some ((y12_1.1.1, ()), ())
                | .inr y11r =>
                  match y11r with
                  | .inl y11_1 =>
                    (l13_4094s1 k y9.1.1 y11_1.1.1 y11_1.1.2.1 y11_1.2.2.2.1).bind fun y18 =>
                    match y18 with
                    | .inl y18_0 =>
                      (l13_8190 k a1 b2 y9.1.1 y11_1.2.1.1 y11_1.2.2.1).bind fun y19 =>
                      match y19 with
                      | .inl y19_0 =>
                        (f64 k a1 b2 y19_0.2.1.1 y19_0.2.2.1).bind fun y20 =>
                        cond ((decide (y20.1.1 ≥ 0)) == y9.1.1)
                          ((f65 k a1 b2 y20.2.1.1 y20.2.2.1).bind fun y21 =>
                          cond ((decide (y21.1.1 ≥ 0)) == y9.1.1)
                            ((f63 k (-1) a1 b2 y21.2.1.1 y21.2.2.1).bind fun y22 =>
                            cond ((y22.1.1.length : Int) == 0)
                              ((f40 k ()).bind fun y23 =>
                              some ((y23.1.1, ()), ()))
                              (some ((false, ()), ())))
                            (some ((false, ()), ())))
                          (some ((false, ()), ()))
                      | .inr y19_1 =>
                        some ((y19_1.1.1, ()), ())
                    | .inr y18_1 =>
                      some ((y18_1.1.1, ()), ())
                  | .inr y11_2 =>
                    (l13_4094s2 k y9.1.1 y11_2.1.1 y11_2.1.2.1 y11_2.2.2.2.1 y11_2.2.2.2.2.1).bind fun y24 =>
                    match y24 with
                    | .inl y24_0 =>
                      (l13_8190 k a1 b2 y9.1.1 y11_2.2.1.1 y11_2.2.2.1).bind fun y25 =>
                      match y25 with
                      | .inl y25_0 =>
                        (f64 k a1 b2 y25_0.2.1.1 y25_0.2.2.1).bind fun y26 =>
                        cond ((decide (y26.1.1 ≥ 0)) == y9.1.1)
                          ((f65 k a1 b2 y26.2.1.1 y26.2.2.1).bind fun y27 =>
                          cond ((decide (y27.1.1 ≥ 0)) == y9.1.1)
                            ((f63 k (-1) a1 b2 y27.2.1.1 y27.2.2.1).bind fun y28 =>
                            cond ((y28.1.1.length : Int) == 0)
                              ((f40 k ()).bind fun y29 =>
                              some ((y29.1.1, ()), ()))
                              (some ((false, ()), ())))
                            (some ((false, ()), ())))
                          (some ((false, ()), ()))
                      | .inr y25_1 =>
                        some ((y25_1.1.1, ()), ())
                    | .inr y24_1 =>
                      some ((y24_1.1.1, ()), ())
              | .inr y10_1 =>
                some ((y10_1.1.1, ()), ()))))))
noncomputable def C13 (k : Nat) : Nat → Fun := mkC [(30, (F30 (f30 k))), (32, (F32 (f32 k))), (40, (F40 (f40 k))), (46, (F46 (f46 k))), (47, (F47 (f47 k))), (50, (F50 (f50 k))), (56, (F56 (f56 k))), (60, (F60 (f60 k))), (63, (F63 (f63 k))), (64, (F64 (f64 k))), (65, (F65 (f65 k))), (67, (F67 (f67 k))), (68, (F68 (f68 k)))]
theorem c13_ok (k : Nat) : ∀ f, SoundFn Try.prog f (C13 k f) := (mkC_cons (s30 k) (mkC_cons (s32 k) (mkC_cons (s40 k) (mkC_cons (s46 k) (mkC_cons (s47 k) (mkC_cons (s50 k) (mkC_cons (s56 k) (mkC_cons (s60 k) (mkC_cons (s63 k) (mkC_cons (s64 k) (mkC_cons (s65 k) (mkC_cons (s67 k) (mkC_cons (s68 k) mkC_nil)))))))))))))
noncomputable def H13_16380 (k : Nat) : Nat → Option Cut := addH noH 16380 ⟨runCut (wrC (codeAt 16380 (bd Try.f13) 16380)) 203 [1, 2, 7, 11] pa13_16380 pw13_16380 (u13_16380 (l13_16380 k))⟩
theorem e13_16380 (k : Nat) (x : (pa13_16380).C) : pieceF (C13 k) tt noH (codeAt 16380 (bd Try.f13) 16380) 16380 203 [1, 2, 7, 11] pa13_16380 pw13_16380 x = u13_16380 (l13_16380 k) x := by kernel_rfl
theorem h13_16380_ok (k : Nat) : ∀ p S, H13_16380 k p = some S → ∀ c, At (bd Try.f13) p c → CutOk Try.prog c S :=
  have hC := c13_ok k
  addPiece hC ttOk (draw_ok hC ttOk mixed) noH_ok (fun x _ h => (e13_16380 k x).trans h)
noncomputable def H13_8190 (k : Nat) : Nat → Option Cut := addH (H13_16380 k) 8190 ⟨runCut (wrC (codeAt 8190 (bd Try.f13) 8190)) 203 [1, 2, 7, 11] pa13_8190 pw13_8190 (u13_8190 (l13_8190 k))⟩
theorem e13_8190 (k : Nat) (x : (pa13_8190).C) : pieceF (C13 k) tt (H13_16380 k) (codeAt 8190 (bd Try.f13) 8190) 8190 203 [1, 2, 7, 11] pa13_8190 pw13_8190 x = u13_8190 (l13_8190 k) x := by kernel_rfl
theorem h13_8190_ok (k : Nat) : ∀ p S, H13_8190 k p = some S → ∀ c, At (bd Try.f13) p c → CutOk Try.prog c S :=
  have hC := c13_ok k
  addPiece hC ttOk (draw_ok hC ttOk mixed) (h13_16380_ok k) (fun x _ h => (e13_8190 k x).trans h)
noncomputable def H13_8188 (k : Nat) : Nat → Option Cut := addH (H13_8190 k) 8188 (altCut [11, 13, 14] pa13_8188s0 ⟨runCut (wrC (codeAt 8188 (bd Try.f13) 8188)) 203 [11, 13, 14] pa13_8188s0 pw13_8188s0 (u13_8188s0 (l13_8188s0 k))⟩ (altCut [11, 13, 14] pa13_8188s1 ⟨runCut (wrC (codeAt 8188 (bd Try.f13) 8188)) 203 [11, 13, 14] pa13_8188s1 pw13_8188s1 (u13_8188s1 (l13_8188s1 k))⟩ ⟨runCut (wrC (codeAt 8188 (bd Try.f13) 8188)) 203 [11, 13, 14] pa13_8188s2 pw13_8188s2 (u13_8188s2 (l13_8188s2 k))⟩))
theorem e13_8188s0 (k : Nat) (x : (pa13_8188s0).C) : pieceF (C13 k) tt (H13_8190 k) (codeAt 8188 (bd Try.f13) 8188) 8188 203 [11, 13, 14] pa13_8188s0 pw13_8188s0 x = u13_8188s0 (l13_8188s0 k) x := by kernel_rfl
theorem e13_8188s1 (k : Nat) (x : (pa13_8188s1).C) : pieceF (C13 k) tt (H13_8190 k) (codeAt 8188 (bd Try.f13) 8188) 8188 203 [11, 13, 14] pa13_8188s1 pw13_8188s1 x = u13_8188s1 (l13_8188s1 k) x := by kernel_rfl
theorem e13_8188s2 (k : Nat) (x : (pa13_8188s2).C) : pieceF (C13 k) tt (H13_8190 k) (codeAt 8188 (bd Try.f13) 8188) 8188 203 [11, 13, 14] pa13_8188s2 pw13_8188s2 x = u13_8188s2 (l13_8188s2 k) x := by kernel_rfl
theorem h13_8188_ok (k : Nat) : ∀ p S, H13_8188 k p = some S → ∀ c, At (bd Try.f13) p c → CutOk Try.prog c S :=
  have hC := c13_ok k
  addCut (h13_8190_ok k) (fun hc => (altCut_ok (piece_ok hC ttOk (draw_ok hC ttOk mixed) (h13_8190_ok k) hc (fun x _ h => (e13_8188s0 k x).trans h)) (altCut_ok (piece_ok hC ttOk (draw_ok hC ttOk mixed) (h13_8190_ok k) hc (fun x _ h => (e13_8188s1 k x).trans h)) (piece_ok hC ttOk (draw_ok hC ttOk mixed) (h13_8190_ok k) hc (fun x _ h => (e13_8188s2 k x).trans h)))))
noncomputable def H13_4094 (k : Nat) : Nat → Option Cut := addH (H13_8188 k) 4094 (altCut [11, 13, 14] pa13_4094s0 ⟨runCut (wrC (codeAt 4094 (bd Try.f13) 4094)) 203 [11, 13, 14] pa13_4094s0 pw13_4094s0 (u13_4094s0 (l13_4094s0 k))⟩ (altCut [11, 13, 14] pa13_4094s1 ⟨runCut (wrC (codeAt 4094 (bd Try.f13) 4094)) 203 [11, 13, 14] pa13_4094s1 pw13_4094s1 (u13_4094s1 (l13_4094s1 k))⟩ ⟨runCut (wrC (codeAt 4094 (bd Try.f13) 4094)) 203 [11, 13, 14] pa13_4094s2 pw13_4094s2 (u13_4094s2 (l13_4094s2 k))⟩))
theorem e13_4094s0 (k : Nat) (x : (pa13_4094s0).C) : pieceF (C13 k) tt (H13_8188 k) (codeAt 4094 (bd Try.f13) 4094) 4094 203 [11, 13, 14] pa13_4094s0 pw13_4094s0 x = u13_4094s0 (l13_4094s0 k) x := by kernel_rfl
theorem e13_4094s1 (k : Nat) (x : (pa13_4094s1).C) : pieceF (C13 k) tt (H13_8188 k) (codeAt 4094 (bd Try.f13) 4094) 4094 203 [11, 13, 14] pa13_4094s1 pw13_4094s1 x = u13_4094s1 (l13_4094s1 k) x := by kernel_rfl
theorem e13_4094s2 (k : Nat) (x : (pa13_4094s2).C) : pieceF (C13 k) tt (H13_8188 k) (codeAt 4094 (bd Try.f13) 4094) 4094 203 [11, 13, 14] pa13_4094s2 pw13_4094s2 x = u13_4094s2 (l13_4094s2 k) x := by kernel_rfl
theorem h13_4094_ok (k : Nat) : ∀ p S, H13_4094 k p = some S → ∀ c, At (bd Try.f13) p c → CutOk Try.prog c S :=
  have hC := c13_ok k
  addCut (h13_8188_ok k) (fun hc => (altCut_ok (piece_ok hC ttOk (draw_ok hC ttOk mixed) (h13_8188_ok k) hc (fun x _ h => (e13_4094s0 k x).trans h)) (altCut_ok (piece_ok hC ttOk (draw_ok hC ttOk mixed) (h13_8188_ok k) hc (fun x _ h => (e13_4094s1 k x).trans h)) (piece_ok hC ttOk (draw_ok hC ttOk mixed) (h13_8188_ok k) hc (fun x _ h => (e13_4094s2 k x).trans h)))))
noncomputable def H13_2046 (k : Nat) : Nat → Option Cut := addH (H13_4094 k) 2046 ⟨runCut (wrC (codeAt 2046 (bd Try.f13) 2046)) 203 [1, 2, 7] pa13_2046 pw13_2046 (u13_2046 (l13_2046 k))⟩
theorem e13_2046 (k : Nat) (x : (pa13_2046).C) : pieceF (C13 k) tt (H13_4094 k) (codeAt 2046 (bd Try.f13) 2046) 2046 203 [1, 2, 7] pa13_2046 pw13_2046 x = u13_2046 (l13_2046 k) x := by kernel_rfl
theorem h13_2046_ok (k : Nat) : ∀ p S, H13_2046 k p = some S → ∀ c, At (bd Try.f13) p c → CutOk Try.prog c S :=
  have hC := c13_ok k
  addPiece hC ttOk (draw_ok hC ttOk mixed) (h13_4094_ok k) (fun x _ h => (e13_2046 k x).trans h)
noncomputable def H13_2044 (k : Nat) : Nat → Option Cut := addH (H13_2046 k) 2044 ⟨runCut (wrC (codeAt 2044 (bd Try.f13) 2044)) 203 [1, 7, 9] pa13_2044 pw13_2044 (u13_2044 (l13_2044 k))⟩
theorem e13_2044 (k : Nat) (x : (pa13_2044).C) : pieceF (C13 k) tt (H13_2046 k) (codeAt 2044 (bd Try.f13) 2044) 2044 203 [1, 7, 9] pa13_2044 pw13_2044 x = u13_2044 (l13_2044 k) x := by kernel_rfl
theorem h13_2044_ok (k : Nat) : ∀ p S, H13_2044 k p = some S → ∀ c, At (bd Try.f13) p c → CutOk Try.prog c S :=
  have hC := c13_ok k
  addPiece hC ttOk (draw_ok hC ttOk mixed) (h13_2046_ok k) (fun x _ h => (e13_2044 k x).trans h)
noncomputable def H13_2042 (k : Nat) : Nat → Option Cut := addH (H13_2044 k) 2042 ⟨runCut (wrC (bodyOf (codeAt 2042 (bd Try.f13) 2042))) 203 [0, 2, 11, 12] pa13_2042 pw13_2042 (u13_2042 (l13_2042 k k))⟩
theorem e13_2042 (k : Nat) (rec : T13_2042) (x : (pa13_2042).C) : roundF (C13 k) tt (H13_2044 k) (bodyOf (codeAt 2042 (bd Try.f13) 2042)) 4084 203 [0, 2, 11, 12] pa13_2042 pw13_2042 (u13_2042 rec) x = u13_2042 (b13_2042 k rec) x := by kernel_rfl
theorem h13_2042_ok (k : Nat) : ∀ p S, H13_2042 k p = some S → ∀ c, At (bd Try.f13) p c → CutOk Try.prog c S :=
  have hC := c13_ok k
  addLoop hC ttOk (draw_ok hC ttOk mixed) (h13_2044_ok k) (by kernel_rfl) (F := fun j => u13_2042 (l13_2042 k j)) (fun _ => rfl) (fun j x _ h => (e13_2042 k (l13_2042 k j) x).trans h) k
noncomputable def H13_1022 (k : Nat) : Nat → Option Cut := addH (H13_2042 k) 1022 ⟨runCut (wrC (codeAt 1022 (bd Try.f13) 1022)) 203 [1, 7, 9] pa13_1022 pw13_1022 (u13_1022 (l13_1022 k))⟩
theorem e13_1022 (k : Nat) (x : (pa13_1022).C) : pieceF (C13 k) tt (H13_2042 k) (codeAt 1022 (bd Try.f13) 1022) 1022 203 [1, 7, 9] pa13_1022 pw13_1022 x = u13_1022 (l13_1022 k) x := by kernel_rfl
theorem h13_1022_ok (k : Nat) : ∀ p S, H13_1022 k p = some S → ∀ c, At (bd Try.f13) p c → CutOk Try.prog c S :=
  have hC := c13_ok k
  addPiece hC ttOk (draw_ok hC ttOk mixed) (h13_2042_ok k) (fun x _ h => (e13_1022 k x).trans h)
noncomputable def H13_1020 (k : Nat) : Nat → Option Cut := addH (H13_1022 k) 1020 ⟨runCut (wrC (codeAt 1020 (bd Try.f13) 1020)) 203 [] pa13_1020 pw13_1020 (u13_1020 (l13_1020 k))⟩
theorem e13_1020 (k : Nat) (x : (pa13_1020).C) : pieceF (C13 k) tt (H13_1022 k) (codeAt 1020 (bd Try.f13) 1020) 1020 203 [] pa13_1020 pw13_1020 x = u13_1020 (l13_1020 k) x := by kernel_rfl
theorem h13_1020_ok (k : Nat) : ∀ p S, H13_1020 k p = some S → ∀ c, At (bd Try.f13) p c → CutOk Try.prog c S :=
  have hC := c13_ok k
  addPiece hC ttOk (draw_ok hC ttOk mixed) (h13_1022_ok k) (fun x _ h => (e13_1020 k x).trans h)
noncomputable def H13_510 (k : Nat) : Nat → Option Cut := addH (H13_1020 k) 510 ⟨runCut (wrC (codeAt 510 (bd Try.f13) 510)) 203 [0, 2, 11] pa13_510 pw13_510 (u13_510 (l13_510 k))⟩
theorem e13_510 (k : Nat) (x : (pa13_510).C) : pieceF (C13 k) tt (H13_1020 k) (codeAt 510 (bd Try.f13) 510) 510 203 [0, 2, 11] pa13_510 pw13_510 x = u13_510 (l13_510 k) x := by kernel_rfl
theorem h13_510_ok (k : Nat) : ∀ p S, H13_510 k p = some S → ∀ c, At (bd Try.f13) p c → CutOk Try.prog c S :=
  have hC := c13_ok k
  addPiece hC ttOk (draw_ok hC ttOk mixed) (h13_1020_ok k) (fun x _ h => (e13_510 k x).trans h)
noncomputable def H13_506 (k : Nat) : Nat → Option Cut := addH (H13_510 k) 506 ⟨runCut (wrC (bodyOf (codeAt 506 (bd Try.f13) 506))) 203 [0, 1, 9, 10] pa13_506 pw13_506 (u13_506 (l13_506 k k))⟩
theorem e13_506 (k : Nat) (rec : T13_506) (x : (pa13_506).C) : roundF (C13 k) tt (H13_510 k) (bodyOf (codeAt 506 (bd Try.f13) 506)) 1012 203 [0, 1, 9, 10] pa13_506 pw13_506 (u13_506 rec) x = u13_506 (b13_506 k rec) x := by kernel_rfl
theorem h13_506_ok (k : Nat) : ∀ p S, H13_506 k p = some S → ∀ c, At (bd Try.f13) p c → CutOk Try.prog c S :=
  have hC := c13_ok k
  addLoop hC ttOk (draw_ok hC ttOk mixed) (h13_510_ok k) (by kernel_rfl) (F := fun j => u13_506 (l13_506 k j)) (fun _ => rfl) (fun j x _ h => (e13_506 k (l13_506 k j) x).trans h) k
noncomputable def H13_254 (k : Nat) : Nat → Option Cut := addH (H13_506 k) 254 ⟨runCut (wrC (codeAt 254 (bd Try.f13) 254)) 203 [1, 2, 9] pa13_254 pw13_254 (u13_254 (l13_254 k))⟩
theorem e13_254 (k : Nat) (x : (pa13_254).C) : pieceF (C13 k) tt (H13_506 k) (codeAt 254 (bd Try.f13) 254) 254 203 [1, 2, 9] pa13_254 pw13_254 x = u13_254 (l13_254 k) x := by kernel_rfl
theorem h13_254_ok (k : Nat) : ∀ p S, H13_254 k p = some S → ∀ c, At (bd Try.f13) p c → CutOk Try.prog c S :=
  have hC := c13_ok k
  addPiece hC ttOk (draw_ok hC ttOk mixed) (h13_506_ok k) (fun x _ h => (e13_254 k x).trans h)
theorem e13 (k : Nat) (x : (a13).C) : bodyR (C13 k) tt (H13_254 k) Try.f13 a13 o13 x = u13 (f13 k) x := by kernel_rfl
theorem s13 (k : Nat) : SoundFn Try.prog 13 (F13 (f13 k)) :=
  have hC := c13_ok k
  fnR_sound hC ttOk (draw_ok hC ttOk mixed) Try.func13 (c0 := bd Try.f13) rfl (entry Try.func13 rfl (by decide)) (h13_254_ok k) rfl (fun x _ h => (e13 k x).trans h)
end Go.Proofs.Ytgljnnokifggkaa.M
