/-
PRINTED BY vmp.py: the functions of a law, each as a Lean function, and that it is what the code computes.
-/
import Derived.Test.YtepfhidiahleiaaGiv
import Derived.Test.YtepfhidiahleiaaVm42
import Derived.Test.YtepfhidiahleiaaProg
import Derived.Test.YtepfhidiahleiaaChecked
import Derived.KernelRfl
set_option linter.unusedVariables false
set_option maxRecDepth 100000
namespace Go.Proofs.Ytepfhidiahleiaa.M
open Go Go.Proofs Go.Proofs.Ytepfhidiahleiaa.Vm
abbrev T_errorAddressString : Ty := (.pair .str (.pair (.int .u64) .unit))
abbrev D_errorAddressString : Type := (ByteArray × Int × Unit)
abbrev T_Gate : Ty := (.pair i64 (.pair i64 .unit))
abbrev D_Gate : Type := (Int × Int × Unit)
abbrev T_boundsError : Ty := (.pair i64 (.pair i64 (.pair .bool (.pair (.int .u8) .unit))))
abbrev D_boundsError : Type := (Int × Int × Bool × Int × Unit)
abbrev T_Act : Ty := (.pair i64 (.pair .str (.pair i64 (.pair i64 (.pair i64 .unit)))))
abbrev D_Act : Type := (Int × ByteArray × Int × Int × Int × Unit)
abbrev T_Term : Ty := (.pair i64 (.pair .str (.pair i64 (.pair i64 (.pair i64 (.pair i64 .unit))))))
abbrev D_Term : Type := (Int × ByteArray × Int × Int × Int × Int × Unit)
def tl : List (Nat × TI) := [(3, .dat i64 0), (4, .dat .bool 0), (9, .dat .str 0), (22, .dat (.slice T_Term) 56), (23, .dat (.slice i64) 8), (26, .dat T_Term 0), (34, .ref 0), (46, .map T_Term i64), (48, .mix 3 [(0, 3), (1, 22), (2, 46)]), (55, .dat (.int .u16) 0), (56, .dat (.arr 2 (.int .u16)) 0), (59, .ref 0), (82, .dat (.slice .str) 16), (83, .dat (.slice (.slice .str)) 24), (84, .map T_Gate i64), (85, .dat (.slice T_Gate) 16), (87, .mix 2 [(0, 85), (1, 84)]), (96, .dat (.slice .bool) 1), (112, .dat T_Gate 0)]
def tt := mkT tl
theorem ttOk : TtOk Try.prog tt := mkT_ok (by kernel_rfl)
theorem mixed : Try.prog.follows .mixedOrders = true := by kernel_rfl
/-! f40 fathom/term.wide (R) -/
noncomputable def a40 : Shape := ⟨[.d i64], []⟩
noncomputable def o40 : List Shape := [⟨[.d .bool], []⟩]
abbrev R40 : Type := ((Bool × Unit) × Unit)
abbrev T40 : Type := Int → Option R40
noncomputable def u40 (f : T40) : (a40).C → Option (OutC o40) := fun (x : ((Int × Unit) × Unit)) => f x.1.1
noncomputable def F40 (f : T40) : Fun := ⟨true, runR a40 o40 (u40 f)⟩
noncomputable def f40 (k : Nat) : T40 := fun w0 =>
  cond (decide (w0 ≥ 1))
    (some (((decide (w0 ≤ 8)), ()), ()))
    (some ((false, ()), ()))
noncomputable def C40 (k : Nat) : Nat → Fun := mkC []
theorem c40_ok (k : Nat) : ∀ f, SoundFn Try.prog f (C40 k f) := mkC_nil
theorem e40 (k : Nat) (x : (a40).C) : bodyR (C40 k) tt noH Try.f40 a40 o40 x = u40 (f40 k) x := by kernel_rfl
theorem s40 (k : Nat) : SoundFn Try.prog 40 (F40 (f40 k)) :=
  have hC := c40_ok k
  fnR_sound hC ttOk (draw_ok hC ttOk mixed) Try.func40 (c0 := bd Try.f40) rfl (entry Try.func40 rfl (by decide)) noH_ok rfl (fun x _ h => (e40 k x).trans h)
/-! f66 fathom/term.truth (R) -/
noncomputable def a66 : Shape := ⟨[.d .bool], []⟩
noncomputable def o66 : List Shape := [⟨[.d i64], []⟩]
abbrev R66 : Type := ((Int × Unit) × Unit)
abbrev T66 : Type := Bool → Option R66
noncomputable def u66 (f : T66) : (a66).C → Option (OutC o66) := fun (x : ((Bool × Unit) × Unit)) => f x.1.1
noncomputable def F66 (f : T66) : Fun := ⟨true, runR a66 o66 (u66 f)⟩
noncomputable def f66 (k : Nat) : T66 := fun is0 =>
  cond is0
    (some ((1, ()), ()))
    (some ((0, ()), ()))
noncomputable def C66 (k : Nat) : Nat → Fun := mkC []
theorem c66_ok (k : Nat) : ∀ f, SoundFn Try.prog f (C66 k f) := mkC_nil
theorem e66 (k : Nat) (x : (a66).C) : bodyR (C66 k) tt noH Try.f66 a66 o66 x = u66 (f66 k) x := by kernel_rfl
theorem s66 (k : Nat) : SoundFn Try.prog 66 (F66 (f66 k)) :=
  have hC := c66_ok k
  fnR_sound hC ttOk (draw_ok hC ttOk mixed) Try.func66 (c0 := bd Try.f66) rfl (entry Try.func66 rfl (by decide)) noH_ok rfl (fun x _ h => (e66 k x).trans h)
/-! f67 fathom/term.number (R) -/
noncomputable def a67 : Shape := ⟨[.d i64, .d .str, .d i64, .d i64], []⟩
noncomputable def o67 : List Shape := [⟨[.d i64], []⟩]
abbrev R67 : Type := ((Int × Unit) × Unit)
abbrev T67 : Type := Int → ByteArray → Int → Int → Option R67
noncomputable def u67 (f : T67) : (a67).C → Option (OutC o67) := fun (x : ((Int × ByteArray × Int × Int × Unit) × Unit)) => f x.1.1 x.1.2.1 x.1.2.2.1 x.1.2.2.2.1
noncomputable def F67 (f : T67) : Fun := ⟨true, runR a67 o67 (u67 f)⟩
noncomputable def f67 (k : Nat) : T67 := fun w0 op1 a2 b3 =>
  cond (op1.toList == (ByteArray.mk #[42]).toList)
    (some (((w64 (a2 * b3)), ()), ()))
    (cond (op1.toList == (ByteArray.mk #[47]).toList)
      (cond (b3 == 0)
        (some (((-1), ()), ()))
        (cond (decide (b3 = 0))
          (none)
          (some (((w64 (Int.tdiv a2 b3)), ()), ()))))
      (cond (op1.toList == (ByteArray.mk #[37]).toList)
        (cond (b3 == 0)
          (some ((a2, ()), ()))
          (cond (decide (b3 = 0))
            (none)
            (some (((Int.tmod a2 b3), ()), ()))))
        (cond (op1.toList == (ByteArray.mk #[60, 60]).toList)
          (cond (decide (b3 ≥ w0))
            (some ((0, ()), ()))
            (cond (decide (b3 < 0))
              (none)
              (some (((w64 (a2 * 2 ^ (min b3.toNat 64))), ()), ()))))
          (cond (op1.toList == (ByteArray.mk #[62, 62]).toList)
            (cond (decide (b3 ≥ w0))
              (some ((0, ()), ()))
              (cond (decide (b3 < 0))
                (none)
                (some (((Int.fdiv a2 (2 ^ (min b3.toNat 64))), ()), ()))))
            (cond (op1.toList == (ByteArray.mk #[38]).toList)
              (some (((ibits .and .i64 a2 b3), ()), ()))
              (cond (op1.toList == (ByteArray.mk #[43]).toList)
                (some (((w64 (a2 + b3)), ()), ()))
                (cond (op1.toList == (ByteArray.mk #[45]).toList)
                  (some (((w64 (a2 - b3)), ()), ()))
                  (cond (op1.toList == (ByteArray.mk #[124]).toList)
                    (some (((ibits .or .i64 a2 b3), ()), ()))
                    (cond (op1.toList == (ByteArray.mk #[94]).toList)
                      (some (((ibits .xor .i64 a2 b3), ()), ()))
                      (some ((0, ()), ())))))))))))
noncomputable def C67 (k : Nat) : Nat → Fun := mkC []
theorem c67_ok (k : Nat) : ∀ f, SoundFn Try.prog f (C67 k f) := mkC_nil
theorem e67 (k : Nat) (x : (a67).C) : bodyR (C67 k) tt noH Try.f67 a67 o67 x = u67 (f67 k) x := by kernel_rfl
theorem s67 (k : Nat) : SoundFn Try.prog 67 (F67 (f67 k)) :=
  have hC := c67_ok k
  fnR_sound hC ttOk (draw_ok hC ttOk mixed) Try.func67 (c0 := bd Try.f67) rfl (entry Try.func67 rfl (by decide)) noH_ok rfl (fun x _ h => (e67 k x).trans h)
/-! f25 fathom/term.Apply (R) -/
noncomputable def a25 : Shape := ⟨[.d i64, .d .str, .d i64, .d i64], []⟩
noncomputable def o25 : List Shape := [⟨[.d i64], []⟩]
abbrev R25 : Type := ((Int × Unit) × Unit)
abbrev T25 : Type := Int → ByteArray → Int → Int → Option R25
noncomputable def u25 (f : T25) : (a25).C → Option (OutC o25) := fun (x : ((Int × ByteArray × Int × Int × Unit) × Unit)) => f x.1.1 x.1.2.1 x.1.2.2.1 x.1.2.2.2.1
noncomputable def F25 (f : T25) : Fun := ⟨true, runR a25 o25 (u25 f)⟩
noncomputable def f25 (k : Nat) : T25 := fun w0 op1 a2 b3 =>
  (f40 k w0).bind fun y1 =>
  cond (!y1.1.1)
    (some ((0, ()), ()))
    (cond (decide (w0 < 0))
      (none)
      (cond (op1.toList == (ByteArray.mk #[61, 61]).toList)
        ((f66 k ((ibits .and .i64 a2 (w64 ((w64 (1 * 2 ^ (min w0.toNat 64))) - 1))) == (ibits .and .i64 b3 (w64 ((w64 (1 * 2 ^ (min w0.toNat 64))) - 1))))).bind fun y2 =>
        some ((y2.1.1, ()), ()))
        (cond (op1.toList == (ByteArray.mk #[33, 61]).toList)
          ((f66 k ((ibits .and .i64 a2 (w64 ((w64 (1 * 2 ^ (min w0.toNat 64))) - 1))) != (ibits .and .i64 b3 (w64 ((w64 (1 * 2 ^ (min w0.toNat 64))) - 1))))).bind fun y3 =>
          some ((y3.1.1, ()), ()))
          (cond (op1.toList == (ByteArray.mk #[60]).toList)
            ((f66 k (decide ((ibits .and .i64 a2 (w64 ((w64 (1 * 2 ^ (min w0.toNat 64))) - 1))) < (ibits .and .i64 b3 (w64 ((w64 (1 * 2 ^ (min w0.toNat 64))) - 1)))))).bind fun y4 =>
            some ((y4.1.1, ()), ()))
            (cond (op1.toList == (ByteArray.mk #[60, 61]).toList)
              ((f66 k (decide ((ibits .and .i64 a2 (w64 ((w64 (1 * 2 ^ (min w0.toNat 64))) - 1))) ≤ (ibits .and .i64 b3 (w64 ((w64 (1 * 2 ^ (min w0.toNat 64))) - 1)))))).bind fun y5 =>
              some ((y5.1.1, ()), ()))
              (cond (op1.toList == (ByteArray.mk #[62]).toList)
                ((f66 k (decide ((ibits .and .i64 a2 (w64 ((w64 (1 * 2 ^ (min w0.toNat 64))) - 1))) > (ibits .and .i64 b3 (w64 ((w64 (1 * 2 ^ (min w0.toNat 64))) - 1)))))).bind fun y6 =>
                some ((y6.1.1, ()), ()))
                (cond (op1.toList == (ByteArray.mk #[62, 61]).toList)
                  ((f66 k (decide ((ibits .and .i64 a2 (w64 ((w64 (1 * 2 ^ (min w0.toNat 64))) - 1))) ≥ (ibits .and .i64 b3 (w64 ((w64 (1 * 2 ^ (min w0.toNat 64))) - 1)))))).bind fun y7 =>
                  some ((y7.1.1, ()), ()))
                  (cond (op1.toList == (ByteArray.mk #[38, 38]).toList)
                    (cond ((ibits .and .i64 a2 (w64 ((w64 (1 * 2 ^ (min w0.toNat 64))) - 1))) != 0)
                      ((f66 k ((ibits .and .i64 b3 (w64 ((w64 (1 * 2 ^ (min w0.toNat 64))) - 1))) != 0)).bind fun y8 =>
                      some ((y8.1.1, ()), ()))
                      ((f66 k false).bind fun y9 =>
                      some ((y9.1.1, ()), ())))
                    (cond (op1.toList == (ByteArray.mk #[124, 124]).toList)
                      (cond ((ibits .and .i64 a2 (w64 ((w64 (1 * 2 ^ (min w0.toNat 64))) - 1))) != 0)
                        ((f66 k true).bind fun y10 =>
                        some ((y10.1.1, ()), ()))
                        ((f66 k ((ibits .and .i64 b3 (w64 ((w64 (1 * 2 ^ (min w0.toNat 64))) - 1))) != 0)).bind fun y11 =>
                        some ((y11.1.1, ()), ())))
                      ((f67 k w0 op1 (ibits .and .i64 a2 (w64 ((w64 (1 * 2 ^ (min w0.toNat 64))) - 1))) (ibits .and .i64 b3 (w64 ((w64 (1 * 2 ^ (min w0.toNat 64))) - 1)))).bind fun y12 =>
                      let v13 := ibits .and .i64 y12.1.1 (w64 ((w64 (1 * 2 ^ (min w0.toNat 64))) - 1))
                      some ((v13, ()), ())))))))))))
noncomputable def C25 (k : Nat) : Nat → Fun := mkC [(40, (F40 (f40 k))), (66, (F66 (f66 k))), (67, (F67 (f67 k)))]
theorem c25_ok (k : Nat) : ∀ f, SoundFn Try.prog f (C25 k f) := (mkC_cons (s40 k) (mkC_cons (s66 k) (mkC_cons (s67 k) mkC_nil)))
theorem e25 (k : Nat) (x : (a25).C) : bodyR (C25 k) tt noH Try.f25 a25 o25 x = u25 (f25 k) x := by kernel_rfl
theorem s25 (k : Nat) : SoundFn Try.prog 25 (F25 (f25 k)) :=
  have hC := c25_ok k
  fnR_sound hC ttOk (draw_ok hC ttOk mixed) Try.func25 (c0 := bd Try.f25) rfl (entry Try.func25 rfl (by decide)) noH_ok rfl (fun x _ h => (e25 k x).trans h)
/-! f14 fathom/term.New (W) -/
noncomputable def a14 : Shape := ⟨[.d i64], []⟩
noncomputable def o14 : List Shape := [⟨[.nilp, .d i64], []⟩, ⟨[.ptr 0, .d i64], [.box [.d i64, .own T_Term, .mp 1], .map T_Term i64]⟩]
abbrev R14 : Type := (((Unit × Int × Unit) × Unit) ⊕ ((Unit × Int × Unit) × ((Int × (List D_Term) × Unit × Unit) × (List (D_Term × Int)) × Unit)))
abbrev T14 : Type := Int → Option R14
noncomputable def u14 (f : T14) : (a14).C → Option (OutC o14) := fun (x : ((Int × Unit) × Unit)) => f x.1.1
noncomputable def F14 (f : T14) : Fun := ⟨false, runW a14 o14 (u14 f)⟩
noncomputable def f14 (k : Nat) : T14 := fun width0 =>
  (f40 k width0).bind fun y1 =>
  cond (!y1.1.1)
    (some (.inl (((), 1, ()), ())))
    (some (.inr (((), 0, ()), ((width0, [], (), ()), [], ()))))
noncomputable def C14 (k : Nat) : Nat → Fun := mkC [(40, (F40 (f40 k)))]
theorem c14_ok (k : Nat) : ∀ f, SoundFn Try.prog f (C14 k f) := (mkC_cons (s40 k) mkC_nil)
theorem e14 (k : Nat) (x : (a14).C) : bodyW (C14 k) tt noH Try.f14 a14 o14 x = u14 (f14 k) x := by kernel_rfl
theorem s14 (k : Nat) : SoundFn Try.prog 14 (F14 (f14 k)) :=
  have hC := c14_ok k
  fnW_sound hC ttOk (draw_ok hC ttOk mixed) Try.func14 (c0 := bd Try.f14) rfl (entry Try.func14 rfl (by decide)) noH_ok (fun x _ h => (e14 k x).trans h)
/-! f58 (*fathom/term.Terms).add (W) -/
noncomputable def a58 : Shape := ⟨[.ptr 0, .d T_Term], [.box [.d i64, .own T_Term, .mp 1], .map T_Term i64]⟩
noncomputable def o58 : List Shape := [⟨[.d i64], [.box [.d i64, .own T_Term, .mp 1], .map T_Term i64]⟩]
abbrev R58 : Type := ((Int × Unit) × ((Int × (List D_Term) × Unit × Unit) × (List (D_Term × Int)) × Unit))
abbrev T58 : Type := D_Term → Int → (List D_Term) → (List (D_Term × Int)) → Option R58
noncomputable def u58 (f : T58) : (a58).C → Option (OutC o58) := fun (x : ((Unit × D_Term × Unit) × ((Int × (List D_Term) × Unit × Unit) × (List (D_Term × Int)) × Unit))) => f x.1.2.1 x.2.1.1 x.2.1.2.1 x.2.2.1
noncomputable def F58 (f : T58) : Fun := ⟨false, runW a58 o58 (u58 f)⟩
noncomputable def f58 (k : Nat) : T58 := fun x1 o0_0 o0_1 o1 =>
  cond (mget T_Term x1 o1).isSome
    (some ((((mget T_Term x1 o1).getD 0), ()), ((o0_0, o0_1, (), ()), o1, ())))
    (cond ((o0_1.length : Int) == 8192)
      (some (((-1), ()), ((o0_0, o0_1, (), ()), o1, ())))
      (gd (decide ((o0_1.length + 1) * 56 ≤ room)) <|
      some (((w64 (((o0_1 ++ ([x1] : List D_Term)).length : Int) - 1)), ()), ((o0_0, (o0_1 ++ ([x1] : List D_Term)), (), ()), (mput T_Term x1 (w64 (((o0_1 ++ ([x1] : List D_Term)).length : Int) - 1)) o1), ()))))
noncomputable def C58 (k : Nat) : Nat → Fun := mkC []
theorem c58_ok (k : Nat) : ∀ f, SoundFn Try.prog f (C58 k f) := mkC_nil
theorem e58 (k : Nat) (x : (a58).C) : bodyW (C58 k) tt noH Try.f58 a58 o58 x = u58 (f58 k) x := by kernel_rfl
theorem s58 (k : Nat) : SoundFn Try.prog 58 (F58 (f58 k)) :=
  have hC := c58_ok k
  fnW_sound hC ttOk (draw_ok hC ttOk mixed) Try.func58 (c0 := bd Try.f58) rfl (entry Try.func58 rfl (by decide)) noH_ok (fun x _ h => (e58 k x).trans h)
/-! f20 (*fathom/term.Terms).Num (W) -/
noncomputable def a20 : Shape := ⟨[.ptr 0, .d i64], [.box [.d i64, .own T_Term, .mp 1], .map T_Term i64]⟩
noncomputable def o20 : List Shape := [⟨[.d i64], [.box [.d i64, .own T_Term, .mp 1], .map T_Term i64]⟩]
abbrev R20 : Type := ((Int × Unit) × ((Int × (List D_Term) × Unit × Unit) × (List (D_Term × Int)) × Unit))
abbrev T20 : Type := Int → Int → (List D_Term) → (List (D_Term × Int)) → Option R20
noncomputable def u20 (f : T20) : (a20).C → Option (OutC o20) := fun (x : ((Unit × Int × Unit) × ((Int × (List D_Term) × Unit × Unit) × (List (D_Term × Int)) × Unit))) => f x.1.2.1 x.2.1.1 x.2.1.2.1 x.2.2.1
noncomputable def F20 (f : T20) : Fun := ⟨false, runW a20 o20 (u20 f)⟩
noncomputable def f20 (k : Nat) : T20 := fun n1 o0_0 o0_1 o1 =>
  cond (decide (o0_0 < 0))
    (none)
    ((f58 k (1, ByteArray.empty, (ibits .and .i64 n1 (w64 ((w64 (1 * 2 ^ (min o0_0.toNat 64))) - 1))), 0, 0, 0, ()) o0_0 o0_1 o1).bind fun y1 =>
    some ((y1.1.1, ()), ((y1.2.1.1, y1.2.1.2.1, (), ()), y1.2.2.1, ())))
noncomputable def C20 (k : Nat) : Nat → Fun := mkC [(58, (F58 (f58 k)))]
theorem c20_ok (k : Nat) : ∀ f, SoundFn Try.prog f (C20 k f) := (mkC_cons (s58 k) mkC_nil)
theorem e20 (k : Nat) (x : (a20).C) : bodyW (C20 k) tt noH Try.f20 a20 o20 x = u20 (f20 k) x := by kernel_rfl
theorem s20 (k : Nat) : SoundFn Try.prog 20 (F20 (f20 k)) :=
  have hC := c20_ok k
  fnW_sound hC ttOk (draw_ok hC ttOk mixed) Try.func20 (c0 := bd Try.f20) rfl (entry Try.func20 rfl (by decide)) noH_ok (fun x _ h => (e20 k x).trans h)
/-! f105 (*fathom/term.Terms).is$1 (R) -/
noncomputable def a105 : Shape := ⟨[.d i64, .ptr 0], [.box [.ptr 1], .box [.d i64, .d (.slice T_Term), .mp 2], .map T_Term i64]⟩
noncomputable def o105 : List Shape := [⟨[.d .bool], []⟩]
abbrev R105 : Type := ((Bool × Unit) × Unit)
abbrev T105 : Type := Int → Int → (List D_Term) → (List (D_Term × Int)) → Option R105
noncomputable def u105 (f : T105) : (a105).C → Option (OutC o105) := fun (x : ((Int × Unit × Unit) × ((Unit × Unit) × (Int × (List D_Term) × Unit × Unit) × (List (D_Term × Int)) × Unit))) => f x.1.1 x.2.2.1.1 x.2.2.1.2.1 x.2.2.2.1
noncomputable def F105 (f : T105) : Fun := ⟨true, runR a105 o105 (u105 f)⟩
noncomputable def f105 (k : Nat) : T105 := fun i0 o1_0 o1_1 o2 =>
  cond (decide (i0 < 0))
    (some ((true, ()), ()))
    (some (((decide (i0 ≥ (o1_1.length : Int))), ()), ()))
noncomputable def C105 (k : Nat) : Nat → Fun := mkC []
theorem c105_ok (k : Nat) : ∀ f, SoundFn Try.prog f (C105 k f) := mkC_nil
theorem e105 (k : Nat) (x : (a105).C) : bodyR (C105 k) tt noH Try.f105 a105 o105 x = u105 (f105 k) x := by kernel_rfl
theorem s105 (k : Nat) : SoundFn Try.prog 105 (F105 (f105 k)) :=
  have hC := c105_ok k
  fnR_sound hC ttOk (draw_ok hC ttOk mixed) Try.func105 (c0 := bd Try.f105) rfl (entry Try.func105 rfl (by decide)) noH_ok rfl (fun x _ h => (e105 k x).trans h)
/-! f106v2 slices.IndexFunc[[]int,int] (R) -/
noncomputable def a106v2 : Shape := ⟨[.d (.slice i64), .fn 105 [0]], [.box [.ptr 1], .box [.d i64, .d (.slice T_Term), .mp 2], .map T_Term i64]⟩
noncomputable def o106v2 : List Shape := [⟨[.d i64], []⟩]
abbrev R106v2 : Type := ((Int × Unit) × Unit)
abbrev T106v2 : Type := (List Int) → Int → (List D_Term) → (List (D_Term × Int)) → Option R106v2
noncomputable def u106v2 (f : T106v2) : (a106v2).C → Option (OutC o106v2) := fun (x : (((List Int) × Unit × Unit) × ((Unit × Unit) × (Int × (List D_Term) × Unit × Unit) × (List (D_Term × Int)) × Unit))) => f x.1.1 x.2.2.1.1 x.2.2.1.2.1 x.2.2.2.1
noncomputable def F106v2 (f : T106v2) : Fun := ⟨true, runR a106v2 o106v2 (u106v2 f)⟩
noncomputable def pa106v2_26 : Shape := ⟨[.d (.slice i64), .fn 105 [0], .d i64, .d i64], [.lk (.box [.ptr 1]), .lk (.box [.d i64, .d (.slice T_Term), .mp 2]), .lk (.map T_Term i64)]⟩
noncomputable def pw106v2_26 : List Vm.Way := [⟨.exit 0, [], ⟨[], [.any, .any, .any]⟩⟩, ⟨.ret, [4], ⟨[.d i64], [.any, .any, .any]⟩⟩]
abbrev R106v2_26 : Type := ((Unit × (Unit × Unit × Unit × Unit)) ⊕ ((Int × Unit) × (Unit × Unit × Unit × Unit)))
abbrev T106v2_26 : Type := (List Int) → Int → Int → Int → (List D_Term) → (List (D_Term × Int)) → Option R106v2_26
noncomputable def u106v2_26 (f : T106v2_26) : (pa106v2_26).C → Option (WayC pw106v2_26) := fun (x : (((List Int) × Unit × Int × Int × Unit) × ((Unit × Unit) × (Int × (List D_Term) × Unit × Unit) × (List (D_Term × Int)) × Unit))) => f x.1.1 x.1.2.2.1 x.1.2.2.2.1 x.2.2.1.1 x.2.2.1.2.1 x.2.2.2.1
noncomputable def b106v2_26 (k : Nat) (rec : T106v2_26) : T106v2_26 := fun s0 t7 t8 o1_0 o1_1 o2 =>
  cond (decide (t8 < t7))
    (ix s0 t8 fun e1 =>
    (f105 k e1 o1_0 o1_1 o2).bind fun y2 =>
    cond y2.1.1
      (some (.inr ((t8, ()), ((), (), (), ()))))
      ((rec s0 t7 (w64 (t8 + 1)) o1_0 o1_1 o2).bind fun y3 =>
      match y3 with
      | .inl y3_0 =>
        some (.inl ((), ((), (), (), ())))
      | .inr y3_1 =>
        some (.inr ((y3_1.1.1, ()), ((), (), (), ())))))
    (some (.inl ((), ((), (), (), ()))))
noncomputable def l106v2_26 (k : Nat) : Nat → T106v2_26
  | 0 => fun _ _ _ _ _ _ => none
  | j + 1 => b106v2_26 k (l106v2_26 k j)
noncomputable def f106v2 (k : Nat) : T106v2 := fun s0 o1_0 o1_1 o2 =>
  (l106v2_26 k k s0 (s0.length : Int) 0 o1_0 o1_1 o2).bind fun y1 =>
  match y1 with
  | .inl y1_0 =>
    some (((-1), ()), ())
  | .inr y1_1 =>
    some ((y1_1.1.1, ()), ())
noncomputable def C106v2 (k : Nat) : Nat → Fun := mkC [(105, (F105 (f105 k)))]
theorem c106v2_ok (k : Nat) : ∀ f, SoundFn Try.prog f (C106v2 k f) := (mkC_cons (s105 k) mkC_nil)
noncomputable def H106v2_26 (k : Nat) : Nat → Option Cut := addH noH 26 ⟨runCut (wrC (bodyOf (codeAt 26 (bd Try.f106) 26))) 19 [0, 1, 7, 8] pa106v2_26 pw106v2_26 (u106v2_26 (l106v2_26 k k))⟩
theorem e106v2_26 (k : Nat) (rec : T106v2_26) (x : (pa106v2_26).C) : roundF (C106v2 k) tt noH (bodyOf (codeAt 26 (bd Try.f106) 26)) 52 19 [0, 1, 7, 8] pa106v2_26 pw106v2_26 (u106v2_26 rec) x = u106v2_26 (b106v2_26 k rec) x := by kernel_rfl
theorem h106v2_26_ok (k : Nat) : ∀ p S, H106v2_26 k p = some S → ∀ c, At (bd Try.f106) p c → CutOk Try.prog c S :=
  have hC := c106v2_ok k
  addLoop hC ttOk (draw_ok hC ttOk mixed) noH_ok (by kernel_rfl) (F := fun j => u106v2_26 (l106v2_26 k j)) (fun _ => rfl) (fun j x _ h => (e106v2_26 k (l106v2_26 k j) x).trans h) k
theorem e106v2 (k : Nat) (x : (a106v2).C) : bodyR (C106v2 k) tt (H106v2_26 k) Try.f106 a106v2 o106v2 x = u106v2 (f106v2 k) x := by kernel_rfl
theorem s106v2 (k : Nat) : SoundFn Try.prog 106 (F106v2 (f106v2 k)) :=
  have hC := c106v2_ok k
  fnR_sound hC ttOk (draw_ok hC ttOk mixed) Try.func106 (c0 := bd Try.f106) rfl (entry Try.func106 rfl (by decide)) (h106v2_26_ok k) rfl (fun x _ h => (e106v2 k x).trans h)
/-! f86v2 slices.ContainsFunc[[]int,int] (R) -/
noncomputable def a86v2 : Shape := ⟨[.d (.slice i64), .fn 105 [0]], [.box [.ptr 1], .box [.d i64, .d (.slice T_Term), .mp 2], .map T_Term i64]⟩
noncomputable def o86v2 : List Shape := [⟨[.d .bool], []⟩]
abbrev R86v2 : Type := ((Bool × Unit) × Unit)
abbrev T86v2 : Type := (List Int) → Int → (List D_Term) → (List (D_Term × Int)) → Option R86v2
noncomputable def u86v2 (f : T86v2) : (a86v2).C → Option (OutC o86v2) := fun (x : (((List Int) × Unit × Unit) × ((Unit × Unit) × (Int × (List D_Term) × Unit × Unit) × (List (D_Term × Int)) × Unit))) => f x.1.1 x.2.2.1.1 x.2.2.1.2.1 x.2.2.2.1
noncomputable def F86v2 (f : T86v2) : Fun := ⟨true, runR a86v2 o86v2 (u86v2 f)⟩
noncomputable def f86v2 (k : Nat) : T86v2 := fun s0 o1_0 o1_1 o2 =>
  (f106v2 k s0 o1_0 o1_1 o2).bind fun y1 =>
  some (((decide (y1.1.1 ≥ 0)), ()), ())
noncomputable def C86v2 (k : Nat) : Nat → Fun := mkC [(106, (F106v2 (f106v2 k)))]
theorem c86v2_ok (k : Nat) : ∀ f, SoundFn Try.prog f (C86v2 k f) := (mkC_cons (s106v2 k) mkC_nil)
theorem e86v2 (k : Nat) (x : (a86v2).C) : bodyR (C86v2 k) tt noH Try.f86 a86v2 o86v2 x = u86v2 (f86v2 k) x := by kernel_rfl
theorem s86v2 (k : Nat) : SoundFn Try.prog 86 (F86v2 (f86v2 k)) :=
  have hC := c86v2_ok k
  fnR_sound hC ttOk (draw_ok hC ttOk mixed) Try.func86 (c0 := bd Try.f86) rfl (entry Try.func86 rfl (by decide)) noH_ok rfl (fun x _ h => (e86v2 k x).trans h)
/-! f81 (*fathom/term.Terms).is (R) -/
noncomputable def a81 : Shape := ⟨[.ptr 0, .d (.slice i64)], [.box [.d i64, .d (.slice T_Term), .mp 1], .map T_Term i64]⟩
noncomputable def o81 : List Shape := [⟨[.d .bool], []⟩]
abbrev R81 : Type := ((Bool × Unit) × Unit)
abbrev T81 : Type := (List Int) → Int → (List D_Term) → (List (D_Term × Int)) → Option R81
noncomputable def u81 (f : T81) : (a81).C → Option (OutC o81) := fun (x : ((Unit × (List Int) × Unit) × ((Int × (List D_Term) × Unit × Unit) × (List (D_Term × Int)) × Unit))) => f x.1.2.1 x.2.1.1 x.2.1.2.1 x.2.2.1
noncomputable def F81 (f : T81) : Fun := ⟨true, runR a81 o81 (u81 f)⟩
noncomputable def f81 (k : Nat) : T81 := fun l1 o0_0 o0_1 o1 =>
  (f86v2 k l1 o0_0 o0_1 o1).bind fun y1 =>
  some (((!y1.1.1), ()), ())
noncomputable def C81 (k : Nat) : Nat → Fun := mkC [(86, (F86v2 (f86v2 k)))]
theorem c81_ok (k : Nat) : ∀ f, SoundFn Try.prog f (C81 k f) := (mkC_cons (s86v2 k) mkC_nil)
theorem e81 (k : Nat) (x : (a81).C) : bodyR (C81 k) tt noH Try.f81 a81 o81 x = u81 (f81 k) x := by kernel_rfl
theorem s81 (k : Nat) : SoundFn Try.prog 81 (F81 (f81 k)) :=
  have hC := c81_ok k
  fnR_sound hC ttOk (draw_ok hC ttOk mixed) Try.func81 (c0 := bd Try.f81) rfl (entry Try.func81 rfl (by decide)) noH_ok rfl (fun x _ h => (e81 k x).trans h)
/-! f82 fathom/tree.Binary (R) -/
noncomputable def a82 : Shape := ⟨[.d .str], []⟩
noncomputable def o82 : List Shape := [⟨[.d i64], []⟩]
abbrev R82 : Type := ((Int × Unit) × Unit)
abbrev T82 : Type := ByteArray → Option R82
noncomputable def u82 (f : T82) : (a82).C → Option (OutC o82) := fun (x : ((ByteArray × Unit) × Unit)) => f x.1.1
noncomputable def F82 (f : T82) : Fun := ⟨true, runR a82 o82 (u82 f)⟩
noncomputable def pa82_441854 : Shape := ⟨[.d .str], []⟩
noncomputable def pw82_441854 : List Vm.Way := [⟨.normal, [16], ⟨[.d .bool], []⟩⟩]
abbrev R82_441854 : Type := ((Bool × Unit) × Unit)
abbrev T82_441854 : Type := ByteArray → Option R82_441854
noncomputable def u82_441854 (f : T82_441854) : (pa82_441854).C → Option (WayC pw82_441854) := fun (x : ((ByteArray × Unit) × Unit)) => f x.1.1
noncomputable def l82_441854 (k : Nat) : T82_441854 := fun t3 =>
  some (((t3.toList == (ByteArray.mk #[62]).toList), ()), ())
noncomputable def pa82_110462 : Shape := ⟨[.d .str], []⟩
noncomputable def pw82_110462 : List Vm.Way := [⟨.normal, [16], ⟨[.d .bool], []⟩⟩]
abbrev R82_110462 : Type := ((Bool × Unit) × Unit)
abbrev T82_110462 : Type := ByteArray → Option R82_110462
noncomputable def u82_110462 (f : T82_110462) : (pa82_110462).C → Option (WayC pw82_110462) := fun (x : ((ByteArray × Unit) × Unit)) => f x.1.1
noncomputable def l82_110462 (k : Nat) : T82_110462 := fun t3 =>
  some (((t3.toList == (ByteArray.mk #[60, 61]).toList), ()), ())
noncomputable def pa82_27614 : Shape := ⟨[.d .str], []⟩
noncomputable def pw82_27614 : List Vm.Way := [⟨.normal, [16], ⟨[.d .bool], []⟩⟩]
abbrev R82_27614 : Type := ((Bool × Unit) × Unit)
abbrev T82_27614 : Type := ByteArray → Option R82_27614
noncomputable def u82_27614 (f : T82_27614) : (pa82_27614).C → Option (WayC pw82_27614) := fun (x : ((ByteArray × Unit) × Unit)) => f x.1.1
noncomputable def l82_27614 (k : Nat) : T82_27614 := fun t3 =>
  some (((t3.toList == (ByteArray.mk #[60]).toList), ()), ())
noncomputable def pa82_13822 : Shape := ⟨[.d .str], []⟩
noncomputable def pw82_13822 : List Vm.Way := [⟨.normal, [25], ⟨[.d .bool], []⟩⟩]
abbrev R82_13822 : Type := ((Bool × Unit) × Unit)
abbrev T82_13822 : Type := ByteArray → Option R82_13822
noncomputable def u82_13822 (f : T82_13822) : (pa82_13822).C → Option (WayC pw82_13822) := fun (x : ((ByteArray × Unit) × Unit)) => f x.1.1
noncomputable def l82_13822 (k : Nat) : T82_13822 := fun t3 =>
  some (((t3.toList == (ByteArray.mk #[124, 124]).toList), ()), ())
noncomputable def pa82_6902 : Shape := ⟨[.d .str], []⟩
noncomputable def pw82_6902 : List Vm.Way := [⟨.normal, [16], ⟨[.d .bool], []⟩⟩]
abbrev R82_6902 : Type := ((Bool × Unit) × Unit)
abbrev T82_6902 : Type := ByteArray → Option R82_6902
noncomputable def u82_6902 (f : T82_6902) : (pa82_6902).C → Option (WayC pw82_6902) := fun (x : ((ByteArray × Unit) × Unit)) => f x.1.1
noncomputable def l82_6902 (k : Nat) : T82_6902 := fun t3 =>
  some (((t3.toList == (ByteArray.mk #[33, 61]).toList), ()), ())
noncomputable def pa82_6878 : Shape := ⟨[.d .str], []⟩
noncomputable def pw82_6878 : List Vm.Way := [⟨.normal, [11], ⟨[.d .bool], []⟩⟩]
abbrev R82_6878 : Type := ((Bool × Unit) × Unit)
abbrev T82_6878 : Type := ByteArray → Option R82_6878
noncomputable def u82_6878 (f : T82_6878) : (pa82_6878).C → Option (WayC pw82_6878) := fun (x : ((ByteArray × Unit) × Unit)) => f x.1.1
noncomputable def l82_6878 (k : Nat) : T82_6878 := fun t3 =>
  some (((t3.toList == (ByteArray.mk #[124]).toList), ()), ())
noncomputable def pa82_3454 : Shape := ⟨[.d .str], []⟩
noncomputable def pw82_3454 : List Vm.Way := [⟨.normal, [23], ⟨[.d .bool], []⟩⟩]
abbrev R82_3454 : Type := ((Bool × Unit) × Unit)
abbrev T82_3454 : Type := ByteArray → Option R82_3454
noncomputable def u82_3454 (f : T82_3454) : (pa82_3454).C → Option (WayC pw82_3454) := fun (x : ((ByteArray × Unit) × Unit)) => f x.1.1
noncomputable def l82_3454 (k : Nat) : T82_3454 := fun t3 =>
  some (((t3.toList == (ByteArray.mk #[38, 38]).toList), ()), ())
noncomputable def pa82_1724 : Shape := ⟨[.d .str], []⟩
noncomputable def pw82_1724 : List Vm.Way := [⟨.normal, [16], ⟨[.d .bool], []⟩⟩]
abbrev R82_1724 : Type := ((Bool × Unit) × Unit)
abbrev T82_1724 : Type := ByteArray → Option R82_1724
noncomputable def u82_1724 (f : T82_1724) : (pa82_1724).C → Option (WayC pw82_1724) := fun (x : ((ByteArray × Unit) × Unit)) => f x.1.1
noncomputable def l82_1724 (k : Nat) : T82_1724 := fun t3 =>
  some (((t3.toList == (ByteArray.mk #[61, 61]).toList), ()), ())
noncomputable def pa82_1718 : Shape := ⟨[.d .str], []⟩
noncomputable def pw82_1718 : List Vm.Way := [⟨.normal, [11], ⟨[.d .bool], []⟩⟩]
abbrev R82_1718 : Type := ((Bool × Unit) × Unit)
abbrev T82_1718 : Type := ByteArray → Option R82_1718
noncomputable def u82_1718 (f : T82_1718) : (pa82_1718).C → Option (WayC pw82_1718) := fun (x : ((ByteArray × Unit) × Unit)) => f x.1.1
noncomputable def l82_1718 (k : Nat) : T82_1718 := fun t3 =>
  some (((t3.toList == (ByteArray.mk #[45]).toList), ()), ())
noncomputable def pa82_862 : Shape := ⟨[.d .str], []⟩
noncomputable def pw82_862 : List Vm.Way := [⟨.normal, [16], ⟨[.d .bool], []⟩⟩]
abbrev R82_862 : Type := ((Bool × Unit) × Unit)
abbrev T82_862 : Type := ByteArray → Option R82_862
noncomputable def u82_862 (f : T82_862) : (pa82_862).C → Option (WayC pw82_862) := fun (x : ((ByteArray × Unit) × Unit)) => f x.1.1
noncomputable def l82_862 (k : Nat) : T82_862 := fun t3 =>
  (l82_1724 k t3).bind fun y1 =>
  cond y1.1.1
    (some ((y1.1.1, ()), ()))
    ((l82_6902 k t3).bind fun y2 =>
    cond y2.1.1
      (some ((y2.1.1, ()), ()))
      ((l82_27614 k t3).bind fun y3 =>
      cond y3.1.1
        (some ((y3.1.1, ()), ()))
        ((l82_110462 k t3).bind fun y4 =>
        cond y4.1.1
          (some ((y4.1.1, ()), ()))
          ((l82_441854 k t3).bind fun y5 =>
          cond y5.1.1
            (some ((y5.1.1, ()), ()))
            (some (((t3.toList == (ByteArray.mk #[62, 61]).toList), ()), ()))))))
noncomputable def pa82_428 : Shape := ⟨[.d .str], []⟩
noncomputable def pw82_428 : List Vm.Way := [⟨.normal, [11], ⟨[.d .bool], []⟩⟩]
abbrev R82_428 : Type := ((Bool × Unit) × Unit)
abbrev T82_428 : Type := ByteArray → Option R82_428
noncomputable def u82_428 (f : T82_428) : (pa82_428).C → Option (WayC pw82_428) := fun (x : ((ByteArray × Unit) × Unit)) => f x.1.1
noncomputable def l82_428 (k : Nat) : T82_428 := fun t3 =>
  some (((t3.toList == (ByteArray.mk #[43]).toList), ()), ())
noncomputable def pa82_214 : Shape := ⟨[.d .str], []⟩
noncomputable def pw82_214 : List Vm.Way := [⟨.normal, [11], ⟨[.d .bool], []⟩⟩]
abbrev R82_214 : Type := ((Bool × Unit) × Unit)
abbrev T82_214 : Type := ByteArray → Option R82_214
noncomputable def u82_214 (f : T82_214) : (pa82_214).C → Option (WayC pw82_214) := fun (x : ((ByteArray × Unit) × Unit)) => f x.1.1
noncomputable def l82_214 (k : Nat) : T82_214 := fun t3 =>
  (l82_428 k t3).bind fun y1 =>
  cond y1.1.1
    (some ((y1.1.1, ()), ()))
    ((l82_1718 k t3).bind fun y2 =>
    cond y2.1.1
      (some ((y2.1.1, ()), ()))
      ((l82_6878 k t3).bind fun y3 =>
      cond y3.1.1
        (some ((y3.1.1, ()), ()))
        (some (((t3.toList == (ByteArray.mk #[94]).toList), ()), ()))))
noncomputable def pa82_52 : Shape := ⟨[.d .str], []⟩
noncomputable def pw82_52 : List Vm.Way := [⟨.normal, [4], ⟨[.d .bool], []⟩⟩]
abbrev R82_52 : Type := ((Bool × Unit) × Unit)
abbrev T82_52 : Type := ByteArray → Option R82_52
noncomputable def u82_52 (f : T82_52) : (pa82_52).C → Option (WayC pw82_52) := fun (x : ((ByteArray × Unit) × Unit)) => f x.1.1
noncomputable def l82_52 (k : Nat) : T82_52 := fun t3 =>
  cond (t3.toList == (ByteArray.mk #[42]).toList)
    (some (((t3.toList == (ByteArray.mk #[42]).toList), ()), ()))
    (cond (t3.toList == (ByteArray.mk #[47]).toList)
      (some (((t3.toList == (ByteArray.mk #[47]).toList), ()), ()))
      (cond (t3.toList == (ByteArray.mk #[37]).toList)
        (some (((t3.toList == (ByteArray.mk #[37]).toList), ()), ()))
        (cond (t3.toList == (ByteArray.mk #[60, 60]).toList)
          (some (((t3.toList == (ByteArray.mk #[60, 60]).toList), ()), ()))
          (cond (t3.toList == (ByteArray.mk #[62, 62]).toList)
            (some (((t3.toList == (ByteArray.mk #[62, 62]).toList), ()), ()))
            (some (((t3.toList == (ByteArray.mk #[38]).toList), ()), ()))))))
noncomputable def f82 (k : Nat) : T82 := fun op0 =>
  (l82_52 k op0).bind fun y1 =>
  cond y1.1.1
    (some ((5, ()), ()))
    ((l82_214 k op0).bind fun y2 =>
    cond y2.1.1
      (some ((4, ()), ()))
      ((l82_862 k op0).bind fun y3 =>
      cond y3.1.1
        (some ((3, ()), ()))
        ((l82_3454 k op0).bind fun y4 =>
        cond y4.1.1
          (some ((2, ()), ()))
          ((l82_13822 k op0).bind fun y5 =>
          cond y5.1.1
            (some ((1, ()), ()))
            (some ((0, ()), ()))))))
noncomputable def C82 (k : Nat) : Nat → Fun := mkC []
theorem c82_ok (k : Nat) : ∀ f, SoundFn Try.prog f (C82 k f) := mkC_nil
noncomputable def H82_441854 (k : Nat) : Nat → Option Cut := addH noH 441854 ⟨runCut (wrC (codeAt 441854 (bd Try.f82) 441854)) 27 [3] pa82_441854 pw82_441854 (u82_441854 (l82_441854 k))⟩
theorem e82_441854 (k : Nat) (x : (pa82_441854).C) : pieceF (C82 k) tt noH (codeAt 441854 (bd Try.f82) 441854) 441854 27 [3] pa82_441854 pw82_441854 x = u82_441854 (l82_441854 k) x := by kernel_rfl
theorem h82_441854_ok (k : Nat) : ∀ p S, H82_441854 k p = some S → ∀ c, At (bd Try.f82) p c → CutOk Try.prog c S :=
  have hC := c82_ok k
  addPiece hC ttOk (draw_ok hC ttOk mixed) noH_ok (fun x _ h => (e82_441854 k x).trans h)
noncomputable def H82_110462 (k : Nat) : Nat → Option Cut := addH (H82_441854 k) 110462 ⟨runCut (wrC (codeAt 110462 (bd Try.f82) 110462)) 27 [3] pa82_110462 pw82_110462 (u82_110462 (l82_110462 k))⟩
theorem e82_110462 (k : Nat) (x : (pa82_110462).C) : pieceF (C82 k) tt (H82_441854 k) (codeAt 110462 (bd Try.f82) 110462) 110462 27 [3] pa82_110462 pw82_110462 x = u82_110462 (l82_110462 k) x := by kernel_rfl
theorem h82_110462_ok (k : Nat) : ∀ p S, H82_110462 k p = some S → ∀ c, At (bd Try.f82) p c → CutOk Try.prog c S :=
  have hC := c82_ok k
  addPiece hC ttOk (draw_ok hC ttOk mixed) (h82_441854_ok k) (fun x _ h => (e82_110462 k x).trans h)
noncomputable def H82_27614 (k : Nat) : Nat → Option Cut := addH (H82_110462 k) 27614 ⟨runCut (wrC (codeAt 27614 (bd Try.f82) 27614)) 27 [3] pa82_27614 pw82_27614 (u82_27614 (l82_27614 k))⟩
theorem e82_27614 (k : Nat) (x : (pa82_27614).C) : pieceF (C82 k) tt (H82_110462 k) (codeAt 27614 (bd Try.f82) 27614) 27614 27 [3] pa82_27614 pw82_27614 x = u82_27614 (l82_27614 k) x := by kernel_rfl
theorem h82_27614_ok (k : Nat) : ∀ p S, H82_27614 k p = some S → ∀ c, At (bd Try.f82) p c → CutOk Try.prog c S :=
  have hC := c82_ok k
  addPiece hC ttOk (draw_ok hC ttOk mixed) (h82_110462_ok k) (fun x _ h => (e82_27614 k x).trans h)
noncomputable def H82_13822 (k : Nat) : Nat → Option Cut := addH (H82_27614 k) 13822 ⟨runCut (wrC (codeAt 13822 (bd Try.f82) 13822)) 27 [3] pa82_13822 pw82_13822 (u82_13822 (l82_13822 k))⟩
theorem e82_13822 (k : Nat) (x : (pa82_13822).C) : pieceF (C82 k) tt (H82_27614 k) (codeAt 13822 (bd Try.f82) 13822) 13822 27 [3] pa82_13822 pw82_13822 x = u82_13822 (l82_13822 k) x := by kernel_rfl
theorem h82_13822_ok (k : Nat) : ∀ p S, H82_13822 k p = some S → ∀ c, At (bd Try.f82) p c → CutOk Try.prog c S :=
  have hC := c82_ok k
  addPiece hC ttOk (draw_ok hC ttOk mixed) (h82_27614_ok k) (fun x _ h => (e82_13822 k x).trans h)
noncomputable def H82_6902 (k : Nat) : Nat → Option Cut := addH (H82_13822 k) 6902 ⟨runCut (wrC (codeAt 6902 (bd Try.f82) 6902)) 27 [3] pa82_6902 pw82_6902 (u82_6902 (l82_6902 k))⟩
theorem e82_6902 (k : Nat) (x : (pa82_6902).C) : pieceF (C82 k) tt (H82_13822 k) (codeAt 6902 (bd Try.f82) 6902) 6902 27 [3] pa82_6902 pw82_6902 x = u82_6902 (l82_6902 k) x := by kernel_rfl
theorem h82_6902_ok (k : Nat) : ∀ p S, H82_6902 k p = some S → ∀ c, At (bd Try.f82) p c → CutOk Try.prog c S :=
  have hC := c82_ok k
  addPiece hC ttOk (draw_ok hC ttOk mixed) (h82_13822_ok k) (fun x _ h => (e82_6902 k x).trans h)
noncomputable def H82_6878 (k : Nat) : Nat → Option Cut := addH (H82_6902 k) 6878 ⟨runCut (wrC (codeAt 6878 (bd Try.f82) 6878)) 27 [3] pa82_6878 pw82_6878 (u82_6878 (l82_6878 k))⟩
theorem e82_6878 (k : Nat) (x : (pa82_6878).C) : pieceF (C82 k) tt (H82_6902 k) (codeAt 6878 (bd Try.f82) 6878) 6878 27 [3] pa82_6878 pw82_6878 x = u82_6878 (l82_6878 k) x := by kernel_rfl
theorem h82_6878_ok (k : Nat) : ∀ p S, H82_6878 k p = some S → ∀ c, At (bd Try.f82) p c → CutOk Try.prog c S :=
  have hC := c82_ok k
  addPiece hC ttOk (draw_ok hC ttOk mixed) (h82_6902_ok k) (fun x _ h => (e82_6878 k x).trans h)
noncomputable def H82_3454 (k : Nat) : Nat → Option Cut := addH (H82_6878 k) 3454 ⟨runCut (wrC (codeAt 3454 (bd Try.f82) 3454)) 27 [3] pa82_3454 pw82_3454 (u82_3454 (l82_3454 k))⟩
theorem e82_3454 (k : Nat) (x : (pa82_3454).C) : pieceF (C82 k) tt (H82_6878 k) (codeAt 3454 (bd Try.f82) 3454) 3454 27 [3] pa82_3454 pw82_3454 x = u82_3454 (l82_3454 k) x := by kernel_rfl
theorem h82_3454_ok (k : Nat) : ∀ p S, H82_3454 k p = some S → ∀ c, At (bd Try.f82) p c → CutOk Try.prog c S :=
  have hC := c82_ok k
  addPiece hC ttOk (draw_ok hC ttOk mixed) (h82_6878_ok k) (fun x _ h => (e82_3454 k x).trans h)
noncomputable def H82_1724 (k : Nat) : Nat → Option Cut := addH (H82_3454 k) 1724 ⟨runCut (wrC (codeAt 1724 (bd Try.f82) 1724)) 27 [3] pa82_1724 pw82_1724 (u82_1724 (l82_1724 k))⟩
theorem e82_1724 (k : Nat) (x : (pa82_1724).C) : pieceF (C82 k) tt (H82_3454 k) (codeAt 1724 (bd Try.f82) 1724) 1724 27 [3] pa82_1724 pw82_1724 x = u82_1724 (l82_1724 k) x := by kernel_rfl
theorem h82_1724_ok (k : Nat) : ∀ p S, H82_1724 k p = some S → ∀ c, At (bd Try.f82) p c → CutOk Try.prog c S :=
  have hC := c82_ok k
  addPiece hC ttOk (draw_ok hC ttOk mixed) (h82_3454_ok k) (fun x _ h => (e82_1724 k x).trans h)
noncomputable def H82_1718 (k : Nat) : Nat → Option Cut := addH (H82_1724 k) 1718 ⟨runCut (wrC (codeAt 1718 (bd Try.f82) 1718)) 27 [3] pa82_1718 pw82_1718 (u82_1718 (l82_1718 k))⟩
theorem e82_1718 (k : Nat) (x : (pa82_1718).C) : pieceF (C82 k) tt (H82_1724 k) (codeAt 1718 (bd Try.f82) 1718) 1718 27 [3] pa82_1718 pw82_1718 x = u82_1718 (l82_1718 k) x := by kernel_rfl
theorem h82_1718_ok (k : Nat) : ∀ p S, H82_1718 k p = some S → ∀ c, At (bd Try.f82) p c → CutOk Try.prog c S :=
  have hC := c82_ok k
  addPiece hC ttOk (draw_ok hC ttOk mixed) (h82_1724_ok k) (fun x _ h => (e82_1718 k x).trans h)
noncomputable def H82_862 (k : Nat) : Nat → Option Cut := addH (H82_1718 k) 862 ⟨runCut (wrC (codeAt 862 (bd Try.f82) 862)) 27 [3] pa82_862 pw82_862 (u82_862 (l82_862 k))⟩
theorem e82_862 (k : Nat) (x : (pa82_862).C) : pieceF (C82 k) tt (H82_1718 k) (codeAt 862 (bd Try.f82) 862) 862 27 [3] pa82_862 pw82_862 x = u82_862 (l82_862 k) x := by kernel_rfl
theorem h82_862_ok (k : Nat) : ∀ p S, H82_862 k p = some S → ∀ c, At (bd Try.f82) p c → CutOk Try.prog c S :=
  have hC := c82_ok k
  addPiece hC ttOk (draw_ok hC ttOk mixed) (h82_1718_ok k) (fun x _ h => (e82_862 k x).trans h)
noncomputable def H82_428 (k : Nat) : Nat → Option Cut := addH (H82_862 k) 428 ⟨runCut (wrC (codeAt 428 (bd Try.f82) 428)) 27 [3] pa82_428 pw82_428 (u82_428 (l82_428 k))⟩
theorem e82_428 (k : Nat) (x : (pa82_428).C) : pieceF (C82 k) tt (H82_862 k) (codeAt 428 (bd Try.f82) 428) 428 27 [3] pa82_428 pw82_428 x = u82_428 (l82_428 k) x := by kernel_rfl
theorem h82_428_ok (k : Nat) : ∀ p S, H82_428 k p = some S → ∀ c, At (bd Try.f82) p c → CutOk Try.prog c S :=
  have hC := c82_ok k
  addPiece hC ttOk (draw_ok hC ttOk mixed) (h82_862_ok k) (fun x _ h => (e82_428 k x).trans h)
noncomputable def H82_214 (k : Nat) : Nat → Option Cut := addH (H82_428 k) 214 ⟨runCut (wrC (codeAt 214 (bd Try.f82) 214)) 27 [3] pa82_214 pw82_214 (u82_214 (l82_214 k))⟩
theorem e82_214 (k : Nat) (x : (pa82_214).C) : pieceF (C82 k) tt (H82_428 k) (codeAt 214 (bd Try.f82) 214) 214 27 [3] pa82_214 pw82_214 x = u82_214 (l82_214 k) x := by kernel_rfl
theorem h82_214_ok (k : Nat) : ∀ p S, H82_214 k p = some S → ∀ c, At (bd Try.f82) p c → CutOk Try.prog c S :=
  have hC := c82_ok k
  addPiece hC ttOk (draw_ok hC ttOk mixed) (h82_428_ok k) (fun x _ h => (e82_214 k x).trans h)
noncomputable def H82_52 (k : Nat) : Nat → Option Cut := addH (H82_214 k) 52 ⟨runCut (wrC (codeAt 52 (bd Try.f82) 52)) 27 [3] pa82_52 pw82_52 (u82_52 (l82_52 k))⟩
theorem e82_52 (k : Nat) (x : (pa82_52).C) : pieceF (C82 k) tt (H82_214 k) (codeAt 52 (bd Try.f82) 52) 52 27 [3] pa82_52 pw82_52 x = u82_52 (l82_52 k) x := by kernel_rfl
theorem h82_52_ok (k : Nat) : ∀ p S, H82_52 k p = some S → ∀ c, At (bd Try.f82) p c → CutOk Try.prog c S :=
  have hC := c82_ok k
  addPiece hC ttOk (draw_ok hC ttOk mixed) (h82_214_ok k) (fun x _ h => (e82_52 k x).trans h)
theorem e82 (k : Nat) (x : (a82).C) : bodyR (C82 k) tt (H82_52 k) Try.f82 a82 o82 x = u82 (f82 k) x := by kernel_rfl
theorem s82 (k : Nat) : SoundFn Try.prog 82 (F82 (f82 k)) :=
  have hC := c82_ok k
  fnR_sound hC ttOk (draw_ok hC ttOk mixed) Try.func82 (c0 := bd Try.f82) rfl (entry Try.func82 rfl (by decide)) (h82_52_ok k) rfl (fun x _ h => (e82 k x).trans h)
/-! f83 (*fathom/term.Terms).num (R) -/
noncomputable def a83 : Shape := ⟨[.ptr 0, .d i64], [.box [.d i64, .d (.slice T_Term), .mp 1], .map T_Term i64]⟩
noncomputable def o83 : List Shape := [⟨[.d i64, .d .bool], []⟩]
abbrev R83 : Type := ((Int × Bool × Unit) × Unit)
abbrev T83 : Type := Int → Int → (List D_Term) → (List (D_Term × Int)) → Option R83
noncomputable def u83 (f : T83) : (a83).C → Option (OutC o83) := fun (x : ((Unit × Int × Unit) × ((Int × (List D_Term) × Unit × Unit) × (List (D_Term × Int)) × Unit))) => f x.1.2.1 x.2.1.1 x.2.1.2.1 x.2.2.1
noncomputable def F83 (f : T83) : Fun := ⟨true, runR a83 o83 (u83 f)⟩
noncomputable def f83 (k : Nat) : T83 := fun i1 o0_0 o0_1 o1 =>
  ix o0_1 i1 fun e1 =>
  ix o0_1 i1 fun e2 =>
  some ((e1.2.2.1, (e2.1 == 1), ()), ())
noncomputable def C83 (k : Nat) : Nat → Fun := mkC []
theorem c83_ok (k : Nat) : ∀ f, SoundFn Try.prog f (C83 k f) := mkC_nil
theorem e83 (k : Nat) (x : (a83).C) : bodyR (C83 k) tt noH Try.f83 a83 o83 x = u83 (f83 k) x := by kernel_rfl
theorem s83 (k : Nat) : SoundFn Try.prog 83 (F83 (f83 k)) :=
  have hC := c83_ok k
  fnR_sound hC ttOk (draw_ok hC ttOk mixed) Try.func83 (c0 := bd Try.f83) rfl (entry Try.func83 rfl (by decide)) noH_ok rfl (fun x _ h => (e83 k x).trans h)
/-! f37 (*fathom/term.Terms).Binary (W) -/
noncomputable def a37 : Shape := ⟨[.ptr 0, .d .str, .d i64, .d i64], [.box [.d i64, .own T_Term, .mp 1], .map T_Term i64]⟩
noncomputable def o37 : List Shape := [⟨[.d i64], [.box [.d i64, .own T_Term, .mp 1], .map T_Term i64]⟩]
abbrev R37 : Type := ((Int × Unit) × ((Int × (List D_Term) × Unit × Unit) × (List (D_Term × Int)) × Unit))
abbrev T37 : Type := ByteArray → Int → Int → Int → (List D_Term) → (List (D_Term × Int)) → Option R37
noncomputable def u37 (f : T37) : (a37).C → Option (OutC o37) := fun (x : ((Unit × ByteArray × Int × Int × Unit) × ((Int × (List D_Term) × Unit × Unit) × (List (D_Term × Int)) × Unit))) => f x.1.2.1 x.1.2.2.1 x.1.2.2.2.1 x.2.1.1 x.2.1.2.1 x.2.2.1
noncomputable def F37 (f : T37) : Fun := ⟨false, runW a37 o37 (u37 f)⟩
noncomputable def f37 (k : Nat) : T37 := fun op1 a2 b3 o0_0 o0_1 o1 =>
  (f81 k [a2, b3] o0_0 o0_1 o1).bind fun y1 =>
  cond (!y1.1.1)
    (some (((-1), ()), ((o0_0, o0_1, (), ()), o1, ())))
    ((f82 k op1).bind fun y2 =>
    cond (y2.1.1 == 0)
      (some (((-1), ()), ((o0_0, o0_1, (), ()), o1, ())))
      ((f83 k a2 o0_0 o0_1 o1).bind fun y3 =>
      (f83 k b3 o0_0 o0_1 o1).bind fun y4 =>
      cond y3.1.2.1
        (cond y4.1.2.1
          ((f25 k o0_0 op1 y3.1.1 y4.1.1).bind fun y5 =>
          (f20 k y5.1.1 o0_0 o0_1 o1).bind fun y6 =>
          some ((y6.1.1, ()), ((y6.2.1.1, y6.2.1.2.1, (), ()), y6.2.2.1, ())))
          ((f58 k (4, op1, 0, a2, b3, 0, ()) o0_0 o0_1 o1).bind fun y7 =>
          some ((y7.1.1, ()), ((y7.2.1.1, y7.2.1.2.1, (), ()), y7.2.2.1, ()))))
        ((f58 k (4, op1, 0, a2, b3, 0, ()) o0_0 o0_1 o1).bind fun y8 =>
        some ((y8.1.1, ()), ((y8.2.1.1, y8.2.1.2.1, (), ()), y8.2.2.1, ())))))
noncomputable def C37 (k : Nat) : Nat → Fun := mkC [(20, (F20 (f20 k))), (25, (F25 (f25 k))), (58, (F58 (f58 k))), (81, (F81 (f81 k))), (82, (F82 (f82 k))), (83, (F83 (f83 k)))]
theorem c37_ok (k : Nat) : ∀ f, SoundFn Try.prog f (C37 k f) := (mkC_cons (s20 k) (mkC_cons (s25 k) (mkC_cons (s58 k) (mkC_cons (s81 k) (mkC_cons (s82 k) (mkC_cons (s83 k) mkC_nil))))))
theorem e37 (k : Nat) (x : (a37).C) : bodyW (C37 k) tt noH Try.f37 a37 o37 x = u37 (f37 k) x := by kernel_rfl
theorem s37 (k : Nat) : SoundFn Try.prog 37 (F37 (f37 k)) :=
  have hC := c37_ok k
  fnW_sound hC ttOk (draw_ok hC ttOk mixed) Try.func37 (c0 := bd Try.f37) rfl (entry Try.func37 rfl (by decide)) noH_ok (fun x _ h => (e37 k x).trans h)
/-! f57v2 slices.Clone[[]fathom/api.Term,fathom/api.Term] (R) -/
noncomputable def a57v2 : Shape := ⟨[.nils], []⟩
noncomputable def o57v2 : List Shape := [⟨[.d (.slice T_Term)], []⟩]
abbrev R57v2 : Type := (((List D_Term) × Unit) × Unit)
abbrev T57v2 : Type := Unit → Option R57v2
noncomputable def u57v2 (f : T57v2) : (a57v2).C → Option (OutC o57v2) := fun (x : ((Unit × Unit) × Unit)) => f ()
noncomputable def F57v2 (f : T57v2) : Fun := ⟨true, runR a57v2 o57v2 (u57v2 f)⟩
noncomputable def f57v2 (k : Nat) : T57v2 := fun _ =>
  some (([], ()), ())
noncomputable def C57v2 (k : Nat) : Nat → Fun := mkC []
theorem c57v2_ok (k : Nat) : ∀ f, SoundFn Try.prog f (C57v2 k f) := mkC_nil
theorem e57v2 (k : Nat) (x : (a57v2).C) : bodyR (C57v2 k) tt noH Try.f57 a57v2 o57v2 x = u57v2 (f57v2 k) x := by kernel_rfl
theorem s57v2 (k : Nat) : SoundFn Try.prog 57 (F57v2 (f57v2 k)) :=
  have hC := c57v2_ok k
  fnR_sound hC ttOk (draw_ok hC ttOk mixed) Try.func57 (c0 := bd Try.f57) rfl (entry Try.func57 rfl (by decide)) noH_ok rfl (fun x _ h => (e57v2 k x).trans h)
/-! f57v3 slices.Clone[[]fathom/api.Term,fathom/api.Term] (R) -/
noncomputable def a57v3 : Shape := ⟨[.nn T_Term], []⟩
noncomputable def o57v3 : List Shape := [⟨[.d (.slice T_Term)], []⟩]
abbrev R57v3 : Type := (((List D_Term) × Unit) × Unit)
abbrev T57v3 : Type := (List D_Term) → Option R57v3
noncomputable def u57v3 (f : T57v3) : (a57v3).C → Option (OutC o57v3) := fun (x : (((List D_Term) × Unit) × Unit)) => f x.1.1
noncomputable def F57v3 (f : T57v3) : Fun := ⟨true, runR a57v3 o57v3 (u57v3 f)⟩
noncomputable def f57v3 (k : Nat) : T57v3 := fun s0 =>
  gd (decide ((0 + s0.length) * 56 ≤ room)) <|
  some (((([] : List D_Term) ++ s0), ()), ())
noncomputable def C57v3 (k : Nat) : Nat → Fun := mkC []
theorem c57v3_ok (k : Nat) : ∀ f, SoundFn Try.prog f (C57v3 k f) := mkC_nil
theorem e57v3 (k : Nat) (x : (a57v3).C) : bodyR (C57v3 k) tt noH Try.f57 a57v3 o57v3 x = u57v3 (f57v3 k) x := by kernel_rfl
theorem s57v3 (k : Nat) : SoundFn Try.prog 57 (F57v3 (f57v3 k)) :=
  have hC := c57v3_ok k
  fnR_sound hC ttOk (draw_ok hC ttOk mixed) Try.func57 (c0 := bd Try.f57) rfl (entry Try.func57 rfl (by decide)) noH_ok rfl (fun x _ h => (e57v3 k x).trans h)
/-! f57 slices.Clone[[]fathom/api.Term,fathom/api.Term] (R) -/
noncomputable def a57 : Shape := ⟨[.d (.slice T_Term)], []⟩
noncomputable def o57 : List Shape := [⟨[.d (.slice T_Term)], []⟩]
abbrev R57 : Type := (((List D_Term) × Unit) × Unit)
abbrev T57 : Type := (List D_Term) → Option R57
noncomputable def u57 (f : T57) : (a57).C → Option (OutC o57) := fun (x : (((List D_Term) × Unit) × Unit)) => f x.1.1
noncomputable def F57 (f : T57) : Fun := ⟨true, runR a57 o57 (u57 f)⟩
noncomputable def f57 (k : Nat) : T57 := fun s0 => f57v3 k s0
theorem s57 (k : Nat) : SoundFn Try.prog 57 (F57 (f57 k)) := splitR (s57v2 k) (s57v3 k) (fun xs y h => ⟨h, fun e => by subst e; exact (show u57v2 (f57v2 k) (((), ()), ()) = u57v3 (f57v3 k) (([], ()), ()) from by kernel_rfl).trans h⟩)
/-! f19 (*fathom/term.Terms).All (R) -/
noncomputable def a19 : Shape := ⟨[.ptr 0], [.box [.d i64, .d (.slice T_Term), .mp 1], .map T_Term i64]⟩
noncomputable def o19 : List Shape := [⟨[.d (.slice T_Term)], []⟩]
abbrev R19 : Type := (((List D_Term) × Unit) × Unit)
abbrev T19 : Type := Int → (List D_Term) → (List (D_Term × Int)) → Option R19
noncomputable def u19 (f : T19) : (a19).C → Option (OutC o19) := fun (x : ((Unit × Unit) × ((Int × (List D_Term) × Unit × Unit) × (List (D_Term × Int)) × Unit))) => f x.2.1.1 x.2.1.2.1 x.2.2.1
noncomputable def F19 (f : T19) : Fun := ⟨true, runR a19 o19 (u19 f)⟩
noncomputable def f19 (k : Nat) : T19 := fun o0_0 o0_1 o1 =>
  (f57 k o0_1).bind fun y1 =>
  some ((y1.1.1, ()), ())
noncomputable def C19 (k : Nat) : Nat → Fun := mkC [(57, (F57 (f57 k)))]
theorem c19_ok (k : Nat) : ∀ f, SoundFn Try.prog f (C19 k f) := (mkC_cons (s57 k) mkC_nil)
theorem e19 (k : Nat) (x : (a19).C) : bodyR (C19 k) tt noH Try.f19 a19 o19 x = u19 (f19 k) x := by kernel_rfl
theorem s19 (k : Nat) : SoundFn Try.prog 19 (F19 (f19 k)) :=
  have hC := c19_ok k
  fnR_sound hC ttOk (draw_ok hC ttOk mixed) Try.func19 (c0 := bd Try.f19) rfl (entry Try.func19 rfl (by decide)) noH_ok rfl (fun x _ h => (e19 k x).trans h)
/-! f8 fathom/fathomlaw25.awake (R) -/
noncomputable def a8 : Shape := ⟨[], []⟩
noncomputable def o8 : List Shape := [⟨[.d .bool], []⟩]
abbrev R8 : Type := ((Bool × Unit) × Unit)
abbrev T8 : Type := Unit → Option R8
noncomputable def u8 (f : T8) : (a8).C → Option (OutC o8) := fun (x : (Unit × Unit)) => f ()
noncomputable def F8 (f : T8) : Fun := ⟨true, runR a8 o8 (u8 f)⟩
noncomputable def f8 (k : Nat) : T8 := fun _ =>
  (f14 k 2).bind fun y1 =>
  match y1 with
  | .inl y1_0 =>
    cond (y1_0.1.2.1 != 0)
      (some ((false, ()), ()))
      (some ((false, ()), ()))
  | .inr y1_1 =>
    cond (y1_1.1.2.1 != 0)
      (some ((false, ()), ()))
      ((f20 k 3 y1_1.2.1.1 y1_1.2.1.2.1 y1_1.2.2.1).bind fun y2 =>
      (f20 k 2 y2.2.1.1 y2.2.1.2.1 y2.2.2.1).bind fun y3 =>
      (f37 k (ByteArray.mk #[43]) y2.1.1 y3.1.1 y3.2.1.1 y3.2.1.2.1 y3.2.2.1).bind fun y4 =>
      cond (y4.1.1 == 2)
        ((f19 k y4.2.1.1 y4.2.1.2.1 y4.2.2.1).bind fun y5 =>
        ix y5.1.1 2 fun e6 =>
        cond (e6.2.2.1 == 1)
          ((f37 k (ByteArray.mk #[43]) y2.1.1 y3.1.1 y4.2.1.1 y4.2.1.2.1 y4.2.2.1).bind fun y7 =>
          some (((y7.1.1 == y4.1.1), ()), ()))
          (some ((false, ()), ())))
        (some ((false, ()), ())))
noncomputable def C8 (k : Nat) : Nat → Fun := mkC [(14, (F14 (f14 k))), (19, (F19 (f19 k))), (20, (F20 (f20 k))), (37, (F37 (f37 k)))]
theorem c8_ok (k : Nat) : ∀ f, SoundFn Try.prog f (C8 k f) := (mkC_cons (s14 k) (mkC_cons (s19 k) (mkC_cons (s20 k) (mkC_cons (s37 k) mkC_nil))))
theorem e8 (k : Nat) (x : (a8).C) : bodyR (C8 k) tt noH Try.f8 a8 o8 x = u8 (f8 k) x := by kernel_rfl
theorem s8 (k : Nat) : SoundFn Try.prog 8 (F8 (f8 k)) :=
  have hC := c8_ok k
  fnR_sound hC ttOk (draw_ok hC ttOk mixed) Try.func8 (c0 := bd Try.f8) rfl (entry Try.func8 rfl (by decide)) noH_ok rfl (fun x _ h => (e8 k x).trans h)
/-! f26 fathom/fathomref21.Binary (R) -/
noncomputable def a26 : Shape := ⟨[.d .str], []⟩
noncomputable def o26 : List Shape := [⟨[.d i64], []⟩]
abbrev R26 : Type := ((Int × Unit) × Unit)
abbrev T26 : Type := ByteArray → Option R26
noncomputable def u26 (f : T26) : (a26).C → Option (OutC o26) := fun (x : ((ByteArray × Unit) × Unit)) => f x.1.1
noncomputable def F26 (f : T26) : Fun := ⟨true, runR a26 o26 (u26 f)⟩
noncomputable def pa26_3730 : Shape := ⟨[.d .str, .own (.slice .str), .d i64, .d i64], []⟩
noncomputable def pw26_3730 : List Vm.Way := [⟨.exit 2, [3], ⟨[.own (.slice .str)], []⟩⟩, ⟨.ret, [2], ⟨[.d i64], []⟩⟩]
abbrev R26_3730 : Type := ((((List (List ByteArray)) × Unit) × Unit) ⊕ ((Int × Unit) × Unit))
abbrev T26_3730 : Type := ByteArray → (List (List ByteArray)) → Int → Int → Option R26_3730
noncomputable def u26_3730 (f : T26_3730) : (pa26_3730).C → Option (WayC pw26_3730) := fun (x : ((ByteArray × (List (List ByteArray)) × Int × Int × Unit) × Unit)) => f x.1.1 x.1.2.1 x.1.2.2.1 x.1.2.2.2.1
noncomputable def b26_3730 (k : Nat) (rec : T26_3730) : T26_3730 := fun op0 l3 i4 k5 =>
  ix l3 i4 fun e1 =>
  cond (decide (k5 < (e1.length : Int)))
    (ix l3 i4 fun e2 =>
    ix e2 k5 fun e3 =>
    cond (e3.toList == op0.toList)
      (some (.inr (((w64 (i4 + 1)), ()), ())))
      ((rec op0 l3 i4 (w64 (k5 + 1))).bind fun y4 =>
      match y4 with
      | .inl y4_0 =>
        some (.inl ((y4_0.1.1, ()), ()))
      | .inr y4_1 =>
        some (.inr ((y4_1.1.1, ()), ()))))
    (some (.inl ((l3, ()), ())))
noncomputable def l26_3730 (k : Nat) : Nat → T26_3730
  | 0 => fun _ _ _ _ => none
  | j + 1 => b26_3730 k (l26_3730 k j)
noncomputable def pa26_58 : Shape := ⟨[.d .str, .own (.slice .str), .d i64], []⟩
noncomputable def pw26_58 : List Vm.Way := [⟨.exit 0, [], ⟨[], []⟩⟩, ⟨.ret, [2], ⟨[.d i64], []⟩⟩]
abbrev R26_58 : Type := ((Unit × Unit) ⊕ ((Int × Unit) × Unit))
abbrev T26_58 : Type := ByteArray → (List (List ByteArray)) → Int → Option R26_58
noncomputable def u26_58 (f : T26_58) : (pa26_58).C → Option (WayC pw26_58) := fun (x : ((ByteArray × (List (List ByteArray)) × Int × Unit) × Unit)) => f x.1.1 x.1.2.1 x.1.2.2.1
noncomputable def b26_58 (k : Nat) (rec : T26_58) : T26_58 := fun op0 l3 i4 =>
  cond (decide (i4 < (l3.length : Int)))
    ((l26_3730 k k op0 l3 i4 0).bind fun y1 =>
    match y1 with
    | .inl y1_0 =>
      (rec op0 y1_0.1.1 (w64 (i4 + 1))).bind fun y2 =>
      match y2 with
      | .inl y2_0 =>
        some (.inl ((), ()))
      | .inr y2_1 =>
        some (.inr ((y2_1.1.1, ()), ()))
    | .inr y1_1 =>
      some (.inr ((y1_1.1.1, ()), ())))
    (some (.inl ((), ())))
noncomputable def l26_58 (k : Nat) : Nat → T26_58
  | 0 => fun _ _ _ => none
  | j + 1 => b26_58 k (l26_58 k j)
noncomputable def f26 (k : Nat) : T26 := fun op0 =>
  (l26_58 k k op0 [[(ByteArray.mk #[124, 124])], [(ByteArray.mk #[38, 38])], [(ByteArray.mk #[61, 61]), (ByteArray.mk #[33, 61]), (ByteArray.mk #[60]), (ByteArray.mk #[60, 61]), (ByteArray.mk #[62]), (ByteArray.mk #[62, 61])], [(ByteArray.mk #[43]), (ByteArray.mk #[45]), (ByteArray.mk #[124]), (ByteArray.mk #[94])], [(ByteArray.mk #[42]), (ByteArray.mk #[47]), (ByteArray.mk #[37]), (ByteArray.mk #[60, 60]), (ByteArray.mk #[62, 62]), (ByteArray.mk #[38])]] 0).bind fun y1 =>
  match y1 with
  | .inl y1_0 =>
    some ((0, ()), ())
  | .inr y1_1 =>
    some ((y1_1.1.1, ()), ())
noncomputable def C26 (k : Nat) : Nat → Fun := mkC []
theorem c26_ok (k : Nat) : ∀ f, SoundFn Try.prog f (C26 k f) := mkC_nil
noncomputable def H26_3730 (k : Nat) : Nat → Option Cut := addH noH 3730 ⟨runCut (wrC (bodyOf (codeAt 3730 (bd Try.f26) 3730))) 38 [0, 3, 4, 5] pa26_3730 pw26_3730 (u26_3730 (l26_3730 k k))⟩
theorem e26_3730 (k : Nat) (rec : T26_3730) (x : (pa26_3730).C) : roundF (C26 k) tt noH (bodyOf (codeAt 3730 (bd Try.f26) 3730)) 7460 38 [0, 3, 4, 5] pa26_3730 pw26_3730 (u26_3730 rec) x = u26_3730 (b26_3730 k rec) x := by kernel_rfl
theorem h26_3730_ok (k : Nat) : ∀ p S, H26_3730 k p = some S → ∀ c, At (bd Try.f26) p c → CutOk Try.prog c S :=
  have hC := c26_ok k
  addLoop hC ttOk (draw_ok hC ttOk mixed) noH_ok (by kernel_rfl) (F := fun j => u26_3730 (l26_3730 k j)) (fun _ => rfl) (fun j x _ h => (e26_3730 k (l26_3730 k j) x).trans h) k
noncomputable def H26_58 (k : Nat) : Nat → Option Cut := addH (H26_3730 k) 58 ⟨runCut (wrC (bodyOf (codeAt 58 (bd Try.f26) 58))) 38 [0, 3, 4] pa26_58 pw26_58 (u26_58 (l26_58 k k))⟩
theorem e26_58 (k : Nat) (rec : T26_58) (x : (pa26_58).C) : roundF (C26 k) tt (H26_3730 k) (bodyOf (codeAt 58 (bd Try.f26) 58)) 116 38 [0, 3, 4] pa26_58 pw26_58 (u26_58 rec) x = u26_58 (b26_58 k rec) x := by kernel_rfl
theorem h26_58_ok (k : Nat) : ∀ p S, H26_58 k p = some S → ∀ c, At (bd Try.f26) p c → CutOk Try.prog c S :=
  have hC := c26_ok k
  addLoop hC ttOk (draw_ok hC ttOk mixed) (h26_3730_ok k) (by kernel_rfl) (F := fun j => u26_58 (l26_58 k j)) (fun _ => rfl) (fun j x _ h => (e26_58 k (l26_58 k j) x).trans h) k
theorem e26 (k : Nat) (x : (a26).C) : bodyR (C26 k) tt (H26_58 k) Try.f26 a26 o26 x = u26 (f26 k) x := by kernel_rfl
theorem s26 (k : Nat) : SoundFn Try.prog 26 (F26 (f26 k)) :=
  have hC := c26_ok k
  fnR_sound hC ttOk (draw_ok hC ttOk mixed) Try.func26 (c0 := bd Try.f26) rfl (entry Try.func26 rfl (by decide)) (h26_58_ok k) rfl (fun x _ h => (e26 k x).trans h)
/-! f59 fathom/fathomref16.Power (R) -/
noncomputable def a59 : Shape := ⟨[.d i64], []⟩
noncomputable def o59 : List Shape := [⟨[.d i64], []⟩]
abbrev R59 : Type := ((Int × Unit) × Unit)
abbrev T59 : Type := Int → Option R59
noncomputable def u59 (f : T59) : (a59).C → Option (OutC o59) := fun (x : ((Int × Unit) × Unit)) => f x.1.1
noncomputable def F59 (f : T59) : Fun := ⟨true, runR a59 o59 (u59 f)⟩
noncomputable def f59 (k : Nat) : T59 := fun w0 =>
  cond (decide (w0 < 0))
    (none)
    (some (((w64 (1 * 2 ^ (min w0.toNat 64))), ()), ()))
noncomputable def C59 (k : Nat) : Nat → Fun := mkC []
theorem c59_ok (k : Nat) : ∀ f, SoundFn Try.prog f (C59 k f) := mkC_nil
theorem e59 (k : Nat) (x : (a59).C) : bodyR (C59 k) tt noH Try.f59 a59 o59 x = u59 (f59 k) x := by kernel_rfl
theorem s59 (k : Nat) : SoundFn Try.prog 59 (F59 (f59 k)) :=
  have hC := c59_ok k
  fnR_sound hC ttOk (draw_ok hC ttOk mixed) Try.func59 (c0 := bd Try.f59) rfl (entry Try.func59 rfl (by decide)) noH_ok rfl (fun x _ h => (e59 k x).trans h)
/-! f27 fathom/fathomref16.Mod (R) -/
noncomputable def a27 : Shape := ⟨[.d i64, .d i64], []⟩
noncomputable def o27 : List Shape := [⟨[.d i64], []⟩]
abbrev R27 : Type := ((Int × Unit) × Unit)
abbrev T27 : Type := Int → Int → Option R27
noncomputable def u27 (f : T27) : (a27).C → Option (OutC o27) := fun (x : ((Int × Int × Unit) × Unit)) => f x.1.1 x.1.2.1
noncomputable def F27 (f : T27) : Fun := ⟨true, runR a27 o27 (u27 f)⟩
noncomputable def f27 (k : Nat) : T27 := fun n0 w1 =>
  (f59 k w1).bind fun y1 =>
  cond (decide (y1.1.1 = 0))
    (none)
    (cond (decide ((Int.tmod n0 y1.1.1) < 0))
      ((f59 k w1).bind fun y2 =>
      some (((w64 ((Int.tmod n0 y1.1.1) + y2.1.1)), ()), ()))
      (some (((Int.tmod n0 y1.1.1), ()), ())))
noncomputable def C27 (k : Nat) : Nat → Fun := mkC [(59, (F59 (f59 k)))]
theorem c27_ok (k : Nat) : ∀ f, SoundFn Try.prog f (C27 k f) := (mkC_cons (s59 k) mkC_nil)
theorem e27 (k : Nat) (x : (a27).C) : bodyR (C27 k) tt noH Try.f27 a27 o27 x = u27 (f27 k) x := by kernel_rfl
theorem s27 (k : Nat) : SoundFn Try.prog 27 (F27 (f27 k)) :=
  have hC := c27_ok k
  fnR_sound hC ttOk (draw_ok hC ttOk mixed) Try.func27 (c0 := bd Try.f27) rfl (entry Try.func27 rfl (by decide)) noH_ok rfl (fun x _ h => (e27 k x).trans h)
/-! f61 fathom/fathomref16.Div (R) -/
noncomputable def a61 : Shape := ⟨[.d i64, .d i64, .d i64], []⟩
noncomputable def o61 : List Shape := [⟨[.d i64], []⟩]
abbrev R61 : Type := ((Int × Unit) × Unit)
abbrev T61 : Type := Int → Int → Int → Option R61
noncomputable def u61 (f : T61) : (a61).C → Option (OutC o61) := fun (x : ((Int × Int × Int × Unit) × Unit)) => f x.1.1 x.1.2.1 x.1.2.2.1
noncomputable def F61 (f : T61) : Fun := ⟨true, runR a61 o61 (u61 f)⟩
noncomputable def f61 (k : Nat) : T61 := fun a0 b1 w2 =>
  cond (b1 == 0)
    ((f59 k w2).bind fun y1 =>
    some (((w64 (y1.1.1 - 1)), ()), ()))
    (cond (decide (b1 = 0))
      (none)
      (some (((w64 (Int.tdiv a0 b1)), ()), ())))
noncomputable def C61 (k : Nat) : Nat → Fun := mkC [(59, (F59 (f59 k)))]
theorem c61_ok (k : Nat) : ∀ f, SoundFn Try.prog f (C61 k f) := (mkC_cons (s59 k) mkC_nil)
theorem e61 (k : Nat) (x : (a61).C) : bodyR (C61 k) tt noH Try.f61 a61 o61 x = u61 (f61 k) x := by kernel_rfl
theorem s61 (k : Nat) : SoundFn Try.prog 61 (F61 (f61 k)) :=
  have hC := c61_ok k
  fnR_sound hC ttOk (draw_ok hC ttOk mixed) Try.func61 (c0 := bd Try.f61) rfl (entry Try.func61 rfl (by decide)) noH_ok rfl (fun x _ h => (e61 k x).trans h)
/-! f62 fathom/fathomref16.Rest (R) -/
noncomputable def a62 : Shape := ⟨[.d i64, .d i64], []⟩
noncomputable def o62 : List Shape := [⟨[.d i64], []⟩]
abbrev R62 : Type := ((Int × Unit) × Unit)
abbrev T62 : Type := Int → Int → Option R62
noncomputable def u62 (f : T62) : (a62).C → Option (OutC o62) := fun (x : ((Int × Int × Unit) × Unit)) => f x.1.1 x.1.2.1
noncomputable def F62 (f : T62) : Fun := ⟨true, runR a62 o62 (u62 f)⟩
noncomputable def f62 (k : Nat) : T62 := fun a0 b1 =>
  cond (b1 == 0)
    (some ((a0, ()), ()))
    (cond (decide (b1 = 0))
      (none)
      (some (((Int.tmod a0 b1), ()), ())))
noncomputable def C62 (k : Nat) : Nat → Fun := mkC []
theorem c62_ok (k : Nat) : ∀ f, SoundFn Try.prog f (C62 k f) := mkC_nil
theorem e62 (k : Nat) (x : (a62).C) : bodyR (C62 k) tt noH Try.f62 a62 o62 x = u62 (f62 k) x := by kernel_rfl
theorem s62 (k : Nat) : SoundFn Try.prog 62 (F62 (f62 k)) :=
  have hC := c62_ok k
  fnR_sound hC ttOk (draw_ok hC ttOk mixed) Try.func62 (c0 := bd Try.f62) rfl (entry Try.func62 rfl (by decide)) noH_ok rfl (fun x _ h => (e62 k x).trans h)
/-! f63 fathom/fathomref16.Shl (R) -/
noncomputable def a63 : Shape := ⟨[.d i64, .d i64, .d i64], []⟩
noncomputable def o63 : List Shape := [⟨[.d i64], []⟩]
abbrev R63 : Type := ((Int × Unit) × Unit)
abbrev T63 : Type := Int → Int → Int → Option R63
noncomputable def u63 (f : T63) : (a63).C → Option (OutC o63) := fun (x : ((Int × Int × Int × Unit) × Unit)) => f x.1.1 x.1.2.1 x.1.2.2.1
noncomputable def F63 (f : T63) : Fun := ⟨true, runR a63 o63 (u63 f)⟩
noncomputable def f63 (k : Nat) : T63 := fun a0 b1 w2 =>
  cond (decide (b1 ≥ w2))
    (some ((0, ()), ()))
    ((f59 k b1).bind fun y1 =>
    (f27 k (w64 (a0 * y1.1.1)) w2).bind fun y2 =>
    some ((y2.1.1, ()), ()))
noncomputable def C63 (k : Nat) : Nat → Fun := mkC [(27, (F27 (f27 k))), (59, (F59 (f59 k)))]
theorem c63_ok (k : Nat) : ∀ f, SoundFn Try.prog f (C63 k f) := (mkC_cons (s27 k) (mkC_cons (s59 k) mkC_nil))
theorem e63 (k : Nat) (x : (a63).C) : bodyR (C63 k) tt noH Try.f63 a63 o63 x = u63 (f63 k) x := by kernel_rfl
theorem s63 (k : Nat) : SoundFn Try.prog 63 (F63 (f63 k)) :=
  have hC := c63_ok k
  fnR_sound hC ttOk (draw_ok hC ttOk mixed) Try.func63 (c0 := bd Try.f63) rfl (entry Try.func63 rfl (by decide)) noH_ok rfl (fun x _ h => (e63 k x).trans h)
/-! f64 fathom/fathomref16.Shr (R) -/
noncomputable def a64 : Shape := ⟨[.d i64, .d i64, .d i64], []⟩
noncomputable def o64 : List Shape := [⟨[.d i64], []⟩]
abbrev R64 : Type := ((Int × Unit) × Unit)
abbrev T64 : Type := Int → Int → Int → Option R64
noncomputable def u64 (f : T64) : (a64).C → Option (OutC o64) := fun (x : ((Int × Int × Int × Unit) × Unit)) => f x.1.1 x.1.2.1 x.1.2.2.1
noncomputable def F64 (f : T64) : Fun := ⟨true, runR a64 o64 (u64 f)⟩
noncomputable def f64 (k : Nat) : T64 := fun a0 b1 w2 =>
  cond (decide (b1 ≥ w2))
    (some ((0, ()), ()))
    ((f59 k b1).bind fun y1 =>
    cond (decide (y1.1.1 = 0))
      (none)
      (some (((w64 (Int.tdiv a0 y1.1.1)), ()), ())))
noncomputable def C64 (k : Nat) : Nat → Fun := mkC [(59, (F59 (f59 k)))]
theorem c64_ok (k : Nat) : ∀ f, SoundFn Try.prog f (C64 k f) := (mkC_cons (s59 k) mkC_nil)
theorem e64 (k : Nat) (x : (a64).C) : bodyR (C64 k) tt noH Try.f64 a64 o64 x = u64 (f64 k) x := by kernel_rfl
theorem s64 (k : Nat) : SoundFn Try.prog 64 (F64 (f64 k)) :=
  have hC := c64_ok k
  fnR_sound hC ttOk (draw_ok hC ttOk mixed) Try.func64 (c0 := bd Try.f64) rfl (entry Try.func64 rfl (by decide)) noH_ok rfl (fun x _ h => (e64 k x).trans h)
/-! f93 fathom/fathomref16.Bit (R) -/
noncomputable def a93 : Shape := ⟨[.d i64, .d i64], []⟩
noncomputable def o93 : List Shape := [⟨[.d i64], []⟩]
abbrev R93 : Type := ((Int × Unit) × Unit)
abbrev T93 : Type := Int → Int → Option R93
noncomputable def u93 (f : T93) : (a93).C → Option (OutC o93) := fun (x : ((Int × Int × Unit) × Unit)) => f x.1.1 x.1.2.1
noncomputable def F93 (f : T93) : Fun := ⟨true, runR a93 o93 (u93 f)⟩
noncomputable def pa93_26 : Shape := ⟨[.d i64, .d i64, .d i64], []⟩
noncomputable def pw93_26 : List Vm.Way := [⟨.exit 0, [0], ⟨[.d i64], []⟩⟩]
abbrev R93_26 : Type := ((Int × Unit) × Unit)
abbrev T93_26 : Type := Int → Int → Int → Option R93_26
noncomputable def u93_26 (f : T93_26) : (pa93_26).C → Option (WayC pw93_26) := fun (x : ((Int × Int × Int × Unit) × Unit)) => f x.1.1 x.1.2.1 x.1.2.2.1
noncomputable def b93_26 (k : Nat) (rec : T93_26) : T93_26 := fun n0 i1 k5 =>
  cond (decide (k5 < i1))
    ((rec (w64 (Int.tdiv n0 2)) i1 (w64 (k5 + 1))).bind fun y1 =>
    some ((y1.1.1, ()), ()))
    (some ((n0, ()), ()))
noncomputable def l93_26 (k : Nat) : Nat → T93_26
  | 0 => fun _ _ _ => none
  | j + 1 => b93_26 k (l93_26 k j)
noncomputable def f93 (k : Nat) : T93 := fun n0 i1 =>
  (l93_26 k k n0 i1 0).bind fun y1 =>
  some (((Int.tmod y1.1.1 2), ()), ())
noncomputable def C93 (k : Nat) : Nat → Fun := mkC []
theorem c93_ok (k : Nat) : ∀ f, SoundFn Try.prog f (C93 k f) := mkC_nil
noncomputable def H93_26 (k : Nat) : Nat → Option Cut := addH noH 26 ⟨runCut (wrC (bodyOf (codeAt 26 (bd Try.f93) 26))) 15 [0, 1, 5] pa93_26 pw93_26 (u93_26 (l93_26 k k))⟩
theorem e93_26 (k : Nat) (rec : T93_26) (x : (pa93_26).C) : roundF (C93 k) tt noH (bodyOf (codeAt 26 (bd Try.f93) 26)) 52 15 [0, 1, 5] pa93_26 pw93_26 (u93_26 rec) x = u93_26 (b93_26 k rec) x := by kernel_rfl
theorem h93_26_ok (k : Nat) : ∀ p S, H93_26 k p = some S → ∀ c, At (bd Try.f93) p c → CutOk Try.prog c S :=
  have hC := c93_ok k
  addLoop hC ttOk (draw_ok hC ttOk mixed) noH_ok (by kernel_rfl) (F := fun j => u93_26 (l93_26 k j)) (fun _ => rfl) (fun j x _ h => (e93_26 k (l93_26 k j) x).trans h) k
theorem e93 (k : Nat) (x : (a93).C) : bodyR (C93 k) tt (H93_26 k) Try.f93 a93 o93 x = u93 (f93 k) x := by kernel_rfl
theorem s93 (k : Nat) : SoundFn Try.prog 93 (F93 (f93 k)) :=
  have hC := c93_ok k
  fnR_sound hC ttOk (draw_ok hC ttOk mixed) Try.func93 (c0 := bd Try.f93) rfl (entry Try.func93 rfl (by decide)) (h93_26_ok k) rfl (fun x _ h => (e93 k x).trans h)
/-! f65 fathom/fathomref16.Bits (R) -/
noncomputable def a65 : Shape := ⟨[.d i64, .d i64, .d i64, .d i64], []⟩
noncomputable def o65 : List Shape := [⟨[.d i64], []⟩]
abbrev R65 : Type := ((Int × Unit) × Unit)
abbrev T65 : Type := Int → Int → Int → Int → Option R65
noncomputable def u65 (f : T65) : (a65).C → Option (OutC o65) := fun (x : ((Int × Int × Int × Int × Unit) × Unit)) => f x.1.1 x.1.2.1 x.1.2.2.1 x.1.2.2.2.1
noncomputable def F65 (f : T65) : Fun := ⟨true, runR a65 o65 (u65 f)⟩
noncomputable def pa65_14924 : Shape := ⟨[.d i64, .d i64, .d i64], []⟩
noncomputable def pw65_14924 : List Vm.Way := [⟨.normal, [52], ⟨[.d .bool], []⟩⟩]
abbrev R65_14924 : Type := ((Bool × Unit) × Unit)
abbrev T65_14924 : Type := Int → Int → Int → Option R65_14924
noncomputable def u65_14924 (f : T65_14924) : (pa65_14924).C → Option (WayC pw65_14924) := fun (x : ((Int × Int × Int × Unit) × Unit)) => f x.1.1 x.1.2.1 x.1.2.2.1
noncomputable def l65_14924 (k : Nat) : T65_14924 := fun kind0 x11 y12 =>
  cond (kind0 == 0)
    (cond ((w64 (x11 + y12)) == 2)
      (some ((true, ()), ()))
      (cond (kind0 == 1)
        (cond (decide ((w64 (x11 + y12)) > 0))
          (some ((true, ()), ()))
          (cond (kind0 == 2)
            (some (((x11 != y12), ()), ()))
            (some ((false, ()), ()))))
        (cond (kind0 == 2)
          (some (((x11 != y12), ()), ()))
          (some ((false, ()), ())))))
    (cond (kind0 == 1)
      (cond (decide ((w64 (x11 + y12)) > 0))
        (some ((true, ()), ()))
        (cond (kind0 == 2)
          (some (((x11 != y12), ()), ()))
          (some ((false, ()), ()))))
      (cond (kind0 == 2)
        (some (((x11 != y12), ()), ()))
        (some ((false, ()), ()))))
noncomputable def pa65_58 : Shape := ⟨[.d i64, .d i64, .d i64, .d i64, .d i64], []⟩
noncomputable def pw65_58 : List Vm.Way := [⟨.exit 0, [9], ⟨[.d i64], []⟩⟩]
abbrev R65_58 : Type := ((Int × Unit) × Unit)
abbrev T65_58 : Type := Int → Int → Int → Int → Int → Option R65_58
noncomputable def u65_58 (f : T65_58) : (pa65_58).C → Option (WayC pw65_58) := fun (x : ((Int × Int × Int × Int × Int × Unit) × Unit)) => f x.1.1 x.1.2.1 x.1.2.2.1 x.1.2.2.2.1 x.1.2.2.2.2.1
noncomputable def b65_58 (k : Nat) (rec : T65_58) : T65_58 := fun kind0 a1 b2 out9 i10 =>
  cond (decide (i10 ≥ 0))
    ((f93 k a1 i10).bind fun y1 =>
    (f93 k b2 i10).bind fun y2 =>
    (l65_14924 k kind0 y1.1.1 y2.1.1).bind fun y3 =>
    cond y3.1.1
      ((rec kind0 a1 b2 (w64 ((w64 (2 * out9)) + 1)) (w64 (i10 - 1))).bind fun y4 =>
      some ((y4.1.1, ()), ()))
      ((rec kind0 a1 b2 (w64 ((w64 (2 * out9)) + 0)) (w64 (i10 - 1))).bind fun y5 =>
      some ((y5.1.1, ()), ())))
    (some ((out9, ()), ()))
noncomputable def l65_58 (k : Nat) : Nat → T65_58
  | 0 => fun _ _ _ _ _ => none
  | j + 1 => b65_58 k (l65_58 k j)
noncomputable def f65 (k : Nat) : T65 := fun kind0 a1 b2 w3 =>
  (l65_58 k k kind0 a1 b2 0 (w64 (w3 - 1))).bind fun y1 =>
  some ((y1.1.1, ()), ())
noncomputable def C65 (k : Nat) : Nat → Fun := mkC [(93, (F93 (f93 k)))]
theorem c65_ok (k : Nat) : ∀ f, SoundFn Try.prog f (C65 k f) := (mkC_cons (s93 k) mkC_nil)
noncomputable def H65_14924 (k : Nat) : Nat → Option Cut := addH noH 14924 ⟨runCut (wrC (codeAt 14924 (bd Try.f65) 14924)) 58 [0, 11, 12] pa65_14924 pw65_14924 (u65_14924 (l65_14924 k))⟩
theorem e65_14924 (k : Nat) (x : (pa65_14924).C) : pieceF (C65 k) tt noH (codeAt 14924 (bd Try.f65) 14924) 14924 58 [0, 11, 12] pa65_14924 pw65_14924 x = u65_14924 (l65_14924 k) x := by kernel_rfl
theorem h65_14924_ok (k : Nat) : ∀ p S, H65_14924 k p = some S → ∀ c, At (bd Try.f65) p c → CutOk Try.prog c S :=
  have hC := c65_ok k
  addPiece hC ttOk (draw_ok hC ttOk mixed) noH_ok (fun x _ h => (e65_14924 k x).trans h)
noncomputable def H65_58 (k : Nat) : Nat → Option Cut := addH (H65_14924 k) 58 ⟨runCut (wrC (bodyOf (codeAt 58 (bd Try.f65) 58))) 58 [0, 1, 2, 9, 10] pa65_58 pw65_58 (u65_58 (l65_58 k k))⟩
theorem e65_58 (k : Nat) (rec : T65_58) (x : (pa65_58).C) : roundF (C65 k) tt (H65_14924 k) (bodyOf (codeAt 58 (bd Try.f65) 58)) 116 58 [0, 1, 2, 9, 10] pa65_58 pw65_58 (u65_58 rec) x = u65_58 (b65_58 k rec) x := by kernel_rfl
theorem h65_58_ok (k : Nat) : ∀ p S, H65_58 k p = some S → ∀ c, At (bd Try.f65) p c → CutOk Try.prog c S :=
  have hC := c65_ok k
  addLoop hC ttOk (draw_ok hC ttOk mixed) (h65_14924_ok k) (by kernel_rfl) (F := fun j => u65_58 (l65_58 k j)) (fun _ => rfl) (fun j x _ h => (e65_58 k (l65_58 k j) x).trans h) k
theorem e65 (k : Nat) (x : (a65).C) : bodyR (C65 k) tt (H65_58 k) Try.f65 a65 o65 x = u65 (f65 k) x := by kernel_rfl
theorem s65 (k : Nat) : SoundFn Try.prog 65 (F65 (f65 k)) :=
  have hC := c65_ok k
  fnR_sound hC ttOk (draw_ok hC ttOk mixed) Try.func65 (c0 := bd Try.f65) rfl (entry Try.func65 rfl (by decide)) (h65_58_ok k) rfl (fun x _ h => (e65 k x).trans h)
/-! f60 fathom/fathomref25.truth (R) -/
noncomputable def a60 : Shape := ⟨[.d .bool], []⟩
noncomputable def o60 : List Shape := [⟨[.d i64], []⟩]
abbrev R60 : Type := ((Int × Unit) × Unit)
abbrev T60 : Type := Bool → Option R60
noncomputable def u60 (f : T60) : (a60).C → Option (OutC o60) := fun (x : ((Bool × Unit) × Unit)) => f x.1.1
noncomputable def F60 (f : T60) : Fun := ⟨true, runR a60 o60 (u60 f)⟩
noncomputable def f60 (k : Nat) : T60 := fun is0 =>
  cond is0
    (some ((1, ()), ()))
    (some ((0, ()), ()))
noncomputable def C60 (k : Nat) : Nat → Fun := mkC []
theorem c60_ok (k : Nat) : ∀ f, SoundFn Try.prog f (C60 k f) := mkC_nil
theorem e60 (k : Nat) (x : (a60).C) : bodyR (C60 k) tt noH Try.f60 a60 o60 x = u60 (f60 k) x := by kernel_rfl
theorem s60 (k : Nat) : SoundFn Try.prog 60 (F60 (f60 k)) :=
  have hC := c60_ok k
  fnR_sound hC ttOk (draw_ok hC ttOk mixed) Try.func60 (c0 := bd Try.f60) rfl (entry Try.func60 rfl (by decide)) noH_ok rfl (fun x _ h => (e60 k x).trans h)
/-! f24 fathom/fathomref25.Apply (R) -/
noncomputable def a24 : Shape := ⟨[.d i64, .d .str, .d i64, .d i64], []⟩
noncomputable def o24 : List Shape := [⟨[.d i64], []⟩]
abbrev R24 : Type := ((Int × Unit) × Unit)
abbrev T24 : Type := Int → ByteArray → Int → Int → Option R24
noncomputable def u24 (f : T24) : (a24).C → Option (OutC o24) := fun (x : ((Int × ByteArray × Int × Int × Unit) × Unit)) => f x.1.1 x.1.2.1 x.1.2.2.1 x.1.2.2.2.1
noncomputable def F24 (f : T24) : Fun := ⟨true, runR a24 o24 (u24 f)⟩
noncomputable def f24 (k : Nat) : T24 := fun w0 op1 a2 b3 =>
  cond (op1.toList == (ByteArray.mk #[42]).toList)
    ((f27 k (w64 (a2 * b3)) w0).bind fun y1 =>
    some ((y1.1.1, ()), ()))
    (cond (op1.toList == (ByteArray.mk #[47]).toList)
      ((f61 k a2 b3 w0).bind fun y2 =>
      some ((y2.1.1, ()), ()))
      (cond (op1.toList == (ByteArray.mk #[37]).toList)
        ((f62 k a2 b3).bind fun y3 =>
        some ((y3.1.1, ()), ()))
        (cond (op1.toList == (ByteArray.mk #[60, 60]).toList)
          ((f63 k a2 b3 w0).bind fun y4 =>
          some ((y4.1.1, ()), ()))
          (cond (op1.toList == (ByteArray.mk #[62, 62]).toList)
            ((f64 k a2 b3 w0).bind fun y5 =>
            some ((y5.1.1, ()), ()))
            (cond (op1.toList == (ByteArray.mk #[38]).toList)
              ((f65 k 0 a2 b3 w0).bind fun y6 =>
              some ((y6.1.1, ()), ()))
              (cond (op1.toList == (ByteArray.mk #[124]).toList)
                ((f65 k 1 a2 b3 w0).bind fun y7 =>
                some ((y7.1.1, ()), ()))
                (cond (op1.toList == (ByteArray.mk #[94]).toList)
                  ((f65 k 2 a2 b3 w0).bind fun y8 =>
                  some ((y8.1.1, ()), ()))
                  (cond (op1.toList == (ByteArray.mk #[43]).toList)
                    ((f27 k (w64 (a2 + b3)) w0).bind fun y9 =>
                    some ((y9.1.1, ()), ()))
                    (cond (op1.toList == (ByteArray.mk #[45]).toList)
                      ((f27 k (w64 (a2 - b3)) w0).bind fun y10 =>
                      some ((y10.1.1, ()), ()))
                      (cond (op1.toList == (ByteArray.mk #[61, 61]).toList)
                        ((f60 k (a2 == b3)).bind fun y11 =>
                        some ((y11.1.1, ()), ()))
                        (cond (op1.toList == (ByteArray.mk #[33, 61]).toList)
                          ((f60 k (a2 != b3)).bind fun y12 =>
                          some ((y12.1.1, ()), ()))
                          (cond (op1.toList == (ByteArray.mk #[60]).toList)
                            ((f60 k (decide (a2 < b3))).bind fun y13 =>
                            some ((y13.1.1, ()), ()))
                            (cond (op1.toList == (ByteArray.mk #[60, 61]).toList)
                              ((f60 k (decide (a2 ≤ b3))).bind fun y14 =>
                              some ((y14.1.1, ()), ()))
                              (cond (op1.toList == (ByteArray.mk #[62]).toList)
                                ((f60 k (decide (a2 > b3))).bind fun y15 =>
                                some ((y15.1.1, ()), ()))
                                (cond (op1.toList == (ByteArray.mk #[62, 61]).toList)
                                  ((f60 k (decide (a2 ≥ b3))).bind fun y16 =>
                                  some ((y16.1.1, ()), ()))
                                  (cond (op1.toList == (ByteArray.mk #[38, 38]).toList)
                                    (cond (a2 != 0)
                                      ((f60 k (b3 != 0)).bind fun y17 =>
                                      some ((y17.1.1, ()), ()))
                                      ((f60 k false).bind fun y18 =>
                                      some ((y18.1.1, ()), ())))
                                    (cond (op1.toList == (ByteArray.mk #[124, 124]).toList)
                                      (cond (a2 != 0)
                                        ((f60 k true).bind fun y19 =>
                                        some ((y19.1.1, ()), ()))
                                        ((f60 k (b3 != 0)).bind fun y20 =>
                                        some ((y20.1.1, ()), ())))
                                      (some ((0, ()), ())))))))))))))))))))
noncomputable def C24 (k : Nat) : Nat → Fun := mkC [(27, (F27 (f27 k))), (60, (F60 (f60 k))), (61, (F61 (f61 k))), (62, (F62 (f62 k))), (63, (F63 (f63 k))), (64, (F64 (f64 k))), (65, (F65 (f65 k)))]
theorem c24_ok (k : Nat) : ∀ f, SoundFn Try.prog f (C24 k f) := (mkC_cons (s27 k) (mkC_cons (s60 k) (mkC_cons (s61 k) (mkC_cons (s62 k) (mkC_cons (s63 k) (mkC_cons (s64 k) (mkC_cons (s65 k) mkC_nil)))))))
theorem e24 (k : Nat) (x : (a24).C) : bodyR (C24 k) tt noH Try.f24 a24 o24 x = u24 (f24 k) x := by kernel_rfl
theorem s24 (k : Nat) : SoundFn Try.prog 24 (F24 (f24 k)) :=
  have hC := c24_ok k
  fnR_sound hC ttOk (draw_ok hC ttOk mixed) Try.func24 (c0 := bd Try.f24) rfl (entry Try.func24 rfl (by decide)) noH_ok rfl (fun x _ h => (e24 k x).trans h)
/-! f28 fathom/aig.New (W) -/
noncomputable def a28 : Shape := ⟨[], []⟩
noncomputable def o28 : List Shape := [⟨[.ptr 0], [.box [.own T_Gate, .mp 1], .map T_Gate i64]⟩]
abbrev R28 : Type := ((Unit × Unit) × (((List D_Gate) × Unit × Unit) × (List (D_Gate × Int)) × Unit))
abbrev T28 : Type := Unit → Option R28
noncomputable def u28 (f : T28) : (a28).C → Option (OutC o28) := fun (x : (Unit × Unit)) => f ()
noncomputable def F28 (f : T28) : Fun := ⟨false, runW a28 o28 (u28 f)⟩
noncomputable def f28 (k : Nat) : T28 := fun _ =>
  some (((), ()), (([], (), ()), [], ()))
noncomputable def C28 (k : Nat) : Nat → Fun := mkC []
theorem c28_ok (k : Nat) : ∀ f, SoundFn Try.prog f (C28 k f) := mkC_nil
theorem e28 (k : Nat) (x : (a28).C) : bodyW (C28 k) tt noH Try.f28 a28 o28 x = u28 (f28 k) x := by kernel_rfl
theorem s28 (k : Nat) : SoundFn Try.prog 28 (F28 (f28 k)) :=
  have hC := c28_ok k
  fnW_sound hC ttOk (draw_ok hC ttOk mixed) Try.func28 (c0 := bd Try.f28) rfl (entry Try.func28 rfl (by decide)) noH_ok (fun x _ h => (e28 k x).trans h)
/-! f29v2 fathom/vec.Const (W) -/
noncomputable def a29v2 : Shape := ⟨[.d i64, .d i64], []⟩
noncomputable def o29v2 : List Shape := [⟨[.own i64], []⟩]
abbrev R29v2 : Type := (((List Int) × Unit) × Unit)
abbrev T29v2 : Type := Int → Int → Option R29v2
noncomputable def u29v2 (f : T29v2) : (a29v2).C → Option (OutC o29v2) := fun (x : ((Int × Int × Unit) × Unit)) => f x.1.1 x.1.2.1
noncomputable def F29v2 (f : T29v2) : Fun := ⟨false, runW a29v2 o29v2 (u29v2 f)⟩
noncomputable def pa29v2_122 : Shape := ⟨[.d i64, .own i64, .d i64, .d i64], []⟩
noncomputable def pw29v2_122 : List Vm.Way := [⟨.exit 0, [5], ⟨[.own i64], []⟩⟩]
abbrev R29v2_122 : Type := (((List Int) × Unit) × Unit)
abbrev T29v2_122 : Type := Int → (List Int) → Int → Int → Option R29v2_122
noncomputable def u29v2_122 (f : T29v2_122) : (pa29v2_122).C → Option (WayC pw29v2_122) := fun (x : ((Int × (List Int) × Int × Int × Unit) × Unit)) => f x.1.1 x.1.2.1 x.1.2.2.1 x.1.2.2.2.1
noncomputable def b29v2_122 (k : Nat) (rec : T29v2_122) : T29v2_122 := fun n0 a5 t13 t14 =>
  cond (decide (t14 < t13))
    (cond (decide (t14 < 0))
      (none)
      (gd (decide ((a5.length + 1) * 8 ≤ room)) <|
      (rec n0 (a5 ++ ([(ibits .and .i64 (Int.fdiv n0 (2 ^ (min t14.toNat 64))) 1)] : List Int)) t13 (w64 (t14 + 1))).bind fun y1 =>
      some ((y1.1.1, ()), ())))
    (some ((a5, ()), ()))
noncomputable def l29v2_122 (k : Nat) : Nat → T29v2_122
  | 0 => fun _ _ _ _ => none
  | j + 1 => b29v2_122 k (l29v2_122 k j)
noncomputable def f29v2 (k : Nat) : T29v2 := fun n0 w1 =>
  cond (decide (w1 < 1))
    (some (([], ()), ()))
    (cond (decide (w1 > 16))
      (some (([], ()), ()))
      ((l29v2_122 k k n0 [] w1 0).bind fun y1 =>
      some ((y1.1.1, ()), ())))
noncomputable def C29v2 (k : Nat) : Nat → Fun := mkC []
theorem c29v2_ok (k : Nat) : ∀ f, SoundFn Try.prog f (C29v2 k f) := mkC_nil
noncomputable def H29v2_122 (k : Nat) : Nat → Option Cut := addH noH 122 ⟨runCut (wrC (bodyOf (codeAt 122 (bd Try.f29) 122))) 26 [0, 5, 13, 14] pa29v2_122 pw29v2_122 (u29v2_122 (l29v2_122 k k))⟩
theorem e29v2_122 (k : Nat) (rec : T29v2_122) (x : (pa29v2_122).C) : roundF (C29v2 k) tt noH (bodyOf (codeAt 122 (bd Try.f29) 122)) 244 26 [0, 5, 13, 14] pa29v2_122 pw29v2_122 (u29v2_122 rec) x = u29v2_122 (b29v2_122 k rec) x := by kernel_rfl
theorem h29v2_122_ok (k : Nat) : ∀ p S, H29v2_122 k p = some S → ∀ c, At (bd Try.f29) p c → CutOk Try.prog c S :=
  have hC := c29v2_ok k
  addLoop hC ttOk (draw_ok hC ttOk mixed) noH_ok (by kernel_rfl) (F := fun j => u29v2_122 (l29v2_122 k j)) (fun _ => rfl) (fun j x _ h => (e29v2_122 k (l29v2_122 k j) x).trans h) k
theorem e29v2 (k : Nat) (x : (a29v2).C) : bodyW (C29v2 k) tt (H29v2_122 k) Try.f29 a29v2 o29v2 x = u29v2 (f29v2 k) x := by kernel_rfl
theorem s29v2 (k : Nat) : SoundFn Try.prog 29 (F29v2 (f29v2 k)) :=
  have hC := c29v2_ok k
  fnW_sound hC ttOk (draw_ok hC ttOk mixed) Try.func29 (c0 := bd Try.f29) rfl (entry Try.func29 rfl (by decide)) (h29v2_122_ok k) (fun x _ h => (e29v2 k x).trans h)
/-! f80 fathom/aig.Value (R) -/
noncomputable def a80 : Shape := ⟨[.d (.slice .bool), .d i64], []⟩
noncomputable def o80 : List Shape := [⟨[.d .bool], []⟩]
abbrev R80 : Type := ((Bool × Unit) × Unit)
abbrev T80 : Type := (List Bool) → Int → Option R80
noncomputable def u80 (f : T80) : (a80).C → Option (OutC o80) := fun (x : (((List Bool) × Int × Unit) × Unit)) => f x.1.1 x.1.2.1
noncomputable def F80 (f : T80) : Fun := ⟨true, runR a80 o80 (u80 f)⟩
noncomputable def f80 (k : Nat) : T80 := fun v0 l1 =>
  cond (decide (l1 < 0))
    (some ((false, ()), ()))
    (cond (decide ((w64 (Int.tdiv l1 2)) > (v0.length : Int)))
      (some ((false, ()), ()))
      (cond (decide (l1 < 2))
        (some (((l1 == 1), ()), ()))
        (ix v0 (w64 ((w64 (Int.tdiv l1 2)) - 1)) fun e1 =>
        some (((!(e1 == ((Int.tmod l1 2) == 1))), ()), ()))))
noncomputable def C80 (k : Nat) : Nat → Fun := mkC []
theorem c80_ok (k : Nat) : ∀ f, SoundFn Try.prog f (C80 k f) := mkC_nil
theorem e80 (k : Nat) (x : (a80).C) : bodyR (C80 k) tt noH Try.f80 a80 o80 x = u80 (f80 k) x := by kernel_rfl
theorem s80 (k : Nat) : SoundFn Try.prog 80 (F80 (f80 k)) :=
  have hC := c80_ok k
  fnR_sound hC ttOk (draw_ok hC ttOk mixed) Try.func80 (c0 := bd Try.f80) rfl (entry Try.func80 rfl (by decide)) noH_ok rfl (fun x _ h => (e80 k x).trans h)
/-! f36 fathom/vec.Number (R) -/
noncomputable def a36 : Shape := ⟨[.d (.slice .bool), .d (.slice i64)], []⟩
noncomputable def o36 : List Shape := [⟨[.d i64], []⟩]
abbrev R36 : Type := ((Int × Unit) × Unit)
abbrev T36 : Type := (List Bool) → (List Int) → Option R36
noncomputable def u36 (f : T36) : (a36).C → Option (OutC o36) := fun (x : (((List Bool) × (List Int) × Unit) × Unit)) => f x.1.1 x.1.2.1
noncomputable def F36 (f : T36) : Fun := ⟨true, runR a36 o36 (u36 f)⟩
noncomputable def pa36_122 : Shape := ⟨[.d (.slice .bool), .d i64, .d (.slice i64), .d i64, .d i64], []⟩
noncomputable def pw36_122 : List Vm.Way := [⟨.exit 0, [5], ⟨[.d i64], []⟩⟩]
abbrev R36_122 : Type := ((Int × Unit) × Unit)
abbrev T36_122 : Type := (List Bool) → Int → (List Int) → Int → Int → Option R36_122
noncomputable def u36_122 (f : T36_122) : (pa36_122).C → Option (WayC pw36_122) := fun (x : (((List Bool) × Int × (List Int) × Int × Int × Unit) × Unit)) => f x.1.1 x.1.2.1 x.1.2.2.1 x.1.2.2.2.1 x.1.2.2.2.2.1
noncomputable def b36_122 (k : Nat) (rec : T36_122) : T36_122 := fun v0 n5 t11 t12 t13 =>
  cond (decide (t13 < t12))
    (ix t11 t13 fun e1 =>
    (f80 k v0 e1).bind fun y2 =>
    cond y2.1.1
      (cond (decide (t13 < 0))
        (none)
        ((rec v0 (ibits .or .i64 n5 (w64 (1 * 2 ^ (min t13.toNat 64)))) t11 t12 (w64 (t13 + 1))).bind fun y3 =>
        some ((y3.1.1, ()), ())))
      ((rec v0 n5 t11 t12 (w64 (t13 + 1))).bind fun y4 =>
      some ((y4.1.1, ()), ())))
    (some ((n5, ()), ()))
noncomputable def l36_122 (k : Nat) : Nat → T36_122
  | 0 => fun _ _ _ _ _ => none
  | j + 1 => b36_122 k (l36_122 k j)
noncomputable def f36 (k : Nat) : T36 := fun v0 a1 =>
  cond (decide ((a1.length : Int) > 16))
    (some ((0, ()), ()))
    ((l36_122 k k v0 0 a1 (a1.length : Int) 0).bind fun y1 =>
    some ((y1.1.1, ()), ()))
noncomputable def C36 (k : Nat) : Nat → Fun := mkC [(80, (F80 (f80 k)))]
theorem c36_ok (k : Nat) : ∀ f, SoundFn Try.prog f (C36 k f) := (mkC_cons (s80 k) mkC_nil)
noncomputable def H36_122 (k : Nat) : Nat → Option Cut := addH noH 122 ⟨runCut (wrC (bodyOf (codeAt 122 (bd Try.f36) 122))) 27 [0, 5, 11, 12, 13] pa36_122 pw36_122 (u36_122 (l36_122 k k))⟩
theorem e36_122 (k : Nat) (rec : T36_122) (x : (pa36_122).C) : roundF (C36 k) tt noH (bodyOf (codeAt 122 (bd Try.f36) 122)) 244 27 [0, 5, 11, 12, 13] pa36_122 pw36_122 (u36_122 rec) x = u36_122 (b36_122 k rec) x := by kernel_rfl
theorem h36_122_ok (k : Nat) : ∀ p S, H36_122 k p = some S → ∀ c, At (bd Try.f36) p c → CutOk Try.prog c S :=
  have hC := c36_ok k
  addLoop hC ttOk (draw_ok hC ttOk mixed) noH_ok (by kernel_rfl) (F := fun j => u36_122 (l36_122 k j)) (fun _ => rfl) (fun j x _ h => (e36_122 k (l36_122 k j) x).trans h) k
theorem e36 (k : Nat) (x : (a36).C) : bodyR (C36 k) tt (H36_122 k) Try.f36 a36 o36 x = u36 (f36 k) x := by kernel_rfl
theorem s36 (k : Nat) : SoundFn Try.prog 36 (F36 (f36 k)) :=
  have hC := c36_ok k
  fnR_sound hC ttOk (draw_ok hC ttOk mixed) Try.func36 (c0 := bd Try.f36) rfl (entry Try.func36 rfl (by decide)) (h36_122_ok k) rfl (fun x _ h => (e36 k x).trans h)
/-! f100 (*fathom/aig.Aig).Is (R) -/
noncomputable def a100 : Shape := ⟨[.ptr 0, .d i64], [.box [.d (.slice T_Gate), .mp 1], .map T_Gate i64]⟩
noncomputable def o100 : List Shape := [⟨[.d .bool], []⟩]
abbrev R100 : Type := ((Bool × Unit) × Unit)
abbrev T100 : Type := Int → (List D_Gate) → (List (D_Gate × Int)) → Option R100
noncomputable def u100 (f : T100) : (a100).C → Option (OutC o100) := fun (x : ((Unit × Int × Unit) × (((List D_Gate) × Unit × Unit) × (List (D_Gate × Int)) × Unit))) => f x.1.2.1 x.2.1.1 x.2.2.1
noncomputable def F100 (f : T100) : Fun := ⟨true, runR a100 o100 (u100 f)⟩
noncomputable def f100 (k : Nat) : T100 := fun l1 o0 o1 =>
  cond (decide (l1 ≥ 0))
    (some (((decide (l1 ≤ (w64 ((w64 (2 * (o0.length : Int))) + 1)))), ()), ()))
    (some ((false, ()), ()))
noncomputable def C100 (k : Nat) : Nat → Fun := mkC []
theorem c100_ok (k : Nat) : ∀ f, SoundFn Try.prog f (C100 k f) := mkC_nil
theorem e100 (k : Nat) (x : (a100).C) : bodyR (C100 k) tt noH Try.f100 a100 o100 x = u100 (f100 k) x := by kernel_rfl
theorem s100 (k : Nat) : SoundFn Try.prog 100 (F100 (f100 k)) :=
  have hC := c100_ok k
  fnR_sound hC ttOk (draw_ok hC ttOk mixed) Try.func100 (c0 := bd Try.f100) rfl (entry Try.func100 rfl (by decide)) noH_ok rfl (fun x _ h => (e100 k x).trans h)
/-! f107 fathom/vec.Check$1 (R) -/
noncomputable def a107 : Shape := ⟨[.d i64, .ptr 0], [.box [.ptr 1], .box [.d (.slice T_Gate), .mp 2], .map T_Gate i64]⟩
noncomputable def o107 : List Shape := [⟨[.d .bool], []⟩]
abbrev R107 : Type := ((Bool × Unit) × Unit)
abbrev T107 : Type := Int → (List D_Gate) → (List (D_Gate × Int)) → Option R107
noncomputable def u107 (f : T107) : (a107).C → Option (OutC o107) := fun (x : ((Int × Unit × Unit) × ((Unit × Unit) × ((List D_Gate) × Unit × Unit) × (List (D_Gate × Int)) × Unit))) => f x.1.1 x.2.2.1.1 x.2.2.2.1
noncomputable def F107 (f : T107) : Fun := ⟨true, runR a107 o107 (u107 f)⟩
noncomputable def f107 (k : Nat) : T107 := fun l0 o1 o2 =>
  (f100 k l0 o1 o2).bind fun y1 =>
  some (((!y1.1.1), ()), ())
noncomputable def C107 (k : Nat) : Nat → Fun := mkC [(100, (F100 (f100 k)))]
theorem c107_ok (k : Nat) : ∀ f, SoundFn Try.prog f (C107 k f) := (mkC_cons (s100 k) mkC_nil)
theorem e107 (k : Nat) (x : (a107).C) : bodyR (C107 k) tt noH Try.f107 a107 o107 x = u107 (f107 k) x := by kernel_rfl
theorem s107 (k : Nat) : SoundFn Try.prog 107 (F107 (f107 k)) :=
  have hC := c107_ok k
  fnR_sound hC ttOk (draw_ok hC ttOk mixed) Try.func107 (c0 := bd Try.f107) rfl (entry Try.func107 rfl (by decide)) noH_ok rfl (fun x _ h => (e107 k x).trans h)
/-! f106 slices.IndexFunc[[]int,int] (R) -/
noncomputable def a106 : Shape := ⟨[.d (.slice i64), .fn 107 [0]], [.box [.ptr 1], .box [.d (.slice T_Gate), .mp 2], .map T_Gate i64]⟩
noncomputable def o106 : List Shape := [⟨[.d i64], []⟩]
abbrev R106 : Type := ((Int × Unit) × Unit)
abbrev T106 : Type := (List Int) → (List D_Gate) → (List (D_Gate × Int)) → Option R106
noncomputable def u106 (f : T106) : (a106).C → Option (OutC o106) := fun (x : (((List Int) × Unit × Unit) × ((Unit × Unit) × ((List D_Gate) × Unit × Unit) × (List (D_Gate × Int)) × Unit))) => f x.1.1 x.2.2.1.1 x.2.2.2.1
noncomputable def F106 (f : T106) : Fun := ⟨true, runR a106 o106 (u106 f)⟩
noncomputable def pa106_26 : Shape := ⟨[.d (.slice i64), .fn 107 [0], .d i64, .d i64], [.lk (.box [.ptr 1]), .lk (.box [.d (.slice T_Gate), .mp 2]), .lk (.map T_Gate i64)]⟩
noncomputable def pw106_26 : List Vm.Way := [⟨.exit 0, [], ⟨[], [.any, .any, .any]⟩⟩, ⟨.ret, [4], ⟨[.d i64], [.any, .any, .any]⟩⟩]
abbrev R106_26 : Type := ((Unit × (Unit × Unit × Unit × Unit)) ⊕ ((Int × Unit) × (Unit × Unit × Unit × Unit)))
abbrev T106_26 : Type := (List Int) → Int → Int → (List D_Gate) → (List (D_Gate × Int)) → Option R106_26
noncomputable def u106_26 (f : T106_26) : (pa106_26).C → Option (WayC pw106_26) := fun (x : (((List Int) × Unit × Int × Int × Unit) × ((Unit × Unit) × ((List D_Gate) × Unit × Unit) × (List (D_Gate × Int)) × Unit))) => f x.1.1 x.1.2.2.1 x.1.2.2.2.1 x.2.2.1.1 x.2.2.2.1
noncomputable def b106_26 (k : Nat) (rec : T106_26) : T106_26 := fun s0 t7 t8 o1 o2 =>
  cond (decide (t8 < t7))
    (ix s0 t8 fun e1 =>
    (f107 k e1 o1 o2).bind fun y2 =>
    cond y2.1.1
      (some (.inr ((t8, ()), ((), (), (), ()))))
      ((rec s0 t7 (w64 (t8 + 1)) o1 o2).bind fun y3 =>
      match y3 with
      | .inl y3_0 =>
        some (.inl ((), ((), (), (), ())))
      | .inr y3_1 =>
        some (.inr ((y3_1.1.1, ()), ((), (), (), ())))))
    (some (.inl ((), ((), (), (), ()))))
noncomputable def l106_26 (k : Nat) : Nat → T106_26
  | 0 => fun _ _ _ _ _ => none
  | j + 1 => b106_26 k (l106_26 k j)
noncomputable def f106 (k : Nat) : T106 := fun s0 o1 o2 =>
  (l106_26 k k s0 (s0.length : Int) 0 o1 o2).bind fun y1 =>
  match y1 with
  | .inl y1_0 =>
    some (((-1), ()), ())
  | .inr y1_1 =>
    some ((y1_1.1.1, ()), ())
noncomputable def C106 (k : Nat) : Nat → Fun := mkC [(107, (F107 (f107 k)))]
theorem c106_ok (k : Nat) : ∀ f, SoundFn Try.prog f (C106 k f) := (mkC_cons (s107 k) mkC_nil)
noncomputable def H106_26 (k : Nat) : Nat → Option Cut := addH noH 26 ⟨runCut (wrC (bodyOf (codeAt 26 (bd Try.f106) 26))) 19 [0, 1, 7, 8] pa106_26 pw106_26 (u106_26 (l106_26 k k))⟩
theorem e106_26 (k : Nat) (rec : T106_26) (x : (pa106_26).C) : roundF (C106 k) tt noH (bodyOf (codeAt 26 (bd Try.f106) 26)) 52 19 [0, 1, 7, 8] pa106_26 pw106_26 (u106_26 rec) x = u106_26 (b106_26 k rec) x := by kernel_rfl
theorem h106_26_ok (k : Nat) : ∀ p S, H106_26 k p = some S → ∀ c, At (bd Try.f106) p c → CutOk Try.prog c S :=
  have hC := c106_ok k
  addLoop hC ttOk (draw_ok hC ttOk mixed) noH_ok (by kernel_rfl) (F := fun j => u106_26 (l106_26 k j)) (fun _ => rfl) (fun j x _ h => (e106_26 k (l106_26 k j) x).trans h) k
theorem e106 (k : Nat) (x : (a106).C) : bodyR (C106 k) tt (H106_26 k) Try.f106 a106 o106 x = u106 (f106 k) x := by kernel_rfl
theorem s106 (k : Nat) : SoundFn Try.prog 106 (F106 (f106 k)) :=
  have hC := c106_ok k
  fnR_sound hC ttOk (draw_ok hC ttOk mixed) Try.func106 (c0 := bd Try.f106) rfl (entry Try.func106 rfl (by decide)) (h106_26_ok k) rfl (fun x _ h => (e106 k x).trans h)
/-! f86 slices.ContainsFunc[[]int,int] (R) -/
noncomputable def a86 : Shape := ⟨[.d (.slice i64), .fn 107 [0]], [.box [.ptr 1], .box [.d (.slice T_Gate), .mp 2], .map T_Gate i64]⟩
noncomputable def o86 : List Shape := [⟨[.d .bool], []⟩]
abbrev R86 : Type := ((Bool × Unit) × Unit)
abbrev T86 : Type := (List Int) → (List D_Gate) → (List (D_Gate × Int)) → Option R86
noncomputable def u86 (f : T86) : (a86).C → Option (OutC o86) := fun (x : (((List Int) × Unit × Unit) × ((Unit × Unit) × ((List D_Gate) × Unit × Unit) × (List (D_Gate × Int)) × Unit))) => f x.1.1 x.2.2.1.1 x.2.2.2.1
noncomputable def F86 (f : T86) : Fun := ⟨true, runR a86 o86 (u86 f)⟩
noncomputable def f86 (k : Nat) : T86 := fun s0 o1 o2 =>
  (f106 k s0 o1 o2).bind fun y1 =>
  some (((decide (y1.1.1 ≥ 0)), ()), ())
noncomputable def C86 (k : Nat) : Nat → Fun := mkC [(106, (F106 (f106 k)))]
theorem c86_ok (k : Nat) : ∀ f, SoundFn Try.prog f (C86 k f) := (mkC_cons (s106 k) mkC_nil)
theorem e86 (k : Nat) (x : (a86).C) : bodyR (C86 k) tt noH Try.f86 a86 o86 x = u86 (f86 k) x := by kernel_rfl
theorem s86 (k : Nat) : SoundFn Try.prog 86 (F86 (f86 k)) :=
  have hC := c86_ok k
  fnR_sound hC ttOk (draw_ok hC ttOk mixed) Try.func86 (c0 := bd Try.f86) rfl (entry Try.func86 rfl (by decide)) noH_ok rfl (fun x _ h => (e86 k x).trans h)
/-! f94 fathom/vec.Check (R) -/
noncomputable def a94 : Shape := ⟨[.ptr 0, .d (.slice i64)], [.box [.d (.slice T_Gate), .mp 1], .map T_Gate i64]⟩
noncomputable def o94 : List Shape := [⟨[.d i64], []⟩]
abbrev R94 : Type := ((Int × Unit) × Unit)
abbrev T94 : Type := (List Int) → (List D_Gate) → (List (D_Gate × Int)) → Option R94
noncomputable def u94 (f : T94) : (a94).C → Option (OutC o94) := fun (x : ((Unit × (List Int) × Unit) × (((List D_Gate) × Unit × Unit) × (List (D_Gate × Int)) × Unit))) => f x.1.2.1 x.2.1.1 x.2.2.1
noncomputable def F94 (f : T94) : Fun := ⟨true, runR a94 o94 (u94 f)⟩
noncomputable def f94 (k : Nat) : T94 := fun a1 o0 o1 =>
  cond (decide ((a1.length : Int) < 1))
    (some ((1, ()), ()))
    (cond (decide ((a1.length : Int) > 16))
      (some ((1, ()), ()))
      ((f86 k a1 o0 o1).bind fun y1 =>
      cond y1.1.1
        (some ((1, ()), ()))
        (some ((0, ()), ()))))
noncomputable def C94 (k : Nat) : Nat → Fun := mkC [(86, (F86 (f86 k)))]
theorem c94_ok (k : Nat) : ∀ f, SoundFn Try.prog f (C94 k f) := (mkC_cons (s86 k) mkC_nil)
theorem e94 (k : Nat) (x : (a94).C) : bodyR (C94 k) tt noH Try.f94 a94 o94 x = u94 (f94 k) x := by kernel_rfl
theorem s94 (k : Nat) : SoundFn Try.prog 94 (F94 (f94 k)) :=
  have hC := c94_ok k
  fnR_sound hC ttOk (draw_ok hC ttOk mixed) Try.func94 (c0 := bd Try.f94) rfl (entry Try.func94 rfl (by decide)) noH_ok rfl (fun x _ h => (e94 k x).trans h)
/-! f68 fathom/vec.pair (R) -/
noncomputable def a68 : Shape := ⟨[.ptr 0, .d (.slice i64), .d (.slice i64)], [.box [.d (.slice T_Gate), .mp 1], .map T_Gate i64]⟩
noncomputable def o68 : List Shape := [⟨[.d .bool], []⟩]
abbrev R68 : Type := ((Bool × Unit) × Unit)
abbrev T68 : Type := (List Int) → (List Int) → (List D_Gate) → (List (D_Gate × Int)) → Option R68
noncomputable def u68 (f : T68) : (a68).C → Option (OutC o68) := fun (x : ((Unit × (List Int) × (List Int) × Unit) × (((List D_Gate) × Unit × Unit) × (List (D_Gate × Int)) × Unit))) => f x.1.2.1 x.1.2.2.1 x.2.1.1 x.2.2.1
noncomputable def F68 (f : T68) : Fun := ⟨true, runR a68 o68 (u68 f)⟩
noncomputable def f68 (k : Nat) : T68 := fun a1 b2 o0 o1 =>
  cond ((a1.length : Int) == (b2.length : Int))
    ((f94 k a1 o0 o1).bind fun y1 =>
    cond (y1.1.1 == 0)
      ((f94 k b2 o0 o1).bind fun y2 =>
      some (((y2.1.1 == 0), ()), ()))
      (some ((false, ()), ())))
    (some ((false, ()), ()))
noncomputable def C68 (k : Nat) : Nat → Fun := mkC [(94, (F94 (f94 k)))]
theorem c68_ok (k : Nat) : ∀ f, SoundFn Try.prog f (C68 k f) := (mkC_cons (s94 k) mkC_nil)
theorem e68 (k : Nat) (x : (a68).C) : bodyR (C68 k) tt noH Try.f68 a68 o68 x = u68 (f68 k) x := by kernel_rfl
theorem s68 (k : Nat) : SoundFn Try.prog 68 (F68 (f68 k)) :=
  have hC := c68_ok k
  fnR_sound hC ttOk (draw_ok hC ttOk mixed) Try.func68 (c0 := bd Try.f68) rfl (entry Try.func68 rfl (by decide)) noH_ok rfl (fun x _ h => (e68 k x).trans h)
/-! f104 fathom/aig.not (R) -/
noncomputable def a104 : Shape := ⟨[.d i64], []⟩
noncomputable def o104 : List Shape := [⟨[.d i64], []⟩]
abbrev R104 : Type := ((Int × Unit) × Unit)
abbrev T104 : Type := Int → Option R104
noncomputable def u104 (f : T104) : (a104).C → Option (OutC o104) := fun (x : ((Int × Unit) × Unit)) => f x.1.1
noncomputable def F104 (f : T104) : Fun := ⟨true, runR a104 o104 (u104 f)⟩
noncomputable def f104 (k : Nat) : T104 := fun l0 =>
  cond (decide (l0 < 0))
    (some (((-1), ()), ()))
    (some (((ibits .xor .i64 l0 1), ()), ()))
noncomputable def C104 (k : Nat) : Nat → Fun := mkC []
theorem c104_ok (k : Nat) : ∀ f, SoundFn Try.prog f (C104 k f) := mkC_nil
theorem e104 (k : Nat) (x : (a104).C) : bodyR (C104 k) tt noH Try.f104 a104 o104 x = u104 (f104 k) x := by kernel_rfl
theorem s104 (k : Nat) : SoundFn Try.prog 104 (F104 (f104 k)) :=
  have hC := c104_ok k
  fnR_sound hC ttOk (draw_ok hC ttOk mixed) Try.func104 (c0 := bd Try.f104) rfl (entry Try.func104 rfl (by decide)) noH_ok rfl (fun x _ h => (e104 k x).trans h)
/-! f110 fathom/aig.input (R) -/
noncomputable def a110 : Shape := ⟨[], []⟩
noncomputable def o110 : List Shape := [⟨[.d T_Gate], []⟩]
abbrev R110 : Type := ((D_Gate × Unit) × Unit)
abbrev T110 : Type := Unit → Option R110
noncomputable def u110 (f : T110) : (a110).C → Option (OutC o110) := fun (x : (Unit × Unit)) => f ()
noncomputable def F110 (f : T110) : Fun := ⟨true, runR a110 o110 (u110 f)⟩
noncomputable def f110 (k : Nat) : T110 := fun _ =>
  some ((((-1), (-1), ()), ()), ())
noncomputable def C110 (k : Nat) : Nat → Fun := mkC []
theorem c110_ok (k : Nat) : ∀ f, SoundFn Try.prog f (C110 k f) := mkC_nil
theorem e110 (k : Nat) (x : (a110).C) : bodyR (C110 k) tt noH Try.f110 a110 o110 x = u110 (f110 k) x := by kernel_rfl
theorem s110 (k : Nat) : SoundFn Try.prog 110 (F110 (f110 k)) :=
  have hC := c110_ok k
  fnR_sound hC ttOk (draw_ok hC ttOk mixed) Try.func110 (c0 := bd Try.f110) rfl (entry Try.func110 rfl (by decide)) noH_ok rfl (fun x _ h => (e110 k x).trans h)
/-! f109 (*fathom/aig.Aig).kids (R) -/
noncomputable def a109 : Shape := ⟨[.ptr 0, .d i64], [.box [.d (.slice T_Gate), .mp 1], .map T_Gate i64]⟩
noncomputable def o109 : List Shape := [⟨[.d i64, .d i64, .d .bool], []⟩]
abbrev R109 : Type := ((Int × Int × Bool × Unit) × Unit)
abbrev T109 : Type := Int → (List D_Gate) → (List (D_Gate × Int)) → Option R109
noncomputable def u109 (f : T109) : (a109).C → Option (OutC o109) := fun (x : ((Unit × Int × Unit) × (((List D_Gate) × Unit × Unit) × (List (D_Gate × Int)) × Unit))) => f x.1.2.1 x.2.1.1 x.2.2.1
noncomputable def F109 (f : T109) : Fun := ⟨true, runR a109 o109 (u109 f)⟩
noncomputable def f109 (k : Nat) : T109 := fun l1 o0 o1 =>
  cond (decide (l1 < 2))
    (some ((0, 0, false, ()), ()))
    (ix o0 (w64 ((w64 (Int.tdiv l1 2)) - 1)) fun e1 =>
    (f110 k ()).bind fun y2 =>
    some ((e1.1, e1.2.1, (!(beqD T_Gate e1 y2.1.1)), ()), ()))
noncomputable def C109 (k : Nat) : Nat → Fun := mkC [(110, (F110 (f110 k)))]
theorem c109_ok (k : Nat) : ∀ f, SoundFn Try.prog f (C109 k f) := (mkC_cons (s110 k) mkC_nil)
theorem e109 (k : Nat) (x : (a109).C) : bodyR (C109 k) tt noH Try.f109 a109 o109 x = u109 (f109 k) x := by kernel_rfl
theorem s109 (k : Nat) : SoundFn Try.prog 109 (F109 (f109 k)) :=
  have hC := c109_ok k
  fnR_sound hC ttOk (draw_ok hC ttOk mixed) Try.func109 (c0 := bd Try.f109) rfl (entry Try.func109 rfl (by decide)) noH_ok rfl (fun x _ h => (e109 k x).trans h)
/-! f101 (*fathom/aig.Aig).plain (R) -/
noncomputable def a101 : Shape := ⟨[.ptr 0, .d i64, .d i64], [.box [.d (.slice T_Gate), .mp 1], .map T_Gate i64]⟩
noncomputable def o101 : List Shape := [⟨[.d i64, .d .bool], []⟩]
abbrev R101 : Type := ((Int × Bool × Unit) × Unit)
abbrev T101 : Type := Int → Int → (List D_Gate) → (List (D_Gate × Int)) → Option R101
noncomputable def u101 (f : T101) : (a101).C → Option (OutC o101) := fun (x : ((Unit × Int × Int × Unit) × (((List D_Gate) × Unit × Unit) × (List (D_Gate × Int)) × Unit))) => f x.1.2.1 x.1.2.2.1 x.2.1.1 x.2.2.1
noncomputable def F101 (f : T101) : Fun := ⟨true, runR a101 o101 (u101 f)⟩
noncomputable def f101 (k : Nat) : T101 := fun a1 b2 o0 o1 =>
  (f109 k b2 o0 o1).bind fun y1 =>
  cond (!y1.1.2.2.1)
    (some ((0, false, ()), ()))
    (cond ((Int.tmod b2 2) == 1)
      (some ((0, false, ()), ()))
      (cond (a1 == y1.1.1)
        (some ((b2, true, ()), ()))
        (cond (a1 == y1.1.2.1)
          (some ((b2, true, ()), ()))
          (cond ((ibits .xor .i64 a1 1) == y1.1.1)
            (some ((0, true, ()), ()))
            (cond ((ibits .xor .i64 a1 1) == y1.1.2.1)
              (some ((0, true, ()), ()))
              (some ((0, false, ()), ())))))))
noncomputable def C101 (k : Nat) : Nat → Fun := mkC [(109, (F109 (f109 k)))]
theorem c101_ok (k : Nat) : ∀ f, SoundFn Try.prog f (C101 k f) := (mkC_cons (s109 k) mkC_nil)
theorem e101 (k : Nat) (x : (a101).C) : bodyR (C101 k) tt noH Try.f101 a101 o101 x = u101 (f101 k) x := by kernel_rfl
theorem s101 (k : Nat) : SoundFn Try.prog 101 (F101 (f101 k)) :=
  have hC := c101_ok k
  fnR_sound hC ttOk (draw_ok hC ttOk mixed) Try.func101 (c0 := bd Try.f101) rfl (entry Try.func101 rfl (by decide)) noH_ok rfl (fun x _ h => (e101 k x).trans h)
/-! f103 (*fathom/aig.Aig).add (W) -/
noncomputable def a103 : Shape := ⟨[.ptr 0, .d T_Gate], [.box [.own T_Gate, .mp 1], .map T_Gate i64]⟩
noncomputable def o103 : List Shape := [⟨[.d i64], [.box [.own T_Gate, .mp 1], .map T_Gate i64]⟩]
abbrev R103 : Type := ((Int × Unit) × (((List D_Gate) × Unit × Unit) × (List (D_Gate × Int)) × Unit))
abbrev T103 : Type := D_Gate → (List D_Gate) → (List (D_Gate × Int)) → Option R103
noncomputable def u103 (f : T103) : (a103).C → Option (OutC o103) := fun (x : ((Unit × D_Gate × Unit) × (((List D_Gate) × Unit × Unit) × (List (D_Gate × Int)) × Unit))) => f x.1.2.1 x.2.1.1 x.2.2.1
noncomputable def F103 (f : T103) : Fun := ⟨false, runW a103 o103 (u103 f)⟩
noncomputable def f103 (k : Nat) : T103 := fun n1 o0 o1 =>
  cond (decide ((o0.length : Int) ≥ 1048576))
    (some (((-1), ()), ((o0, (), ()), o1, ())))
    (gd (decide ((o0.length + 1) * 16 ≤ room)) <|
    some (((w64 (2 * ((o0 ++ ([n1] : List D_Gate)).length : Int))), ()), (((o0 ++ ([n1] : List D_Gate)), (), ()), o1, ())))
noncomputable def C103 (k : Nat) : Nat → Fun := mkC []
theorem c103_ok (k : Nat) : ∀ f, SoundFn Try.prog f (C103 k f) := mkC_nil
theorem e103 (k : Nat) (x : (a103).C) : bodyW (C103 k) tt noH Try.f103 a103 o103 x = u103 (f103 k) x := by kernel_rfl
theorem s103 (k : Nat) : SoundFn Try.prog 103 (F103 (f103 k)) :=
  have hC := c103_ok k
  fnW_sound hC ttOk (draw_ok hC ttOk mixed) Try.func103 (c0 := bd Try.f103) rfl (entry Try.func103 rfl (by decide)) noH_ok (fun x _ h => (e103 k x).trans h)
/-! f72 (*fathom/aig.Aig).And (W) -/
noncomputable def a72 : Shape := ⟨[.ptr 0, .d i64, .d i64], [.box [.own T_Gate, .mp 1], .map T_Gate i64]⟩
noncomputable def o72 : List Shape := [⟨[.d i64], [.box [.own T_Gate, .mp 1], .map T_Gate i64]⟩]
abbrev R72 : Type := ((Int × Unit) × (((List D_Gate) × Unit × Unit) × (List (D_Gate × Int)) × Unit))
abbrev T72 : Type := Int → Int → (List D_Gate) → (List (D_Gate × Int)) → Option R72
noncomputable def u72 (f : T72) : (a72).C → Option (OutC o72) := fun (x : ((Unit × Int × Int × Unit) × (((List D_Gate) × Unit × Unit) × (List (D_Gate × Int)) × Unit))) => f x.1.2.1 x.1.2.2.1 x.2.1.1 x.2.2.1
noncomputable def F72 (f : T72) : Fun := ⟨false, runW a72 o72 (u72 f)⟩
/-! f102 (*fathom/aig.Aig).turned (W) -/
noncomputable def a102 : Shape := ⟨[.ptr 0, .d i64, .d i64], [.box [.own T_Gate, .mp 1], .map T_Gate i64]⟩
noncomputable def o102 : List Shape := [⟨[.d i64, .d .bool], [.box [.own T_Gate, .mp 1], .map T_Gate i64]⟩]
abbrev R102 : Type := ((Int × Bool × Unit) × (((List D_Gate) × Unit × Unit) × (List (D_Gate × Int)) × Unit))
abbrev T102 : Type := Int → Int → (List D_Gate) → (List (D_Gate × Int)) → Option R102
noncomputable def u102 (f : T102) : (a102).C → Option (OutC o102) := fun (x : ((Unit × Int × Int × Unit) × (((List D_Gate) × Unit × Unit) × (List (D_Gate × Int)) × Unit))) => f x.1.2.1 x.1.2.2.1 x.2.1.1 x.2.2.1
noncomputable def F102 (f : T102) : Fun := ⟨false, runW a102 o102 (u102 f)⟩
noncomputable def b72 (k : Nat) (r72 : T72) (r102 : T102) : T72 := fun a1 b2 o0 o1 =>
  (f100 k a1 o0 o1).bind fun y1 =>
  cond (!y1.1.1)
    (some (((-1), ()), ((o0, (), ()), o1, ())))
    ((f100 k b2 o0 o1).bind fun y2 =>
    cond (!y2.1.1)
      (some (((-1), ()), ((o0, (), ()), o1, ())))
      (cond ((minmax false a1 b2) == 0)
        (some ((0, ()), ((o0, (), ()), o1, ())))
        (cond ((ibits .xor .i64 (minmax false a1 b2) 1) == (minmax true a1 b2))
          (some ((0, ()), ((o0, (), ()), o1, ())))
          (cond ((minmax false a1 b2) == 1)
            (some (((minmax true a1 b2), ()), ((o0, (), ()), o1, ())))
            (cond ((minmax false a1 b2) == (minmax true a1 b2))
              (some (((minmax true a1 b2), ()), ((o0, (), ()), o1, ())))
              ((f101 k (minmax false a1 b2) (minmax true a1 b2) o0 o1).bind fun y3 =>
              cond y3.1.2.1
                (some ((y3.1.1, ()), ((o0, (), ()), o1, ())))
                ((f101 k (minmax true a1 b2) (minmax false a1 b2) o0 o1).bind fun y4 =>
                cond y4.1.2.1
                  (some ((y4.1.1, ()), ((o0, (), ()), o1, ())))
                  ((r102 (minmax false a1 b2) (minmax true a1 b2) o0 o1).bind fun y5 =>
                  cond y5.1.2.1
                    (some ((y5.1.1, ()), ((y5.2.1.1, (), ()), y5.2.2.1, ())))
                    ((r102 (minmax true a1 b2) (minmax false a1 b2) y5.2.1.1 y5.2.2.1).bind fun y6 =>
                    cond y6.1.2.1
                      (some ((y6.1.1, ()), ((y6.2.1.1, (), ()), y6.2.2.1, ())))
                      (let v7 := mget T_Gate ((minmax false a1 b2), (minmax true a1 b2), ()) y6.2.2.1
                      cond v7.isSome
                        (some (((v7.getD 0), ()), ((y6.2.1.1, (), ()), y6.2.2.1, ())))
                        ((f103 k ((minmax false a1 b2), (minmax true a1 b2), ()) y6.2.1.1 y6.2.2.1).bind fun y8 =>
                        cond (y8.1.1 != (-1))
                          (some ((y8.1.1, ()), ((y8.2.1.1, (), ()), (mput T_Gate ((minmax false a1 b2), (minmax true a1 b2), ()) y8.1.1 y8.2.2.1), ())))
                          (some ((y8.1.1, ()), ((y8.2.1.1, (), ()), y8.2.2.1, ()))))))))))))))
noncomputable def b102 (k : Nat) (r72 : T72) (r102 : T102) : T102 := fun a1 b2 o0 o1 =>
  (f109 k b2 o0 o1).bind fun y1 =>
  cond (!y1.1.2.2.1)
    (some ((0, false, ()), ((o0, (), ()), o1, ())))
    (cond ((Int.tmod b2 2) == 0)
      (some ((0, false, ()), ((o0, (), ()), o1, ())))
      (cond ((ibits .xor .i64 a1 1) == y1.1.1)
        (some ((a1, true, ()), ((o0, (), ()), o1, ())))
        (cond ((ibits .xor .i64 a1 1) == y1.1.2.1)
          (some ((a1, true, ()), ((o0, (), ()), o1, ())))
          (cond (a1 == y1.1.1)
            ((r72 a1 (ibits .xor .i64 y1.1.2.1 1) o0 o1).bind fun y2 =>
            some ((y2.1.1, true, ()), ((y2.2.1.1, (), ()), y2.2.2.1, ())))
            (cond (a1 == y1.1.2.1)
              ((r72 a1 (ibits .xor .i64 y1.1.1 1) o0 o1).bind fun y3 =>
              some ((y3.1.1, true, ()), ((y3.2.1.1, (), ()), y3.2.2.1, ())))
              (some ((0, false, ()), ((o0, (), ()), o1, ()))))))))
noncomputable def S72 : Nat → T72 × T102
  | 0 => (fun _ _ _ _ => none, fun _ _ _ _ => none)
  | k + 1 => (b72 k (S72 k).1 (S72 k).2, b102 k (S72 k).1 (S72 k).2)
noncomputable def f72 (k : Nat) : T72 := (S72 k).1
noncomputable def f102 (k : Nat) : T102 := (S72 k).2
theorem f72_succ (k : Nat) : f72 (k + 1) = b72 k (f72 k) (f102 k) := rfl
theorem f102_succ (k : Nat) : f102 (k + 1) = b102 k (f72 k) (f102 k) := rfl
noncomputable def C72 (k : Nat) (r72 : T72) (r102 : T102) : Nat → Fun := mkC [(100, (F100 (f100 k))), (101, (F101 (f101 k))), (102, (F102 r102)), (103, (F103 (f103 k)))]
theorem c72_ok (k : Nat) (r72 : T72) (r102 : T102) (h72 : SoundFn Try.prog 72 (F72 r72)) (h102 : SoundFn Try.prog 102 (F102 r102)) : ∀ f, SoundFn Try.prog f (C72 k r72 r102 f) := (mkC_cons (s100 k) (mkC_cons (s101 k) (mkC_cons h102 (mkC_cons (s103 k) mkC_nil))))
theorem e72 (k : Nat) (r72 : T72) (r102 : T102) (x : (a72).C) : bodyW (C72 k r72 r102) tt noH Try.f72 a72 o72 x = u72 (b72 k r72 r102) x := by kernel_rfl
theorem q72 (k : Nat) (r72 : T72) (r102 : T102) (h72 : SoundFn Try.prog 72 (F72 r72)) (h102 : SoundFn Try.prog 102 (F102 r102)) : SoundFn Try.prog 72 (F72 (b72 k r72 r102)) :=
  have hC := c72_ok k r72 r102 h72 h102
  fnW_sound hC ttOk (draw_ok hC ttOk mixed) Try.func72 (c0 := bd Try.f72) rfl (entry Try.func72 rfl (by decide)) noH_ok (fun x _ h => (e72 k r72 r102 x).trans h)
noncomputable def C102 (k : Nat) (r72 : T72) (r102 : T102) : Nat → Fun := mkC [(72, (F72 r72)), (109, (F109 (f109 k)))]
theorem c102_ok (k : Nat) (r72 : T72) (r102 : T102) (h72 : SoundFn Try.prog 72 (F72 r72)) (h102 : SoundFn Try.prog 102 (F102 r102)) : ∀ f, SoundFn Try.prog f (C102 k r72 r102 f) := (mkC_cons h72 (mkC_cons (s109 k) mkC_nil))
theorem e102 (k : Nat) (r72 : T72) (r102 : T102) (x : (a102).C) : bodyW (C102 k r72 r102) tt noH Try.f102 a102 o102 x = u102 (b102 k r72 r102) x := by kernel_rfl
theorem q102 (k : Nat) (r72 : T72) (r102 : T102) (h72 : SoundFn Try.prog 72 (F72 r72)) (h102 : SoundFn Try.prog 102 (F102 r102)) : SoundFn Try.prog 102 (F102 (b102 k r72 r102)) :=
  have hC := c102_ok k r72 r102 h72 h102
  fnW_sound hC ttOk (draw_ok hC ttOk mixed) Try.func102 (c0 := bd Try.f102) rfl (entry Try.func102 rfl (by decide)) noH_ok (fun x _ h => (e102 k r72 r102 x).trans h)
theorem sAll72 : ∀ k : Nat, SoundFn Try.prog 72 (F72 (f72 k)) ∧ SoundFn Try.prog 102 (F102 (f102 k))
  | 0 => ⟨noneW_ok (by intro x; rfl), noneW_ok (by intro x; rfl)⟩
  | k + 1 =>
    have ih := sAll72 k
    ⟨q72 k (f72 k) (f102 k) ih.1 ih.2, q102 k (f72 k) (f102 k) ih.1 ih.2⟩
theorem s72 (k : Nat) : SoundFn Try.prog 72 (F72 (f72 k)) := (sAll72 k).1
theorem s102 (k : Nat) : SoundFn Try.prog 102 (F102 (f102 k)) := (sAll72 k).2
/-! f96 (*fathom/aig.Aig).Or (W) -/
noncomputable def a96 : Shape := ⟨[.ptr 0, .d i64, .d i64], [.box [.own T_Gate, .mp 1], .map T_Gate i64]⟩
noncomputable def o96 : List Shape := [⟨[.d i64], [.box [.own T_Gate, .mp 1], .map T_Gate i64]⟩]
abbrev R96 : Type := ((Int × Unit) × (((List D_Gate) × Unit × Unit) × (List (D_Gate × Int)) × Unit))
abbrev T96 : Type := Int → Int → (List D_Gate) → (List (D_Gate × Int)) → Option R96
noncomputable def u96 (f : T96) : (a96).C → Option (OutC o96) := fun (x : ((Unit × Int × Int × Unit) × (((List D_Gate) × Unit × Unit) × (List (D_Gate × Int)) × Unit))) => f x.1.2.1 x.1.2.2.1 x.2.1.1 x.2.2.1
noncomputable def F96 (f : T96) : Fun := ⟨false, runW a96 o96 (u96 f)⟩
noncomputable def f96 (k : Nat) : T96 := fun a1 b2 o0 o1 =>
  (f104 k a1).bind fun y1 =>
  (f104 k b2).bind fun y2 =>
  (f72 k y1.1.1 y2.1.1 o0 o1).bind fun y3 =>
  (f104 k y3.1.1).bind fun y4 =>
  some ((y4.1.1, ()), ((y3.2.1.1, (), ()), y3.2.2.1, ()))
noncomputable def C96 (k : Nat) : Nat → Fun := mkC [(72, (F72 (f72 k))), (104, (F104 (f104 k)))]
theorem c96_ok (k : Nat) : ∀ f, SoundFn Try.prog f (C96 k f) := (mkC_cons (s72 k) (mkC_cons (s104 k) mkC_nil))
theorem e96 (k : Nat) (x : (a96).C) : bodyW (C96 k) tt noH Try.f96 a96 o96 x = u96 (f96 k) x := by kernel_rfl
theorem s96 (k : Nat) : SoundFn Try.prog 96 (F96 (f96 k)) :=
  have hC := c96_ok k
  fnW_sound hC ttOk (draw_ok hC ttOk mixed) Try.func96 (c0 := bd Try.f96) rfl (entry Try.func96 rfl (by decide)) noH_ok (fun x _ h => (e96 k x).trans h)
/-! f95 (*fathom/aig.Aig).Xor (W) -/
noncomputable def a95 : Shape := ⟨[.ptr 0, .d i64, .d i64], [.box [.own T_Gate, .mp 1], .map T_Gate i64]⟩
noncomputable def o95 : List Shape := [⟨[.d i64], [.box [.own T_Gate, .mp 1], .map T_Gate i64]⟩]
abbrev R95 : Type := ((Int × Unit) × (((List D_Gate) × Unit × Unit) × (List (D_Gate × Int)) × Unit))
abbrev T95 : Type := Int → Int → (List D_Gate) → (List (D_Gate × Int)) → Option R95
noncomputable def u95 (f : T95) : (a95).C → Option (OutC o95) := fun (x : ((Unit × Int × Int × Unit) × (((List D_Gate) × Unit × Unit) × (List (D_Gate × Int)) × Unit))) => f x.1.2.1 x.1.2.2.1 x.2.1.1 x.2.2.1
noncomputable def F95 (f : T95) : Fun := ⟨false, runW a95 o95 (u95 f)⟩
noncomputable def f95 (k : Nat) : T95 := fun a1 b2 o0 o1 =>
  (f104 k b2).bind fun y1 =>
  (f72 k a1 y1.1.1 o0 o1).bind fun y2 =>
  (f104 k a1).bind fun y3 =>
  (f72 k y3.1.1 b2 y2.2.1.1 y2.2.2.1).bind fun y4 =>
  (f96 k y2.1.1 y4.1.1 y4.2.1.1 y4.2.2.1).bind fun y5 =>
  some ((y5.1.1, ()), ((y5.2.1.1, (), ()), y5.2.2.1, ()))
noncomputable def C95 (k : Nat) : Nat → Fun := mkC [(72, (F72 (f72 k))), (96, (F96 (f96 k))), (104, (F104 (f104 k)))]
theorem c95_ok (k : Nat) : ∀ f, SoundFn Try.prog f (C95 k f) := (mkC_cons (s72 k) (mkC_cons (s96 k) (mkC_cons (s104 k) mkC_nil)))
theorem e95 (k : Nat) (x : (a95).C) : bodyW (C95 k) tt noH Try.f95 a95 o95 x = u95 (f95 k) x := by kernel_rfl
theorem s95 (k : Nat) : SoundFn Try.prog 95 (F95 (f95 k)) :=
  have hC := c95_ok k
  fnW_sound hC ttOk (draw_ok hC ttOk mixed) Try.func95 (c0 := bd Try.f95) rfl (entry Try.func95 rfl (by decide)) noH_ok (fun x _ h => (e95 k x).trans h)
/-! f69 fathom/vec.sum (W) -/
noncomputable def a69 : Shape := ⟨[.ptr 0, .d (.slice i64), .d (.slice i64), .d i64], [.box [.own T_Gate, .mp 1], .map T_Gate i64]⟩
noncomputable def o69 : List Shape := [⟨[.own i64, .d i64], [.box [.own T_Gate, .mp 1], .map T_Gate i64]⟩]
abbrev R69 : Type := (((List Int) × Int × Unit) × (((List D_Gate) × Unit × Unit) × (List (D_Gate × Int)) × Unit))
abbrev T69 : Type := (List Int) → (List Int) → Int → (List D_Gate) → (List (D_Gate × Int)) → Option R69
noncomputable def u69 (f : T69) : (a69).C → Option (OutC o69) := fun (x : ((Unit × (List Int) × (List Int) × Int × Unit) × (((List D_Gate) × Unit × Unit) × (List (D_Gate × Int)) × Unit))) => f x.1.2.1 x.1.2.2.1 x.1.2.2.2.1 x.2.1.1 x.2.2.1
noncomputable def F69 (f : T69) : Fun := ⟨false, runW a69 o69 (u69 f)⟩
noncomputable def pa69_58 : Shape := ⟨[.ptr 0, .d (.slice i64), .d (.slice i64), .d i64, .own i64, .d i64, .d i64], [.box [.own T_Gate, .mp 1], .map T_Gate i64]⟩
noncomputable def pw69_58 : List Vm.Way := [⟨.exit 0, [3, 10], ⟨[.d i64, .own i64], [.box [.own T_Gate, .mp 1], .map T_Gate i64]⟩⟩]
abbrev R69_58 : Type := ((Int × (List Int) × Unit) × (((List D_Gate) × Unit × Unit) × (List (D_Gate × Int)) × Unit))
abbrev T69_58 : Type := (List Int) → (List Int) → Int → (List Int) → Int → Int → (List D_Gate) → (List (D_Gate × Int)) → Option R69_58
noncomputable def u69_58 (f : T69_58) : (pa69_58).C → Option (WayC pw69_58) := fun (x : ((Unit × (List Int) × (List Int) × Int × (List Int) × Int × Int × Unit) × (((List D_Gate) × Unit × Unit) × (List (D_Gate × Int)) × Unit))) => f x.1.2.1 x.1.2.2.1 x.1.2.2.2.1 x.1.2.2.2.2.1 x.1.2.2.2.2.2.1 x.1.2.2.2.2.2.2.1 x.2.1.1 x.2.2.1
noncomputable def b69_58 (k : Nat) (rec : T69_58) : T69_58 := fun a1 b2 c3 out10 t14 t15 o0 o1 =>
  cond (decide (t15 < t14))
    (ix a1 t15 fun e1 =>
    ix b2 t15 fun e2 =>
    (f95 k e1 e2 o0 o1).bind fun y3 =>
    (f95 k y3.1.1 c3 y3.2.1.1 y3.2.2.1).bind fun y4 =>
    gd (decide ((out10.length + 1) * 8 ≤ room)) <|
    ix a1 t15 fun e5 =>
    ix b2 t15 fun e6 =>
    (f72 k e5 e6 y4.2.1.1 y4.2.2.1).bind fun y7 =>
    (f72 k y3.1.1 c3 y7.2.1.1 y7.2.2.1).bind fun y8 =>
    (f96 k y7.1.1 y8.1.1 y8.2.1.1 y8.2.2.1).bind fun y9 =>
    (rec a1 b2 y9.1.1 (out10 ++ ([y4.1.1] : List Int)) t14 (w64 (t15 + 1)) y9.2.1.1 y9.2.2.1).bind fun y10 =>
    some ((y10.1.1, y10.1.2.1, ()), ((y10.2.1.1, (), ()), y10.2.2.1, ())))
    (some ((c3, out10, ()), ((o0, (), ()), o1, ())))
noncomputable def l69_58 (k : Nat) : Nat → T69_58
  | 0 => fun _ _ _ _ _ _ _ _ => none
  | j + 1 => b69_58 k (l69_58 k j)
noncomputable def f69 (k : Nat) : T69 := fun a1 b2 c3 o0 o1 =>
  (l69_58 k k a1 b2 c3 [] (a1.length : Int) 0 o0 o1).bind fun y1 =>
  some ((y1.1.2.1, y1.1.1, ()), ((y1.2.1.1, (), ()), y1.2.2.1, ()))
noncomputable def C69 (k : Nat) : Nat → Fun := mkC [(72, (F72 (f72 k))), (95, (F95 (f95 k))), (96, (F96 (f96 k)))]
theorem c69_ok (k : Nat) : ∀ f, SoundFn Try.prog f (C69 k f) := (mkC_cons (s72 k) (mkC_cons (s95 k) (mkC_cons (s96 k) mkC_nil)))
noncomputable def H69_58 (k : Nat) : Nat → Option Cut := addH noH 58 ⟨runCut (wrC (bodyOf (codeAt 58 (bd Try.f69) 58))) 54 [0, 1, 2, 3, 10, 14, 15] pa69_58 pw69_58 (u69_58 (l69_58 k k))⟩
theorem e69_58 (k : Nat) (rec : T69_58) (x : (pa69_58).C) : roundF (C69 k) tt noH (bodyOf (codeAt 58 (bd Try.f69) 58)) 116 54 [0, 1, 2, 3, 10, 14, 15] pa69_58 pw69_58 (u69_58 rec) x = u69_58 (b69_58 k rec) x := by kernel_rfl
theorem h69_58_ok (k : Nat) : ∀ p S, H69_58 k p = some S → ∀ c, At (bd Try.f69) p c → CutOk Try.prog c S :=
  have hC := c69_ok k
  addLoop hC ttOk (draw_ok hC ttOk mixed) noH_ok (by kernel_rfl) (F := fun j => u69_58 (l69_58 k j)) (fun _ => rfl) (fun j x _ h => (e69_58 k (l69_58 k j) x).trans h) k
theorem e69 (k : Nat) (x : (a69).C) : bodyW (C69 k) tt (H69_58 k) Try.f69 a69 o69 x = u69 (f69 k) x := by kernel_rfl
theorem s69 (k : Nat) : SoundFn Try.prog 69 (F69 (f69 k)) :=
  have hC := c69_ok k
  fnW_sound hC ttOk (draw_ok hC ttOk mixed) Try.func69 (c0 := bd Try.f69) rfl (entry Try.func69 rfl (by decide)) (h69_58_ok k) (fun x _ h => (e69 k x).trans h)
/-! f108 slices.Index[[]int,int] (R) -/
noncomputable def a108 : Shape := ⟨[.d (.slice i64), .d i64], []⟩
noncomputable def o108 : List Shape := [⟨[.d i64], []⟩]
abbrev R108 : Type := ((Int × Unit) × Unit)
abbrev T108 : Type := (List Int) → Int → Option R108
noncomputable def u108 (f : T108) : (a108).C → Option (OutC o108) := fun (x : (((List Int) × Int × Unit) × Unit)) => f x.1.1 x.1.2.1
noncomputable def F108 (f : T108) : Fun := ⟨true, runR a108 o108 (u108 f)⟩
noncomputable def pa108_26 : Shape := ⟨[.d (.slice i64), .d i64, .d i64, .d i64], []⟩
noncomputable def pw108_26 : List Vm.Way := [⟨.exit 0, [], ⟨[], []⟩⟩, ⟨.ret, [4], ⟨[.d i64], []⟩⟩]
abbrev R108_26 : Type := ((Unit × Unit) ⊕ ((Int × Unit) × Unit))
abbrev T108_26 : Type := (List Int) → Int → Int → Int → Option R108_26
noncomputable def u108_26 (f : T108_26) : (pa108_26).C → Option (WayC pw108_26) := fun (x : (((List Int) × Int × Int × Int × Unit) × Unit)) => f x.1.1 x.1.2.1 x.1.2.2.1 x.1.2.2.2.1
noncomputable def b108_26 (k : Nat) (rec : T108_26) : T108_26 := fun s0 v1 t7 t8 =>
  cond (decide (t8 < t7))
    (ix s0 t8 fun e1 =>
    cond (v1 == e1)
      (some (.inr ((t8, ()), ())))
      ((rec s0 v1 t7 (w64 (t8 + 1))).bind fun y2 =>
      match y2 with
      | .inl y2_0 =>
        some (.inl ((), ()))
      | .inr y2_1 =>
        some (.inr ((y2_1.1.1, ()), ()))))
    (some (.inl ((), ())))
noncomputable def l108_26 (k : Nat) : Nat → T108_26
  | 0 => fun _ _ _ _ => none
  | j + 1 => b108_26 k (l108_26 k j)
noncomputable def f108 (k : Nat) : T108 := fun s0 v1 =>
  (l108_26 k k s0 v1 (s0.length : Int) 0).bind fun y1 =>
  match y1 with
  | .inl y1_0 =>
    some (((-1), ()), ())
  | .inr y1_1 =>
    some ((y1_1.1.1, ()), ())
noncomputable def C108 (k : Nat) : Nat → Fun := mkC []
theorem c108_ok (k : Nat) : ∀ f, SoundFn Try.prog f (C108 k f) := mkC_nil
noncomputable def H108_26 (k : Nat) : Nat → Option Cut := addH noH 26 ⟨runCut (wrC (bodyOf (codeAt 26 (bd Try.f108) 26))) 19 [0, 1, 7, 8] pa108_26 pw108_26 (u108_26 (l108_26 k k))⟩
theorem e108_26 (k : Nat) (rec : T108_26) (x : (pa108_26).C) : roundF (C108 k) tt noH (bodyOf (codeAt 26 (bd Try.f108) 26)) 52 19 [0, 1, 7, 8] pa108_26 pw108_26 (u108_26 rec) x = u108_26 (b108_26 k rec) x := by kernel_rfl
theorem h108_26_ok (k : Nat) : ∀ p S, H108_26 k p = some S → ∀ c, At (bd Try.f108) p c → CutOk Try.prog c S :=
  have hC := c108_ok k
  addLoop hC ttOk (draw_ok hC ttOk mixed) noH_ok (by kernel_rfl) (F := fun j => u108_26 (l108_26 k j)) (fun _ => rfl) (fun j x _ h => (e108_26 k (l108_26 k j) x).trans h) k
theorem e108 (k : Nat) (x : (a108).C) : bodyR (C108 k) tt (H108_26 k) Try.f108 a108 o108 x = u108 (f108 k) x := by kernel_rfl
theorem s108 (k : Nat) : SoundFn Try.prog 108 (F108 (f108 k)) :=
  have hC := c108_ok k
  fnR_sound hC ttOk (draw_ok hC ttOk mixed) Try.func108 (c0 := bd Try.f108) rfl (entry Try.func108 rfl (by decide)) (h108_26_ok k) rfl (fun x _ h => (e108 k x).trans h)
/-! f97 slices.Contains[[]int,int] (R) -/
noncomputable def a97 : Shape := ⟨[.d (.slice i64), .d i64], []⟩
noncomputable def o97 : List Shape := [⟨[.d .bool], []⟩]
abbrev R97 : Type := ((Bool × Unit) × Unit)
abbrev T97 : Type := (List Int) → Int → Option R97
noncomputable def u97 (f : T97) : (a97).C → Option (OutC o97) := fun (x : (((List Int) × Int × Unit) × Unit)) => f x.1.1 x.1.2.1
noncomputable def F97 (f : T97) : Fun := ⟨true, runR a97 o97 (u97 f)⟩
noncomputable def f97 (k : Nat) : T97 := fun s0 v1 =>
  (f108 k s0 v1).bind fun y1 =>
  some (((decide (y1.1.1 ≥ 0)), ()), ())
noncomputable def C97 (k : Nat) : Nat → Fun := mkC [(108, (F108 (f108 k)))]
theorem c97_ok (k : Nat) : ∀ f, SoundFn Try.prog f (C97 k f) := (mkC_cons (s108 k) mkC_nil)
theorem e97 (k : Nat) (x : (a97).C) : bodyR (C97 k) tt noH Try.f97 a97 o97 x = u97 (f97 k) x := by kernel_rfl
theorem s97 (k : Nat) : SoundFn Try.prog 97 (F97 (f97 k)) :=
  have hC := c97_ok k
  fnR_sound hC ttOk (draw_ok hC ttOk mixed) Try.func97 (c0 := bd Try.f97) rfl (entry Try.func97 rfl (by decide)) noH_ok rfl (fun x _ h => (e97 k x).trans h)
/-! f70 fathom/vec.whole (W) -/
noncomputable def a70 : Shape := ⟨[.own i64], []⟩
noncomputable def o70 : List Shape := [⟨[.nils], []⟩, ⟨[.own i64], []⟩]
abbrev R70 : Type := (((Unit × Unit) × Unit) ⊕ (((List Int) × Unit) × Unit))
abbrev T70 : Type := (List Int) → Option R70
noncomputable def u70 (f : T70) : (a70).C → Option (OutC o70) := fun (x : (((List Int) × Unit) × Unit)) => f x.1.1
noncomputable def F70 (f : T70) : Fun := ⟨false, runW a70 o70 (u70 f)⟩
noncomputable def f70 (k : Nat) : T70 := fun a0 =>
  (f97 k a0 (-1)).bind fun y1 =>
  cond y1.1.1
    (some (.inl (((), ()), ())))
    (some (.inr ((a0, ()), ())))
noncomputable def C70 (k : Nat) : Nat → Fun := mkC [(97, (F97 (f97 k)))]
theorem c70_ok (k : Nat) : ∀ f, SoundFn Try.prog f (C70 k f) := (mkC_cons (s97 k) mkC_nil)
theorem e70 (k : Nat) (x : (a70).C) : bodyW (C70 k) tt noH Try.f70 a70 o70 x = u70 (f70 k) x := by kernel_rfl
theorem s70 (k : Nat) : SoundFn Try.prog 70 (F70 (f70 k)) :=
  have hC := c70_ok k
  fnW_sound hC ttOk (draw_ok hC ttOk mixed) Try.func70 (c0 := bd Try.f70) rfl (entry Try.func70 rfl (by decide)) noH_ok (fun x _ h => (e70 k x).trans h)
/-! f30 fathom/vec.Add (W) -/
noncomputable def a30 : Shape := ⟨[.ptr 0, .d (.slice i64), .d (.slice i64)], [.box [.own T_Gate, .mp 1], .map T_Gate i64]⟩
noncomputable def o30 : List Shape := [⟨[.nils], [.box [.own T_Gate, .mp 1], .map T_Gate i64]⟩, ⟨[.own i64], [.box [.own T_Gate, .mp 1], .map T_Gate i64]⟩]
abbrev R30 : Type := (((Unit × Unit) × (((List D_Gate) × Unit × Unit) × (List (D_Gate × Int)) × Unit)) ⊕ (((List Int) × Unit) × (((List D_Gate) × Unit × Unit) × (List (D_Gate × Int)) × Unit)))
abbrev T30 : Type := (List Int) → (List Int) → (List D_Gate) → (List (D_Gate × Int)) → Option R30
noncomputable def u30 (f : T30) : (a30).C → Option (OutC o30) := fun (x : ((Unit × (List Int) × (List Int) × Unit) × (((List D_Gate) × Unit × Unit) × (List (D_Gate × Int)) × Unit))) => f x.1.2.1 x.1.2.2.1 x.2.1.1 x.2.2.1
noncomputable def F30 (f : T30) : Fun := ⟨false, runW a30 o30 (u30 f)⟩
noncomputable def f30 (k : Nat) : T30 := fun a1 b2 o0 o1 =>
  (f68 k a1 b2 o0 o1).bind fun y1 =>
  cond (!y1.1.1)
    (some (.inl (((), ()), ((o0, (), ()), o1, ()))))
    ((f69 k a1 b2 0 o0 o1).bind fun y2 =>
    (f70 k y2.1.1).bind fun y3 =>
    match y3 with
    | .inl y3_0 =>
      some (.inl (((), ()), ((y2.2.1.1, (), ()), y2.2.2.1, ())))
    | .inr y3_1 =>
      some (.inr ((y3_1.1.1, ()), ((y2.2.1.1, (), ()), y2.2.2.1, ()))))
noncomputable def C30 (k : Nat) : Nat → Fun := mkC [(68, (F68 (f68 k))), (69, (F69 (f69 k))), (1000070, ownF), (70, (F70 (f70 k)))]
theorem c30_ok (k : Nat) : ∀ f, SoundFn Try.prog f (C30 k f) := (mkC_cons (s68 k) (mkC_cons (s69 k) (mkC_cons ownF_ok (mkC_cons (s70 k) mkC_nil))))
theorem e30 (k : Nat) (x : (a30).C) : bodyW (C30 k) tt noH Try.f30 a30 o30 x = u30 (f30 k) x := by kernel_rfl
theorem s30 (k : Nat) : SoundFn Try.prog 30 (F30 (f30 k)) :=
  have hC := c30_ok k
  fnW_sound hC ttOk (draw_ok hC ttOk mixed) Try.func30 (c0 := bd Try.f30) rfl (entry Try.func30 rfl (by decide)) noH_ok (fun x _ h => (e30 k x).trans h)
/-! f99 fathom/vec.Not$1 (R) -/
noncomputable def a99 : Shape := ⟨[.d i64, .d i64], []⟩
noncomputable def o99 : List Shape := [⟨[.d i64], []⟩]
abbrev R99 : Type := ((Int × Unit) × Unit)
abbrev T99 : Type := Int → Int → Option R99
noncomputable def u99 (f : T99) : (a99).C → Option (OutC o99) := fun (x : ((Int × Int × Unit) × Unit)) => f x.1.1 x.1.2.1
noncomputable def F99 (f : T99) : Fun := ⟨true, runR a99 o99 (u99 f)⟩
noncomputable def f99 (k : Nat) : T99 := fun a0 x1 =>
  some (((ibits .xor .i64 a0 1), ()), ())
noncomputable def C99 (k : Nat) : Nat → Fun := mkC []
theorem c99_ok (k : Nat) : ∀ f, SoundFn Try.prog f (C99 k f) := mkC_nil
theorem e99 (k : Nat) (x : (a99).C) : bodyR (C99 k) tt noH Try.f99 a99 o99 x = u99 (f99 k) x := by kernel_rfl
theorem s99 (k : Nat) : SoundFn Try.prog 99 (F99 (f99 k)) :=
  have hC := c99_ok k
  fnR_sound hC ttOk (draw_ok hC ttOk mixed) Try.func99 (c0 := bd Try.f99) rfl (entry Try.func99 rfl (by decide)) noH_ok rfl (fun x _ h => (e99 k x).trans h)
/-! f98v3 fathom/vec.each (W) -/
noncomputable def a98v3 : Shape := ⟨[.ptr 0, .d (.slice i64), .d (.slice i64), .fn 99 []], [.lk (.box [.d (.slice T_Gate), .mp 1]), .lk (.map T_Gate i64)]⟩
noncomputable def o98v3 : List Shape := [⟨[.own i64], [.any, .any]⟩]
abbrev R98v3 : Type := (((List Int) × Unit) × (Unit × Unit × Unit))
abbrev T98v3 : Type := (List Int) → (List Int) → (List D_Gate) → (List (D_Gate × Int)) → Option R98v3
noncomputable def u98v3 (f : T98v3) : (a98v3).C → Option (OutC o98v3) := fun (x : ((Unit × (List Int) × (List Int) × Unit × Unit) × (((List D_Gate) × Unit × Unit) × (List (D_Gate × Int)) × Unit))) => f x.1.2.1 x.1.2.2.1 x.2.1.1 x.2.2.1
noncomputable def F98v3 (f : T98v3) : Fun := ⟨false, runW a98v3 o98v3 (u98v3 f)⟩
noncomputable def pa98v3_122 : Shape := ⟨[.d (.slice i64), .d (.slice i64), .fn 99 [], .own i64, .d i64, .d i64], []⟩
noncomputable def pw98v3_122 : List Vm.Way := [⟨.exit 0, [9], ⟨[.own i64], []⟩⟩]
abbrev R98v3_122 : Type := (((List Int) × Unit) × Unit)
abbrev T98v3_122 : Type := (List Int) → (List Int) → (List Int) → Int → Int → Option R98v3_122
noncomputable def u98v3_122 (f : T98v3_122) : (pa98v3_122).C → Option (WayC pw98v3_122) := fun (x : (((List Int) × (List Int) × Unit × (List Int) × Int × Int × Unit) × Unit)) => f x.1.1 x.1.2.1 x.1.2.2.2.1 x.1.2.2.2.2.1 x.1.2.2.2.2.2.1
noncomputable def b98v3_122 (k : Nat) (rec : T98v3_122) : T98v3_122 := fun a1 b2 out9 t17 t18 =>
  cond (decide (t18 < t17))
    (ix a1 t18 fun e1 =>
    ix b2 t18 fun e2 =>
    (f99 k e1 e2).bind fun y3 =>
    gd (decide ((out9.length + 1) * 8 ≤ room)) <|
    (rec a1 b2 (out9 ++ ([y3.1.1] : List Int)) t17 (w64 (t18 + 1))).bind fun y4 =>
    some ((y4.1.1, ()), ()))
    (some ((out9, ()), ()))
noncomputable def l98v3_122 (k : Nat) : Nat → T98v3_122
  | 0 => fun _ _ _ _ _ => none
  | j + 1 => b98v3_122 k (l98v3_122 k j)
noncomputable def f98v3 (k : Nat) : T98v3 := fun a1 b2 o0 o1 =>
  (f68 k a1 b2 o0 o1).bind fun y1 =>
  cond (!y1.1.1)
    (some (([], ()), ((), (), ())))
    ((l98v3_122 k k a1 b2 [] (a1.length : Int) 0).bind fun y2 =>
    (f70 k y2.1.1).bind fun y3 =>
    match y3 with
    | .inl y3_0 =>
      some (([], ()), ((), (), ()))
    | .inr y3_1 =>
      some ((y3_1.1.1, ()), ((), (), ())))
noncomputable def C98v3 (k : Nat) : Nat → Fun := mkC [(68, (F68 (f68 k))), (1000070, ownF), (70, (F70 (f70 k))), (99, (F99 (f99 k)))]
theorem c98v3_ok (k : Nat) : ∀ f, SoundFn Try.prog f (C98v3 k f) := (mkC_cons (s68 k) (mkC_cons ownF_ok (mkC_cons (s70 k) (mkC_cons (s99 k) mkC_nil))))
noncomputable def H98v3_122 (k : Nat) : Nat → Option Cut := addH noH 122 ⟨runCut (wrC (bodyOf (codeAt 122 (bd Try.f98) 122))) 37 [1, 2, 3, 9, 17, 18] pa98v3_122 pw98v3_122 (u98v3_122 (l98v3_122 k k))⟩
theorem e98v3_122 (k : Nat) (rec : T98v3_122) (x : (pa98v3_122).C) : roundF (C98v3 k) tt noH (bodyOf (codeAt 122 (bd Try.f98) 122)) 244 37 [1, 2, 3, 9, 17, 18] pa98v3_122 pw98v3_122 (u98v3_122 rec) x = u98v3_122 (b98v3_122 k rec) x := by kernel_rfl
theorem h98v3_122_ok (k : Nat) : ∀ p S, H98v3_122 k p = some S → ∀ c, At (bd Try.f98) p c → CutOk Try.prog c S :=
  have hC := c98v3_ok k
  addLoop hC ttOk (draw_ok hC ttOk mixed) noH_ok (by kernel_rfl) (F := fun j => u98v3_122 (l98v3_122 k j)) (fun _ => rfl) (fun j x _ h => (e98v3_122 k (l98v3_122 k j) x).trans h) k
theorem e98v3 (k : Nat) (x : (a98v3).C) : bodyW (C98v3 k) tt (H98v3_122 k) Try.f98 a98v3 o98v3 x = u98v3 (f98v3 k) x := by kernel_rfl
theorem s98v3 (k : Nat) : SoundFn Try.prog 98 (F98v3 (f98v3 k)) :=
  have hC := c98v3_ok k
  fnW_sound hC ttOk (draw_ok hC ttOk mixed) Try.func98 (c0 := bd Try.f98) rfl (entry Try.func98 rfl (by decide)) (h98v3_122_ok k) (fun x _ h => (e98v3 k x).trans h)
/-! f71 fathom/vec.Not (R) -/
noncomputable def a71 : Shape := ⟨[.ptr 0, .d (.slice i64)], [.box [.d (.slice T_Gate), .mp 1], .map T_Gate i64]⟩
noncomputable def o71 : List Shape := [⟨[.d (.slice i64)], []⟩]
abbrev R71 : Type := (((List Int) × Unit) × Unit)
abbrev T71 : Type := (List Int) → (List D_Gate) → (List (D_Gate × Int)) → Option R71
noncomputable def u71 (f : T71) : (a71).C → Option (OutC o71) := fun (x : ((Unit × (List Int) × Unit) × (((List D_Gate) × Unit × Unit) × (List (D_Gate × Int)) × Unit))) => f x.1.2.1 x.2.1.1 x.2.2.1
noncomputable def F71 (f : T71) : Fun := ⟨true, runR a71 o71 (u71 f)⟩
noncomputable def f71 (k : Nat) : T71 := fun a1 o0 o1 =>
  (f98v3 k a1 a1 o0 o1).bind fun y1 =>
  some ((y1.1.1, ()), ())
noncomputable def C71 (k : Nat) : Nat → Fun := mkC [(98, (F98v3 (f98v3 k)))]
theorem c71_ok (k : Nat) : ∀ f, SoundFn Try.prog f (C71 k f) := (mkC_cons (s98v3 k) mkC_nil)
theorem e71 (k : Nat) (x : (a71).C) : bodyR (C71 k) tt noH Try.f71 a71 o71 x = u71 (f71 k) x := by kernel_rfl
theorem s71 (k : Nat) : SoundFn Try.prog 71 (F71 (f71 k)) :=
  have hC := c71_ok k
  fnR_sound hC ttOk (draw_ok hC ttOk mixed) Try.func71 (c0 := bd Try.f71) rfl (entry Try.func71 rfl (by decide)) noH_ok rfl (fun x _ h => (e71 k x).trans h)
/-! f31 fathom/vec.Sub (W) -/
noncomputable def a31 : Shape := ⟨[.ptr 0, .d (.slice i64), .d (.slice i64)], [.box [.own T_Gate, .mp 1], .map T_Gate i64]⟩
noncomputable def o31 : List Shape := [⟨[.own i64], [.box [.own T_Gate, .mp 1], .map T_Gate i64]⟩]
abbrev R31 : Type := (((List Int) × Unit) × (((List D_Gate) × Unit × Unit) × (List (D_Gate × Int)) × Unit))
abbrev T31 : Type := (List Int) → (List Int) → (List D_Gate) → (List (D_Gate × Int)) → Option R31
noncomputable def u31 (f : T31) : (a31).C → Option (OutC o31) := fun (x : ((Unit × (List Int) × (List Int) × Unit) × (((List D_Gate) × Unit × Unit) × (List (D_Gate × Int)) × Unit))) => f x.1.2.1 x.1.2.2.1 x.2.1.1 x.2.2.1
noncomputable def F31 (f : T31) : Fun := ⟨false, runW a31 o31 (u31 f)⟩
noncomputable def f31 (k : Nat) : T31 := fun a1 b2 o0 o1 =>
  (f68 k a1 b2 o0 o1).bind fun y1 =>
  cond (!y1.1.1)
    (some (([], ()), ((o0, (), ()), o1, ())))
    ((f71 k b2 o0 o1).bind fun y2 =>
    (f69 k a1 y2.1.1 1 o0 o1).bind fun y3 =>
    (f70 k y3.1.1).bind fun y4 =>
    match y4 with
    | .inl y4_0 =>
      some (([], ()), ((y3.2.1.1, (), ()), y3.2.2.1, ()))
    | .inr y4_1 =>
      some ((y4_1.1.1, ()), ((y3.2.1.1, (), ()), y3.2.2.1, ())))
noncomputable def C31 (k : Nat) : Nat → Fun := mkC [(68, (F68 (f68 k))), (69, (F69 (f69 k))), (1000070, ownF), (70, (F70 (f70 k))), (71, (F71 (f71 k)))]
theorem c31_ok (k : Nat) : ∀ f, SoundFn Try.prog f (C31 k f) := (mkC_cons (s68 k) (mkC_cons (s69 k) (mkC_cons ownF_ok (mkC_cons (s70 k) (mkC_cons (s71 k) mkC_nil)))))
theorem e31 (k : Nat) (x : (a31).C) : bodyW (C31 k) tt noH Try.f31 a31 o31 x = u31 (f31 k) x := by kernel_rfl
theorem s31 (k : Nat) : SoundFn Try.prog 31 (F31 (f31 k)) :=
  have hC := c31_ok k
  fnW_sound hC ttOk (draw_ok hC ttOk mixed) Try.func31 (c0 := bd Try.f31) rfl (entry Try.func31 rfl (by decide)) noH_ok (fun x _ h => (e31 k x).trans h)
/-! f69v3 fathom/vec.sum (W) -/
noncomputable def a69v3 : Shape := ⟨[.ptr 0, .d (.slice i64), .msl 2 i64, .d i64], [.box [.own T_Gate, .mp 1], .map T_Gate i64, .arr none i64]⟩
noncomputable def o69v3 : List Shape := [⟨[.own i64, .d i64], [.box [.own T_Gate, .mp 1], .map T_Gate i64, .arr none i64]⟩]
abbrev R69v3 : Type := (((List Int) × Int × Unit) × (((List D_Gate) × Unit × Unit) × (List (D_Gate × Int)) × (List Int) × Unit))
abbrev T69v3 : Type := (List Int) → Nat → Int → (List D_Gate) → (List (D_Gate × Int)) → (List Int) → Option R69v3
noncomputable def u69v3 (f : T69v3) : (a69v3).C → Option (OutC o69v3) := fun (x : ((Unit × (List Int) × Nat × Int × Unit) × (((List D_Gate) × Unit × Unit) × (List (D_Gate × Int)) × (List Int) × Unit))) => f x.1.2.1 x.1.2.2.1 x.1.2.2.2.1 x.2.1.1 x.2.2.1 x.2.2.2.1
noncomputable def F69v3 (f : T69v3) : Fun := ⟨false, runW a69v3 o69v3 (u69v3 f)⟩
noncomputable def pa69v3_58 : Shape := ⟨[.ptr 0, .d (.slice i64), .msl 2 i64, .d i64, .own i64, .d i64, .d i64], [.box [.own T_Gate, .mp 1], .map T_Gate i64, .arr none i64]⟩
noncomputable def pw69v3_58 : List Vm.Way := [⟨.exit 0, [3, 10], ⟨[.d i64, .own i64], [.box [.own T_Gate, .mp 1], .map T_Gate i64, .arr none i64]⟩⟩]
abbrev R69v3_58 : Type := ((Int × (List Int) × Unit) × (((List D_Gate) × Unit × Unit) × (List (D_Gate × Int)) × (List Int) × Unit))
abbrev T69v3_58 : Type := (List Int) → Nat → Int → (List Int) → Int → Int → (List D_Gate) → (List (D_Gate × Int)) → (List Int) → Option R69v3_58
noncomputable def u69v3_58 (f : T69v3_58) : (pa69v3_58).C → Option (WayC pw69v3_58) := fun (x : ((Unit × (List Int) × Nat × Int × (List Int) × Int × Int × Unit) × (((List D_Gate) × Unit × Unit) × (List (D_Gate × Int)) × (List Int) × Unit))) => f x.1.2.1 x.1.2.2.1 x.1.2.2.2.1 x.1.2.2.2.2.1 x.1.2.2.2.2.2.1 x.1.2.2.2.2.2.2.1 x.2.1.1 x.2.2.1 x.2.2.2.1
noncomputable def b69v3_58 (k : Nat) (rec : T69v3_58) : T69v3_58 := fun a1 b2 c3 out10 t14 t15 o0 o1 o2 =>
  cond (decide (t15 < t14))
    (ix a1 t15 fun e1 =>
    gd (decide (0 ≤ t15)) <|
    gd (decide (t15.toNat < b2)) <|
    (o2[(0 + t15.toNat)]?).bind fun e2 =>
    (f95 k e1 e2 o0 o1).bind fun y3 =>
    (f95 k y3.1.1 c3 y3.2.1.1 y3.2.2.1).bind fun y4 =>
    gd (decide ((out10.length + 1) * 8 ≤ room)) <|
    ix a1 t15 fun e5 =>
    gd (decide (0 ≤ t15)) <|
    gd (decide (t15.toNat < b2)) <|
    (o2[(0 + t15.toNat)]?).bind fun e6 =>
    (f72 k e5 e6 y4.2.1.1 y4.2.2.1).bind fun y7 =>
    (f72 k y3.1.1 c3 y7.2.1.1 y7.2.2.1).bind fun y8 =>
    (f96 k y7.1.1 y8.1.1 y8.2.1.1 y8.2.2.1).bind fun y9 =>
    (rec a1 b2 y9.1.1 (out10 ++ ([y4.1.1] : List Int)) t14 (w64 (t15 + 1)) y9.2.1.1 y9.2.2.1 o2).bind fun y10 =>
    some ((y10.1.1, y10.1.2.1, ()), ((y10.2.1.1, (), ()), y10.2.2.1, y10.2.2.2.1, ())))
    (some ((c3, out10, ()), ((o0, (), ()), o1, o2, ())))
noncomputable def l69v3_58 (k : Nat) : Nat → T69v3_58
  | 0 => fun _ _ _ _ _ _ _ _ _ => none
  | j + 1 => b69v3_58 k (l69v3_58 k j)
noncomputable def f69v3 (k : Nat) : T69v3 := fun a1 b2 c3 o0 o1 o2 =>
  (l69v3_58 k k a1 b2 c3 [] (a1.length : Int) 0 o0 o1 o2).bind fun y1 =>
  some ((y1.1.2.1, y1.1.1, ()), ((y1.2.1.1, (), ()), y1.2.2.1, y1.2.2.2.1, ()))
noncomputable def C69v3 (k : Nat) : Nat → Fun := mkC [(72, (F72 (f72 k))), (95, (F95 (f95 k))), (96, (F96 (f96 k)))]
theorem c69v3_ok (k : Nat) : ∀ f, SoundFn Try.prog f (C69v3 k f) := (mkC_cons (s72 k) (mkC_cons (s95 k) (mkC_cons (s96 k) mkC_nil)))
noncomputable def H69v3_58 (k : Nat) : Nat → Option Cut := addH noH 58 ⟨runCut (wrC (bodyOf (codeAt 58 (bd Try.f69) 58))) 54 [0, 1, 2, 3, 10, 14, 15] pa69v3_58 pw69v3_58 (u69v3_58 (l69v3_58 k k))⟩
theorem e69v3_58 (k : Nat) (rec : T69v3_58) (x : (pa69v3_58).C) : roundF (C69v3 k) tt noH (bodyOf (codeAt 58 (bd Try.f69) 58)) 116 54 [0, 1, 2, 3, 10, 14, 15] pa69v3_58 pw69v3_58 (u69v3_58 rec) x = u69v3_58 (b69v3_58 k rec) x := by kernel_rfl
theorem h69v3_58_ok (k : Nat) : ∀ p S, H69v3_58 k p = some S → ∀ c, At (bd Try.f69) p c → CutOk Try.prog c S :=
  have hC := c69v3_ok k
  addLoop hC ttOk (draw_ok hC ttOk mixed) noH_ok (by kernel_rfl) (F := fun j => u69v3_58 (l69v3_58 k j)) (fun _ => rfl) (fun j x _ h => (e69v3_58 k (l69v3_58 k j) x).trans h) k
theorem e69v3 (k : Nat) (x : (a69v3).C) : bodyW (C69v3 k) tt (H69v3_58 k) Try.f69 a69v3 o69v3 x = u69v3 (f69v3 k) x := by kernel_rfl
theorem s69v3 (k : Nat) : SoundFn Try.prog 69 (F69v3 (f69v3 k)) :=
  have hC := c69v3_ok k
  fnW_sound hC ttOk (draw_ok hC ttOk mixed) Try.func69 (c0 := bd Try.f69) rfl (entry Try.func69 rfl (by decide)) (h69v3_58_ok k) (fun x _ h => (e69v3 k x).trans h)
/-! f30v3 fathom/vec.Add (W) -/
noncomputable def a30v3 : Shape := ⟨[.ptr 0, .d (.slice i64), .msl 2 i64], [.box [.own T_Gate, .mp 1], .map T_Gate i64, .arr none i64]⟩
noncomputable def o30v3 : List Shape := [⟨[.nils], [.box [.own T_Gate, .mp 1], .map T_Gate i64, .arr none i64]⟩, ⟨[.own i64], [.box [.own T_Gate, .mp 1], .map T_Gate i64, .arr none i64]⟩]
abbrev R30v3 : Type := (((Unit × Unit) × (((List D_Gate) × Unit × Unit) × (List (D_Gate × Int)) × (List Int) × Unit)) ⊕ (((List Int) × Unit) × (((List D_Gate) × Unit × Unit) × (List (D_Gate × Int)) × (List Int) × Unit)))
abbrev T30v3 : Type := (List Int) → Nat → (List D_Gate) → (List (D_Gate × Int)) → (List Int) → Option R30v3
noncomputable def u30v3 (f : T30v3) : (a30v3).C → Option (OutC o30v3) := fun (x : ((Unit × (List Int) × Nat × Unit) × (((List D_Gate) × Unit × Unit) × (List (D_Gate × Int)) × (List Int) × Unit))) => f x.1.2.1 x.1.2.2.1 x.2.1.1 x.2.2.1 x.2.2.2.1
noncomputable def F30v3 (f : T30v3) : Fun := ⟨false, runW a30v3 o30v3 (u30v3 f)⟩
noncomputable def f30v3 (k : Nat) : T30v3 := fun a1 b2 o0 o1 o2 =>
  gd (decide (0 + b2 ≤ o2.length)) <|
  (f68 k a1 ((o2.drop 0).take b2) o0 o1).bind fun y1 =>
  cond (!y1.1.1)
    (some (.inl (((), ()), ((o0, (), ()), o1, o2, ()))))
    ((f69v3 k a1 b2 0 o0 o1 o2).bind fun y2 =>
    (f70 k y2.1.1).bind fun y3 =>
    match y3 with
    | .inl y3_0 =>
      some (.inl (((), ()), ((y2.2.1.1, (), ()), y2.2.2.1, y2.2.2.2.1, ())))
    | .inr y3_1 =>
      some (.inr ((y3_1.1.1, ()), ((y2.2.1.1, (), ()), y2.2.2.1, y2.2.2.2.1, ()))))
noncomputable def C30v3 (k : Nat) : Nat → Fun := mkC [(68, (F68 (f68 k))), (69, (F69v3 (f69v3 k))), (1000070, ownF), (70, (F70 (f70 k)))]
theorem c30v3_ok (k : Nat) : ∀ f, SoundFn Try.prog f (C30v3 k f) := (mkC_cons (s68 k) (mkC_cons (s69v3 k) (mkC_cons ownF_ok (mkC_cons (s70 k) mkC_nil))))
theorem e30v3 (k : Nat) (x : (a30v3).C) : bodyW (C30v3 k) tt noH Try.f30 a30v3 o30v3 x = u30v3 (f30v3 k) x := by kernel_rfl
theorem s30v3 (k : Nat) : SoundFn Try.prog 30 (F30v3 (f30v3 k)) :=
  have hC := c30v3_ok k
  fnW_sound hC ttOk (draw_ok hC ttOk mixed) Try.func30 (c0 := bd Try.f30) rfl (entry Try.func30 rfl (by decide)) noH_ok (fun x _ h => (e30v3 k x).trans h)

/-! f32 fathom/vec.Mul (W) -/
noncomputable def a32 : Shape := ⟨[.ptr 0, .d (.slice i64), .d (.slice i64)], [.box [.own T_Gate, .mp 1], .map T_Gate i64]⟩
noncomputable def o32 : List Shape := [⟨[.own i64], [.box [.own T_Gate, .mp 1], .map T_Gate i64]⟩]
abbrev R32 : Type := (((List Int) × Unit) × (((List D_Gate) × Unit × Unit) × (List (D_Gate × Int)) × Unit))
abbrev T32 : Type := (List Int) → (List Int) → (List D_Gate) → (List (D_Gate × Int)) → Option R32
noncomputable def u32 (f : T32) : (a32).C → Option (OutC o32) := fun (x : ((Unit × (List Int) × (List Int) × Unit) × (((List D_Gate) × Unit × Unit) × (List (D_Gate × Int)) × Unit))) => f x.1.2.1 x.1.2.2.1 x.2.1.1 x.2.2.1
noncomputable def F32 (f : T32) : Fun := ⟨false, runW a32 o32 (u32 f)⟩
noncomputable def pa32_125338 : Shape := ⟨[.ptr 0, .d (.slice i64), .d (.slice i64), .d i64, .msl 2 i64, .d i64], [.box [.own T_Gate, .mp 1], .map T_Gate i64, .arr none i64]⟩
noncomputable def pw32_125338 : List Vm.Way := [⟨.exit 2, [], ⟨[], [.box [.own T_Gate, .mp 1], .map T_Gate i64, .arr none i64]⟩⟩]
abbrev R32_125338 : Type := (Unit × (((List D_Gate) × Unit × Unit) × (List (D_Gate × Int)) × (List Int) × Unit))
abbrev T32_125338 : Type := (List Int) → (List Int) → Int → Nat → Int → (List D_Gate) → (List (D_Gate × Int)) → (List Int) → Option R32_125338
noncomputable def u32_125338 (f : T32_125338) : (pa32_125338).C → Option (WayC pw32_125338) := fun (x : ((Unit × (List Int) × (List Int) × Int × Nat × Int × Unit) × (((List D_Gate) × Unit × Unit) × (List (D_Gate × Int)) × (List Int) × Unit))) => f x.1.2.1 x.1.2.2.1 x.1.2.2.2.1 x.1.2.2.2.2.1 x.1.2.2.2.2.2.1 x.2.1.1 x.2.2.1 x.2.2.2.1
noncomputable def b32_125338 (k : Nat) (rec : T32_125338) : T32_125338 := fun a1 b2 i8 row9 k10 o0 o1 o2 =>
  cond (decide (k10 < (a1.length : Int)))
    (ix a1 (w64 (k10 - i8)) fun e1 =>
    ix b2 i8 fun e2 =>
    (f72 k e1 e2 o0 o1).bind fun y3 =>
    gd (decide (0 ≤ k10)) <|
    gd (decide (k10.toNat < row9)) <|
    gd (decide ((0 + k10.toNat) < o2.length)) <|
    (rec a1 b2 i8 row9 (w64 (k10 + 1)) y3.2.1.1 y3.2.2.1 (o2.set (0 + k10.toNat) y3.1.1)).bind fun y4 =>
    some ((), ((y4.2.1.1, (), ()), y4.2.2.1, y4.2.2.2.1, ())))
    (some ((), ((o0, (), ()), o1, o2, ())))
noncomputable def l32_125338 (k : Nat) : Nat → T32_125338
  | 0 => fun _ _ _ _ _ _ _ _ => none
  | j + 1 => b32_125338 k (l32_125338 k j)
noncomputable def pa32_15666 : Shape := ⟨[.d (.slice i64)], []⟩
noncomputable def pw32_15666 : List Vm.Way := [⟨.normal, [9], ⟨[.msl 0 i64], [.arr none i64]⟩⟩]
abbrev R32_15666 : Type := ((Nat × Unit) × ((List Int) × Unit))
abbrev T32_15666 : Type := (List Int) → Option R32_15666
noncomputable def u32_15666 (f : T32_15666) : (pa32_15666).C → Option (WayC pw32_15666) := fun (x : (((List Int) × Unit) × Unit)) => f x.1.1
noncomputable def l32_15666 (k : Nat) : T32_15666 := fun a1 =>
  (f29o k 0 (a1.length : Int)).bind fun y1 =>
  some ((y1.1.1, ()), (y1.2.1, ()))
noncomputable def pa32_122 : Shape := ⟨[.ptr 0, .d (.slice i64), .d (.slice i64), .own i64, .d i64, .d i64], [.box [.own T_Gate, .mp 1], .map T_Gate i64]⟩
noncomputable def pw32_122 : List Vm.Way := [⟨.exit 0, [7], ⟨[.own i64], [.box [.own T_Gate, .mp 1], .map T_Gate i64]⟩⟩, ⟨.ret, [6], ⟨[.own i64], [.box [.own T_Gate, .mp 1], .map T_Gate i64]⟩⟩]
abbrev R32_122 : Type := ((((List Int) × Unit) × (((List D_Gate) × Unit × Unit) × (List (D_Gate × Int)) × Unit)) ⊕ (((List Int) × Unit) × (((List D_Gate) × Unit × Unit) × (List (D_Gate × Int)) × Unit)))
abbrev T32_122 : Type := (List Int) → (List Int) → (List Int) → Int → Int → (List D_Gate) → (List (D_Gate × Int)) → Option R32_122
noncomputable def u32_122 (f : T32_122) : (pa32_122).C → Option (WayC pw32_122) := fun (x : ((Unit × (List Int) × (List Int) × (List Int) × Int × Int × Unit) × (((List D_Gate) × Unit × Unit) × (List (D_Gate × Int)) × Unit))) => f x.1.2.1 x.1.2.2.1 x.1.2.2.2.1 x.1.2.2.2.2.1 x.1.2.2.2.2.2.1 x.2.1.1 x.2.2.1
noncomputable def b32_122 (k : Nat) (rec : T32_122) : T32_122 := fun a1 b2 out7 t20 t21 o0 o1 =>
  cond (decide (t21 < t20))
    ((l32_15666 k a1).bind fun y1 =>
    (l32_125338 k k a1 b2 t21 y1.1.1 t21 o0 o1 y1.2.1).bind fun y2 =>
    (f30v3 k out7 y1.1.1 y2.2.1.1 y2.2.2.1 y2.2.2.2.1).bind fun y3 =>
    match y3 with
    | .inl y3_0 =>
      some (.inr (([], ()), ((y3_0.2.1.1, (), ()), y3_0.2.2.1, ())))
    | .inr y3_1 =>
      cond y3_1.1.1.isEmpty
        (none)
        ((rec a1 b2 y3_1.1.1 t20 (w64 (t21 + 1)) y3_1.2.1.1 y3_1.2.2.1).bind fun y4 =>
        match y4 with
        | .inl y4_0 =>
          some (.inl ((y4_0.1.1, ()), ((y4_0.2.1.1, (), ()), y4_0.2.2.1, ())))
        | .inr y4_1 =>
          some (.inr ((y4_1.1.1, ()), ((y4_1.2.1.1, (), ()), y4_1.2.2.1, ())))))
    (some (.inl ((out7, ()), ((o0, (), ()), o1, ()))))
noncomputable def l32_122 (k : Nat) : Nat → T32_122
  | 0 => fun _ _ _ _ _ _ _ => none
  | j + 1 => b32_122 k (l32_122 k j)
noncomputable def f32 (k : Nat) : T32 := fun a1 b2 o0 o1 =>
  (f68 k a1 b2 o0 o1).bind fun y1 =>
  cond (!y1.1.1)
    (some (([], ()), ((o0, (), ()), o1, ())))
    ((f29v2 k 0 (a1.length : Int)).bind fun y2 =>
    (l32_122 k k a1 b2 y2.1.1 (a1.length : Int) 0 o0 o1).bind fun y3 =>
    match y3 with
    | .inl y3_0 =>
      some ((y3_0.1.1, ()), ((y3_0.2.1.1, (), ()), y3_0.2.2.1, ()))
    | .inr y3_1 =>
      some ((y3_1.1.1, ()), ((y3_1.2.1.1, (), ()), y3_1.2.2.1, ())))
noncomputable def C32 (k : Nat) : Nat → Fun := mkC [(29, (F29v2 (f29v2 k))), (30, (F30v3 (f30v3 k))), (68, (F68 (f68 k))), (72, (F72 (f72 k)))]
theorem c32_ok (k : Nat) : ∀ f, SoundFn Try.prog f (C32 k f) := (mkC_cons (s29v2 k) (mkC_cons (s30v3 k) (mkC_cons (s68 k) (mkC_cons (s72 k) mkC_nil))))
noncomputable def H32_125338 (k : Nat) : Nat → Option Cut := addH noH 125338 ⟨runCut (wrC (bodyOf (codeAt 125338 (bd Try.f32) 125338))) 57 [0, 1, 2, 8, 9, 10] pa32_125338 pw32_125338 (u32_125338 (l32_125338 k k))⟩
theorem e32_125338 (k : Nat) (rec : T32_125338) (x : (pa32_125338).C) : roundF (C32 k) tt noH (bodyOf (codeAt 125338 (bd Try.f32) 125338)) 250676 57 [0, 1, 2, 8, 9, 10] pa32_125338 pw32_125338 (u32_125338 rec) x = u32_125338 (b32_125338 k rec) x := by kernel_rfl
theorem h32_125338_ok (k : Nat) : ∀ p S, H32_125338 k p = some S → ∀ c, At (bd Try.f32) p c → CutOk Try.prog c S :=
  have hC := c32_ok k
  addLoop hC ttOk (draw_ok hC ttOk mixed) noH_ok (by kernel_rfl) (F := fun j => u32_125338 (l32_125338 k j)) (fun _ => rfl) (fun j x _ h => (e32_125338 k (l32_125338 k j) x).trans h) k
noncomputable def C32_15666 (k : Nat) : Nat → Fun := mkC [(29, (F29o (f29o k)))]
theorem c32_15666_ok (k : Nat) : ∀ f, SoundFn Try.prog f (C32_15666 k f) := (mkC_cons (s29o k) mkC_nil)
noncomputable def H32_15666 (k : Nat) : Nat → Option Cut := addH (H32_125338 k) 15666 ⟨runCut (wrC (codeAt 15666 (bd Try.f32) 15666)) 57 [1] pa32_15666 pw32_15666 (u32_15666 (l32_15666 k))⟩
theorem e32_15666 (k : Nat) (x : (pa32_15666).C) : pieceF (C32_15666 k) tt (H32_125338 k) (codeAt 15666 (bd Try.f32) 15666) 15666 57 [1] pa32_15666 pw32_15666 x = u32_15666 (l32_15666 k) x := by kernel_rfl
theorem h32_15666_ok (k : Nat) : ∀ p S, H32_15666 k p = some S → ∀ c, At (bd Try.f32) p c → CutOk Try.prog c S :=
  have hC := c32_15666_ok k
  addPiece hC ttOk (draw_ok hC ttOk mixed) (h32_125338_ok k) (fun x _ h => (e32_15666 k x).trans h)
noncomputable def H32_122 (k : Nat) : Nat → Option Cut := addH (H32_15666 k) 122 ⟨runCut (wrC (bodyOf (codeAt 122 (bd Try.f32) 122))) 57 [0, 1, 2, 7, 20, 21] pa32_122 pw32_122 (u32_122 (l32_122 k k))⟩
theorem e32_122 (k : Nat) (rec : T32_122) (x : (pa32_122).C) : roundF (C32 k) tt (H32_15666 k) (bodyOf (codeAt 122 (bd Try.f32) 122)) 244 57 [0, 1, 2, 7, 20, 21] pa32_122 pw32_122 (u32_122 rec) x = u32_122 (b32_122 k rec) x := by kernel_rfl
theorem h32_122_ok (k : Nat) : ∀ p S, H32_122 k p = some S → ∀ c, At (bd Try.f32) p c → CutOk Try.prog c S :=
  have hC := c32_ok k
  addLoop hC ttOk (draw_ok hC ttOk mixed) (h32_15666_ok k) (by kernel_rfl) (F := fun j => u32_122 (l32_122 k j)) (fun _ => rfl) (fun j x _ h => (e32_122 k (l32_122 k j) x).trans h) k
theorem e32 (k : Nat) (x : (a32).C) : bodyW (C32 k) tt (H32_122 k) Try.f32 a32 o32 x = u32 (f32 k) x := by kernel_rfl
theorem s32 (k : Nat) : SoundFn Try.prog 32 (F32 (f32 k)) :=
  have hC := c32_ok k
  fnW_sound hC ttOk (draw_ok hC ttOk mixed) Try.func32 (c0 := bd Try.f32) rfl (entry Try.func32 rfl (by decide)) (h32_122_ok k) (fun x _ h => (e32 k x).trans h)
/-! f73v5 slices.Clone[[]int,int] (W) -/
noncomputable def a73v5 : Shape := ⟨[.nils], []⟩
noncomputable def o73v5 : List Shape := [⟨[.own i64], []⟩]
abbrev R73v5 : Type := (((List Int) × Unit) × Unit)
abbrev T73v5 : Type := Unit → Option R73v5
noncomputable def u73v5 (f : T73v5) : (a73v5).C → Option (OutC o73v5) := fun (x : ((Unit × Unit) × Unit)) => f ()
noncomputable def F73v5 (f : T73v5) : Fun := ⟨false, runW a73v5 o73v5 (u73v5 f)⟩
noncomputable def f73v5 (k : Nat) : T73v5 := fun _ =>
  some (([], ()), ())
noncomputable def C73v5 (k : Nat) : Nat → Fun := mkC []
theorem c73v5_ok (k : Nat) : ∀ f, SoundFn Try.prog f (C73v5 k f) := mkC_nil
theorem e73v5 (k : Nat) (x : (a73v5).C) : bodyW (C73v5 k) tt noH Try.f73 a73v5 o73v5 x = u73v5 (f73v5 k) x := by kernel_rfl
theorem s73v5 (k : Nat) : SoundFn Try.prog 73 (F73v5 (f73v5 k)) :=
  have hC := c73v5_ok k
  fnW_sound hC ttOk (draw_ok hC ttOk mixed) Try.func73 (c0 := bd Try.f73) rfl (entry Try.func73 rfl (by decide)) noH_ok (fun x _ h => (e73v5 k x).trans h)
/-! f73v6 slices.Clone[[]int,int] (W) -/
noncomputable def a73v6 : Shape := ⟨[.nn i64], []⟩
noncomputable def o73v6 : List Shape := [⟨[.own i64], []⟩]
abbrev R73v6 : Type := (((List Int) × Unit) × Unit)
abbrev T73v6 : Type := (List Int) → Option R73v6
noncomputable def u73v6 (f : T73v6) : (a73v6).C → Option (OutC o73v6) := fun (x : (((List Int) × Unit) × Unit)) => f x.1.1
noncomputable def F73v6 (f : T73v6) : Fun := ⟨false, runW a73v6 o73v6 (u73v6 f)⟩
noncomputable def f73v6 (k : Nat) : T73v6 := fun s0 =>
  gd (decide ((0 + s0.length) * 8 ≤ room)) <|
  some (((([] : List Int) ++ s0), ()), ())
noncomputable def C73v6 (k : Nat) : Nat → Fun := mkC []
theorem c73v6_ok (k : Nat) : ∀ f, SoundFn Try.prog f (C73v6 k f) := mkC_nil
theorem e73v6 (k : Nat) (x : (a73v6).C) : bodyW (C73v6 k) tt noH Try.f73 a73v6 o73v6 x = u73v6 (f73v6 k) x := by kernel_rfl
theorem s73v6 (k : Nat) : SoundFn Try.prog 73 (F73v6 (f73v6 k)) :=
  have hC := c73v6_ok k
  fnW_sound hC ttOk (draw_ok hC ttOk mixed) Try.func73 (c0 := bd Try.f73) rfl (entry Try.func73 rfl (by decide)) noH_ok (fun x _ h => (e73v6 k x).trans h)
/-! f73v4 slices.Clone[[]int,int] (W) -/
noncomputable def a73v4 : Shape := ⟨[.d (.slice i64)], []⟩
noncomputable def o73v4 : List Shape := [⟨[.own i64], []⟩]
abbrev R73v4 : Type := (((List Int) × Unit) × Unit)
abbrev T73v4 : Type := (List Int) → Option R73v4
noncomputable def u73v4 (f : T73v4) : (a73v4).C → Option (OutC o73v4) := fun (x : (((List Int) × Unit) × Unit)) => f x.1.1
noncomputable def F73v4 (f : T73v4) : Fun := ⟨false, runW a73v4 o73v4 (u73v4 f)⟩
noncomputable def f73v4 (k : Nat) : T73v4 := fun s0 => f73v6 k s0
theorem s73v4 (k : Nat) : SoundFn Try.prog 73 (F73v4 (f73v4 k)) := splitW (s73v5 k) (s73v6 k) (fun xs y h => ⟨h, fun e => by subst e; exact (show u73v5 (f73v5 k) (((), ()), ()) = u73v6 (f73v6 k) (([], ()), ()) from by kernel_rfl).trans h⟩)
/-! f70v2 fathom/vec.whole (W) -/
noncomputable def a70v2 : Shape := ⟨[.msl 0 i64], [.arr none i64]⟩
noncomputable def o70v2 : List Shape := [⟨[.nils], [.arr none i64]⟩, ⟨[.msl 0 i64], [.arr none i64]⟩]
abbrev R70v2 : Type := (((Unit × Unit) × ((List Int) × Unit)) ⊕ ((Nat × Unit) × ((List Int) × Unit)))
abbrev T70v2 : Type := Nat → (List Int) → Option R70v2
noncomputable def u70v2 (f : T70v2) : (a70v2).C → Option (OutC o70v2) := fun (x : ((Nat × Unit) × ((List Int) × Unit))) => f x.1.1 x.2.1
noncomputable def F70v2 (f : T70v2) : Fun := ⟨false, runW a70v2 o70v2 (u70v2 f)⟩
noncomputable def f70v2 (k : Nat) : T70v2 := fun a0 o0 =>
  gd (decide (0 + a0 ≤ o0.length)) <|
  (f97 k ((o0.drop 0).take a0) (-1)).bind fun y1 =>
  cond y1.1.1
    (some (.inl (((), ()), (o0, ()))))
    (some (.inr ((a0, ()), (o0, ()))))
noncomputable def C70v2 (k : Nat) : Nat → Fun := mkC [(97, (F97 (f97 k)))]
theorem c70v2_ok (k : Nat) : ∀ f, SoundFn Try.prog f (C70v2 k f) := (mkC_cons (s97 k) mkC_nil)
theorem e70v2 (k : Nat) (x : (a70v2).C) : bodyW (C70v2 k) tt noH Try.f70 a70v2 o70v2 x = u70v2 (f70v2 k) x := by kernel_rfl
theorem s70v2 (k : Nat) : SoundFn Try.prog 70 (F70v2 (f70v2 k)) :=
  have hC := c70v2_ok k
  fnW_sound hC ttOk (draw_ok hC ttOk mixed) Try.func70 (c0 := bd Try.f70) rfl (entry Try.func70 rfl (by decide)) noH_ok (fun x _ h => (e70v2 k x).trans h)
/-! f70v3 fathom/vec.whole (W) -/
noncomputable def a70v3 : Shape := ⟨[.d (.slice i64)], []⟩
noncomputable def o70v3 : List Shape := [⟨[.nils], []⟩, ⟨[.d (.slice i64)], []⟩]
abbrev R70v3 : Type := (((Unit × Unit) × Unit) ⊕ (((List Int) × Unit) × Unit))
abbrev T70v3 : Type := (List Int) → Option R70v3
noncomputable def u70v3 (f : T70v3) : (a70v3).C → Option (OutC o70v3) := fun (x : (((List Int) × Unit) × Unit)) => f x.1.1
noncomputable def F70v3 (f : T70v3) : Fun := ⟨false, runW a70v3 o70v3 (u70v3 f)⟩
noncomputable def f70v3 (k : Nat) : T70v3 := fun a0 =>
  (f97 k a0 (-1)).bind fun y1 =>
  cond y1.1.1
    (some (.inl (((), ()), ())))
    (some (.inr ((a0, ()), ())))
noncomputable def C70v3 (k : Nat) : Nat → Fun := mkC [(97, (F97 (f97 k)))]
theorem c70v3_ok (k : Nat) : ∀ f, SoundFn Try.prog f (C70v3 k f) := (mkC_cons (s97 k) mkC_nil)
theorem e70v3 (k : Nat) (x : (a70v3).C) : bodyW (C70v3 k) tt noH Try.f70 a70v3 o70v3 x = u70v3 (f70v3 k) x := by kernel_rfl
theorem s70v3 (k : Nat) : SoundFn Try.prog 70 (F70v3 (f70v3 k)) :=
  have hC := c70v3_ok k
  fnW_sound hC ttOk (draw_ok hC ttOk mixed) Try.func70 (c0 := bd Try.f70) rfl (entry Try.func70 rfl (by decide)) noH_ok (fun x _ h => (e70v3 k x).trans h)
/-! f75 fathom/vec.turned (R) -/
noncomputable def a75 : Shape := ⟨[.d (.slice i64)], []⟩
noncomputable def o75 : List Shape := [⟨[.d (.slice i64)], []⟩]
abbrev R75 : Type := (((List Int) × Unit) × Unit)
abbrev T75 : Type := (List Int) → Option R75
noncomputable def u75 (f : T75) : (a75).C → Option (OutC o75) := fun (x : (((List Int) × Unit) × Unit)) => f x.1.1
noncomputable def F75 (f : T75) : Fun := ⟨true, runR a75 o75 (u75 f)⟩
noncomputable def pa75_58 : Shape := ⟨[.own i64, .d (.slice i64), .d i64, .d i64], []⟩
noncomputable def pw75_58 : List Vm.Way := [⟨.exit 0, [3], ⟨[.own i64], []⟩⟩]
abbrev R75_58 : Type := (((List Int) × Unit) × Unit)
abbrev T75_58 : Type := (List Int) → (List Int) → Int → Int → Option R75_58
noncomputable def u75_58 (f : T75_58) : (pa75_58).C → Option (WayC pw75_58) := fun (x : (((List Int) × (List Int) × Int × Int × Unit) × Unit)) => f x.1.1 x.1.2.1 x.1.2.2.1 x.1.2.2.2.1
noncomputable def b75_58 (k : Nat) (rec : T75_58) : T75_58 := fun out3 t6 t7 t8 =>
  cond (decide (t8 < t7))
    (ix t6 t8 fun e1 =>
    gd (decide ((out3.length + 1) * 8 ≤ room)) <|
    (rec (out3 ++ ([(ibits .xor .i64 e1 1)] : List Int)) t6 t7 (w64 (t8 + 1))).bind fun y2 =>
    some ((y2.1.1, ()), ()))
    (some ((out3, ()), ()))
noncomputable def l75_58 (k : Nat) : Nat → T75_58
  | 0 => fun _ _ _ _ => none
  | j + 1 => b75_58 k (l75_58 k j)
noncomputable def f75 (k : Nat) : T75 := fun a0 =>
  (l75_58 k k [] a0 (a0.length : Int) 0).bind fun y1 =>
  some ((y1.1.1, ()), ())
noncomputable def C75 (k : Nat) : Nat → Fun := mkC []
theorem c75_ok (k : Nat) : ∀ f, SoundFn Try.prog f (C75 k f) := mkC_nil
noncomputable def H75_58 (k : Nat) : Nat → Option Cut := addH noH 58 ⟨runCut (wrC (bodyOf (codeAt 58 (bd Try.f75) 58))) 19 [3, 6, 7, 8] pa75_58 pw75_58 (u75_58 (l75_58 k k))⟩
theorem e75_58 (k : Nat) (rec : T75_58) (x : (pa75_58).C) : roundF (C75 k) tt noH (bodyOf (codeAt 58 (bd Try.f75) 58)) 116 19 [3, 6, 7, 8] pa75_58 pw75_58 (u75_58 rec) x = u75_58 (b75_58 k rec) x := by kernel_rfl
theorem h75_58_ok (k : Nat) : ∀ p S, H75_58 k p = some S → ∀ c, At (bd Try.f75) p c → CutOk Try.prog c S :=
  have hC := c75_ok k
  addLoop hC ttOk (draw_ok hC ttOk mixed) noH_ok (by kernel_rfl) (F := fun j => u75_58 (l75_58 k j)) (fun _ => rfl) (fun j x _ h => (e75_58 k (l75_58 k j) x).trans h) k
theorem e75 (k : Nat) (x : (a75).C) : bodyR (C75 k) tt (H75_58 k) Try.f75 a75 o75 x = u75 (f75 k) x := by kernel_rfl
theorem s75 (k : Nat) : SoundFn Try.prog 75 (F75 (f75 k)) :=
  have hC := c75_ok k
  fnR_sound hC ttOk (draw_ok hC ttOk mixed) Try.func75 (c0 := bd Try.f75) rfl (entry Try.func75 rfl (by decide)) (h75_58_ok k) rfl (fun x _ h => (e75 k x).trans h)
/-! f69v4 fathom/vec.sum (W) -/
noncomputable def a69v4 : Shape := ⟨[.ptr 0, .msl 2 i64, .d (.slice i64), .d i64], [.box [.own T_Gate, .mp 1], .map T_Gate i64, .arr none i64]⟩
noncomputable def o69v4 : List Shape := [⟨[.own i64, .d i64], [.box [.own T_Gate, .mp 1], .map T_Gate i64, .arr none i64]⟩]
abbrev R69v4 : Type := (((List Int) × Int × Unit) × (((List D_Gate) × Unit × Unit) × (List (D_Gate × Int)) × (List Int) × Unit))
abbrev T69v4 : Type := Nat → (List Int) → Int → (List D_Gate) → (List (D_Gate × Int)) → (List Int) → Option R69v4
noncomputable def u69v4 (f : T69v4) : (a69v4).C → Option (OutC o69v4) := fun (x : ((Unit × Nat × (List Int) × Int × Unit) × (((List D_Gate) × Unit × Unit) × (List (D_Gate × Int)) × (List Int) × Unit))) => f x.1.2.1 x.1.2.2.1 x.1.2.2.2.1 x.2.1.1 x.2.2.1 x.2.2.2.1
noncomputable def F69v4 (f : T69v4) : Fun := ⟨false, runW a69v4 o69v4 (u69v4 f)⟩
noncomputable def pa69v4_58 : Shape := ⟨[.ptr 0, .msl 2 i64, .d (.slice i64), .d i64, .own i64, .d i64, .d i64], [.box [.own T_Gate, .mp 1], .map T_Gate i64, .arr none i64]⟩
noncomputable def pw69v4_58 : List Vm.Way := [⟨.exit 0, [3, 10], ⟨[.d i64, .own i64], [.box [.own T_Gate, .mp 1], .map T_Gate i64, .arr none i64]⟩⟩]
abbrev R69v4_58 : Type := ((Int × (List Int) × Unit) × (((List D_Gate) × Unit × Unit) × (List (D_Gate × Int)) × (List Int) × Unit))
abbrev T69v4_58 : Type := Nat → (List Int) → Int → (List Int) → Int → Int → (List D_Gate) → (List (D_Gate × Int)) → (List Int) → Option R69v4_58
noncomputable def u69v4_58 (f : T69v4_58) : (pa69v4_58).C → Option (WayC pw69v4_58) := fun (x : ((Unit × Nat × (List Int) × Int × (List Int) × Int × Int × Unit) × (((List D_Gate) × Unit × Unit) × (List (D_Gate × Int)) × (List Int) × Unit))) => f x.1.2.1 x.1.2.2.1 x.1.2.2.2.1 x.1.2.2.2.2.1 x.1.2.2.2.2.2.1 x.1.2.2.2.2.2.2.1 x.2.1.1 x.2.2.1 x.2.2.2.1
noncomputable def b69v4_58 (k : Nat) (rec : T69v4_58) : T69v4_58 := fun a1 b2 c3 out10 t14 t15 o0 o1 o2 =>
  cond (decide (t15 < t14))
    (gd (decide (0 ≤ t15)) <|
    gd (decide (t15.toNat < a1)) <|
    (o2[(0 + t15.toNat)]?).bind fun e1 =>
    ix b2 t15 fun e2 =>
    (f95 k e1 e2 o0 o1).bind fun y3 =>
    (f95 k y3.1.1 c3 y3.2.1.1 y3.2.2.1).bind fun y4 =>
    gd (decide ((out10.length + 1) * 8 ≤ room)) <|
    gd (decide (0 ≤ t15)) <|
    gd (decide (t15.toNat < a1)) <|
    (o2[(0 + t15.toNat)]?).bind fun e5 =>
    ix b2 t15 fun e6 =>
    (f72 k e5 e6 y4.2.1.1 y4.2.2.1).bind fun y7 =>
    (f72 k y3.1.1 c3 y7.2.1.1 y7.2.2.1).bind fun y8 =>
    (f96 k y7.1.1 y8.1.1 y8.2.1.1 y8.2.2.1).bind fun y9 =>
    (rec a1 b2 y9.1.1 (out10 ++ ([y4.1.1] : List Int)) t14 (w64 (t15 + 1)) y9.2.1.1 y9.2.2.1 o2).bind fun y10 =>
    some ((y10.1.1, y10.1.2.1, ()), ((y10.2.1.1, (), ()), y10.2.2.1, y10.2.2.2.1, ())))
    (some ((c3, out10, ()), ((o0, (), ()), o1, o2, ())))
noncomputable def l69v4_58 (k : Nat) : Nat → T69v4_58
  | 0 => fun _ _ _ _ _ _ _ _ _ => none
  | j + 1 => b69v4_58 k (l69v4_58 k j)
noncomputable def f69v4 (k : Nat) : T69v4 := fun a1 b2 c3 o0 o1 o2 =>
  (l69v4_58 k k a1 b2 c3 [] (a1 : Int) 0 o0 o1 o2).bind fun y1 =>
  some ((y1.1.2.1, y1.1.1, ()), ((y1.2.1.1, (), ()), y1.2.2.1, y1.2.2.2.1, ()))
noncomputable def C69v4 (k : Nat) : Nat → Fun := mkC [(72, (F72 (f72 k))), (95, (F95 (f95 k))), (96, (F96 (f96 k)))]
theorem c69v4_ok (k : Nat) : ∀ f, SoundFn Try.prog f (C69v4 k f) := (mkC_cons (s72 k) (mkC_cons (s95 k) (mkC_cons (s96 k) mkC_nil)))
noncomputable def H69v4_58 (k : Nat) : Nat → Option Cut := addH noH 58 ⟨runCut (wrC (bodyOf (codeAt 58 (bd Try.f69) 58))) 54 [0, 1, 2, 3, 10, 14, 15] pa69v4_58 pw69v4_58 (u69v4_58 (l69v4_58 k k))⟩
theorem e69v4_58 (k : Nat) (rec : T69v4_58) (x : (pa69v4_58).C) : roundF (C69v4 k) tt noH (bodyOf (codeAt 58 (bd Try.f69) 58)) 116 54 [0, 1, 2, 3, 10, 14, 15] pa69v4_58 pw69v4_58 (u69v4_58 rec) x = u69v4_58 (b69v4_58 k rec) x := by kernel_rfl
theorem h69v4_58_ok (k : Nat) : ∀ p S, H69v4_58 k p = some S → ∀ c, At (bd Try.f69) p c → CutOk Try.prog c S :=
  have hC := c69v4_ok k
  addLoop hC ttOk (draw_ok hC ttOk mixed) noH_ok (by kernel_rfl) (F := fun j => u69v4_58 (l69v4_58 k j)) (fun _ => rfl) (fun j x _ h => (e69v4_58 k (l69v4_58 k j) x).trans h) k
theorem e69v4 (k : Nat) (x : (a69v4).C) : bodyW (C69v4 k) tt (H69v4_58 k) Try.f69 a69v4 o69v4 x = u69v4 (f69v4 k) x := by kernel_rfl
theorem s69v4 (k : Nat) : SoundFn Try.prog 69 (F69v4 (f69v4 k)) :=
  have hC := c69v4_ok k
  fnW_sound hC ttOk (draw_ok hC ttOk mixed) Try.func69 (c0 := bd Try.f69) rfl (entry Try.func69 rfl (by decide)) (h69v4_58_ok k) (fun x _ h => (e69v4 k x).trans h)
/-! f74v2 fathom/vec.less (W) -/
noncomputable def a74v2 : Shape := ⟨[.ptr 0, .msl 2 i64, .d (.slice i64)], [.box [.own T_Gate, .mp 1], .map T_Gate i64, .arr none i64]⟩
noncomputable def o74v2 : List Shape := [⟨[.d i64], [.box [.own T_Gate, .mp 1], .map T_Gate i64, .arr none i64]⟩]
abbrev R74v2 : Type := ((Int × Unit) × (((List D_Gate) × Unit × Unit) × (List (D_Gate × Int)) × (List Int) × Unit))
abbrev T74v2 : Type := Nat → (List Int) → (List D_Gate) → (List (D_Gate × Int)) → (List Int) → Option R74v2
noncomputable def u74v2 (f : T74v2) : (a74v2).C → Option (OutC o74v2) := fun (x : ((Unit × Nat × (List Int) × Unit) × (((List D_Gate) × Unit × Unit) × (List (D_Gate × Int)) × (List Int) × Unit))) => f x.1.2.1 x.1.2.2.1 x.2.1.1 x.2.2.1 x.2.2.2.1
noncomputable def F74v2 (f : T74v2) : Fun := ⟨false, runW a74v2 o74v2 (u74v2 f)⟩
noncomputable def f74v2 (k : Nat) : T74v2 := fun a1 b2 o0 o1 o2 =>
  (f75 k b2).bind fun y1 =>
  (f69v4 k a1 y1.1.1 1 o0 o1 o2).bind fun y2 =>
  cond (y2.1.2.1 == (-1))
    (some (((-1), ()), ((y2.2.1.1, (), ()), y2.2.2.1, y2.2.2.2.1, ())))
    (some (((ibits .xor .i64 y2.1.2.1 1), ()), ((y2.2.1.1, (), ()), y2.2.2.1, y2.2.2.2.1, ())))
noncomputable def C74v2 (k : Nat) : Nat → Fun := mkC [(69, (F69v4 (f69v4 k))), (75, (F75 (f75 k)))]
theorem c74v2_ok (k : Nat) : ∀ f, SoundFn Try.prog f (C74v2 k f) := (mkC_cons (s69v4 k) (mkC_cons (s75 k) mkC_nil))
theorem e74v2 (k : Nat) (x : (a74v2).C) : bodyW (C74v2 k) tt noH Try.f74 a74v2 o74v2 x = u74v2 (f74v2 k) x := by kernel_rfl
theorem s74v2 (k : Nat) : SoundFn Try.prog 74 (F74v2 (f74v2 k)) :=
  have hC := c74v2_ok k
  fnW_sound hC ttOk (draw_ok hC ttOk mixed) Try.func74 (c0 := bd Try.f74) rfl (entry Try.func74 rfl (by decide)) noH_ok (fun x _ h => (e74v2 k x).trans h)
/-! f76 (*fathom/aig.Aig).Ite (W) -/
noncomputable def a76 : Shape := ⟨[.ptr 0, .d i64, .d i64, .d i64], [.box [.own T_Gate, .mp 1], .map T_Gate i64]⟩
noncomputable def o76 : List Shape := [⟨[.d i64], [.box [.own T_Gate, .mp 1], .map T_Gate i64]⟩]
abbrev R76 : Type := ((Int × Unit) × (((List D_Gate) × Unit × Unit) × (List (D_Gate × Int)) × Unit))
abbrev T76 : Type := Int → Int → Int → (List D_Gate) → (List (D_Gate × Int)) → Option R76
noncomputable def u76 (f : T76) : (a76).C → Option (OutC o76) := fun (x : ((Unit × Int × Int × Int × Unit) × (((List D_Gate) × Unit × Unit) × (List (D_Gate × Int)) × Unit))) => f x.1.2.1 x.1.2.2.1 x.1.2.2.2.1 x.2.1.1 x.2.2.1
noncomputable def F76 (f : T76) : Fun := ⟨false, runW a76 o76 (u76 f)⟩
noncomputable def f76 (k : Nat) : T76 := fun c1 a2 b3 o0 o1 =>
  (f72 k c1 a2 o0 o1).bind fun y1 =>
  (f104 k c1).bind fun y2 =>
  (f72 k y2.1.1 b3 y1.2.1.1 y1.2.2.1).bind fun y3 =>
  (f96 k y1.1.1 y3.1.1 y3.2.1.1 y3.2.2.1).bind fun y4 =>
  some ((y4.1.1, ()), ((y4.2.1.1, (), ()), y4.2.2.1, ()))
noncomputable def C76 (k : Nat) : Nat → Fun := mkC [(72, (F72 (f72 k))), (96, (F96 (f96 k))), (104, (F104 (f104 k)))]
theorem c76_ok (k : Nat) : ∀ f, SoundFn Try.prog f (C76 k f) := (mkC_cons (s72 k) (mkC_cons (s96 k) (mkC_cons (s104 k) mkC_nil)))
theorem e76 (k : Nat) (x : (a76).C) : bodyW (C76 k) tt noH Try.f76 a76 o76 x = u76 (f76 k) x := by kernel_rfl
theorem s76 (k : Nat) : SoundFn Try.prog 76 (F76 (f76 k)) :=
  have hC := c76_ok k
  fnW_sound hC ttOk (draw_ok hC ttOk mixed) Try.func76 (c0 := bd Try.f76) rfl (entry Try.func76 rfl (by decide)) noH_ok (fun x _ h => (e76 k x).trans h)
/-! f33 fathom/vec.Div (W) -/
noncomputable def a33 : Shape := ⟨[.ptr 0, .d (.slice i64), .d (.slice i64)], [.box [.own T_Gate, .mp 1], .map T_Gate i64]⟩
noncomputable def o33 : List Shape := [⟨[.own i64, .own i64], [.box [.own T_Gate, .mp 1], .map T_Gate i64]⟩, ⟨[.msl 2 i64, .d (.slice i64)], [.box [.own T_Gate, .mp 1], .map T_Gate i64, .arr none i64]⟩, ⟨[.msl 2 i64, .msl 3 i64], [.box [.own T_Gate, .mp 1], .map T_Gate i64, .arr none i64, .arr none i64]⟩]
abbrev R33 : Type := ((((List Int) × (List Int) × Unit) × (((List D_Gate) × Unit × Unit) × (List (D_Gate × Int)) × Unit)) ⊕ (((Nat × (List Int) × Unit) × (((List D_Gate) × Unit × Unit) × (List (D_Gate × Int)) × (List Int) × Unit)) ⊕ ((Nat × Nat × Unit) × (((List D_Gate) × Unit × Unit) × (List (D_Gate × Int)) × (List Int) × (List Int) × Unit))))
abbrev T33 : Type := (List Int) → (List Int) → (List D_Gate) → (List (D_Gate × Int)) → Option R33
noncomputable def u33 (f : T33) : (a33).C → Option (OutC o33) := fun (x : ((Unit × (List Int) × (List Int) × Unit) × (((List D_Gate) × Unit × Unit) × (List (D_Gate × Int)) × Unit))) => f x.1.2.1 x.1.2.2.1 x.2.1.1 x.2.2.1
noncomputable def F33 (f : T33) : Fun := ⟨false, runW a33 o33 (u33 f)⟩
noncomputable def pa33_4182654 : Shape := ⟨[.ptr 0, .msl 2 i64, .msl 3 i64, .d i64, .own i64, .d i64, .d i64], [.box [.own T_Gate, .mp 1], .map T_Gate i64, .arr none i64, .arr none i64]⟩
noncomputable def pw33_4182654 : List Vm.Way := [⟨.exit 2, [], ⟨[], [.box [.own T_Gate, .mp 1], .map T_Gate i64, .arr none i64, .arr none i64]⟩⟩]
abbrev R33_4182654 : Type := (Unit × (((List D_Gate) × Unit × Unit) × (List (D_Gate × Int)) × (List Int) × (List Int) × Unit))
abbrev T33_4182654 : Type := Nat → Nat → Int → (List Int) → Int → Int → (List D_Gate) → (List (D_Gate × Int)) → (List Int) → (List Int) → Option R33_4182654
noncomputable def u33_4182654 (f : T33_4182654) : (pa33_4182654).C → Option (WayC pw33_4182654) := fun (x : ((Unit × Nat × Nat × Int × (List Int) × Int × Int × Unit) × (((List D_Gate) × Unit × Unit) × (List (D_Gate × Int)) × (List Int) × (List Int) × Unit))) => f x.1.2.1 x.1.2.2.1 x.1.2.2.2.1 x.1.2.2.2.2.1 x.1.2.2.2.2.2.1 x.1.2.2.2.2.2.2.1 x.2.1.1 x.2.2.1 x.2.2.2.1 x.2.2.2.2.1
noncomputable def b33_4182654 (k : Nat) (rec : T33_4182654) : T33_4182654 := fun quotient6 rest7 i10 d12 t68 t69 o0 o1 o2 o3 =>
  cond (decide (t69 < t68))
    (gd (decide (0 ≤ i10)) <|
    gd (decide (i10.toNat < quotient6)) <|
    (o2[(0 + i10.toNat)]?).bind fun e1 =>
    ix d12 t69 fun e2 =>
    gd (decide (0 ≤ t69)) <|
    gd (decide (t69.toNat < rest7)) <|
    (o3[(0 + t69.toNat)]?).bind fun e3 =>
    (f76 k e1 e2 e3 o0 o1).bind fun y4 =>
    gd (decide (0 ≤ t69)) <|
    gd (decide (t69.toNat < rest7)) <|
    gd (decide ((0 + t69.toNat) < o3.length)) <|
    (rec quotient6 rest7 i10 d12 t68 (w64 (t69 + 1)) y4.2.1.1 y4.2.2.1 o2 (o3.set (0 + t69.toNat) y4.1.1)).bind fun y5 =>
    some ((), ((y5.2.1.1, (), ()), y5.2.2.1, y5.2.2.2.1, y5.2.2.2.2.1, ())))
    (some ((), ((o0, (), ()), o1, o2, o3, ())))
noncomputable def l33_4182654 (k : Nat) : Nat → T33_4182654
  | 0 => fun _ _ _ _ _ _ _ _ _ _ => none
  | j + 1 => b33_4182654 k (l33_4182654 k j)
noncomputable def pa33_2042s0 : Shape := ⟨[.ptr 0, .d (.slice i64), .msl 2 i64, .own i64, .d i64, .own i64, .d i64], [.box [.own T_Gate, .mp 1], .map T_Gate i64, .arr none i64]⟩
noncomputable def pw33_2042s0 : List Vm.Way := [⟨.exit 0, [6, 7], ⟨[.msl 2 i64, .own i64], [.box [.own T_Gate, .mp 1], .map T_Gate i64, .arr none i64]⟩⟩, ⟨.exit 0, [6, 7], ⟨[.msl 2 i64, .msl 3 i64], [.box [.own T_Gate, .mp 1], .map T_Gate i64, .arr none i64, .arr none i64]⟩⟩, ⟨.ret, [6, 7], ⟨[.own i64, .own i64], [.box [.own T_Gate, .mp 1], .map T_Gate i64, .arr none i64]⟩⟩]
abbrev R33_2042s0 : Type := (((Nat × (List Int) × Unit) × (((List D_Gate) × Unit × Unit) × (List (D_Gate × Int)) × (List Int) × Unit)) ⊕ (((Nat × Nat × Unit) × (((List D_Gate) × Unit × Unit) × (List (D_Gate × Int)) × (List Int) × (List Int) × Unit)) ⊕ (((List Int) × (List Int) × Unit) × (((List D_Gate) × Unit × Unit) × (List (D_Gate × Int)) × (List Int) × Unit))))
abbrev T33_2042s0 : Type := (List Int) → Nat → (List Int) → Int → (List Int) → Int → (List D_Gate) → (List (D_Gate × Int)) → (List Int) → Option R33_2042s0
noncomputable def u33_2042s0 (f : T33_2042s0) : (pa33_2042s0).C → Option (WayC pw33_2042s0) := fun (x : ((Unit × (List Int) × Nat × (List Int) × Int × (List Int) × Int × Unit) × (((List D_Gate) × Unit × Unit) × (List (D_Gate × Int)) × (List Int) × Unit))) => f x.1.2.1 x.1.2.2.1 x.1.2.2.2.1 x.1.2.2.2.2.1 x.1.2.2.2.2.2.1 x.1.2.2.2.2.2.2.1 x.2.1.1 x.2.2.1 x.2.2.2.1
noncomputable def pa33_2042s1 : Shape := ⟨[.ptr 0, .d (.slice i64), .msl 2 i64, .msl 3 i64, .d i64, .own i64, .d i64], [.box [.own T_Gate, .mp 1], .map T_Gate i64, .arr none i64, .arr none i64]⟩
noncomputable def pw33_2042s1 : List Vm.Way := [⟨.exit 0, [6, 7], ⟨[.msl 2 i64, .msl 3 i64], [.box [.own T_Gate, .mp 1], .map T_Gate i64, .arr none i64, .arr none i64]⟩⟩, ⟨.exit 0, [6, 7], ⟨[.msl 2 i64, .msl 4 i64], [.box [.own T_Gate, .mp 1], .map T_Gate i64, .arr none i64, .arr none i64, .arr none i64]⟩⟩, ⟨.ret, [6, 7], ⟨[.own i64, .own i64], [.box [.own T_Gate, .mp 1], .map T_Gate i64, .arr none i64, .arr none i64]⟩⟩]
abbrev R33_2042s1 : Type := (((Nat × Nat × Unit) × (((List D_Gate) × Unit × Unit) × (List (D_Gate × Int)) × (List Int) × (List Int) × Unit)) ⊕ (((Nat × Nat × Unit) × (((List D_Gate) × Unit × Unit) × (List (D_Gate × Int)) × (List Int) × (List Int) × (List Int) × Unit)) ⊕ (((List Int) × (List Int) × Unit) × (((List D_Gate) × Unit × Unit) × (List (D_Gate × Int)) × (List Int) × (List Int) × Unit))))
abbrev T33_2042s1 : Type := (List Int) → Nat → Nat → Int → (List Int) → Int → (List D_Gate) → (List (D_Gate × Int)) → (List Int) → (List Int) → Option R33_2042s1
noncomputable def u33_2042s1 (f : T33_2042s1) : (pa33_2042s1).C → Option (WayC pw33_2042s1) := fun (x : ((Unit × (List Int) × Nat × Nat × Int × (List Int) × Int × Unit) × (((List D_Gate) × Unit × Unit) × (List (D_Gate × Int)) × (List Int) × (List Int) × Unit))) => f x.1.2.1 x.1.2.2.1 x.1.2.2.2.1 x.1.2.2.2.2.1 x.1.2.2.2.2.2.1 x.1.2.2.2.2.2.2.1 x.2.1.1 x.2.2.1 x.2.2.2.1 x.2.2.2.2.1
noncomputable def b33_2042s0 (k : Nat) (rec0 : T33_2042s0) (rec1 : T33_2042s1) : T33_2042s0 := fun a1 quotient6 rest7 w8 wide9 i10 o0 o1 o2 =>
  cond (decide (i10 ≥ 0))
    (ix a1 i10 fun e1 =>
    gd (decide (0 ≤ w8)) <|
    gd (decide (w8.toNat ≤ rest7.length)) <|
    cond ((rest7.take w8.toNat).drop 0).isEmpty
      (none)
      (gd (decide ((1 + ((rest7.take w8.toNat).drop 0).length) * 8 ≤ room)) <|
      (f74v2 k (1 + ((rest7.take w8.toNat).drop 0).length) wide9 o0 o1 (([e1] : List Int) ++ ((rest7.take w8.toNat).drop 0))).bind fun y2 =>
      cond (y2.1.1 == (-1))
        (some (.inr (.inr (([], [], ()), ((y2.2.1.1, (), ()), y2.2.2.1, o2, ())))))
        (gd (decide (0 ≤ i10)) <|
        gd (decide (i10.toNat < quotient6)) <|
        gd (decide ((0 + i10.toNat) < o2.length)) <|
        (f75 k wide9).bind fun y3 =>
        (f69v4 k (1 + ((rest7.take w8.toNat).drop 0).length) y3.1.1 1 y2.2.1.1 y2.2.2.1 y2.2.2.2.1).bind fun y4 =>
        (l33_4182654 k k quotient6 (1 + ((rest7.take w8.toNat).drop 0).length) i10 y4.1.1 ((1 + ((rest7.take w8.toNat).drop 0).length) : Int) 0 y4.2.1.1 y4.2.2.1 (o2.set (0 + i10.toNat) (ibits .xor .i64 y2.1.1 1)) y4.2.2.2.1).bind fun y5 =>
        (rec1 a1 quotient6 (1 + ((rest7.take w8.toNat).drop 0).length) w8 wide9 (w64 (i10 - 1)) y5.2.1.1 y5.2.2.1 y5.2.2.2.1 y5.2.2.2.2.1).bind fun y6 =>
        match y6 with
        | .inl y6_0 =>
          some (.inr (.inl ((y6_0.1.1, y6_0.1.2.1, ()), ((y6_0.2.1.1, (), ()), y6_0.2.2.1, y6_0.2.2.2.1, y6_0.2.2.2.2.1, ()))))
        | .inr y6r =>
          match y6r with
          | .inl y6_1 =>
            some (.inr (.inl ((y6_1.1.1, y6_1.1.2.1, ()), ((y6_1.2.1.1, (), ()), y6_1.2.2.1, y6_1.2.2.2.1, y6_1.2.2.2.2.2.1, ()))))
          | .inr y6_2 =>
            some (.inr (.inr ((y6_2.1.1, y6_2.1.2.1, ()), ((y6_2.2.1.1, (), ()), y6_2.2.2.1, y6_2.2.2.2.1, ())))))))
    (some (.inl ((quotient6, rest7, ()), ((o0, (), ()), o1, o2, ()))))
noncomputable def b33_2042s1 (k : Nat) (rec0 : T33_2042s0) (rec1 : T33_2042s1) : T33_2042s1 := fun a1 quotient6 rest7 w8 wide9 i10 o0 o1 o2 o3 =>
  cond (decide (i10 ≥ 0))
    (ix a1 i10 fun e1 =>
    gd (decide (0 ≤ w8)) <|
    gd (decide (w8.toNat ≤ rest7)) <|
    gd (decide (0 + w8.toNat ≤ o3.length)) <|
    cond ((o3.drop 0).take w8.toNat).isEmpty
      (none)
      (gd (decide ((1 + ((o3.drop 0).take w8.toNat).length) * 8 ≤ room)) <|
      (f74v2 k (1 + ((o3.drop 0).take w8.toNat).length) wide9 o0 o1 (([e1] : List Int) ++ ((o3.drop 0).take w8.toNat))).bind fun y2 =>
      cond (y2.1.1 == (-1))
        (some (.inr (.inr (([], [], ()), ((y2.2.1.1, (), ()), y2.2.2.1, o2, o3, ())))))
        (gd (decide (0 ≤ i10)) <|
        gd (decide (i10.toNat < quotient6)) <|
        gd (decide ((0 + i10.toNat) < o2.length)) <|
        (f75 k wide9).bind fun y3 =>
        (f69v4 k (1 + ((o3.drop 0).take w8.toNat).length) y3.1.1 1 y2.2.1.1 y2.2.2.1 y2.2.2.2.1).bind fun y4 =>
        (l33_4182654 k k quotient6 (1 + ((o3.drop 0).take w8.toNat).length) i10 y4.1.1 ((1 + ((o3.drop 0).take w8.toNat).length) : Int) 0 y4.2.1.1 y4.2.2.1 (o2.set (0 + i10.toNat) (ibits .xor .i64 y2.1.1 1)) y4.2.2.2.1).bind fun y5 =>
        (rec1 a1 quotient6 (1 + ((o3.drop 0).take w8.toNat).length) w8 wide9 (w64 (i10 - 1)) y5.2.1.1 y5.2.2.1 y5.2.2.2.1 y5.2.2.2.2.1).bind fun y6 =>
        match y6 with
        | .inl y6_0 =>
          some (.inr (.inl ((y6_0.1.1, y6_0.1.2.1, ()), ((y6_0.2.1.1, (), ()), y6_0.2.2.1, y6_0.2.2.2.1, o3, y6_0.2.2.2.2.1, ()))))
        | .inr y6r =>
          match y6r with
          | .inl y6_1 =>
            some (.inr (.inl ((y6_1.1.1, y6_1.1.2.1, ()), ((y6_1.2.1.1, (), ()), y6_1.2.2.1, y6_1.2.2.2.1, o3, y6_1.2.2.2.2.2.1, ()))))
          | .inr y6_2 =>
            some (.inr (.inr ((y6_2.1.1, y6_2.1.2.1, ()), ((y6_2.2.1.1, (), ()), y6_2.2.2.1, y6_2.2.2.2.1, o3, ())))))))
    (some (.inl ((quotient6, rest7, ()), ((o0, (), ()), o1, o2, o3, ()))))
noncomputable def L33_2042 (k : Nat) : Nat → T33_2042s0 × T33_2042s1
  | 0 => (fun _ _ _ _ _ _ _ _ _ => none, fun _ _ _ _ _ _ _ _ _ _ => none)
  | j + 1 => (b33_2042s0 k (L33_2042 k j).1 (L33_2042 k j).2, b33_2042s1 k (L33_2042 k j).1 (L33_2042 k j).2)
noncomputable def l33_2042s0 (k : Nat) (j : Nat) : T33_2042s0 := (L33_2042 k j).1
noncomputable def l33_2042s1 (k : Nat) (j : Nat) : T33_2042s1 := (L33_2042 k j).2
theorem l33_2042s0_succ (k : Nat) (j : Nat) : l33_2042s0 k (j + 1) = b33_2042s0 k (l33_2042s0 k j) (l33_2042s1 k j) := rfl
theorem l33_2042s1_succ (k : Nat) (j : Nat) : l33_2042s1 k (j + 1) = b33_2042s1 k (l33_2042s0 k j) (l33_2042s1 k j) := rfl
noncomputable def pa33_510 : Shape := ⟨[.ptr 0, .d (.slice i64), .msl 2 i64, .own i64, .d i64, .own i64], [.box [.own T_Gate, .mp 1], .map T_Gate i64, .arr none i64]⟩
noncomputable def pw33_510 : List Vm.Way := [⟨.normal, [6, 7], ⟨[.msl 2 i64, .own i64], [.box [.own T_Gate, .mp 1], .map T_Gate i64, .arr none i64]⟩⟩, ⟨.normal, [6, 7], ⟨[.msl 2 i64, .msl 3 i64], [.box [.own T_Gate, .mp 1], .map T_Gate i64, .arr none i64, .arr none i64]⟩⟩, ⟨.ret, [6, 7], ⟨[.own i64, .own i64], [.box [.own T_Gate, .mp 1], .map T_Gate i64, .arr none i64]⟩⟩]
abbrev R33_510 : Type := (((Nat × (List Int) × Unit) × (((List D_Gate) × Unit × Unit) × (List (D_Gate × Int)) × (List Int) × Unit)) ⊕ (((Nat × Nat × Unit) × (((List D_Gate) × Unit × Unit) × (List (D_Gate × Int)) × (List Int) × (List Int) × Unit)) ⊕ (((List Int) × (List Int) × Unit) × (((List D_Gate) × Unit × Unit) × (List (D_Gate × Int)) × (List Int) × Unit))))
abbrev T33_510 : Type := (List Int) → Nat → (List Int) → Int → (List Int) → (List D_Gate) → (List (D_Gate × Int)) → (List Int) → Option R33_510
noncomputable def u33_510 (f : T33_510) : (pa33_510).C → Option (WayC pw33_510) := fun (x : ((Unit × (List Int) × Nat × (List Int) × Int × (List Int) × Unit) × (((List D_Gate) × Unit × Unit) × (List (D_Gate × Int)) × (List Int) × Unit))) => f x.1.2.1 x.1.2.2.1 x.1.2.2.2.1 x.1.2.2.2.2.1 x.1.2.2.2.2.2.1 x.2.1.1 x.2.2.1 x.2.2.2.1
noncomputable def l33_510 (k : Nat) : T33_510 := fun a1 quotient6 rest7 w8 wide9 o0 o1 o2 =>
  (l33_2042s0 k k a1 quotient6 rest7 w8 wide9 (w64 (w8 - 1)) o0 o1 o2).bind fun y1 =>
  match y1 with
  | .inl y1_0 =>
    some (.inl ((y1_0.1.1, y1_0.1.2.1, ()), ((y1_0.2.1.1, (), ()), y1_0.2.2.1, y1_0.2.2.2.1, ())))
  | .inr y1r =>
    match y1r with
    | .inl y1_1 =>
      some (.inr (.inl ((y1_1.1.1, y1_1.1.2.1, ()), ((y1_1.2.1.1, (), ()), y1_1.2.2.1, y1_1.2.2.2.1, y1_1.2.2.2.2.1, ()))))
    | .inr y1_2 =>
      some (.inr (.inr ((y1_2.1.1, y1_2.1.2.1, ()), ((y1_2.2.1.1, (), ()), y1_2.2.2.1, y1_2.2.2.2.1, ()))))
noncomputable def pa33_254 : Shape := ⟨[.d i64], []⟩
noncomputable def pw33_254 : List Vm.Way := [⟨.normal, [6], ⟨[.msl 0 i64], [.arr none i64]⟩⟩]
abbrev R33_254 : Type := ((Nat × Unit) × ((List Int) × Unit))
abbrev T33_254 : Type := Int → Option R33_254
noncomputable def u33_254 (f : T33_254) : (pa33_254).C → Option (WayC pw33_254) := fun (x : ((Int × Unit) × Unit)) => f x.1.1
noncomputable def l33_254 (k : Nat) : T33_254 := fun w8 =>
  (f29o k 0 w8).bind fun y1 =>
  some ((y1.1.1, ()), (y1.2.1, ()))
noncomputable def f33 (k : Nat) : T33 := fun a1 b2 o0 o1 =>
  (f68 k a1 b2 o0 o1).bind fun y1 =>
  cond (!y1.1.1)
    (some (.inl (([], [], ()), ((o0, (), ()), o1, ()))))
    ((f73v4 k b2).bind fun y2 =>
    gd (decide ((y2.1.1.length + 1) * 8 ≤ room)) <|
    (f29v2 k 0 (a1.length : Int)).bind fun y3 =>
    gd (decide ((y3.1.1.length + 1) * 8 ≤ room)) <|
    (l33_254 k (a1.length : Int)).bind fun y4 =>
    (l33_510 k a1 y4.1.1 (y3.1.1 ++ ([0] : List Int)) (a1.length : Int) (y2.1.1 ++ ([0] : List Int)) o0 o1 y4.2.1).bind fun y5 =>
    match y5 with
    | .inl y5_0 =>
      (f70v2 k y5_0.1.1 y5_0.2.2.2.1).bind fun y6 =>
      match y6 with
      | .inl y6_0 =>
        some (.inl (([], [], ()), ((y5_0.2.1.1, (), ()), y5_0.2.2.1, ())))
      | .inr y6_1 =>
        cond (decide (y6_1.1.1 = 0))
          (none)
          (gd (decide (0 ≤ (a1.length : Int))) <|
          gd (decide ((a1.length : Int).toNat ≤ y5_0.1.2.1.length)) <|
          (f70v3 k ((y5_0.1.2.1.take (a1.length : Int).toNat).drop 0)).bind fun y7 =>
          match y7 with
          | .inl y7_0 =>
            some (.inl (([], [], ()), ((y5_0.2.1.1, (), ()), y5_0.2.2.1, ())))
          | .inr y7_1 =>
            cond y7_1.1.1.isEmpty
              (none)
              (gd (decide (0 ≤ (a1.length : Int))) <|
              gd (decide ((a1.length : Int).toNat ≤ y5_0.1.2.1.length)) <|
              some (.inr (.inl ((y5_0.1.1, ((y5_0.1.2.1.take (a1.length : Int).toNat).drop 0), ()), ((y5_0.2.1.1, (), ()), y5_0.2.2.1, y6_1.2.1, ()))))))
    | .inr y5r =>
      match y5r with
      | .inl y5_1 =>
        (f70v2 k y5_1.1.1 y5_1.2.2.2.1).bind fun y8 =>
        match y8 with
        | .inl y8_0 =>
          some (.inl (([], [], ()), ((y5_1.2.1.1, (), ()), y5_1.2.2.1, ())))
        | .inr y8_1 =>
          cond (decide (y8_1.1.1 = 0))
            (none)
            (gd (decide (0 ≤ (a1.length : Int))) <|
            gd (decide ((a1.length : Int).toNat ≤ y5_1.1.2.1)) <|
            (f70v2 k (a1.length : Int).toNat y5_1.2.2.2.2.1).bind fun y9 =>
            match y9 with
            | .inl y9_0 =>
              some (.inl (([], [], ()), ((y5_1.2.1.1, (), ()), y5_1.2.2.1, ())))
            | .inr y9_1 =>
              cond (decide (y9_1.1.1 = 0))
                (none)
                (gd (decide (0 ≤ (a1.length : Int))) <|
                gd (decide ((a1.length : Int).toNat ≤ y5_1.1.2.1)) <|
                some (.inr (.inr ((y5_1.1.1, (a1.length : Int).toNat, ()), ((y5_1.2.1.1, (), ()), y5_1.2.2.1, y8_1.2.1, y9_1.2.1, ()))))))
      | .inr y5_2 =>
        some (.inl ((y5_2.1.1, y5_2.1.2.1, ()), ((y5_2.2.1.1, (), ()), y5_2.2.2.1, ()))))
noncomputable def C33 (k : Nat) : Nat → Fun := mkC [(2000000, ownF), (29, (F29v2 (f29v2 k))), (68, (F68 (f68 k))), (69, (F69v4 (f69v4 k))), (1000070, ownF), (70, (altF a70v2 true (F70v2 (f70v2 k)) (F70v3 (f70v3 k)))), (73, (F73v4 (f73v4 k))), (74, (F74v2 (f74v2 k))), (75, (F75 (f75 k))), (76, (F76 (f76 k)))]
theorem c33_ok (k : Nat) : ∀ f, SoundFn Try.prog f (C33 k f) := (mkC_cons ownF_ok (mkC_cons (s29v2 k) (mkC_cons (s68 k) (mkC_cons (s69v4 k) (mkC_cons ownF_ok (mkC_cons (altF_ok (s70v2 k) (s70v3 k) rfl) (mkC_cons (s73v4 k) (mkC_cons (s74v2 k) (mkC_cons (s75 k) (mkC_cons (s76 k) mkC_nil))))))))))
noncomputable def H33_4182654 (k : Nat) : Nat → Option Cut := addH noH 4182654 ⟨runCut (wrC (bodyOf (codeAt 4182654 (bd Try.f33) 4182654))) 104 [0, 6, 7, 10, 12, 68, 69] pa33_4182654 pw33_4182654 (u33_4182654 (l33_4182654 k k))⟩
theorem e33_4182654 (k : Nat) (rec : T33_4182654) (x : (pa33_4182654).C) : roundF (C33 k) tt noH (bodyOf (codeAt 4182654 (bd Try.f33) 4182654)) 8365308 104 [0, 6, 7, 10, 12, 68, 69] pa33_4182654 pw33_4182654 (u33_4182654 rec) x = u33_4182654 (b33_4182654 k rec) x := by kernel_rfl
theorem h33_4182654_ok (k : Nat) : ∀ p S, H33_4182654 k p = some S → ∀ c, At (bd Try.f33) p c → CutOk Try.prog c S :=
  have hC := c33_ok k
  addLoop hC ttOk (draw_ok hC ttOk mixed) noH_ok (by kernel_rfl) (F := fun j => u33_4182654 (l33_4182654 k j)) (fun _ => rfl) (fun j x _ h => (e33_4182654 k (l33_4182654 k j) x).trans h) k
noncomputable def X33_2042 (k : Nat) (r_0 : T33_2042s0) (r_1 : T33_2042s1) : Cut := (altCut [0, 1, 6, 7, 8, 9, 10] pa33_2042s0 ⟨runCut (wrC (bodyOf (codeAt 2042 (bd Try.f33) 2042))) 104 [0, 1, 6, 7, 8, 9, 10] pa33_2042s0 pw33_2042s0 (u33_2042s0 r_0)⟩ ⟨runCut (wrC (bodyOf (codeAt 2042 (bd Try.f33) 2042))) 104 [0, 1, 6, 7, 8, 9, 10] pa33_2042s1 pw33_2042s1 (u33_2042s1 r_1)⟩)
noncomputable def H33_2042 (k : Nat) : Nat → Option Cut := addH (H33_4182654 k) 2042 (X33_2042 k (l33_2042s0 k k) (l33_2042s1 k k))
theorem e33_2042s0 (k : Nat) (r_0 : T33_2042s0) (r_1 : T33_2042s1) (x : (pa33_2042s0).C) : roundS (C33 k) tt (H33_4182654 k) (bodyOf (codeAt 2042 (bd Try.f33) 2042)) 4084 104 [0, 1, 6, 7, 8, 9, 10] pa33_2042s0 pw33_2042s0 (X33_2042 k r_0 r_1) x = u33_2042s0 (b33_2042s0 k r_0 r_1) x := by kernel_rfl
theorem e33_2042s1 (k : Nat) (r_0 : T33_2042s0) (r_1 : T33_2042s1) (x : (pa33_2042s1).C) : roundS (C33 k) tt (H33_4182654 k) (bodyOf (codeAt 2042 (bd Try.f33) 2042)) 4084 104 [0, 1, 6, 7, 8, 9, 10] pa33_2042s1 pw33_2042s1 (X33_2042 k r_0 r_1) x = u33_2042s1 (b33_2042s1 k r_0 r_1) x := by kernel_rfl
theorem h33_2042_ok (k : Nat) : ∀ p S, H33_2042 k p = some S → ∀ c, At (bd Try.f33) p c → CutOk Try.prog c S :=
  have hC := c33_ok k
  addLoops (h33_4182654_ok k) (by kernel_rfl) (S := fun j => X33_2042 k (l33_2042s0 k j) (l33_2042s1 k j)) (fun hb => ⟨(rounds_alt (rounds_none (fun _ => rfl)) (rounds_none (fun _ => rfl))), fun j ih => (rounds_alt (rounds_step hC ttOk (draw_ok hC ttOk mixed) (h33_4182654_ok k) hb ih (fun x _ h => (e33_2042s0 k (l33_2042s0 k j) (l33_2042s1 k j) x).trans h)) (rounds_step hC ttOk (draw_ok hC ttOk mixed) (h33_4182654_ok k) hb ih (fun x _ h => (e33_2042s1 k (l33_2042s0 k j) (l33_2042s1 k j) x).trans h)))⟩) k
noncomputable def H33_510 (k : Nat) : Nat → Option Cut := addH (H33_2042 k) 510 ⟨runCut (wrC (codeAt 510 (bd Try.f33) 510)) 104 [0, 1, 6, 7, 8, 9] pa33_510 pw33_510 (u33_510 (l33_510 k))⟩
theorem e33_510 (k : Nat) (x : (pa33_510).C) : pieceF (C33 k) tt (H33_2042 k) (codeAt 510 (bd Try.f33) 510) 510 104 [0, 1, 6, 7, 8, 9] pa33_510 pw33_510 x = u33_510 (l33_510 k) x := by kernel_rfl
theorem h33_510_ok (k : Nat) : ∀ p S, H33_510 k p = some S → ∀ c, At (bd Try.f33) p c → CutOk Try.prog c S :=
  have hC := c33_ok k
  addPiece hC ttOk (draw_ok hC ttOk mixed) (h33_2042_ok k) (fun x _ h => (e33_510 k x).trans h)
noncomputable def C33_254 (k : Nat) : Nat → Fun := mkC [(2000000, ownF), (29, (F29o (f29o k)))]
theorem c33_254_ok (k : Nat) : ∀ f, SoundFn Try.prog f (C33_254 k f) := (mkC_cons ownF_ok (mkC_cons (s29o k) mkC_nil))
noncomputable def H33_254 (k : Nat) : Nat → Option Cut := addH (H33_510 k) 254 ⟨runCut (wrC (codeAt 254 (bd Try.f33) 254)) 104 [8] pa33_254 pw33_254 (u33_254 (l33_254 k))⟩
theorem e33_254 (k : Nat) (x : (pa33_254).C) : pieceF (C33_254 k) tt (H33_510 k) (codeAt 254 (bd Try.f33) 254) 254 104 [8] pa33_254 pw33_254 x = u33_254 (l33_254 k) x := by kernel_rfl
theorem h33_254_ok (k : Nat) : ∀ p S, H33_254 k p = some S → ∀ c, At (bd Try.f33) p c → CutOk Try.prog c S :=
  have hC := c33_254_ok k
  addPiece hC ttOk (draw_ok hC ttOk mixed) (h33_510_ok k) (fun x _ h => (e33_254 k x).trans h)
theorem e33 (k : Nat) (x : (a33).C) : bodyW (C33 k) tt (H33_254 k) Try.f33 a33 o33 x = u33 (f33 k) x := by kernel_rfl
theorem s33 (k : Nat) : SoundFn Try.prog 33 (F33 (f33 k)) :=
  have hC := c33_ok k
  fnW_sound hC ttOk (draw_ok hC ttOk mixed) Try.func33 (c0 := bd Try.f33) rfl (entry Try.func33 rfl (by decide)) (h33_254_ok k) (fun x _ h => (e33 k x).trans h)
/-! f73v7 slices.Clone[[]int,int] (W) -/
noncomputable def a73v7 : Shape := ⟨[.d (.slice i64)], []⟩
noncomputable def o73v7 : List Shape := [⟨[.msl 0 i64], [.arr none i64]⟩]
abbrev R73v7 : Type := ((Nat × Unit) × ((List Int) × Unit))
abbrev T73v7 : Type := (List Int) → Option R73v7
noncomputable def u73v7 (f : T73v7) : (a73v7).C → Option (OutC o73v7) := fun (x : (((List Int) × Unit) × Unit)) => f x.1.1
noncomputable def F73v7 (f : T73v7) : Fun := ⟨false, runW a73v7 o73v7 (u73v7 f)⟩
noncomputable def f73v7 (k : Nat) : T73v7 := fun s0 =>
  cond s0.isEmpty
    (none)
    (cond s0.isEmpty
      (none)
      (gd (decide ((0 + s0.length) * 8 ≤ room)) <|
      some (((0 + s0.length), ()), ((([] : List Int) ++ s0), ()))))
noncomputable def C73v7 (k : Nat) : Nat → Fun := mkC [(2000000, ownF)]
theorem c73v7_ok (k : Nat) : ∀ f, SoundFn Try.prog f (C73v7 k f) := (mkC_cons ownF_ok mkC_nil)
theorem e73v7 (k : Nat) (x : (a73v7).C) : bodyW (C73v7 k) tt noH Try.f73 a73v7 o73v7 x = u73v7 (f73v7 k) x := by kernel_rfl
theorem s73v7 (k : Nat) : SoundFn Try.prog 73 (F73v7 (f73v7 k)) :=
  have hC := c73v7_ok k
  fnW_sound hC ttOk (draw_ok hC ttOk mixed) Try.func73 (c0 := bd Try.f73) rfl (entry Try.func73 rfl (by decide)) noH_ok (fun x _ h => (e73v7 k x).trans h)
/-! f78 fathom/vec.Shl$1 (W) -/
noncomputable def a78 : Shape := ⟨[.msl 0 i64, .d i64], [.arr none i64]⟩
noncomputable def o78 : List Shape := [⟨[.msl 1 i64], [.arr none i64, .arr none i64]⟩]
abbrev R78 : Type := ((Nat × Unit) × ((List Int) × (List Int) × Unit))
abbrev T78 : Type := Nat → Int → (List Int) → Option R78
noncomputable def u78 (f : T78) : (a78).C → Option (OutC o78) := fun (x : ((Nat × Int × Unit) × ((List Int) × Unit))) => f x.1.1 x.1.2.1 x.2.1
noncomputable def F78 (f : T78) : Fun := ⟨false, runW a78 o78 (u78 f)⟩
noncomputable def pa78_6 : Shape := ⟨[.msl 0 i64], [.arr none i64]⟩
noncomputable def pw78_6 : List Vm.Way := [⟨.normal, [5], ⟨[.msl 1 i64], [.arr none i64, .arr none i64]⟩⟩]
abbrev R78_6 : Type := ((Nat × Unit) × ((List Int) × (List Int) × Unit))
abbrev T78_6 : Type := Nat → (List Int) → Option R78_6
noncomputable def u78_6 (f : T78_6) : (pa78_6).C → Option (WayC pw78_6) := fun (x : ((Nat × Unit) × ((List Int) × Unit))) => f x.1.1 x.2.1
noncomputable def l78_6 (k : Nat) : T78_6 := fun a0 o0 =>
  (f29o k 0 (a0 : Int)).bind fun y1 =>
  some ((y1.1.1, ()), (o0, y1.2.1, ()))
noncomputable def f78 (k : Nat) : T78 := fun a0 n1 o0 =>
  (l78_6 k a0 o0).bind fun y1 =>
  gd (decide (0 ≤ (minmax false n1 (a0 : Int)))) <|
  gd (decide ((minmax false n1 (a0 : Int)).toNat ≤ y1.1.1)) <|
  gd (decide (0 + a0 ≤ y1.2.1.length)) <|
  gd (decide ((0 + (minmax false n1 (a0 : Int)).toNat) + (y1.1.1 - (minmax false n1 (a0 : Int)).toNat) ≤ y1.2.2.1.length)) <|
  some ((y1.1.1, ()), (y1.2.1, (y1.2.2.1.take (0 + (minmax false n1 (a0 : Int)).toNat) ++ ((y1.2.1.drop 0).take a0).take (min ((y1.2.1.drop 0).take a0).length (y1.1.1 - (minmax false n1 (a0 : Int)).toNat)) ++ y1.2.2.1.drop ((0 + (minmax false n1 (a0 : Int)).toNat) + (min ((y1.2.1.drop 0).take a0).length (y1.1.1 - (minmax false n1 (a0 : Int)).toNat)))), ()))
noncomputable def C78 (k : Nat) : Nat → Fun := mkC []
theorem c78_ok (k : Nat) : ∀ f, SoundFn Try.prog f (C78 k f) := mkC_nil
noncomputable def C78_6 (k : Nat) : Nat → Fun := mkC [(29, (F29o (f29o k)))]
theorem c78_6_ok (k : Nat) : ∀ f, SoundFn Try.prog f (C78_6 k f) := (mkC_cons (s29o k) mkC_nil)
noncomputable def H78_6 (k : Nat) : Nat → Option Cut := addH noH 6 ⟨runCut (wrC (codeAt 6 (bd Try.f78) 6)) 18 [0] pa78_6 pw78_6 (u78_6 (l78_6 k))⟩
theorem e78_6 (k : Nat) (x : (pa78_6).C) : pieceF (C78_6 k) tt noH (codeAt 6 (bd Try.f78) 6) 6 18 [0] pa78_6 pw78_6 x = u78_6 (l78_6 k) x := by kernel_rfl
theorem h78_6_ok (k : Nat) : ∀ p S, H78_6 k p = some S → ∀ c, At (bd Try.f78) p c → CutOk Try.prog c S :=
  have hC := c78_6_ok k
  addPiece hC ttOk (draw_ok hC ttOk mixed) noH_ok (fun x _ h => (e78_6 k x).trans h)
theorem e78 (k : Nat) (x : (a78).C) : bodyW (C78 k) tt (H78_6 k) Try.f78 a78 o78 x = u78 (f78 k) x := by kernel_rfl
theorem s78 (k : Nat) : SoundFn Try.prog 78 (F78 (f78 k)) :=
  have hC := c78_ok k
  fnW_sound hC ttOk (draw_ok hC ttOk mixed) Try.func78 (c0 := bd Try.f78) rfl (entry Try.func78 rfl (by decide)) (h78_6_ok k) (fun x _ h => (e78 k x).trans h)
/-! f77 fathom/vec.shift (W) -/
noncomputable def a77 : Shape := ⟨[.ptr 0, .d (.slice i64), .d (.slice i64), .fn 78 []], [.box [.own T_Gate, .mp 1], .map T_Gate i64]⟩
noncomputable def o77 : List Shape := [⟨[.own i64], [.box [.own T_Gate, .mp 1], .map T_Gate i64]⟩, ⟨[.msl 2 i64], [.box [.own T_Gate, .mp 1], .map T_Gate i64, .arr none i64]⟩]
abbrev R77 : Type := ((((List Int) × Unit) × (((List D_Gate) × Unit × Unit) × (List (D_Gate × Int)) × Unit)) ⊕ ((Nat × Unit) × (((List D_Gate) × Unit × Unit) × (List (D_Gate × Int)) × (List Int) × Unit)))
abbrev T77 : Type := (List Int) → (List Int) → (List D_Gate) → (List (D_Gate × Int)) → Option R77
noncomputable def u77 (f : T77) : (a77).C → Option (OutC o77) := fun (x : ((Unit × (List Int) × (List Int) × Unit × Unit) × (((List D_Gate) × Unit × Unit) × (List (D_Gate × Int)) × Unit))) => f x.1.2.1 x.1.2.2.1 x.2.1.1 x.2.2.1
noncomputable def F77 (f : T77) : Fun := ⟨false, runW a77 o77 (u77 f)⟩
noncomputable def pa77_62670 : Shape := ⟨[.ptr 0, .d (.slice i64), .msl 2 i64, .d i64, .msl 3 i64, .d i64, .d i64], [.box [.own T_Gate, .mp 1], .map T_Gate i64, .arr none i64, .arr none i64]⟩
noncomputable def pw77_62670 : List Vm.Way := [⟨.exit 2, [], ⟨[], [.box [.own T_Gate, .mp 1], .map T_Gate i64, .arr none i64, .arr none i64]⟩⟩]
abbrev R77_62670 : Type := (Unit × (((List D_Gate) × Unit × Unit) × (List (D_Gate × Int)) × (List Int) × (List Int) × Unit))
abbrev T77_62670 : Type := (List Int) → Nat → Int → Nat → Int → Int → (List D_Gate) → (List (D_Gate × Int)) → (List Int) → (List Int) → Option R77_62670
noncomputable def u77_62670 (f : T77_62670) : (pa77_62670).C → Option (WayC pw77_62670) := fun (x : ((Unit × (List Int) × Nat × Int × Nat × Int × Int × Unit) × (((List D_Gate) × Unit × Unit) × (List (D_Gate × Int)) × (List Int) × (List Int) × Unit))) => f x.1.2.1 x.1.2.2.1 x.1.2.2.2.1 x.1.2.2.2.2.1 x.1.2.2.2.2.2.1 x.1.2.2.2.2.2.2.1 x.2.1.1 x.2.2.1 x.2.2.2.1 x.2.2.2.2.1
noncomputable def b77_62670 (k : Nat) (rec : T77_62670) : T77_62670 := fun b2 out9 i10 far11 t31 t32 o0 o1 o2 o3 =>
  cond (decide (t32 < t31))
    (ix b2 i10 fun e1 =>
    gd (decide (0 ≤ t32)) <|
    gd (decide (t32.toNat < far11)) <|
    (o3[(0 + t32.toNat)]?).bind fun e2 =>
    gd (decide (0 ≤ t32)) <|
    gd (decide (t32.toNat < out9)) <|
    (o2[(0 + t32.toNat)]?).bind fun e3 =>
    (f76 k e1 e2 e3 o0 o1).bind fun y4 =>
    gd (decide (0 ≤ t32)) <|
    gd (decide (t32.toNat < out9)) <|
    gd (decide ((0 + t32.toNat) < o2.length)) <|
    (rec b2 out9 i10 far11 t31 (w64 (t32 + 1)) y4.2.1.1 y4.2.2.1 (o2.set (0 + t32.toNat) y4.1.1) o3).bind fun y5 =>
    some ((), ((y5.2.1.1, (), ()), y5.2.2.1, y5.2.2.2.1, y5.2.2.2.2.1, ())))
    (some ((), ((o0, (), ()), o1, o2, o3, ())))
noncomputable def l77_62670 (k : Nat) : Nat → T77_62670
  | 0 => fun _ _ _ _ _ _ _ _ _ _ => none
  | j + 1 => b77_62670 k (l77_62670 k j)
noncomputable def pa77_122 : Shape := ⟨[.ptr 0, .d (.slice i64), .fn 78 [], .msl 2 i64, .d i64, .d i64], [.box [.own T_Gate, .mp 1], .map T_Gate i64, .arr none i64]⟩
noncomputable def pw77_122 : List Vm.Way := [⟨.exit 0, [], ⟨[], [.box [.own T_Gate, .mp 1], .map T_Gate i64, .arr none i64]⟩⟩]
abbrev R77_122 : Type := (Unit × (((List D_Gate) × Unit × Unit) × (List (D_Gate × Int)) × (List Int) × Unit))
abbrev T77_122 : Type := (List Int) → Nat → Int → Int → (List D_Gate) → (List (D_Gate × Int)) → (List Int) → Option R77_122
noncomputable def u77_122 (f : T77_122) : (pa77_122).C → Option (WayC pw77_122) := fun (x : ((Unit × (List Int) × Unit × Nat × Int × Int × Unit) × (((List D_Gate) × Unit × Unit) × (List (D_Gate × Int)) × (List Int) × Unit))) => f x.1.2.1 x.1.2.2.2.1 x.1.2.2.2.2.1 x.1.2.2.2.2.2.1 x.2.1.1 x.2.2.1 x.2.2.2.1
noncomputable def b77_122 (k : Nat) (rec : T77_122) : T77_122 := fun b2 out9 t21 t22 o0 o1 o2 =>
  cond (decide (t22 < t21))
    (cond (decide (t22 < 0))
      (none)
      ((f78 k out9 (w64 (1 * 2 ^ (min t22.toNat 64))) o2).bind fun y1 =>
      (l77_62670 k k b2 out9 t22 y1.1.1 (out9 : Int) 0 o0 o1 y1.2.1 y1.2.2.1).bind fun y2 =>
      (rec b2 out9 t21 (w64 (t22 + 1)) y2.2.1.1 y2.2.2.1 y2.2.2.2.1).bind fun y3 =>
      some ((), ((y3.2.1.1, (), ()), y3.2.2.1, y3.2.2.2.1, ()))))
    (some ((), ((o0, (), ()), o1, o2, ())))
noncomputable def l77_122 (k : Nat) : Nat → T77_122
  | 0 => fun _ _ _ _ _ _ _ => none
  | j + 1 => b77_122 k (l77_122 k j)
noncomputable def pa77_14 : Shape := ⟨[.d (.slice i64)], []⟩
noncomputable def pw77_14 : List Vm.Way := [⟨.normal, [9], ⟨[.msl 0 i64], [.arr none i64]⟩⟩]
abbrev R77_14 : Type := ((Nat × Unit) × ((List Int) × Unit))
abbrev T77_14 : Type := (List Int) → Option R77_14
noncomputable def u77_14 (f : T77_14) : (pa77_14).C → Option (WayC pw77_14) := fun (x : (((List Int) × Unit) × Unit)) => f x.1.1
noncomputable def l77_14 (k : Nat) : T77_14 := fun a1 =>
  (f73v7 k a1).bind fun y1 =>
  some ((y1.1.1, ()), (y1.2.1, ()))
noncomputable def f77 (k : Nat) : T77 := fun a1 b2 o0 o1 =>
  (f68 k a1 b2 o0 o1).bind fun y1 =>
  cond (!y1.1.1)
    (some (.inl (([], ()), ((o0, (), ()), o1, ()))))
    ((l77_14 k a1).bind fun y2 =>
    (l77_122 k k b2 y2.1.1 (b2.length : Int) 0 o0 o1 y2.2.1).bind fun y3 =>
    (f70v2 k y2.1.1 y3.2.2.2.1).bind fun y4 =>
    match y4 with
    | .inl y4_0 =>
      some (.inl (([], ()), ((y3.2.1.1, (), ()), y3.2.2.1, ())))
    | .inr y4_1 =>
      some (.inr ((y4_1.1.1, ()), ((y3.2.1.1, (), ()), y3.2.2.1, y4_1.2.1, ()))))
noncomputable def C77 (k : Nat) : Nat → Fun := mkC [(68, (F68 (f68 k))), (1000070, ownF), (70, (F70v2 (f70v2 k))), (76, (F76 (f76 k))), (78, (F78 (f78 k)))]
theorem c77_ok (k : Nat) : ∀ f, SoundFn Try.prog f (C77 k f) := (mkC_cons (s68 k) (mkC_cons ownF_ok (mkC_cons (s70v2 k) (mkC_cons (s76 k) (mkC_cons (s78 k) mkC_nil)))))
noncomputable def H77_62670 (k : Nat) : Nat → Option Cut := addH noH 62670 ⟨runCut (wrC (bodyOf (codeAt 62670 (bd Try.f77) 62670))) 56 [0, 2, 9, 10, 11, 31, 32] pa77_62670 pw77_62670 (u77_62670 (l77_62670 k k))⟩
theorem e77_62670 (k : Nat) (rec : T77_62670) (x : (pa77_62670).C) : roundF (C77 k) tt noH (bodyOf (codeAt 62670 (bd Try.f77) 62670)) 125340 56 [0, 2, 9, 10, 11, 31, 32] pa77_62670 pw77_62670 (u77_62670 rec) x = u77_62670 (b77_62670 k rec) x := by kernel_rfl
theorem h77_62670_ok (k : Nat) : ∀ p S, H77_62670 k p = some S → ∀ c, At (bd Try.f77) p c → CutOk Try.prog c S :=
  have hC := c77_ok k
  addLoop hC ttOk (draw_ok hC ttOk mixed) noH_ok (by kernel_rfl) (F := fun j => u77_62670 (l77_62670 k j)) (fun _ => rfl) (fun j x _ h => (e77_62670 k (l77_62670 k j) x).trans h) k
noncomputable def H77_122 (k : Nat) : Nat → Option Cut := addH (H77_62670 k) 122 ⟨runCut (wrC (bodyOf (codeAt 122 (bd Try.f77) 122))) 56 [0, 2, 3, 9, 21, 22] pa77_122 pw77_122 (u77_122 (l77_122 k k))⟩
theorem e77_122 (k : Nat) (rec : T77_122) (x : (pa77_122).C) : roundF (C77 k) tt (H77_62670 k) (bodyOf (codeAt 122 (bd Try.f77) 122)) 244 56 [0, 2, 3, 9, 21, 22] pa77_122 pw77_122 (u77_122 rec) x = u77_122 (b77_122 k rec) x := by kernel_rfl
theorem h77_122_ok (k : Nat) : ∀ p S, H77_122 k p = some S → ∀ c, At (bd Try.f77) p c → CutOk Try.prog c S :=
  have hC := c77_ok k
  addLoop hC ttOk (draw_ok hC ttOk mixed) (h77_62670_ok k) (by kernel_rfl) (F := fun j => u77_122 (l77_122 k j)) (fun _ => rfl) (fun j x _ h => (e77_122 k (l77_122 k j) x).trans h) k
noncomputable def C77_14 (k : Nat) : Nat → Fun := mkC [(73, (F73v7 (f73v7 k)))]
theorem c77_14_ok (k : Nat) : ∀ f, SoundFn Try.prog f (C77_14 k f) := (mkC_cons (s73v7 k) mkC_nil)
noncomputable def H77_14 (k : Nat) : Nat → Option Cut := addH (H77_122 k) 14 ⟨runCut (wrC (codeAt 14 (bd Try.f77) 14)) 56 [1] pa77_14 pw77_14 (u77_14 (l77_14 k))⟩
theorem e77_14 (k : Nat) (x : (pa77_14).C) : pieceF (C77_14 k) tt (H77_122 k) (codeAt 14 (bd Try.f77) 14) 14 56 [1] pa77_14 pw77_14 x = u77_14 (l77_14 k) x := by kernel_rfl
theorem h77_14_ok (k : Nat) : ∀ p S, H77_14 k p = some S → ∀ c, At (bd Try.f77) p c → CutOk Try.prog c S :=
  have hC := c77_14_ok k
  addPiece hC ttOk (draw_ok hC ttOk mixed) (h77_122_ok k) (fun x _ h => (e77_14 k x).trans h)
theorem e77 (k : Nat) (x : (a77).C) : bodyW (C77 k) tt (H77_14 k) Try.f77 a77 o77 x = u77 (f77 k) x := by kernel_rfl
theorem s77 (k : Nat) : SoundFn Try.prog 77 (F77 (f77 k)) :=
  have hC := c77_ok k
  fnW_sound hC ttOk (draw_ok hC ttOk mixed) Try.func77 (c0 := bd Try.f77) rfl (entry Try.func77 rfl (by decide)) (h77_14_ok k) (fun x _ h => (e77 k x).trans h)
/-! f34 fathom/vec.Shl (W) -/
noncomputable def a34 : Shape := ⟨[.ptr 0, .d (.slice i64), .d (.slice i64)], [.box [.own T_Gate, .mp 1], .map T_Gate i64]⟩
noncomputable def o34 : List Shape := [⟨[.own i64], [.box [.own T_Gate, .mp 1], .map T_Gate i64]⟩, ⟨[.msl 2 i64], [.box [.own T_Gate, .mp 1], .map T_Gate i64, .arr none i64]⟩]
abbrev R34 : Type := ((((List Int) × Unit) × (((List D_Gate) × Unit × Unit) × (List (D_Gate × Int)) × Unit)) ⊕ ((Nat × Unit) × (((List D_Gate) × Unit × Unit) × (List (D_Gate × Int)) × (List Int) × Unit)))
abbrev T34 : Type := (List Int) → (List Int) → (List D_Gate) → (List (D_Gate × Int)) → Option R34
noncomputable def u34 (f : T34) : (a34).C → Option (OutC o34) := fun (x : ((Unit × (List Int) × (List Int) × Unit) × (((List D_Gate) × Unit × Unit) × (List (D_Gate × Int)) × Unit))) => f x.1.2.1 x.1.2.2.1 x.2.1.1 x.2.2.1
noncomputable def F34 (f : T34) : Fun := ⟨false, runW a34 o34 (u34 f)⟩
noncomputable def f34 (k : Nat) : T34 := fun a1 b2 o0 o1 =>
  (f77 k a1 b2 o0 o1).bind fun y1 =>
  match y1 with
  | .inl y1_0 =>
    some (.inl ((y1_0.1.1, ()), ((y1_0.2.1.1, (), ()), y1_0.2.2.1, ())))
  | .inr y1_1 =>
    some (.inr ((y1_1.1.1, ()), ((y1_1.2.1.1, (), ()), y1_1.2.2.1, y1_1.2.2.2.1, ())))
noncomputable def C34 (k : Nat) : Nat → Fun := mkC [(77, (F77 (f77 k)))]
theorem c34_ok (k : Nat) : ∀ f, SoundFn Try.prog f (C34 k f) := (mkC_cons (s77 k) mkC_nil)
theorem e34 (k : Nat) (x : (a34).C) : bodyW (C34 k) tt noH Try.f34 a34 o34 x = u34 (f34 k) x := by kernel_rfl
theorem s34 (k : Nat) : SoundFn Try.prog 34 (F34 (f34 k)) :=
  have hC := c34_ok k
  fnW_sound hC ttOk (draw_ok hC ttOk mixed) Try.func34 (c0 := bd Try.f34) rfl (entry Try.func34 rfl (by decide)) noH_ok (fun x _ h => (e34 k x).trans h)
/-! f79 fathom/vec.Shr$1 (W) -/
noncomputable def a79 : Shape := ⟨[.msl 0 i64, .d i64], [.arr none i64]⟩
noncomputable def o79 : List Shape := [⟨[.msl 1 i64], [.arr none i64, .arr none i64]⟩]
abbrev R79 : Type := ((Nat × Unit) × ((List Int) × (List Int) × Unit))
abbrev T79 : Type := Nat → Int → (List Int) → Option R79
noncomputable def u79 (f : T79) : (a79).C → Option (OutC o79) := fun (x : ((Nat × Int × Unit) × ((List Int) × Unit))) => f x.1.1 x.1.2.1 x.2.1
noncomputable def F79 (f : T79) : Fun := ⟨false, runW a79 o79 (u79 f)⟩
noncomputable def pa79_6 : Shape := ⟨[.msl 0 i64], [.arr none i64]⟩
noncomputable def pw79_6 : List Vm.Way := [⟨.normal, [5], ⟨[.msl 1 i64], [.arr none i64, .arr none i64]⟩⟩]
abbrev R79_6 : Type := ((Nat × Unit) × ((List Int) × (List Int) × Unit))
abbrev T79_6 : Type := Nat → (List Int) → Option R79_6
noncomputable def u79_6 (f : T79_6) : (pa79_6).C → Option (WayC pw79_6) := fun (x : ((Nat × Unit) × ((List Int) × Unit))) => f x.1.1 x.2.1
noncomputable def l79_6 (k : Nat) : T79_6 := fun a0 o0 =>
  (f29o k 0 (a0 : Int)).bind fun y1 =>
  some ((y1.1.1, ()), (o0, y1.2.1, ()))
noncomputable def f79 (k : Nat) : T79 := fun a0 n1 o0 =>
  (l79_6 k a0 o0).bind fun y1 =>
  gd (decide (0 ≤ (minmax false n1 (a0 : Int)))) <|
  gd (decide ((minmax false n1 (a0 : Int)).toNat ≤ a0)) <|
  gd (decide ((0 + (minmax false n1 (a0 : Int)).toNat) + (a0 - (minmax false n1 (a0 : Int)).toNat) ≤ y1.2.1.length)) <|
  gd (decide (0 + y1.1.1 ≤ y1.2.2.1.length)) <|
  some ((y1.1.1, ()), (y1.2.1, (y1.2.2.1.take 0 ++ ((y1.2.1.drop (0 + (minmax false n1 (a0 : Int)).toNat)).take (a0 - (minmax false n1 (a0 : Int)).toNat)).take (min ((y1.2.1.drop (0 + (minmax false n1 (a0 : Int)).toNat)).take (a0 - (minmax false n1 (a0 : Int)).toNat)).length y1.1.1) ++ y1.2.2.1.drop (0 + (min ((y1.2.1.drop (0 + (minmax false n1 (a0 : Int)).toNat)).take (a0 - (minmax false n1 (a0 : Int)).toNat)).length y1.1.1))), ()))
noncomputable def C79 (k : Nat) : Nat → Fun := mkC []
theorem c79_ok (k : Nat) : ∀ f, SoundFn Try.prog f (C79 k f) := mkC_nil
noncomputable def C79_6 (k : Nat) : Nat → Fun := mkC [(29, (F29o (f29o k)))]
theorem c79_6_ok (k : Nat) : ∀ f, SoundFn Try.prog f (C79_6 k f) := (mkC_cons (s29o k) mkC_nil)
noncomputable def H79_6 (k : Nat) : Nat → Option Cut := addH noH 6 ⟨runCut (wrC (codeAt 6 (bd Try.f79) 6)) 18 [0] pa79_6 pw79_6 (u79_6 (l79_6 k))⟩
theorem e79_6 (k : Nat) (x : (pa79_6).C) : pieceF (C79_6 k) tt noH (codeAt 6 (bd Try.f79) 6) 6 18 [0] pa79_6 pw79_6 x = u79_6 (l79_6 k) x := by kernel_rfl
theorem h79_6_ok (k : Nat) : ∀ p S, H79_6 k p = some S → ∀ c, At (bd Try.f79) p c → CutOk Try.prog c S :=
  have hC := c79_6_ok k
  addPiece hC ttOk (draw_ok hC ttOk mixed) noH_ok (fun x _ h => (e79_6 k x).trans h)
theorem e79 (k : Nat) (x : (a79).C) : bodyW (C79 k) tt (H79_6 k) Try.f79 a79 o79 x = u79 (f79 k) x := by kernel_rfl
theorem s79 (k : Nat) : SoundFn Try.prog 79 (F79 (f79 k)) :=
  have hC := c79_ok k
  fnW_sound hC ttOk (draw_ok hC ttOk mixed) Try.func79 (c0 := bd Try.f79) rfl (entry Try.func79 rfl (by decide)) (h79_6_ok k) (fun x _ h => (e79 k x).trans h)
/-! f77v2 fathom/vec.shift (W) -/
noncomputable def a77v2 : Shape := ⟨[.ptr 0, .d (.slice i64), .d (.slice i64), .fn 79 []], [.box [.own T_Gate, .mp 1], .map T_Gate i64]⟩
noncomputable def o77v2 : List Shape := [⟨[.own i64], [.box [.own T_Gate, .mp 1], .map T_Gate i64]⟩, ⟨[.msl 2 i64], [.box [.own T_Gate, .mp 1], .map T_Gate i64, .arr none i64]⟩]
abbrev R77v2 : Type := ((((List Int) × Unit) × (((List D_Gate) × Unit × Unit) × (List (D_Gate × Int)) × Unit)) ⊕ ((Nat × Unit) × (((List D_Gate) × Unit × Unit) × (List (D_Gate × Int)) × (List Int) × Unit)))
abbrev T77v2 : Type := (List Int) → (List Int) → (List D_Gate) → (List (D_Gate × Int)) → Option R77v2
noncomputable def u77v2 (f : T77v2) : (a77v2).C → Option (OutC o77v2) := fun (x : ((Unit × (List Int) × (List Int) × Unit × Unit) × (((List D_Gate) × Unit × Unit) × (List (D_Gate × Int)) × Unit))) => f x.1.2.1 x.1.2.2.1 x.2.1.1 x.2.2.1
noncomputable def F77v2 (f : T77v2) : Fun := ⟨false, runW a77v2 o77v2 (u77v2 f)⟩
noncomputable def pa77v2_62670 : Shape := ⟨[.ptr 0, .d (.slice i64), .msl 2 i64, .d i64, .msl 3 i64, .d i64, .d i64], [.box [.own T_Gate, .mp 1], .map T_Gate i64, .arr none i64, .arr none i64]⟩
noncomputable def pw77v2_62670 : List Vm.Way := [⟨.exit 2, [], ⟨[], [.box [.own T_Gate, .mp 1], .map T_Gate i64, .arr none i64, .arr none i64]⟩⟩]
abbrev R77v2_62670 : Type := (Unit × (((List D_Gate) × Unit × Unit) × (List (D_Gate × Int)) × (List Int) × (List Int) × Unit))
abbrev T77v2_62670 : Type := (List Int) → Nat → Int → Nat → Int → Int → (List D_Gate) → (List (D_Gate × Int)) → (List Int) → (List Int) → Option R77v2_62670
noncomputable def u77v2_62670 (f : T77v2_62670) : (pa77v2_62670).C → Option (WayC pw77v2_62670) := fun (x : ((Unit × (List Int) × Nat × Int × Nat × Int × Int × Unit) × (((List D_Gate) × Unit × Unit) × (List (D_Gate × Int)) × (List Int) × (List Int) × Unit))) => f x.1.2.1 x.1.2.2.1 x.1.2.2.2.1 x.1.2.2.2.2.1 x.1.2.2.2.2.2.1 x.1.2.2.2.2.2.2.1 x.2.1.1 x.2.2.1 x.2.2.2.1 x.2.2.2.2.1
noncomputable def b77v2_62670 (k : Nat) (rec : T77v2_62670) : T77v2_62670 := fun b2 out9 i10 far11 t31 t32 o0 o1 o2 o3 =>
  cond (decide (t32 < t31))
    (ix b2 i10 fun e1 =>
    gd (decide (0 ≤ t32)) <|
    gd (decide (t32.toNat < far11)) <|
    (o3[(0 + t32.toNat)]?).bind fun e2 =>
    gd (decide (0 ≤ t32)) <|
    gd (decide (t32.toNat < out9)) <|
    (o2[(0 + t32.toNat)]?).bind fun e3 =>
    (f76 k e1 e2 e3 o0 o1).bind fun y4 =>
    gd (decide (0 ≤ t32)) <|
    gd (decide (t32.toNat < out9)) <|
    gd (decide ((0 + t32.toNat) < o2.length)) <|
    (rec b2 out9 i10 far11 t31 (w64 (t32 + 1)) y4.2.1.1 y4.2.2.1 (o2.set (0 + t32.toNat) y4.1.1) o3).bind fun y5 =>
    some ((), ((y5.2.1.1, (), ()), y5.2.2.1, y5.2.2.2.1, y5.2.2.2.2.1, ())))
    (some ((), ((o0, (), ()), o1, o2, o3, ())))
noncomputable def l77v2_62670 (k : Nat) : Nat → T77v2_62670
  | 0 => fun _ _ _ _ _ _ _ _ _ _ => none
  | j + 1 => b77v2_62670 k (l77v2_62670 k j)
noncomputable def pa77v2_122 : Shape := ⟨[.ptr 0, .d (.slice i64), .fn 79 [], .msl 2 i64, .d i64, .d i64], [.box [.own T_Gate, .mp 1], .map T_Gate i64, .arr none i64]⟩
noncomputable def pw77v2_122 : List Vm.Way := [⟨.exit 0, [], ⟨[], [.box [.own T_Gate, .mp 1], .map T_Gate i64, .arr none i64]⟩⟩]
abbrev R77v2_122 : Type := (Unit × (((List D_Gate) × Unit × Unit) × (List (D_Gate × Int)) × (List Int) × Unit))
abbrev T77v2_122 : Type := (List Int) → Nat → Int → Int → (List D_Gate) → (List (D_Gate × Int)) → (List Int) → Option R77v2_122
noncomputable def u77v2_122 (f : T77v2_122) : (pa77v2_122).C → Option (WayC pw77v2_122) := fun (x : ((Unit × (List Int) × Unit × Nat × Int × Int × Unit) × (((List D_Gate) × Unit × Unit) × (List (D_Gate × Int)) × (List Int) × Unit))) => f x.1.2.1 x.1.2.2.2.1 x.1.2.2.2.2.1 x.1.2.2.2.2.2.1 x.2.1.1 x.2.2.1 x.2.2.2.1
noncomputable def b77v2_122 (k : Nat) (rec : T77v2_122) : T77v2_122 := fun b2 out9 t21 t22 o0 o1 o2 =>
  cond (decide (t22 < t21))
    (cond (decide (t22 < 0))
      (none)
      ((f79 k out9 (w64 (1 * 2 ^ (min t22.toNat 64))) o2).bind fun y1 =>
      (l77v2_62670 k k b2 out9 t22 y1.1.1 (out9 : Int) 0 o0 o1 y1.2.1 y1.2.2.1).bind fun y2 =>
      (rec b2 out9 t21 (w64 (t22 + 1)) y2.2.1.1 y2.2.2.1 y2.2.2.2.1).bind fun y3 =>
      some ((), ((y3.2.1.1, (), ()), y3.2.2.1, y3.2.2.2.1, ()))))
    (some ((), ((o0, (), ()), o1, o2, ())))
noncomputable def l77v2_122 (k : Nat) : Nat → T77v2_122
  | 0 => fun _ _ _ _ _ _ _ => none
  | j + 1 => b77v2_122 k (l77v2_122 k j)
noncomputable def pa77v2_14 : Shape := ⟨[.d (.slice i64)], []⟩
noncomputable def pw77v2_14 : List Vm.Way := [⟨.normal, [9], ⟨[.msl 0 i64], [.arr none i64]⟩⟩]
abbrev R77v2_14 : Type := ((Nat × Unit) × ((List Int) × Unit))
abbrev T77v2_14 : Type := (List Int) → Option R77v2_14
noncomputable def u77v2_14 (f : T77v2_14) : (pa77v2_14).C → Option (WayC pw77v2_14) := fun (x : (((List Int) × Unit) × Unit)) => f x.1.1
noncomputable def l77v2_14 (k : Nat) : T77v2_14 := fun a1 =>
  (f73v7 k a1).bind fun y1 =>
  some ((y1.1.1, ()), (y1.2.1, ()))
noncomputable def f77v2 (k : Nat) : T77v2 := fun a1 b2 o0 o1 =>
  (f68 k a1 b2 o0 o1).bind fun y1 =>
  cond (!y1.1.1)
    (some (.inl (([], ()), ((o0, (), ()), o1, ()))))
    ((l77v2_14 k a1).bind fun y2 =>
    (l77v2_122 k k b2 y2.1.1 (b2.length : Int) 0 o0 o1 y2.2.1).bind fun y3 =>
    (f70v2 k y2.1.1 y3.2.2.2.1).bind fun y4 =>
    match y4 with
    | .inl y4_0 =>
      some (.inl (([], ()), ((y3.2.1.1, (), ()), y3.2.2.1, ())))
    | .inr y4_1 =>
      some (.inr ((y4_1.1.1, ()), ((y3.2.1.1, (), ()), y3.2.2.1, y4_1.2.1, ()))))
noncomputable def C77v2 (k : Nat) : Nat → Fun := mkC [(68, (F68 (f68 k))), (1000070, ownF), (70, (F70v2 (f70v2 k))), (76, (F76 (f76 k))), (79, (F79 (f79 k)))]
theorem c77v2_ok (k : Nat) : ∀ f, SoundFn Try.prog f (C77v2 k f) := (mkC_cons (s68 k) (mkC_cons ownF_ok (mkC_cons (s70v2 k) (mkC_cons (s76 k) (mkC_cons (s79 k) mkC_nil)))))
noncomputable def H77v2_62670 (k : Nat) : Nat → Option Cut := addH noH 62670 ⟨runCut (wrC (bodyOf (codeAt 62670 (bd Try.f77) 62670))) 56 [0, 2, 9, 10, 11, 31, 32] pa77v2_62670 pw77v2_62670 (u77v2_62670 (l77v2_62670 k k))⟩
theorem e77v2_62670 (k : Nat) (rec : T77v2_62670) (x : (pa77v2_62670).C) : roundF (C77v2 k) tt noH (bodyOf (codeAt 62670 (bd Try.f77) 62670)) 125340 56 [0, 2, 9, 10, 11, 31, 32] pa77v2_62670 pw77v2_62670 (u77v2_62670 rec) x = u77v2_62670 (b77v2_62670 k rec) x := by kernel_rfl
theorem h77v2_62670_ok (k : Nat) : ∀ p S, H77v2_62670 k p = some S → ∀ c, At (bd Try.f77) p c → CutOk Try.prog c S :=
  have hC := c77v2_ok k
  addLoop hC ttOk (draw_ok hC ttOk mixed) noH_ok (by kernel_rfl) (F := fun j => u77v2_62670 (l77v2_62670 k j)) (fun _ => rfl) (fun j x _ h => (e77v2_62670 k (l77v2_62670 k j) x).trans h) k
noncomputable def H77v2_122 (k : Nat) : Nat → Option Cut := addH (H77v2_62670 k) 122 ⟨runCut (wrC (bodyOf (codeAt 122 (bd Try.f77) 122))) 56 [0, 2, 3, 9, 21, 22] pa77v2_122 pw77v2_122 (u77v2_122 (l77v2_122 k k))⟩
theorem e77v2_122 (k : Nat) (rec : T77v2_122) (x : (pa77v2_122).C) : roundF (C77v2 k) tt (H77v2_62670 k) (bodyOf (codeAt 122 (bd Try.f77) 122)) 244 56 [0, 2, 3, 9, 21, 22] pa77v2_122 pw77v2_122 (u77v2_122 rec) x = u77v2_122 (b77v2_122 k rec) x := by kernel_rfl
theorem h77v2_122_ok (k : Nat) : ∀ p S, H77v2_122 k p = some S → ∀ c, At (bd Try.f77) p c → CutOk Try.prog c S :=
  have hC := c77v2_ok k
  addLoop hC ttOk (draw_ok hC ttOk mixed) (h77v2_62670_ok k) (by kernel_rfl) (F := fun j => u77v2_122 (l77v2_122 k j)) (fun _ => rfl) (fun j x _ h => (e77v2_122 k (l77v2_122 k j) x).trans h) k
noncomputable def C77v2_14 (k : Nat) : Nat → Fun := mkC [(73, (F73v7 (f73v7 k)))]
theorem c77v2_14_ok (k : Nat) : ∀ f, SoundFn Try.prog f (C77v2_14 k f) := (mkC_cons (s73v7 k) mkC_nil)
noncomputable def H77v2_14 (k : Nat) : Nat → Option Cut := addH (H77v2_122 k) 14 ⟨runCut (wrC (codeAt 14 (bd Try.f77) 14)) 56 [1] pa77v2_14 pw77v2_14 (u77v2_14 (l77v2_14 k))⟩
theorem e77v2_14 (k : Nat) (x : (pa77v2_14).C) : pieceF (C77v2_14 k) tt (H77v2_122 k) (codeAt 14 (bd Try.f77) 14) 14 56 [1] pa77v2_14 pw77v2_14 x = u77v2_14 (l77v2_14 k) x := by kernel_rfl
theorem h77v2_14_ok (k : Nat) : ∀ p S, H77v2_14 k p = some S → ∀ c, At (bd Try.f77) p c → CutOk Try.prog c S :=
  have hC := c77v2_14_ok k
  addPiece hC ttOk (draw_ok hC ttOk mixed) (h77v2_122_ok k) (fun x _ h => (e77v2_14 k x).trans h)
theorem e77v2 (k : Nat) (x : (a77v2).C) : bodyW (C77v2 k) tt (H77v2_14 k) Try.f77 a77v2 o77v2 x = u77v2 (f77v2 k) x := by kernel_rfl
theorem s77v2 (k : Nat) : SoundFn Try.prog 77 (F77v2 (f77v2 k)) :=
  have hC := c77v2_ok k
  fnW_sound hC ttOk (draw_ok hC ttOk mixed) Try.func77 (c0 := bd Try.f77) rfl (entry Try.func77 rfl (by decide)) (h77v2_14_ok k) (fun x _ h => (e77v2 k x).trans h)
/-! f35 fathom/vec.Shr (W) -/
noncomputable def a35 : Shape := ⟨[.ptr 0, .d (.slice i64), .d (.slice i64)], [.box [.own T_Gate, .mp 1], .map T_Gate i64]⟩
noncomputable def o35 : List Shape := [⟨[.own i64], [.box [.own T_Gate, .mp 1], .map T_Gate i64]⟩, ⟨[.msl 2 i64], [.box [.own T_Gate, .mp 1], .map T_Gate i64, .arr none i64]⟩]
abbrev R35 : Type := ((((List Int) × Unit) × (((List D_Gate) × Unit × Unit) × (List (D_Gate × Int)) × Unit)) ⊕ ((Nat × Unit) × (((List D_Gate) × Unit × Unit) × (List (D_Gate × Int)) × (List Int) × Unit)))
abbrev T35 : Type := (List Int) → (List Int) → (List D_Gate) → (List (D_Gate × Int)) → Option R35
noncomputable def u35 (f : T35) : (a35).C → Option (OutC o35) := fun (x : ((Unit × (List Int) × (List Int) × Unit) × (((List D_Gate) × Unit × Unit) × (List (D_Gate × Int)) × Unit))) => f x.1.2.1 x.1.2.2.1 x.2.1.1 x.2.2.1
noncomputable def F35 (f : T35) : Fun := ⟨false, runW a35 o35 (u35 f)⟩
noncomputable def f35 (k : Nat) : T35 := fun a1 b2 o0 o1 =>
  (f77v2 k a1 b2 o0 o1).bind fun y1 =>
  match y1 with
  | .inl y1_0 =>
    some (.inl ((y1_0.1.1, ()), ((y1_0.2.1.1, (), ()), y1_0.2.2.1, ())))
  | .inr y1_1 =>
    some (.inr ((y1_1.1.1, ()), ((y1_1.2.1.1, (), ()), y1_1.2.2.1, y1_1.2.2.2.1, ())))
noncomputable def C35 (k : Nat) : Nat → Fun := mkC [(77, (F77v2 (f77v2 k)))]
theorem c35_ok (k : Nat) : ∀ f, SoundFn Try.prog f (C35 k f) := (mkC_cons (s77v2 k) mkC_nil)
theorem e35 (k : Nat) (x : (a35).C) : bodyW (C35 k) tt noH Try.f35 a35 o35 x = u35 (f35 k) x := by kernel_rfl
theorem s35 (k : Nat) : SoundFn Try.prog 35 (F35 (f35 k)) :=
  have hC := c35_ok k
  fnW_sound hC ttOk (draw_ok hC ttOk mixed) Try.func35 (c0 := bd Try.f35) rfl (entry Try.func35 rfl (by decide)) noH_ok (fun x _ h => (e35 k x).trans h)
/-! f7 fathom/fathomlaw25.TermApplies (R) -/
noncomputable def a7 : Shape := ⟨[.d i64, .d .str, .d (.arr 2 (.int .u16))], []⟩
noncomputable def o7 : List Shape := [⟨[.d .bool], []⟩]
abbrev R7 : Type := ((Bool × Unit) × Unit)
abbrev T7 : Type := Int → ByteArray → (List Int) → Option R7
noncomputable def u7 (f : T7) : (a7).C → Option (OutC o7) := fun (x : ((Int × ByteArray × (List Int) × Unit) × Unit)) => f x.1.1 x.1.2.1 x.1.2.2.1
noncomputable def F7 (f : T7) : Fun := ⟨true, runR a7 o7 (u7 f)⟩
noncomputable def pa7_2046 : Shape := ⟨[.d .str, .ptr 0, .own i64, .own i64], [.box [.own T_Gate, .mp 1], .map T_Gate i64]⟩
noncomputable def pw7_2046 : List Vm.Way := [⟨.normal, [13], ⟨[.d (.slice i64)], [.box [.own T_Gate, .mp 1], .map T_Gate i64]⟩⟩, ⟨.normal, [13], ⟨[.msl 2 i64], [.box [.own T_Gate, .mp 1], .map T_Gate i64, .arr none i64]⟩⟩, ⟨.ret, [6], ⟨[.d .bool], [.box [.own T_Gate, .mp 1], .map T_Gate i64]⟩⟩]
abbrev R7_2046 : Type := ((((List Int) × Unit) × (((List D_Gate) × Unit × Unit) × (List (D_Gate × Int)) × Unit)) ⊕ (((Nat × Unit) × (((List D_Gate) × Unit × Unit) × (List (D_Gate × Int)) × (List Int) × Unit)) ⊕ ((Bool × Unit) × (((List D_Gate) × Unit × Unit) × (List (D_Gate × Int)) × Unit))))
abbrev T7_2046 : Type := ByteArray → (List Int) → (List Int) → (List D_Gate) → (List (D_Gate × Int)) → Option R7_2046
noncomputable def u7_2046 (f : T7_2046) : (pa7_2046).C → Option (WayC pw7_2046) := fun (x : ((ByteArray × Unit × (List Int) × (List Int) × Unit) × (((List D_Gate) × Unit × Unit) × (List (D_Gate × Int)) × Unit))) => f x.1.1 x.1.2.2.1 x.1.2.2.2.1 x.2.1.1 x.2.2.1
noncomputable def l7_2046 (k : Nat) : T7_2046 := fun op1 p11 q12 o0 o1 =>
  cond (op1.toList == (ByteArray.mk #[43]).toList)
    ((f30 k p11 q12 o0 o1).bind fun y1 =>
    match y1 with
    | .inl y1_0 =>
      some (.inl (([], ()), ((y1_0.2.1.1, (), ()), y1_0.2.2.1, ())))
    | .inr y1_1 =>
      some (.inl ((y1_1.1.1, ()), ((y1_1.2.1.1, (), ()), y1_1.2.2.1, ()))))
    (cond (op1.toList == (ByteArray.mk #[45]).toList)
      ((f31 k p11 q12 o0 o1).bind fun y2 =>
      some (.inl ((y2.1.1, ()), ((y2.2.1.1, (), ()), y2.2.2.1, ()))))
      (cond (op1.toList == (ByteArray.mk #[42]).toList)
        ((f32 k p11 q12 o0 o1).bind fun y3 =>
        some (.inl ((y3.1.1, ()), ((y3.2.1.1, (), ()), y3.2.2.1, ()))))
        (cond (op1.toList == (ByteArray.mk #[47]).toList)
          ((f33 k p11 q12 o0 o1).bind fun y4 =>
          match y4 with
          | .inl y4_0 =>
            some (.inl ((y4_0.1.1, ()), ((y4_0.2.1.1, (), ()), y4_0.2.2.1, ())))
          | .inr y4r =>
            match y4r with
            | .inl y4_1 =>
              some (.inr (.inl ((y4_1.1.1, ()), ((y4_1.2.1.1, (), ()), y4_1.2.2.1, y4_1.2.2.2.1, ()))))
            | .inr y4_2 =>
              some (.inr (.inl ((y4_2.1.1, ()), ((y4_2.2.1.1, (), ()), y4_2.2.2.1, y4_2.2.2.2.1, ())))))
          (cond (op1.toList == (ByteArray.mk #[37]).toList)
            ((f33 k p11 q12 o0 o1).bind fun y5 =>
            match y5 with
            | .inl y5_0 =>
              some (.inl ((y5_0.1.2.1, ()), ((y5_0.2.1.1, (), ()), y5_0.2.2.1, ())))
            | .inr y5r =>
              match y5r with
              | .inl y5_1 =>
                some (.inl ((y5_1.1.2.1, ()), ((y5_1.2.1.1, (), ()), y5_1.2.2.1, ())))
              | .inr y5_2 =>
                some (.inr (.inl ((y5_2.1.2.1, ()), ((y5_2.2.1.1, (), ()), y5_2.2.2.1, y5_2.2.2.2.2.1, ())))))
            (cond (op1.toList == (ByteArray.mk #[60, 60]).toList)
              ((f34 k p11 q12 o0 o1).bind fun y6 =>
              match y6 with
              | .inl y6_0 =>
                some (.inl ((y6_0.1.1, ()), ((y6_0.2.1.1, (), ()), y6_0.2.2.1, ())))
              | .inr y6_1 =>
                some (.inr (.inl ((y6_1.1.1, ()), ((y6_1.2.1.1, (), ()), y6_1.2.2.1, y6_1.2.2.2.1, ())))))
              (cond (op1.toList == (ByteArray.mk #[62, 62]).toList)
                ((f35 k p11 q12 o0 o1).bind fun y7 =>
                match y7 with
                | .inl y7_0 =>
                  some (.inl ((y7_0.1.1, ()), ((y7_0.2.1.1, (), ()), y7_0.2.2.1, ())))
                | .inr y7_1 =>
                  some (.inr (.inl ((y7_1.1.1, ()), ((y7_1.2.1.1, (), ()), y7_1.2.2.1, y7_1.2.2.2.1, ())))))
                ((f8 k ()).bind fun y8 =>
                some (.inr (.inr ((y8.1.1, ()), ((o0, (), ()), o1, ())))))))))))
noncomputable def f7 (k : Nat) : T7 := fun width0 op1 x2 =>
  (x2[0]?).bind fun e1 =>
  (x2[1]?).bind fun e2 =>
  (f25 k width0 op1 (w64 (e1)) (w64 (e2))).bind fun y3 =>
  cond (decide (width0 < 1))
    (cond (y3.1.1 == 0)
      ((f8 k ()).bind fun y4 =>
      some ((y4.1.1, ()), ()))
      (some ((false, ()), ())))
    (cond (decide (width0 > 8))
      (cond (y3.1.1 == 0)
        ((f8 k ()).bind fun y5 =>
        some ((y5.1.1, ()), ()))
        (some ((false, ()), ())))
      ((f26 k op1).bind fun y6 =>
      cond (y6.1.1 == 0)
        (cond (y3.1.1 == 0)
          ((f8 k ()).bind fun y7 =>
          some ((y7.1.1, ()), ()))
          (some ((false, ()), ())))
        ((f27 k (w64 (e1)) width0).bind fun y8 =>
        (f27 k (w64 (e2)) width0).bind fun y9 =>
        (f24 k width0 op1 y8.1.1 y9.1.1).bind fun y10 =>
        cond (y3.1.1 != y10.1.1)
          (some ((false, ()), ()))
          ((f28 k ()).bind fun y11 =>
          (f29v2 k y8.1.1 width0).bind fun y12 =>
          (f29v2 k y9.1.1 width0).bind fun y13 =>
          (l7_2046 k op1 y12.1.1 y13.1.1 y11.2.1.1 y11.2.2.1).bind fun y14 =>
          match y14 with
          | .inl y14_0 =>
            (f36 k [] y14_0.1.1).bind fun y15 =>
            cond (y15.1.1 == y3.1.1)
              (cond ((y14_0.1.1.length : Int) == width0)
                ((f8 k ()).bind fun y16 =>
                some ((y16.1.1, ()), ()))
                (some ((false, ()), ())))
              (some ((false, ()), ()))
          | .inr y14r =>
            match y14r with
            | .inl y14_1 =>
              gd (decide (0 + y14_1.1.1 ≤ y14_1.2.2.2.1.length)) <|
              (f36 k [] ((y14_1.2.2.2.1.drop 0).take y14_1.1.1)).bind fun y17 =>
              cond (y17.1.1 == y3.1.1)
                (cond ((y14_1.1.1 : Int) == width0)
                  ((f8 k ()).bind fun y18 =>
                  some ((y18.1.1, ()), ()))
                  (some ((false, ()), ())))
                (some ((false, ()), ()))
            | .inr y14_2 =>
              some ((y14_2.1.1, ()), ())))))
noncomputable def C7 (k : Nat) : Nat → Fun := mkC [(8, (F8 (f8 k))), (24, (F24 (f24 k))), (25, (F25 (f25 k))), (26, (F26 (f26 k))), (27, (F27 (f27 k))), (28, (F28 (f28 k))), (29, (F29v2 (f29v2 k))), (30, (F30 (f30 k))), (31, (F31 (f31 k))), (32, (F32 (f32 k))), (33, (F33 (f33 k))), (34, (F34 (f34 k))), (35, (F35 (f35 k))), (36, (F36 (f36 k)))]
theorem c7_ok (k : Nat) : ∀ f, SoundFn Try.prog f (C7 k f) := (mkC_cons (s8 k) (mkC_cons (s24 k) (mkC_cons (s25 k) (mkC_cons (s26 k) (mkC_cons (s27 k) (mkC_cons (s28 k) (mkC_cons (s29v2 k) (mkC_cons (s30 k) (mkC_cons (s31 k) (mkC_cons (s32 k) (mkC_cons (s33 k) (mkC_cons (s34 k) (mkC_cons (s35 k) (mkC_cons (s36 k) mkC_nil))))))))))))))
noncomputable def H7_2046 (k : Nat) : Nat → Option Cut := addH noH 2046 ⟨runCut (wrC (codeAt 2046 (bd Try.f7) 2046)) 125 [1, 10, 11, 12] pa7_2046 pw7_2046 (u7_2046 (l7_2046 k))⟩
theorem e7_2046 (k : Nat) (x : (pa7_2046).C) : pieceF (C7 k) tt noH (codeAt 2046 (bd Try.f7) 2046) 2046 125 [1, 10, 11, 12] pa7_2046 pw7_2046 x = u7_2046 (l7_2046 k) x := by kernel_rfl
theorem h7_2046_ok (k : Nat) : ∀ p S, H7_2046 k p = some S → ∀ c, At (bd Try.f7) p c → CutOk Try.prog c S :=
  have hC := c7_ok k
  addPiece hC ttOk (draw_ok hC ttOk mixed) noH_ok (fun x _ h => (e7_2046 k x).trans h)
theorem e7 (k : Nat) (x : (a7).C) : bodyR (C7 k) tt (H7_2046 k) Try.f7 a7 o7 x = u7 (f7 k) x := by kernel_rfl
theorem s7 (k : Nat) : SoundFn Try.prog 7 (F7 (f7 k)) :=
  have hC := c7_ok k
  fnR_sound hC ttOk (draw_ok hC ttOk mixed) Try.func7 (c0 := bd Try.f7) rfl (entry Try.func7 rfl (by decide)) (h7_2046_ok k) rfl (fun x _ h => (e7 k x).trans h)
end Go.Proofs.Ytepfhidiahleiaa.M
