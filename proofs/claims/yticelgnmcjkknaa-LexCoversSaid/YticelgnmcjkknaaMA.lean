/-
PRINTED BY vmp.py: the functions of a law, each as a Lean function, and that it is what the code computes.
-/
import Derived.Test.YticelgnmcjkknaaGiv
import Derived.Test.YticelgnmcjkknaaVm42
import Derived.Test.YticelgnmcjkknaaProg
import Derived.Test.YticelgnmcjkknaaChecked
import Derived.KernelRfl
set_option linter.unusedVariables false
set_option maxRecDepth 100000
namespace Go.Proofs.Yticelgnmcjkknaa.M
open Go Go.Proofs Go.Proofs.Yticelgnmcjkknaa.Vm
abbrev T_errorAddressString : Ty := (.pair .str (.pair (.int .u64) .unit))
abbrev D_errorAddressString : Type := (ByteArray × Int × Unit)
abbrev T_Found : Ty := (.pair i64 (.pair i64 .unit))
abbrev D_Found : Type := (Int × Int × Unit)
abbrev T_around : Ty := (.pair .bool (.pair .str .unit))
abbrev D_around : Type := (Bool × ByteArray × Unit)
abbrev T_Proc : Ty := (.pair .str (.pair (.slice (.rc 1)) (.pair i64 .unit)))
abbrev D_Proc : Type := (ByteArray × (List PStmt) × Int × Unit)
abbrev T_boundsError : Ty := (.pair i64 (.pair i64 (.pair .bool (.pair (.int .u8) .unit))))
abbrev D_boundsError : Type := (Int × Int × Bool × Int × Unit)
abbrev T_Token : Ty := (.pair i64 (.pair i64 (.pair .str (.pair i64 .unit))))
abbrev D_Token : Type := (Int × Int × ByteArray × Int × Unit)
abbrev T_Decl : Ty := (.pair i64 (.pair .str (.pair i64 (.pair i64 .unit))))
abbrev D_Decl : Type := (Int × ByteArray × Int × Int × Unit)
abbrev T_form : Ty := (.pair .bool (.pair .bool (.pair i64 (.pair .bool (.pair .bool .unit)))))
abbrev D_form : Type := (Bool × Bool × Int × Bool × Bool × Unit)
abbrev T_reader : Ty := (.pair (.slice T_Token) (.pair i64 (.pair i64 (.pair i64 (.pair i64 .unit)))))
abbrev D_reader : Type := ((List D_Token) × Int × Int × Int × Int × Unit)
abbrev T_Prog : Ty := (.pair i64 (.pair (.slice T_Decl) (.pair (.slice T_Proc) .unit)))
abbrev D_Prog : Type := (Int × (List D_Decl) × (List D_Proc) × Unit)
def s_0 : ByteArray := ByteArray.mk #[32, 119, 105, 100, 116, 104, 32, 118, 97, 114, 32, 97, 116, 111, 109, 105, 99, 32, 109, 117, 116, 101, 120, 32, 99, 104, 97, 110, 32, 112, 114, 111, 99, 32, 115, 101, 116, 32, 108, 111, 97, 100, 32, 115, 116, 111, 114, 101, 32, 103, 101, 116, 32, 112, 117, 116, 32, 97, 100, 100, 32, 99, 97, 115, 32, 108, 111, 99, 107, 32, 115, 101, 110, 100, 32, 114, 101, 99, 118, 32, 103, 111, 32, 105, 102, 32, 101, 108, 115, 101, 32, 119, 104, 105, 108, 101, 32, 98, 114, 101, 97, 107, 32, 99, 111, 110, 116, 105, 110, 117, 101, 32, 97, 115, 115, 101, 114, 116, 32]
def s_1 : ByteArray := ByteArray.mk #[119, 105, 100, 116, 104]
def s_2 : ByteArray := ByteArray.mk #[118, 97, 114]
def s_3 : ByteArray := ByteArray.mk #[97, 116, 111, 109, 105, 99]
def s_4 : ByteArray := ByteArray.mk #[109, 117, 116, 101, 120]
def s_5 : ByteArray := ByteArray.mk #[99, 104, 97, 110]
def s_6 : ByteArray := ByteArray.mk #[112, 114, 111, 99]
def s_7 : ByteArray := ByteArray.mk #[115, 101, 116]
def s_8 : ByteArray := ByteArray.mk #[108, 111, 97, 100]
def s_9 : ByteArray := ByteArray.mk #[115, 116, 111, 114, 101]
def s_10 : ByteArray := ByteArray.mk #[103, 101, 116]
def s_11 : ByteArray := ByteArray.mk #[112, 117, 116]
def s_12 : ByteArray := ByteArray.mk #[97, 100, 100]
def s_13 : ByteArray := ByteArray.mk #[99, 97, 115]
def s_14 : ByteArray := ByteArray.mk #[108, 111, 99, 107]
def s_15 : ByteArray := ByteArray.mk #[115, 101, 110, 100]
def s_16 : ByteArray := ByteArray.mk #[114, 101, 99, 118]
def s_17 : ByteArray := ByteArray.mk #[101, 108, 115, 101]
def s_18 : ByteArray := ByteArray.mk #[119, 104, 105, 108, 101]
def s_19 : ByteArray := ByteArray.mk #[98, 114, 101, 97, 107]
def s_20 : ByteArray := ByteArray.mk #[99, 111, 110, 116, 105, 110, 117, 101]
def s_21 : ByteArray := ByteArray.mk #[97, 115, 115, 101, 114, 116]
def s_22 : ByteArray := ByteArray.mk #[32, 60, 61, 32, 62, 61, 32, 61, 61, 32, 33, 61, 32, 60, 60, 32, 62, 62, 32, 38, 38, 32, 124, 124, 32]
def s_23 : ByteArray := ByteArray.mk #[123, 125, 40, 41, 44, 43, 45, 42, 47, 37, 38, 124, 94, 126, 33, 60, 62]
def tl : List (Nat × TI) := [(3, .dat i64 0), (4, .dat .bool 0), (5, .dat (.int .u8) 0), (9, .dat .str 0), (22, .dat (.slice (.int .u8)) 1), (24, .dat (.slice T_Token) 40), (29, .dat T_Token 0), (57, .dat (.slice .str) 16)]
def tt := mkT tl
theorem ttOk : TtOk Try.prog tt := mkT_ok (by kernel_rfl)
theorem mixed : Try.prog.follows .mixedOrders = true := by kernel_rfl
/-! f137 fathom/lex.blank (R) -/
noncomputable def a137 : Shape := ⟨[.d (.int .u8)], []⟩
noncomputable def o137 : List Shape := [⟨[.d .bool], []⟩]
abbrev R137 : Type := ((Bool × Unit) × Unit)
abbrev T137 : Type := Int → Option R137
noncomputable def u137 (f : T137) : (a137).C → Option (OutC o137) := fun (x : ((Int × Unit) × Unit)) => f x.1.1
noncomputable def F137 (f : T137) : Fun := ⟨true, runR a137 o137 (u137 f)⟩
noncomputable def f137 (k : Nat) : T137 := fun c0 =>
  cond (c0 == 32)
    (some ((true, ()), ()))
    (cond (c0 == 9)
      (some ((true, ()), ()))
      (cond (c0 == 10)
        (some ((true, ()), ()))
        (some (((c0 == 13), ()), ()))))
noncomputable def C137 (k : Nat) : Nat → Fun := mkC []
theorem c137_ok (k : Nat) : ∀ f, SoundFn Try.prog f (C137 k f) := mkC_nil
theorem e137 (k : Nat) (x : (a137).C) : bodyR (C137 k) tt noH Try.f137 a137 o137 x = u137 (f137 k) x := by kernel_rfl
theorem s137 (k : Nat) : SoundFn Try.prog 137 (F137 (f137 k)) :=
  have hC := c137_ok k
  fnR_sound hC ttOk (draw_ok hC ttOk mixed) Try.func137 (c0 := bd Try.f137) rfl (entry Try.func137 rfl (by decide)) noH_ok rfl (fun x _ h => (e137 k x).trans h)
/-! f95 fathom/lex.skip (R) -/
noncomputable def a95 : Shape := ⟨[.d (.slice (.int .u8)), .d i64], []⟩
noncomputable def o95 : List Shape := [⟨[.d i64], []⟩]
abbrev R95 : Type := ((Int × Unit) × Unit)
abbrev T95 : Type := (List Int) → Int → Option R95
noncomputable def u95 (f : T95) : (a95).C → Option (OutC o95) := fun (x : (((List Int) × Int × Unit) × Unit)) => f x.1.1 x.1.2.1
noncomputable def F95 (f : T95) : Fun := ⟨true, runR a95 o95 (u95 f)⟩
noncomputable def pa95_6300 : Shape := ⟨[.d (.slice (.int .u8)), .d i64], []⟩
noncomputable def pw95_6300 : List Vm.Way := [⟨.exit 3, [1], ⟨[.d i64], []⟩⟩]
abbrev R95_6300 : Type := ((Int × Unit) × Unit)
abbrev T95_6300 : Type := (List Int) → Int → Option R95_6300
noncomputable def u95_6300 (f : T95_6300) : (pa95_6300).C → Option (WayC pw95_6300) := fun (x : (((List Int) × Int × Unit) × Unit)) => f x.1.1 x.1.2.1
noncomputable def b95_6300 (k : Nat) (rec : T95_6300) : T95_6300 := fun b0 at1 =>
  cond (decide (at1 < (b0.length : Int)))
    (ix b0 at1 fun e1 =>
    cond (e1 != 10)
      ((rec b0 (w64 (at1 + 1))).bind fun y2 =>
      some ((y2.1.1, ()), ()))
      (some ((at1, ()), ())))
    (some ((at1, ()), ()))
noncomputable def l95_6300 (k : Nat) : Nat → T95_6300
  | 0 => fun _ _ => none
  | j + 1 => b95_6300 k (l95_6300 k j)
noncomputable def pa95_12 : Shape := ⟨[.d (.slice (.int .u8)), .d i64], []⟩
noncomputable def pw95_12 : List Vm.Way := [⟨.exit 0, [1], ⟨[.d i64], []⟩⟩, ⟨.ret, [4], ⟨[.d i64], []⟩⟩]
abbrev R95_12 : Type := (((Int × Unit) × Unit) ⊕ ((Int × Unit) × Unit))
abbrev T95_12 : Type := (List Int) → Int → Option R95_12
noncomputable def u95_12 (f : T95_12) : (pa95_12).C → Option (WayC pw95_12) := fun (x : (((List Int) × Int × Unit) × Unit)) => f x.1.1 x.1.2.1
noncomputable def b95_12 (k : Nat) (rec : T95_12) : T95_12 := fun b0 at1 =>
  cond (decide (at1 < (b0.length : Int)))
    (ix b0 at1 fun e1 =>
    (f137 k e1).bind fun y2 =>
    cond y2.1.1
      ((rec b0 (w64 (at1 + 1))).bind fun y3 =>
      match y3 with
      | .inl y3_0 =>
        some (.inl ((y3_0.1.1, ()), ()))
      | .inr y3_1 =>
        some (.inr ((y3_1.1.1, ()), ())))
      (ix b0 at1 fun e4 =>
      cond (e4 == 35)
        ((l95_6300 k k b0 at1).bind fun y5 =>
        (rec b0 y5.1.1).bind fun y6 =>
        match y6 with
        | .inl y6_0 =>
          some (.inl ((y6_0.1.1, ()), ()))
        | .inr y6_1 =>
          some (.inr ((y6_1.1.1, ()), ())))
        (some (.inr ((at1, ()), ())))))
    (some (.inl ((at1, ()), ())))
noncomputable def l95_12 (k : Nat) : Nat → T95_12
  | 0 => fun _ _ => none
  | j + 1 => b95_12 k (l95_12 k j)
noncomputable def f95 (k : Nat) : T95 := fun b0 at1 =>
  (l95_12 k k b0 at1).bind fun y1 =>
  match y1 with
  | .inl y1_0 =>
    some ((y1_0.1.1, ()), ())
  | .inr y1_1 =>
    some ((y1_1.1.1, ()), ())
noncomputable def C95 (k : Nat) : Nat → Fun := mkC [(137, (F137 (f137 k)))]
theorem c95_ok (k : Nat) : ∀ f, SoundFn Try.prog f (C95 k f) := (mkC_cons (s137 k) mkC_nil)
noncomputable def H95_6300 (k : Nat) : Nat → Option Cut := addH noH 6300 ⟨runCut (wrC (bodyOf (codeAt 6300 (bd Try.f95) 6300))) 38 [0, 1] pa95_6300 pw95_6300 (u95_6300 (l95_6300 k k))⟩
theorem e95_6300 (k : Nat) (rec : T95_6300) (x : (pa95_6300).C) : roundF (C95 k) tt noH (bodyOf (codeAt 6300 (bd Try.f95) 6300)) 12600 38 [0, 1] pa95_6300 pw95_6300 (u95_6300 rec) x = u95_6300 (b95_6300 k rec) x := by kernel_rfl
theorem h95_6300_ok (k : Nat) : ∀ p S, H95_6300 k p = some S → ∀ c, At (bd Try.f95) p c → CutOk Try.prog c S :=
  have hC := c95_ok k
  addLoop hC ttOk (draw_ok hC ttOk mixed) noH_ok (by kernel_rfl) (F := fun j => u95_6300 (l95_6300 k j)) (fun _ => rfl) (fun j x _ h => (e95_6300 k (l95_6300 k j) x).trans h) k
noncomputable def H95_12 (k : Nat) : Nat → Option Cut := addH (H95_6300 k) 12 ⟨runCut (wrC (bodyOf (codeAt 12 (bd Try.f95) 12))) 38 [0, 1] pa95_12 pw95_12 (u95_12 (l95_12 k k))⟩
theorem e95_12 (k : Nat) (rec : T95_12) (x : (pa95_12).C) : roundF (C95 k) tt (H95_6300 k) (bodyOf (codeAt 12 (bd Try.f95) 12)) 24 38 [0, 1] pa95_12 pw95_12 (u95_12 rec) x = u95_12 (b95_12 k rec) x := by kernel_rfl
theorem h95_12_ok (k : Nat) : ∀ p S, H95_12 k p = some S → ∀ c, At (bd Try.f95) p c → CutOk Try.prog c S :=
  have hC := c95_ok k
  addLoop hC ttOk (draw_ok hC ttOk mixed) (h95_6300_ok k) (by kernel_rfl) (F := fun j => u95_12 (l95_12 k j)) (fun _ => rfl) (fun j x _ h => (e95_12 k (l95_12 k j) x).trans h) k
theorem e95 (k : Nat) (x : (a95).C) : bodyR (C95 k) tt (H95_12 k) Try.f95 a95 o95 x = u95 (f95 k) x := by kernel_rfl
theorem s95 (k : Nat) : SoundFn Try.prog 95 (F95 (f95 k)) :=
  have hC := c95_ok k
  fnR_sound hC ttOk (draw_ok hC ttOk mixed) Try.func95 (c0 := bd Try.f95) rfl (entry Try.func95 rfl (by decide)) (h95_12_ok k) rfl (fun x _ h => (e95 k x).trans h)
/-! f96 fathom/lex.digit (R) -/
noncomputable def a96 : Shape := ⟨[.d (.int .u8)], []⟩
noncomputable def o96 : List Shape := [⟨[.d .bool], []⟩]
abbrev R96 : Type := ((Bool × Unit) × Unit)
abbrev T96 : Type := Int → Option R96
noncomputable def u96 (f : T96) : (a96).C → Option (OutC o96) := fun (x : ((Int × Unit) × Unit)) => f x.1.1
noncomputable def F96 (f : T96) : Fun := ⟨true, runR a96 o96 (u96 f)⟩
noncomputable def f96 (k : Nat) : T96 := fun c0 =>
  cond (decide (c0 ≥ 48))
    (some (((decide (c0 ≤ 57)), ()), ()))
    (some ((false, ()), ()))
noncomputable def C96 (k : Nat) : Nat → Fun := mkC []
theorem c96_ok (k : Nat) : ∀ f, SoundFn Try.prog f (C96 k f) := mkC_nil
theorem e96 (k : Nat) (x : (a96).C) : bodyR (C96 k) tt noH Try.f96 a96 o96 x = u96 (f96 k) x := by kernel_rfl
theorem s96 (k : Nat) : SoundFn Try.prog 96 (F96 (f96 k)) :=
  have hC := c96_ok k
  fnR_sound hC ttOk (draw_ok hC ttOk mixed) Try.func96 (c0 := bd Try.f96) rfl (entry Try.func96 rfl (by decide)) noH_ok rfl (fun x _ h => (e96 k x).trans h)
/-! f57 fathom/lex.letter (R) -/
noncomputable def a57 : Shape := ⟨[.d (.int .u8)], []⟩
noncomputable def o57 : List Shape := [⟨[.d .bool], []⟩]
abbrev R57 : Type := ((Bool × Unit) × Unit)
abbrev T57 : Type := Int → Option R57
noncomputable def u57 (f : T57) : (a57).C → Option (OutC o57) := fun (x : ((Int × Unit) × Unit)) => f x.1.1
noncomputable def F57 (f : T57) : Fun := ⟨true, runR a57 o57 (u57 f)⟩
noncomputable def f57 (k : Nat) : T57 := fun c0 =>
  cond (decide (c0 ≥ 97))
    (some (((decide (c0 ≤ 122)), ()), ()))
    (some ((false, ()), ()))
noncomputable def C57 (k : Nat) : Nat → Fun := mkC []
theorem c57_ok (k : Nat) : ∀ f, SoundFn Try.prog f (C57 k f) := mkC_nil
theorem e57 (k : Nat) (x : (a57).C) : bodyR (C57 k) tt noH Try.f57 a57 o57 x = u57 (f57 k) x := by kernel_rfl
theorem s57 (k : Nat) : SoundFn Try.prog 57 (F57 (f57 k)) :=
  have hC := c57_ok k
  fnR_sound hC ttOk (draw_ok hC ttOk mixed) Try.func57 (c0 := bd Try.f57) rfl (entry Try.func57 rfl (by decide)) noH_ok rfl (fun x _ h => (e57 k x).trans h)
/-! f97 fathom/lex.number (R) -/
noncomputable def a97 : Shape := ⟨[.d (.slice (.int .u8)), .d i64], []⟩
noncomputable def o97 : List Shape := [⟨[.d T_Token, .d i64], []⟩]
abbrev R97 : Type := ((D_Token × Int × Unit) × Unit)
abbrev T97 : Type := (List Int) → Int → Option R97
noncomputable def u97 (f : T97) : (a97).C → Option (OutC o97) := fun (x : (((List Int) × Int × Unit) × Unit)) => f x.1.1 x.1.2.1
noncomputable def F97 (f : T97) : Fun := ⟨true, runR a97 o97 (u97 f)⟩
noncomputable def pa97_998 : Shape := ⟨[.d i64], []⟩
noncomputable def pw97_998 : List Vm.Way := [⟨.normal, [59], ⟨[.d .bool], []⟩⟩]
abbrev R97_998 : Type := ((Bool × Unit) × Unit)
abbrev T97_998 : Type := Int → Option R97_998
noncomputable def u97_998 (f : T97_998) : (pa97_998).C → Option (WayC pw97_998) := fun (x : ((Int × Unit) × Unit)) => f x.1.1
noncomputable def l97_998 (k : Nat) : T97_998 := fun n7 =>
  some (((decide (n7 > 65535)), ()), ())
noncomputable def pa97_248 : Shape := ⟨[.d (.slice (.int .u8)), .d i64, .d i64], []⟩
noncomputable def pw97_248 : List Vm.Way := [⟨.normal, [32], ⟨[.d .bool], []⟩⟩]
abbrev R97_248 : Type := ((Bool × Unit) × Unit)
abbrev T97_248 : Type := (List Int) → Int → Int → Option R97_248
noncomputable def u97_248 (f : T97_248) : (pa97_248).C → Option (WayC pw97_248) := fun (x : (((List Int) × Int × Int × Unit) × Unit)) => f x.1.1 x.1.2.1 x.1.2.2.1
noncomputable def l97_248 (k : Nat) : T97_248 := fun b0 at1 end6 =>
  ix b0 at1 fun e1 =>
  cond (e1 == 48)
    (cond (decide (end6 > (w64 (at1 + 1))))
      (some ((true, ()), ()))
      (cond (decide (end6 < (b0.length : Int)))
        (ix b0 end6 fun e2 =>
        (f57 k e2).bind fun y3 =>
        some ((y3.1.1, ()), ()))
        (some ((false, ()), ()))))
    (cond (decide (end6 < (b0.length : Int)))
      (ix b0 end6 fun e4 =>
      (f57 k e4).bind fun y5 =>
      some ((y5.1.1, ()), ()))
      (some ((false, ()), ())))
noncomputable def pa97_60 : Shape := ⟨[.d (.slice (.int .u8)), .d i64, .d i64], []⟩
noncomputable def pw97_60 : List Vm.Way := [⟨.exit 0, [6, 7], ⟨[.d i64, .d i64], []⟩⟩]
abbrev R97_60 : Type := ((Int × Int × Unit) × Unit)
abbrev T97_60 : Type := (List Int) → Int → Int → Option R97_60
noncomputable def u97_60 (f : T97_60) : (pa97_60).C → Option (WayC pw97_60) := fun (x : (((List Int) × Int × Int × Unit) × Unit)) => f x.1.1 x.1.2.1 x.1.2.2.1
noncomputable def b97_60 (k : Nat) (rec : T97_60) : T97_60 := fun b0 end6 n7 =>
  cond (decide (end6 < (b0.length : Int)))
    (ix b0 end6 fun e1 =>
    (f96 k e1).bind fun y2 =>
    cond y2.1.1
      (ix b0 end6 fun e3 =>
      let v4 := minmax false 65536 (w64 ((w64 (10 * n7)) + (w64 ((IntKind.u8.wrap (e3 - 48))))))
      (rec b0 (w64 (end6 + 1)) v4).bind fun y5 =>
      some ((y5.1.1, y5.1.2.1, ()), ()))
      (some ((end6, n7, ()), ())))
    (some ((end6, n7, ()), ()))
noncomputable def l97_60 (k : Nat) : Nat → T97_60
  | 0 => fun _ _ _ => none
  | j + 1 => b97_60 k (l97_60 k j)
noncomputable def f97 (k : Nat) : T97 := fun b0 at1 =>
  (l97_60 k k b0 at1 0).bind fun y1 =>
  (l97_248 k b0 at1 y1.1.1).bind fun y2 =>
  cond y2.1.1
    (some (((0, at1, ByteArray.empty, 0, ()), 2, ()), ()))
    ((l97_998 k y1.1.2.1).bind fun y3 =>
    cond y3.1.1
      (some (((0, at1, ByteArray.empty, 0, ()), 3, ()), ()))
      (gd (decide (0 ≤ y1.1.1)) <|
      gd (decide (y1.1.1.toNat ≤ b0.length)) <|
      gd (decide (0 ≤ at1)) <|
      gd (decide (at1.toNat ≤ y1.1.1.toNat)) <|
      some (((2, at1, (strOfNums ((b0.take y1.1.1.toNat).drop at1.toNat)), y1.1.2.1, ()), 0, ()), ())))
noncomputable def C97 (k : Nat) : Nat → Fun := mkC [(57, (F57 (f57 k))), (96, (F96 (f96 k)))]
theorem c97_ok (k : Nat) : ∀ f, SoundFn Try.prog f (C97 k f) := (mkC_cons (s57 k) (mkC_cons (s96 k) mkC_nil))
noncomputable def H97_998 (k : Nat) : Nat → Option Cut := addH noH 998 ⟨runCut (wrC (codeAt 998 (bd Try.f97) 998)) 72 [7] pa97_998 pw97_998 (u97_998 (l97_998 k))⟩
theorem e97_998 (k : Nat) (x : (pa97_998).C) : pieceF (C97 k) tt noH (codeAt 998 (bd Try.f97) 998) 998 72 [7] pa97_998 pw97_998 x = u97_998 (l97_998 k) x := by kernel_rfl
theorem h97_998_ok (k : Nat) : ∀ p S, H97_998 k p = some S → ∀ c, At (bd Try.f97) p c → CutOk Try.prog c S :=
  have hC := c97_ok k
  addPiece hC ttOk (draw_ok hC ttOk mixed) noH_ok (fun x _ h => (e97_998 k x).trans h)
noncomputable def H97_248 (k : Nat) : Nat → Option Cut := addH (H97_998 k) 248 ⟨runCut (wrC (codeAt 248 (bd Try.f97) 248)) 72 [0, 1, 6] pa97_248 pw97_248 (u97_248 (l97_248 k))⟩
theorem e97_248 (k : Nat) (x : (pa97_248).C) : pieceF (C97 k) tt (H97_998 k) (codeAt 248 (bd Try.f97) 248) 248 72 [0, 1, 6] pa97_248 pw97_248 x = u97_248 (l97_248 k) x := by kernel_rfl
theorem h97_248_ok (k : Nat) : ∀ p S, H97_248 k p = some S → ∀ c, At (bd Try.f97) p c → CutOk Try.prog c S :=
  have hC := c97_ok k
  addPiece hC ttOk (draw_ok hC ttOk mixed) (h97_998_ok k) (fun x _ h => (e97_248 k x).trans h)
noncomputable def H97_60 (k : Nat) : Nat → Option Cut := addH (H97_248 k) 60 ⟨runCut (wrC (bodyOf (codeAt 60 (bd Try.f97) 60))) 72 [0, 6, 7] pa97_60 pw97_60 (u97_60 (l97_60 k k))⟩
theorem e97_60 (k : Nat) (rec : T97_60) (x : (pa97_60).C) : roundF (C97 k) tt (H97_248 k) (bodyOf (codeAt 60 (bd Try.f97) 60)) 120 72 [0, 6, 7] pa97_60 pw97_60 (u97_60 rec) x = u97_60 (b97_60 k rec) x := by kernel_rfl
theorem h97_60_ok (k : Nat) : ∀ p S, H97_60 k p = some S → ∀ c, At (bd Try.f97) p c → CutOk Try.prog c S :=
  have hC := c97_ok k
  addLoop hC ttOk (draw_ok hC ttOk mixed) (h97_248_ok k) (by kernel_rfl) (F := fun j => u97_60 (l97_60 k j)) (fun _ => rfl) (fun j x _ h => (e97_60 k (l97_60 k j) x).trans h) k
theorem e97 (k : Nat) (x : (a97).C) : bodyR (C97 k) tt (H97_60 k) Try.f97 a97 o97 x = u97 (f97 k) x := by kernel_rfl
theorem s97 (k : Nat) : SoundFn Try.prog 97 (F97 (f97 k)) :=
  have hC := c97_ok k
  fnR_sound hC ttOk (draw_ok hC ttOk mixed) Try.func97 (c0 := bd Try.f97) rfl (entry Try.func97 rfl (by decide)) (h97_60_ok k) rfl (fun x _ h => (e97 k x).trans h)


/-! f98 fathom/lex.sign (R) -/
noncomputable def a98 : Shape := ⟨[.d (.slice (.int .u8)), .d i64], []⟩
noncomputable def o98 : List Shape := [⟨[.d T_Token, .d i64], []⟩]
abbrev R98 : Type := ((D_Token × Int × Unit) × Unit)
abbrev T98 : Type := (List Int) → Int → Option R98
noncomputable def u98 (f : T98) : (a98).C → Option (OutC o98) := fun (x : (((List Int) × Int × Unit) × Unit)) => f x.1.1 x.1.2.1
noncomputable def F98 (f : T98) : Fun := ⟨true, runR a98 o98 (u98 f)⟩
noncomputable def pa98_106 : Shape := ⟨[.d .str], []⟩
noncomputable def pw98_106 : List Vm.Way := [⟨.normal, [31], ⟨[.d .bool], []⟩⟩]
abbrev R98_106 : Type := ((Bool × Unit) × Unit)
abbrev T98_106 : Type := ByteArray → Option R98_106
noncomputable def u98_106 (f : T98_106) : (pa98_106).C → Option (WayC pw98_106) := fun (x : ((ByteArray × Unit) × Unit)) => f x.1.1
noncomputable def l98_106 (k : Nat) : T98_106 := fun s6 =>
  ixs s6 0 fun c1 =>
  cond (c1 != 32)
    (ixs s6 1 fun c2 =>
    cond (c2 != 32)
      (gd (decide ((ByteArray.mk #[32]).size + s6.size ≤ 9223372036854775807)) <|
      gd (decide (((ByteArray.mk #[32]) ++ s6).size + (ByteArray.mk #[32]).size ≤ 9223372036854775807)) <|
      (f55 k s_22 (((ByteArray.mk #[32]) ++ s6) ++ (ByteArray.mk #[32]))).bind fun y3 =>
      some ((y3.1.1, ()), ()))
      (some ((false, ()), ())))
    (some ((false, ()), ()))
noncomputable def f98 (k : Nat) : T98 := fun b0 at1 =>
  cond (decide ((w64 (at1 + 2)) ≤ (b0.length : Int)))
    (gd (decide (0 ≤ (w64 (at1 + 2)))) <|
    gd (decide ((w64 (at1 + 2)).toNat ≤ b0.length)) <|
    gd (decide (0 ≤ at1)) <|
    gd (decide (at1.toNat ≤ (w64 (at1 + 2)).toNat)) <|
    (l98_106 k (strOfNums ((b0.take (w64 (at1 + 2)).toNat).drop at1.toNat))).bind fun y1 =>
    cond y1.1.1
      (some (((3, at1, (strOfNums ((b0.take (w64 (at1 + 2)).toNat).drop at1.toNat)), 0, ()), 0, ()), ()))
      (ix b0 at1 fun e2 =>
      (f54 k s_23 e2).bind fun y3 =>
      cond (decide (y3.1.1 < 0))
        (some (((0, at1, ByteArray.empty, 0, ()), 2, ()), ()))
        (gd (decide (0 ≤ (w64 (at1 + 1)))) <|
        gd (decide ((w64 (at1 + 1)).toNat ≤ b0.length)) <|
        gd (decide (0 ≤ at1)) <|
        gd (decide (at1.toNat ≤ (w64 (at1 + 1)).toNat)) <|
        some (((3, at1, (strOfNums ((b0.take (w64 (at1 + 1)).toNat).drop at1.toNat)), 0, ()), 0, ()), ()))))
    (ix b0 at1 fun e4 =>
    (f54 k s_23 e4).bind fun y5 =>
    cond (decide (y5.1.1 < 0))
      (some (((0, at1, ByteArray.empty, 0, ()), 2, ()), ()))
      (gd (decide (0 ≤ (w64 (at1 + 1)))) <|
      gd (decide ((w64 (at1 + 1)).toNat ≤ b0.length)) <|
      gd (decide (0 ≤ at1)) <|
      gd (decide (at1.toNat ≤ (w64 (at1 + 1)).toNat)) <|
      some (((3, at1, (strOfNums ((b0.take (w64 (at1 + 1)).toNat).drop at1.toNat)), 0, ()), 0, ()), ())))
noncomputable def C98 (k : Nat) : Nat → Fun := mkC [(54, (F54 (f54 k))), (55, (F55 (f55 k)))]
theorem c98_ok (k : Nat) : ∀ f, SoundFn Try.prog f (C98 k f) := (mkC_cons (s54 k) (mkC_cons (s55 k) mkC_nil))
noncomputable def H98_106 (k : Nat) : Nat → Option Cut := addH noH 106 ⟨runCut (wrC (codeAt 106 (bd Try.f98) 106)) 51 [6] pa98_106 pw98_106 (u98_106 (l98_106 k))⟩
theorem e98_106 (k : Nat) (x : (pa98_106).C) : pieceF (C98 k) tt noH (codeAt 106 (bd Try.f98) 106) 106 51 [6] pa98_106 pw98_106 x = u98_106 (l98_106 k) x := by kernel_rfl
theorem h98_106_ok (k : Nat) : ∀ p S, H98_106 k p = some S → ∀ c, At (bd Try.f98) p c → CutOk Try.prog c S :=
  have hC := c98_ok k
  addPiece hC ttOk (draw_ok hC ttOk mixed) noH_ok (fun x _ h => (e98_106 k x).trans h)
theorem e98 (k : Nat) (x : (a98).C) : bodyR (C98 k) tt (H98_106 k) Try.f98 a98 o98 x = u98 (f98 k) x := by kernel_rfl
theorem s98 (k : Nat) : SoundFn Try.prog 98 (F98 (f98 k)) :=
  have hC := c98_ok k
  fnR_sound hC ttOk (draw_ok hC ttOk mixed) Try.func98 (c0 := bd Try.f98) rfl (entry Try.func98 rfl (by decide)) (h98_106_ok k) rfl (fun x _ h => (e98 k x).trans h)
/-! f58 fathom/lex.run (R) -/
noncomputable def a58 : Shape := ⟨[.d (.slice (.int .u8)), .d i64], []⟩
noncomputable def o58 : List Shape := [⟨[.d i64], []⟩]
abbrev R58 : Type := ((Int × Unit) × Unit)
abbrev T58 : Type := (List Int) → Int → Option R58
noncomputable def u58 (f : T58) : (a58).C → Option (OutC o58) := fun (x : (((List Int) × Int × Unit) × Unit)) => f x.1.1 x.1.2.1
noncomputable def F58 (f : T58) : Fun := ⟨true, runR a58 o58 (u58 f)⟩
noncomputable def pa58_12 : Shape := ⟨[.d (.slice (.int .u8)), .d i64], []⟩
noncomputable def pw58_12 : List Vm.Way := [⟨.exit 0, [1], ⟨[.d i64], []⟩⟩]
abbrev R58_12 : Type := ((Int × Unit) × Unit)
abbrev T58_12 : Type := (List Int) → Int → Option R58_12
noncomputable def u58_12 (f : T58_12) : (pa58_12).C → Option (WayC pw58_12) := fun (x : (((List Int) × Int × Unit) × Unit)) => f x.1.1 x.1.2.1
noncomputable def b58_12 (k : Nat) (rec : T58_12) : T58_12 := fun b0 at1 =>
  cond (decide (at1 < (b0.length : Int)))
    (ix b0 at1 fun e1 =>
    (f57 k e1).bind fun y2 =>
    cond y2.1.1
      ((rec b0 (w64 (at1 + 1))).bind fun y3 =>
      some ((y3.1.1, ()), ()))
      (ix b0 at1 fun e4 =>
      (f96 k e4).bind fun y5 =>
      cond y5.1.1
        ((rec b0 (w64 (at1 + 1))).bind fun y6 =>
        some ((y6.1.1, ()), ()))
        (some ((at1, ()), ()))))
    (some ((at1, ()), ()))
noncomputable def l58_12 (k : Nat) : Nat → T58_12
  | 0 => fun _ _ => none
  | j + 1 => b58_12 k (l58_12 k j)
noncomputable def f58 (k : Nat) : T58 := fun b0 at1 =>
  (l58_12 k k b0 at1).bind fun y1 =>
  some ((y1.1.1, ()), ())
noncomputable def C58 (k : Nat) : Nat → Fun := mkC [(57, (F57 (f57 k))), (96, (F96 (f96 k)))]
theorem c58_ok (k : Nat) : ∀ f, SoundFn Try.prog f (C58 k f) := (mkC_cons (s57 k) (mkC_cons (s96 k) mkC_nil))
noncomputable def H58_12 (k : Nat) : Nat → Option Cut := addH noH 12 ⟨runCut (wrC (bodyOf (codeAt 12 (bd Try.f58) 12))) 26 [0, 1] pa58_12 pw58_12 (u58_12 (l58_12 k k))⟩
theorem e58_12 (k : Nat) (rec : T58_12) (x : (pa58_12).C) : roundF (C58 k) tt noH (bodyOf (codeAt 12 (bd Try.f58) 12)) 24 26 [0, 1] pa58_12 pw58_12 (u58_12 rec) x = u58_12 (b58_12 k rec) x := by kernel_rfl
theorem h58_12_ok (k : Nat) : ∀ p S, H58_12 k p = some S → ∀ c, At (bd Try.f58) p c → CutOk Try.prog c S :=
  have hC := c58_ok k
  addLoop hC ttOk (draw_ok hC ttOk mixed) noH_ok (by kernel_rfl) (F := fun j => u58_12 (l58_12 k j)) (fun _ => rfl) (fun j x _ h => (e58_12 k (l58_12 k j) x).trans h) k
theorem e58 (k : Nat) (x : (a58).C) : bodyR (C58 k) tt (H58_12 k) Try.f58 a58 o58 x = u58 (f58 k) x := by kernel_rfl
theorem s58 (k : Nat) : SoundFn Try.prog 58 (F58 (f58 k)) :=
  have hC := c58_ok k
  fnR_sound hC ttOk (draw_ok hC ttOk mixed) Try.func58 (c0 := bd Try.f58) rfl (entry Try.func58 rfl (by decide)) (h58_12_ok k) rfl (fun x _ h => (e58 k x).trans h)
/-! f53 fathom/lex.Next (R) -/
noncomputable def a53 : Shape := ⟨[.d (.slice (.int .u8)), .d i64], []⟩
noncomputable def o53 : List Shape := [⟨[.d T_Token, .d i64], []⟩]
abbrev R53 : Type := ((D_Token × Int × Unit) × Unit)
abbrev T53 : Type := (List Int) → Int → Option R53
noncomputable def u53 (f : T53) : (a53).C → Option (OutC o53) := fun (x : (((List Int) × Int × Unit) × Unit)) => f x.1.1 x.1.2.1
noncomputable def F53 (f : T53) : Fun := ⟨true, runR a53 o53 (u53 f)⟩
noncomputable def f53 (k : Nat) : T53 := fun b0 at1 =>
  cond (decide (at1 < 0))
    (some (((0, 0, ByteArray.empty, 0, ()), 1, ()), ()))
    (cond (decide (at1 > (b0.length : Int)))
      (some (((0, 0, ByteArray.empty, 0, ()), 1, ()), ()))
      ((f95 k b0 at1).bind fun y1 =>
      cond (y1.1.1 == (b0.length : Int))
        (some (((4, y1.1.1, ByteArray.empty, 0, ()), 0, ()), ()))
        (ix b0 y1.1.1 fun e2 =>
        (f96 k e2).bind fun y3 =>
        cond y3.1.1
          ((f97 k b0 y1.1.1).bind fun y4 =>
          some ((y4.1.1, y4.1.2.1, ()), ()))
          (ix b0 y1.1.1 fun e5 =>
          (f57 k e5).bind fun y6 =>
          cond (!y6.1.1)
            ((f98 k b0 y1.1.1).bind fun y7 =>
            some ((y7.1.1, y7.1.2.1, ()), ()))
            ((f58 k b0 y1.1.1).bind fun y8 =>
            cond (decide ((w64 (y8.1.1 - y1.1.1)) > 12))
              (some (((0, y1.1.1, ByteArray.empty, 0, ()), 3, ()), ()))
              (gd (decide (0 ≤ y8.1.1)) <|
              gd (decide (y8.1.1.toNat ≤ b0.length)) <|
              gd (decide (0 ≤ y1.1.1)) <|
              gd (decide (y1.1.1.toNat ≤ y8.1.1.toNat)) <|
              some (((1, y1.1.1, (strOfNums ((b0.take y8.1.1.toNat).drop y1.1.1.toNat)), 0, ()), 0, ()), ())))))))
noncomputable def C53 (k : Nat) : Nat → Fun := mkC [(57, (F57 (f57 k))), (58, (F58 (f58 k))), (95, (F95 (f95 k))), (96, (F96 (f96 k))), (97, (F97 (f97 k))), (98, (F98 (f98 k)))]
theorem c53_ok (k : Nat) : ∀ f, SoundFn Try.prog f (C53 k f) := (mkC_cons (s57 k) (mkC_cons (s58 k) (mkC_cons (s95 k) (mkC_cons (s96 k) (mkC_cons (s97 k) (mkC_cons (s98 k) mkC_nil))))))
theorem e53 (k : Nat) (x : (a53).C) : bodyR (C53 k) tt noH Try.f53 a53 o53 x = u53 (f53 k) x := by kernel_rfl
theorem s53 (k : Nat) : SoundFn Try.prog 53 (F53 (f53 k)) :=
  have hC := c53_ok k
  fnR_sound hC ttOk (draw_ok hC ttOk mixed) Try.func53 (c0 := bd Try.f53) rfl (entry Try.func53 rfl (by decide)) noH_ok rfl (fun x _ h => (e53 k x).trans h)
/-! f15 fathom/lex.All (R) -/
noncomputable def a15 : Shape := ⟨[.d (.slice (.int .u8))], []⟩
noncomputable def o15 : List Shape := [⟨[.d (.slice T_Token), .d i64, .d i64], []⟩]
abbrev R15 : Type := (((List D_Token) × Int × Int × Unit) × Unit)
abbrev T15 : Type := (List Int) → Option R15
noncomputable def u15 (f : T15) : (a15).C → Option (OutC o15) := fun (x : (((List Int) × Unit) × Unit)) => f x.1.1
noncomputable def F15 (f : T15) : Fun := ⟨true, runR a15 o15 (u15 f)⟩
noncomputable def pa15_62 : Shape := ⟨[.d (.slice (.int .u8)), .own T_Token, .d i64], []⟩
noncomputable def pw15_62 : List Vm.Way := [⟨.ret, [2, 3, 4], ⟨[.own T_Token, .d i64, .d i64], []⟩⟩]
abbrev R15_62 : Type := (((List D_Token) × Int × Int × Unit) × Unit)
abbrev T15_62 : Type := (List Int) → (List D_Token) → Int → Option R15_62
noncomputable def u15_62 (f : T15_62) : (pa15_62).C → Option (WayC pw15_62) := fun (x : (((List Int) × (List D_Token) × Int × Unit) × Unit)) => f x.1.1 x.1.2.1 x.1.2.2.1
noncomputable def b15_62 (k : Nat) (rec : T15_62) : T15_62 := fun b0 l5 at6 =>
  (f53 k b0 at6).bind fun y1 =>
  cond (y1.1.2.1 != 0)
    (some (([], y1.1.1.2.1, y1.1.2.1, ()), ()))
    (cond ((l5.length : Int) == 8192)
      (some (([], y1.1.1.2.1, 3, ()), ()))
      (gd (decide ((l5.length + 1) * 40 ≤ room)) <|
      cond (y1.1.1.1 == 4)
        (some (((l5 ++ ([y1.1.1] : List D_Token)), 0, 0, ()), ()))
        ((rec b0 (l5 ++ ([y1.1.1] : List D_Token)) (w64 (y1.1.1.2.1 + (y1.1.1.2.2.1.size : Int)))).bind fun y2 =>
        some ((y2.1.1, y2.1.2.1, y2.1.2.2.1, ()), ()))))
noncomputable def l15_62 (k : Nat) : Nat → T15_62
  | 0 => fun _ _ _ => none
  | j + 1 => b15_62 k (l15_62 k j)
noncomputable def f15 (k : Nat) : T15 := fun b0 =>
  cond (decide ((b0.length : Int) > 32768))
    (some (([], 0, 3, ()), ()))
    ((l15_62 k k b0 [] 0).bind fun y1 =>
    some ((y1.1.1, y1.1.2.1, y1.1.2.2.1, ()), ()))
noncomputable def C15 (k : Nat) : Nat → Fun := mkC [(53, (F53 (f53 k)))]
theorem c15_ok (k : Nat) : ∀ f, SoundFn Try.prog f (C15 k f) := (mkC_cons (s53 k) mkC_nil)
noncomputable def H15_62 (k : Nat) : Nat → Option Cut := addH noH 62 ⟨runCut (wrC (bodyOf (codeAt 62 (bd Try.f15) 62))) 44 [0, 5, 6] pa15_62 pw15_62 (u15_62 (l15_62 k k))⟩
theorem e15_62 (k : Nat) (rec : T15_62) (x : (pa15_62).C) : roundF (C15 k) tt noH (bodyOf (codeAt 62 (bd Try.f15) 62)) 124 44 [0, 5, 6] pa15_62 pw15_62 (u15_62 rec) x = u15_62 (b15_62 k rec) x := by kernel_rfl
theorem h15_62_ok (k : Nat) : ∀ p S, H15_62 k p = some S → ∀ c, At (bd Try.f15) p c → CutOk Try.prog c S :=
  have hC := c15_ok k
  addLoop hC ttOk (draw_ok hC ttOk mixed) noH_ok (by kernel_rfl) (F := fun j => u15_62 (l15_62 k j)) (fun _ => rfl) (fun j x _ h => (e15_62 k (l15_62 k j) x).trans h) k
theorem e15 (k : Nat) (x : (a15).C) : bodyR (C15 k) tt (H15_62 k) Try.f15 a15 o15 x = u15 (f15 k) x := by kernel_rfl
theorem s15 (k : Nat) : SoundFn Try.prog 15 (F15 (f15 k)) :=
  have hC := c15_ok k
  fnR_sound hC ttOk (draw_ok hC ttOk mixed) Try.func15 (c0 := bd Try.f15) rfl (entry Try.func15 rfl (by decide)) (h15_62_ok k) rfl (fun x _ h => (e15 k x).trans h)
/-! f14 fathom/fathomlaw20.awake (R) -/
noncomputable def a14 : Shape := ⟨[], []⟩
noncomputable def o14 : List Shape := [⟨[.d .bool], []⟩]
abbrev R14 : Type := ((Bool × Unit) × Unit)
abbrev T14 : Type := Unit → Option R14
noncomputable def u14 (f : T14) : (a14).C → Option (OutC o14) := fun (x : (Unit × Unit)) => f ()
noncomputable def F14 (f : T14) : Fun := ⟨true, runR a14 o14 (u14 f)⟩
noncomputable def f14 (k : Nat) : T14 := fun _ =>
  (f15 k [97, 60, 61, 49, 50]).bind fun y1 =>
  cond (y1.1.2.2.1 == 0)
    (cond (y1.1.2.1 == 0)
      (cond ((y1.1.1.length : Int) == 4)
        (ix y1.1.1 1 fun e2 =>
        cond (e2.2.2.1.toList == (ByteArray.mk #[60, 61]).toList)
          (ix y1.1.1 2 fun e3 =>
          cond (e3.2.2.2.1 == 12)
            (ix y1.1.1 3 fun e4 =>
            some (((e4.1 == 4), ()), ()))
            (some ((false, ()), ())))
          (some ((false, ()), ())))
        (some ((false, ()), ())))
      (some ((false, ()), ())))
    (some ((false, ()), ()))
noncomputable def C14 (k : Nat) : Nat → Fun := mkC [(15, (F15 (f15 k)))]
theorem c14_ok (k : Nat) : ∀ f, SoundFn Try.prog f (C14 k f) := (mkC_cons (s15 k) mkC_nil)
theorem e14 (k : Nat) (x : (a14).C) : bodyR (C14 k) tt noH Try.f14 a14 o14 x = u14 (f14 k) x := by kernel_rfl
theorem s14 (k : Nat) : SoundFn Try.prog 14 (F14 (f14 k)) :=
  have hC := c14_ok k
  fnR_sound hC ttOk (draw_ok hC ttOk mixed) Try.func14 (c0 := bd Try.f14) rfl (entry Try.func14 rfl (by decide)) noH_ok rfl (fun x _ h => (e14 k x).trans h)
/-! f16 fathom/fathomref20.Start (R) -/
noncomputable def a16 : Shape := ⟨[.d (.slice (.int .u8)), .d i64], []⟩
noncomputable def o16 : List Shape := [⟨[.d i64], []⟩]
abbrev R16 : Type := ((Int × Unit) × Unit)
abbrev T16 : Type := (List Int) → Int → Option R16
noncomputable def u16 (f : T16) : (a16).C → Option (OutC o16) := fun (x : (((List Int) × Int × Unit) × Unit)) => f x.1.1 x.1.2.1
noncomputable def F16 (f : T16) : Fun := ⟨true, runR a16 o16 (u16 f)⟩
noncomputable def pa16_7260 : Shape := ⟨[.d .bool, .d (.int .u8)], []⟩
noncomputable def pw16_7260 : List Vm.Way := [⟨.normal, [36], ⟨[.d .bool], []⟩⟩]
abbrev R16_7260 : Type := ((Bool × Unit) × Unit)
abbrev T16_7260 : Type := Bool → Int → Option R16_7260
noncomputable def u16_7260 (f : T16_7260) : (pa16_7260).C → Option (WayC pw16_7260) := fun (x : ((Bool × Int × Unit) × Unit)) => f x.1.1 x.1.2.1
noncomputable def l16_7260 (k : Nat) : T16_7260 := fun note5 c6 =>
  cond (!note5)
    (cond (c6 != 32)
      (cond (c6 != 9)
        (cond (c6 != 10)
          (some (((c6 != 13), ()), ()))
          (some ((false, ()), ())))
        (some ((false, ()), ())))
      (some ((false, ()), ())))
    (some ((false, ()), ()))
noncomputable def pa16_3628 : Shape := ⟨[.d (.int .u8)], []⟩
noncomputable def pw16_3628 : List Vm.Way := [⟨.normal, [18], ⟨[.d .bool], []⟩⟩]
abbrev R16_3628 : Type := ((Bool × Unit) × Unit)
abbrev T16_3628 : Type := Int → Option R16_3628
noncomputable def u16_3628 (f : T16_3628) : (pa16_3628).C → Option (WayC pw16_3628) := fun (x : ((Int × Unit) × Unit)) => f x.1.1
noncomputable def l16_3628 (k : Nat) : T16_3628 := fun c6 =>
  some (((c6 == 10), ()), ())
noncomputable def pa16_1814 : Shape := ⟨[.d .bool, .d (.int .u8)], []⟩
noncomputable def pw16_1814 : List Vm.Way := [⟨.normal, [5], ⟨[.d .bool], []⟩⟩]
abbrev R16_1814 : Type := ((Bool × Unit) × Unit)
abbrev T16_1814 : Type := Bool → Int → Option R16_1814
noncomputable def u16_1814 (f : T16_1814) : (pa16_1814).C → Option (WayC pw16_1814) := fun (x : ((Bool × Int × Unit) × Unit)) => f x.1.1 x.1.2.1
noncomputable def l16_1814 (k : Nat) : T16_1814 := fun note5 c6 =>
  (l16_3628 k c6).bind fun y1 =>
  cond y1.1.1
    (some ((false, ()), ()))
    (some ((note5, ()), ()))
noncomputable def pa16_28 : Shape := ⟨[.d (.slice (.int .u8)), .d i64, .d .bool], []⟩
noncomputable def pw16_28 : List Vm.Way := [⟨.exit 0, [1], ⟨[.d i64], []⟩⟩, ⟨.ret, [4], ⟨[.d i64], []⟩⟩]
abbrev R16_28 : Type := (((Int × Unit) × Unit) ⊕ ((Int × Unit) × Unit))
abbrev T16_28 : Type := (List Int) → Int → Bool → Option R16_28
noncomputable def u16_28 (f : T16_28) : (pa16_28).C → Option (WayC pw16_28) := fun (x : (((List Int) × Int × Bool × Unit) × Unit)) => f x.1.1 x.1.2.1 x.1.2.2.1
noncomputable def b16_28 (k : Nat) (rec : T16_28) : T16_28 := fun b0 at1 note5 =>
  cond (decide (at1 < (b0.length : Int)))
    (ix b0 at1 fun e1 =>
    cond (e1 == 35)
      ((l16_1814 k true e1).bind fun y2 =>
      (l16_7260 k y2.1.1 e1).bind fun y3 =>
      cond y3.1.1
        (some (.inr ((at1, ()), ())))
        ((rec b0 (w64 (at1 + 1)) y2.1.1).bind fun y4 =>
        match y4 with
        | .inl y4_0 =>
          some (.inl ((y4_0.1.1, ()), ()))
        | .inr y4_1 =>
          some (.inr ((y4_1.1.1, ()), ()))))
      ((l16_1814 k note5 e1).bind fun y5 =>
      (l16_7260 k y5.1.1 e1).bind fun y6 =>
      cond y6.1.1
        (some (.inr ((at1, ()), ())))
        ((rec b0 (w64 (at1 + 1)) y5.1.1).bind fun y7 =>
        match y7 with
        | .inl y7_0 =>
          some (.inl ((y7_0.1.1, ()), ()))
        | .inr y7_1 =>
          some (.inr ((y7_1.1.1, ()), ())))))
    (some (.inl ((at1, ()), ())))
noncomputable def l16_28 (k : Nat) : Nat → T16_28
  | 0 => fun _ _ _ => none
  | j + 1 => b16_28 k (l16_28 k j)
noncomputable def f16 (k : Nat) : T16 := fun b0 at1 =>
  (l16_28 k k b0 at1 false).bind fun y1 =>
  match y1 with
  | .inl y1_0 =>
    some ((y1_0.1.1, ()), ())
  | .inr y1_1 =>
    some ((y1_1.1.1, ()), ())
noncomputable def C16 (k : Nat) : Nat → Fun := mkC []
theorem c16_ok (k : Nat) : ∀ f, SoundFn Try.prog f (C16 k f) := mkC_nil
noncomputable def H16_7260 (k : Nat) : Nat → Option Cut := addH noH 7260 ⟨runCut (wrC (codeAt 7260 (bd Try.f16) 7260)) 41 [5, 6] pa16_7260 pw16_7260 (u16_7260 (l16_7260 k))⟩
theorem e16_7260 (k : Nat) (x : (pa16_7260).C) : pieceF (C16 k) tt noH (codeAt 7260 (bd Try.f16) 7260) 7260 41 [5, 6] pa16_7260 pw16_7260 x = u16_7260 (l16_7260 k) x := by kernel_rfl
theorem h16_7260_ok (k : Nat) : ∀ p S, H16_7260 k p = some S → ∀ c, At (bd Try.f16) p c → CutOk Try.prog c S :=
  have hC := c16_ok k
  addPiece hC ttOk (draw_ok hC ttOk mixed) noH_ok (fun x _ h => (e16_7260 k x).trans h)
noncomputable def H16_3628 (k : Nat) : Nat → Option Cut := addH (H16_7260 k) 3628 ⟨runCut (wrC (codeAt 3628 (bd Try.f16) 3628)) 41 [6] pa16_3628 pw16_3628 (u16_3628 (l16_3628 k))⟩
theorem e16_3628 (k : Nat) (x : (pa16_3628).C) : pieceF (C16 k) tt (H16_7260 k) (codeAt 3628 (bd Try.f16) 3628) 3628 41 [6] pa16_3628 pw16_3628 x = u16_3628 (l16_3628 k) x := by kernel_rfl
theorem h16_3628_ok (k : Nat) : ∀ p S, H16_3628 k p = some S → ∀ c, At (bd Try.f16) p c → CutOk Try.prog c S :=
  have hC := c16_ok k
  addPiece hC ttOk (draw_ok hC ttOk mixed) (h16_7260_ok k) (fun x _ h => (e16_3628 k x).trans h)
noncomputable def H16_1814 (k : Nat) : Nat → Option Cut := addH (H16_3628 k) 1814 ⟨runCut (wrC (codeAt 1814 (bd Try.f16) 1814)) 41 [5, 6] pa16_1814 pw16_1814 (u16_1814 (l16_1814 k))⟩
theorem e16_1814 (k : Nat) (x : (pa16_1814).C) : pieceF (C16 k) tt (H16_3628 k) (codeAt 1814 (bd Try.f16) 1814) 1814 41 [5, 6] pa16_1814 pw16_1814 x = u16_1814 (l16_1814 k) x := by kernel_rfl
theorem h16_1814_ok (k : Nat) : ∀ p S, H16_1814 k p = some S → ∀ c, At (bd Try.f16) p c → CutOk Try.prog c S :=
  have hC := c16_ok k
  addPiece hC ttOk (draw_ok hC ttOk mixed) (h16_3628_ok k) (fun x _ h => (e16_1814 k x).trans h)
noncomputable def H16_28 (k : Nat) : Nat → Option Cut := addH (H16_1814 k) 28 ⟨runCut (wrC (bodyOf (codeAt 28 (bd Try.f16) 28))) 41 [0, 1, 5] pa16_28 pw16_28 (u16_28 (l16_28 k k))⟩
theorem e16_28 (k : Nat) (rec : T16_28) (x : (pa16_28).C) : roundF (C16 k) tt (H16_1814 k) (bodyOf (codeAt 28 (bd Try.f16) 28)) 56 41 [0, 1, 5] pa16_28 pw16_28 (u16_28 rec) x = u16_28 (b16_28 k rec) x := by kernel_rfl
theorem h16_28_ok (k : Nat) : ∀ p S, H16_28 k p = some S → ∀ c, At (bd Try.f16) p c → CutOk Try.prog c S :=
  have hC := c16_ok k
  addLoop hC ttOk (draw_ok hC ttOk mixed) (h16_1814_ok k) (by kernel_rfl) (F := fun j => u16_28 (l16_28 k j)) (fun _ => rfl) (fun j x _ h => (e16_28 k (l16_28 k j) x).trans h) k
theorem e16 (k : Nat) (x : (a16).C) : bodyR (C16 k) tt (H16_28 k) Try.f16 a16 o16 x = u16 (f16 k) x := by kernel_rfl
theorem s16 (k : Nat) : SoundFn Try.prog 16 (F16 (f16 k)) :=
  have hC := c16_ok k
  fnR_sound hC ttOk (draw_ok hC ttOk mixed) Try.func16 (c0 := bd Try.f16) rfl (entry Try.func16 rfl (by decide)) (h16_28_ok k) rfl (fun x _ h => (e16 k x).trans h)
/-! f3 fathom/fathomlaw20.LexCovers (R) -/
noncomputable def a3 : Shape := ⟨[.d (.slice (.int .u8))], []⟩
noncomputable def o3 : List Shape := [⟨[.d .bool], []⟩]
abbrev R3 : Type := ((Bool × Unit) × Unit)
abbrev T3 : Type := (List Int) → Option R3
noncomputable def u3 (f : T3) : (a3).C → Option (OutC o3) := fun (x : (((List Int) × Unit) × Unit)) => f x.1.1
noncomputable def F3 (f : T3) : Fun := ⟨true, runR a3 o3 (u3 f)⟩
noncomputable def pa3_8186 : Shape := ⟨[.d (.slice T_Token), .d (.slice T_Token), .d i64], []⟩
noncomputable def pw3_8186 : List Vm.Way := [⟨.exit 2, [], ⟨[], []⟩⟩, ⟨.ret, [2], ⟨[.d .bool], []⟩⟩]
abbrev R3_8186 : Type := ((Unit × Unit) ⊕ ((Bool × Unit) × Unit))
abbrev T3_8186 : Type := (List D_Token) → (List D_Token) → Int → Option R3_8186
noncomputable def u3_8186 (f : T3_8186) : (pa3_8186).C → Option (WayC pw3_8186) := fun (x : (((List D_Token) × (List D_Token) × Int × Unit) × Unit)) => f x.1.1 x.1.2.1 x.1.2.2.1
noncomputable def b3_8186 (k : Nat) (rec : T3_8186) : T3_8186 := fun l3 m10 i13 =>
  cond (decide (i13 < (l3.length : Int)))
    (ix m10 i13 fun e1 =>
    ix l3 i13 fun e2 =>
    cond (e1.1 != e2.1)
      (some (.inr ((false, ()), ())))
      (ix m10 i13 fun e3 =>
      ix l3 i13 fun e4 =>
      cond (!(e3.2.2.1.toList == e4.2.2.1.toList))
        (some (.inr ((false, ()), ())))
        (ix m10 i13 fun e5 =>
        ix l3 i13 fun e6 =>
        cond (e5.2.2.2.1 != e6.2.2.2.1)
          (some (.inr ((false, ()), ())))
          ((rec l3 m10 (w64 (i13 + 1))).bind fun y7 =>
          match y7 with
          | .inl y7_0 =>
            some (.inl ((), ()))
          | .inr y7_1 =>
            some (.inr ((y7_1.1.1, ()), ()))))))
    (some (.inl ((), ())))
noncomputable def l3_8186 (k : Nat) : Nat → T3_8186
  | 0 => fun _ _ _ => none
  | j + 1 => b3_8186 k (l3_8186 k j)
noncomputable def pa3_1018 : Shape := ⟨[.d (.slice (.int .u8)), .d (.slice T_Token), .d i64, .own (.int .u8), .d i64], []⟩
noncomputable def pw3_1018 : List Vm.Way := [⟨.exit 0, [6, 7], ⟨[.d i64, .own (.int .u8)], []⟩⟩, ⟨.ret, [2], ⟨[.d .bool], []⟩⟩]
abbrev R3_1018 : Type := (((Int × (List Int) × Unit) × Unit) ⊕ ((Bool × Unit) × Unit))
abbrev T3_1018 : Type := (List Int) → (List D_Token) → Int → (List Int) → Int → Option R3_1018
noncomputable def u3_1018 (f : T3_1018) : (pa3_1018).C → Option (WayC pw3_1018) := fun (x : (((List Int) × (List D_Token) × Int × (List Int) × Int × Unit) × Unit)) => f x.1.1 x.1.2.1 x.1.2.2.1 x.1.2.2.2.1 x.1.2.2.2.2.1
noncomputable def b3_1018 (k : Nat) (rec : T3_1018) : T3_1018 := fun b0 l3 at6 again7 i8 =>
  cond (decide (i8 < (l3.length : Int)))
    (ix l3 i8 fun e1 =>
    cond (decide (e1.2.1 < at6))
      (some (.inr ((false, ()), ())))
      (cond (decide ((w64 (e1.2.1 + (e1.2.2.1.size : Int))) > (b0.length : Int)))
        (some (.inr ((false, ()), ())))
        (gd (decide (0 ≤ (w64 (e1.2.1 + (e1.2.2.1.size : Int))))) <|
        gd (decide ((w64 (e1.2.1 + (e1.2.2.1.size : Int))).toNat ≤ b0.length)) <|
        gd (decide (0 ≤ e1.2.1)) <|
        gd (decide (e1.2.1.toNat ≤ (w64 (e1.2.1 + (e1.2.2.1.size : Int))).toNat)) <|
        let v2 := strOfNums ((b0.take (w64 (e1.2.1 + (e1.2.2.1.size : Int))).toNat).drop e1.2.1.toNat)
        cond (!(v2.toList == e1.2.2.1.toList))
          (some (.inr ((false, ()), ())))
          ((f16 k b0 at6).bind fun y3 =>
          cond (y3.1.1 != e1.2.1)
            (some (.inr ((false, ()), ())))
            (gd (decide ((again7.length + 1) * 1 ≤ room)) <|
            gd (decide (((again7 ++ ([32] : List Int)).length + (bytesD e1.2.2.1).length) * 1 ≤ room)) <|
            (rec b0 l3 (w64 (e1.2.1 + (e1.2.2.1.size : Int))) ((again7 ++ ([32] : List Int)) ++ (bytesD e1.2.2.1)) (w64 (i8 + 1))).bind fun y4 =>
            match y4 with
            | .inl y4_0 =>
              some (.inl ((y4_0.1.1, y4_0.1.2.1, ()), ()))
            | .inr y4_1 =>
              some (.inr ((y4_1.1.1, ()), ())))))))
    (some (.inl ((at6, again7, ()), ())))
noncomputable def l3_1018 (k : Nat) : Nat → T3_1018
  | 0 => fun _ _ _ _ _ => none
  | j + 1 => b3_1018 k (l3_1018 k j)
noncomputable def f3 (k : Nat) : T3 := fun b0 =>
  cond (decide ((b0.length : Int) > 3000))
    ((f14 k ()).bind fun y1 =>
    some ((y1.1.1, ()), ()))
    (gd (decide ((0 + b0.length) * 1 ≤ room)) <|
    (f15 k (([] : List Int) ++ b0)).bind fun y2 =>
    cond (y2.1.2.2.1 != 0)
      ((f14 k ()).bind fun y3 =>
      some ((y3.1.1, ()), ()))
      ((l3_1018 k k b0 y2.1.1 0 [] 0).bind fun y4 =>
      match y4 with
      | .inl y4_0 =>
        (f15 k y4_0.1.2.1).bind fun y5 =>
        cond (y5.1.2.2.1 != 0)
          (some ((false, ()), ()))
          (cond ((y5.1.1.length : Int) != (y2.1.1.length : Int))
            (some ((false, ()), ()))
            (cond (y4_0.1.1 != (b0.length : Int))
              (some ((false, ()), ()))
              ((l3_8186 k k y2.1.1 y5.1.1 0).bind fun y6 =>
              match y6 with
              | .inl y6_0 =>
                (f14 k ()).bind fun y7 =>
                some ((y7.1.1, ()), ())
              | .inr y6_1 =>
                some ((y6_1.1.1, ()), ()))))
      | .inr y4_1 =>
        some ((y4_1.1.1, ()), ())))
noncomputable def C3 (k : Nat) : Nat → Fun := mkC [(14, (F14 (f14 k))), (15, (F15 (f15 k))), (16, (F16 (f16 k)))]
theorem c3_ok (k : Nat) : ∀ f, SoundFn Try.prog f (C3 k f) := (mkC_cons (s14 k) (mkC_cons (s15 k) (mkC_cons (s16 k) mkC_nil)))
noncomputable def H3_8186 (k : Nat) : Nat → Option Cut := addH noH 8186 ⟨runCut (wrC (bodyOf (codeAt 8186 (bd Try.f3) 8186))) 156 [3, 10, 13] pa3_8186 pw3_8186 (u3_8186 (l3_8186 k k))⟩
theorem e3_8186 (k : Nat) (rec : T3_8186) (x : (pa3_8186).C) : roundF (C3 k) tt noH (bodyOf (codeAt 8186 (bd Try.f3) 8186)) 16372 156 [3, 10, 13] pa3_8186 pw3_8186 (u3_8186 rec) x = u3_8186 (b3_8186 k rec) x := by kernel_rfl
theorem h3_8186_ok (k : Nat) : ∀ p S, H3_8186 k p = some S → ∀ c, At (bd Try.f3) p c → CutOk Try.prog c S :=
  have hC := c3_ok k
  addLoop hC ttOk (draw_ok hC ttOk mixed) noH_ok (by kernel_rfl) (F := fun j => u3_8186 (l3_8186 k j)) (fun _ => rfl) (fun j x _ h => (e3_8186 k (l3_8186 k j) x).trans h) k
noncomputable def H3_1018 (k : Nat) : Nat → Option Cut := addH (H3_8186 k) 1018 ⟨runCut (wrC (bodyOf (codeAt 1018 (bd Try.f3) 1018))) 156 [0, 3, 6, 7, 8] pa3_1018 pw3_1018 (u3_1018 (l3_1018 k k))⟩
theorem e3_1018 (k : Nat) (rec : T3_1018) (x : (pa3_1018).C) : roundF (C3 k) tt (H3_8186 k) (bodyOf (codeAt 1018 (bd Try.f3) 1018)) 2036 156 [0, 3, 6, 7, 8] pa3_1018 pw3_1018 (u3_1018 rec) x = u3_1018 (b3_1018 k rec) x := by kernel_rfl
theorem h3_1018_ok (k : Nat) : ∀ p S, H3_1018 k p = some S → ∀ c, At (bd Try.f3) p c → CutOk Try.prog c S :=
  have hC := c3_ok k
  addLoop hC ttOk (draw_ok hC ttOk mixed) (h3_8186_ok k) (by kernel_rfl) (F := fun j => u3_1018 (l3_1018 k j)) (fun _ => rfl) (fun j x _ h => (e3_1018 k (l3_1018 k j) x).trans h) k
theorem e3 (k : Nat) (x : (a3).C) : bodyR (C3 k) tt (H3_1018 k) Try.f3 a3 o3 x = u3 (f3 k) x := by kernel_rfl
theorem s3 (k : Nat) : SoundFn Try.prog 3 (F3 (f3 k)) :=
  have hC := c3_ok k
  fnR_sound hC ttOk (draw_ok hC ttOk mixed) Try.func3 (c0 := bd Try.f3) rfl (entry Try.func3 rfl (by decide)) (h3_1018_ok k) rfl (fun x _ h => (e3 k x).trans h)
/-! f17 fathom/lex.Key (R) -/
noncomputable def a17 : Shape := ⟨[.d .str], []⟩
noncomputable def o17 : List Shape := [⟨[.d .bool], []⟩]
abbrev R17 : Type := ((Bool × Unit) × Unit)
abbrev T17 : Type := ByteArray → Option R17
noncomputable def u17 (f : T17) : (a17).C → Option (OutC o17) := fun (x : ((ByteArray × Unit) × Unit)) => f x.1.1
noncomputable def F17 (f : T17) : Fun := ⟨true, runR a17 o17 (u17 f)⟩
noncomputable def f17 (k : Nat) : T17 := fun s0 =>
  cond (!(s0.toList == ByteArray.empty.toList))
    ((f54 k s0 32).bind fun y1 =>
    cond (decide (y1.1.1 < 0))
      (gd (decide ((ByteArray.mk #[32]).size + s0.size ≤ 9223372036854775807)) <|
      gd (decide (((ByteArray.mk #[32]) ++ s0).size + (ByteArray.mk #[32]).size ≤ 9223372036854775807)) <|
      (f55 k s_0 (((ByteArray.mk #[32]) ++ s0) ++ (ByteArray.mk #[32]))).bind fun y2 =>
      some ((y2.1.1, ()), ()))
      (some ((false, ()), ())))
    (some ((false, ()), ()))
noncomputable def C17 (k : Nat) : Nat → Fun := mkC [(54, (F54 (f54 k))), (55, (F55 (f55 k)))]
theorem c17_ok (k : Nat) : ∀ f, SoundFn Try.prog f (C17 k f) := (mkC_cons (s54 k) (mkC_cons (s55 k) mkC_nil))
theorem e17 (k : Nat) (x : (a17).C) : bodyR (C17 k) tt noH Try.f17 a17 o17 x = u17 (f17 k) x := by kernel_rfl
theorem s17 (k : Nat) : SoundFn Try.prog 17 (F17 (f17 k)) :=
  have hC := c17_ok k
  fnR_sound hC ttOk (draw_ok hC ttOk mixed) Try.func17 (c0 := bd Try.f17) rfl (entry Try.func17 rfl (by decide)) noH_ok rfl (fun x _ h => (e17 k x).trans h)
/-! f56 fathom/fathomref20.Keys (R) -/
noncomputable def a56 : Shape := ⟨[], []⟩
noncomputable def o56 : List Shape := [⟨[.d (.slice .str)], []⟩]
abbrev R56 : Type := (((List ByteArray) × Unit) × Unit)
abbrev T56 : Type := Unit → Option R56
noncomputable def u56 (f : T56) : (a56).C → Option (OutC o56) := fun (x : (Unit × Unit)) => f ()
noncomputable def F56 (f : T56) : Fun := ⟨true, runR a56 o56 (u56 f)⟩
noncomputable def f56 (k : Nat) : T56 := fun _ =>
  some (([s_1, s_2, s_3, s_4, s_5, s_6, s_7, s_8, s_9, s_10, s_11, s_12, s_13, s_14, s_15, s_16, (ByteArray.mk #[103, 111]), (ByteArray.mk #[105, 102]), s_17, s_18, s_19, s_20, s_21], ()), ())
noncomputable def C56 (k : Nat) : Nat → Fun := mkC []
theorem c56_ok (k : Nat) : ∀ f, SoundFn Try.prog f (C56 k f) := mkC_nil
theorem e56 (k : Nat) (x : (a56).C) : bodyR (C56 k) tt noH Try.f56 a56 o56 x = u56 (f56 k) x := by kernel_rfl
theorem s56 (k : Nat) : SoundFn Try.prog 56 (F56 (f56 k)) :=
  have hC := c56_ok k
  fnR_sound hC ttOk (draw_ok hC ttOk mixed) Try.func56 (c0 := bd Try.f56) rfl (entry Try.func56 rfl (by decide)) noH_ok rfl (fun x _ h => (e56 k x).trans h)
/-! f18 fathom/fathomref20.Key (R) -/
noncomputable def a18 : Shape := ⟨[.d .str], []⟩
noncomputable def o18 : List Shape := [⟨[.d .bool], []⟩]
abbrev R18 : Type := ((Bool × Unit) × Unit)
abbrev T18 : Type := ByteArray → Option R18
noncomputable def u18 (f : T18) : (a18).C → Option (OutC o18) := fun (x : ((ByteArray × Unit) × Unit)) => f x.1.1
noncomputable def F18 (f : T18) : Fun := ⟨true, runR a18 o18 (u18 f)⟩
noncomputable def pa18_58 : Shape := ⟨[.d .str, .d (.slice .str), .d i64], []⟩
noncomputable def pw18_58 : List Vm.Way := [⟨.exit 0, [], ⟨[], []⟩⟩, ⟨.ret, [2], ⟨[.d .bool], []⟩⟩]
abbrev R18_58 : Type := ((Unit × Unit) ⊕ ((Bool × Unit) × Unit))
abbrev T18_58 : Type := ByteArray → (List ByteArray) → Int → Option R18_58
noncomputable def u18_58 (f : T18_58) : (pa18_58).C → Option (WayC pw18_58) := fun (x : ((ByteArray × (List ByteArray) × Int × Unit) × Unit)) => f x.1.1 x.1.2.1 x.1.2.2.1
noncomputable def b18_58 (k : Nat) (rec : T18_58) : T18_58 := fun s0 l3 i4 =>
  cond (decide (i4 < (l3.length : Int)))
    (ix l3 i4 fun e1 =>
    cond (e1.toList == s0.toList)
      (some (.inr ((true, ()), ())))
      ((rec s0 l3 (w64 (i4 + 1))).bind fun y2 =>
      match y2 with
      | .inl y2_0 =>
        some (.inl ((), ()))
      | .inr y2_1 =>
        some (.inr ((y2_1.1.1, ()), ()))))
    (some (.inl ((), ())))
noncomputable def l18_58 (k : Nat) : Nat → T18_58
  | 0 => fun _ _ _ => none
  | j + 1 => b18_58 k (l18_58 k j)
noncomputable def f18 (k : Nat) : T18 := fun s0 =>
  (f56 k ()).bind fun y1 =>
  (l18_58 k k s0 y1.1.1 0).bind fun y2 =>
  match y2 with
  | .inl y2_0 =>
    some ((false, ()), ())
  | .inr y2_1 =>
    some ((y2_1.1.1, ()), ())
noncomputable def C18 (k : Nat) : Nat → Fun := mkC [(56, (F56 (f56 k)))]
theorem c18_ok (k : Nat) : ∀ f, SoundFn Try.prog f (C18 k f) := (mkC_cons (s56 k) mkC_nil)
noncomputable def H18_58 (k : Nat) : Nat → Option Cut := addH noH 58 ⟨runCut (wrC (bodyOf (codeAt 58 (bd Try.f18) 58))) 18 [0, 3, 4] pa18_58 pw18_58 (u18_58 (l18_58 k k))⟩
theorem e18_58 (k : Nat) (rec : T18_58) (x : (pa18_58).C) : roundF (C18 k) tt noH (bodyOf (codeAt 58 (bd Try.f18) 58)) 116 18 [0, 3, 4] pa18_58 pw18_58 (u18_58 rec) x = u18_58 (b18_58 k rec) x := by kernel_rfl
theorem h18_58_ok (k : Nat) : ∀ p S, H18_58 k p = some S → ∀ c, At (bd Try.f18) p c → CutOk Try.prog c S :=
  have hC := c18_ok k
  addLoop hC ttOk (draw_ok hC ttOk mixed) noH_ok (by kernel_rfl) (F := fun j => u18_58 (l18_58 k j)) (fun _ => rfl) (fun j x _ h => (e18_58 k (l18_58 k j) x).trans h) k
theorem e18 (k : Nat) (x : (a18).C) : bodyR (C18 k) tt (H18_58 k) Try.f18 a18 o18 x = u18 (f18 k) x := by kernel_rfl
theorem s18 (k : Nat) : SoundFn Try.prog 18 (F18 (f18 k)) :=
  have hC := c18_ok k
  fnR_sound hC ttOk (draw_ok hC ttOk mixed) Try.func18 (c0 := bd Try.f18) rfl (entry Try.func18 rfl (by decide)) (h18_58_ok k) rfl (fun x _ h => (e18 k x).trans h)
/-! f19 fathom/lex.Name (R) -/
noncomputable def a19 : Shape := ⟨[.d .str], []⟩
noncomputable def o19 : List Shape := [⟨[.d .bool], []⟩]
abbrev R19 : Type := ((Bool × Unit) × Unit)
abbrev T19 : Type := ByteArray → Option R19
noncomputable def u19 (f : T19) : (a19).C → Option (OutC o19) := fun (x : ((ByteArray × Unit) × Unit)) => f x.1.1
noncomputable def F19 (f : T19) : Fun := ⟨true, runR a19 o19 (u19 f)⟩
noncomputable def f19 (k : Nat) : T19 := fun s0 =>
  cond (!(s0.toList == ByteArray.empty.toList))
    (cond (decide ((s0.size : Int) ≤ 12))
      (ixs s0 0 fun c1 =>
      (f57 k c1).bind fun y2 =>
      cond y2.1.1
        ((f58 k (bytesD s0) 0).bind fun y3 =>
        cond (y3.1.1 == (s0.size : Int))
          ((f17 k s0).bind fun y4 =>
          some (((!y4.1.1), ()), ()))
          (some ((false, ()), ())))
        (some ((false, ()), ())))
      (some ((false, ()), ())))
    (some ((false, ()), ()))
noncomputable def C19 (k : Nat) : Nat → Fun := mkC [(17, (F17 (f17 k))), (57, (F57 (f57 k))), (58, (F58 (f58 k)))]
theorem c19_ok (k : Nat) : ∀ f, SoundFn Try.prog f (C19 k f) := (mkC_cons (s17 k) (mkC_cons (s57 k) (mkC_cons (s58 k) mkC_nil)))
theorem e19 (k : Nat) (x : (a19).C) : bodyR (C19 k) tt noH Try.f19 a19 o19 x = u19 (f19 k) x := by kernel_rfl
theorem s19 (k : Nat) : SoundFn Try.prog 19 (F19 (f19 k)) :=
  have hC := c19_ok k
  fnR_sound hC ttOk (draw_ok hC ttOk mixed) Try.func19 (c0 := bd Try.f19) rfl (entry Try.func19 rfl (by decide)) noH_ok rfl (fun x _ h => (e19 k x).trans h)
/-! f59 fathom/fathomref20.Letter (R) -/
noncomputable def a59 : Shape := ⟨[.d (.int .u8)], []⟩
noncomputable def o59 : List Shape := [⟨[.d .bool], []⟩]
abbrev R59 : Type := ((Bool × Unit) × Unit)
abbrev T59 : Type := Int → Option R59
noncomputable def u59 (f : T59) : (a59).C → Option (OutC o59) := fun (x : ((Int × Unit) × Unit)) => f x.1.1
noncomputable def F59 (f : T59) : Fun := ⟨true, runR a59 o59 (u59 f)⟩
noncomputable def f59 (k : Nat) : T59 := fun c0 =>
  cond (decide (c0 ≥ 97))
    (some (((decide (c0 ≤ 122)), ()), ()))
    (some ((false, ()), ()))
noncomputable def C59 (k : Nat) : Nat → Fun := mkC []
theorem c59_ok (k : Nat) : ∀ f, SoundFn Try.prog f (C59 k f) := mkC_nil
theorem e59 (k : Nat) (x : (a59).C) : bodyR (C59 k) tt noH Try.f59 a59 o59 x = u59 (f59 k) x := by kernel_rfl
theorem s59 (k : Nat) : SoundFn Try.prog 59 (F59 (f59 k)) :=
  have hC := c59_ok k
  fnR_sound hC ttOk (draw_ok hC ttOk mixed) Try.func59 (c0 := bd Try.f59) rfl (entry Try.func59 rfl (by decide)) noH_ok rfl (fun x _ h => (e59 k x).trans h)
/-! f60 fathom/fathomref20.Digit (R) -/
noncomputable def a60 : Shape := ⟨[.d (.int .u8)], []⟩
noncomputable def o60 : List Shape := [⟨[.d .bool], []⟩]
abbrev R60 : Type := ((Bool × Unit) × Unit)
abbrev T60 : Type := Int → Option R60
noncomputable def u60 (f : T60) : (a60).C → Option (OutC o60) := fun (x : ((Int × Unit) × Unit)) => f x.1.1
noncomputable def F60 (f : T60) : Fun := ⟨true, runR a60 o60 (u60 f)⟩
noncomputable def f60 (k : Nat) : T60 := fun c0 =>
  cond (decide (c0 ≥ 48))
    (some (((decide (c0 ≤ 57)), ()), ()))
    (some ((false, ()), ()))
noncomputable def C60 (k : Nat) : Nat → Fun := mkC []
theorem c60_ok (k : Nat) : ∀ f, SoundFn Try.prog f (C60 k f) := mkC_nil
theorem e60 (k : Nat) (x : (a60).C) : bodyR (C60 k) tt noH Try.f60 a60 o60 x = u60 (f60 k) x := by kernel_rfl
theorem s60 (k : Nat) : SoundFn Try.prog 60 (F60 (f60 k)) :=
  have hC := c60_ok k
  fnR_sound hC ttOk (draw_ok hC ttOk mixed) Try.func60 (c0 := bd Try.f60) rfl (entry Try.func60 rfl (by decide)) noH_ok rfl (fun x _ h => (e60 k x).trans h)
/-! f20 fathom/fathomref20.Name (R) -/
noncomputable def a20 : Shape := ⟨[.d .str], []⟩
noncomputable def o20 : List Shape := [⟨[.d .bool], []⟩]
abbrev R20 : Type := ((Bool × Unit) × Unit)
abbrev T20 : Type := ByteArray → Option R20
noncomputable def u20 (f : T20) : (a20).C → Option (OutC o20) := fun (x : ((ByteArray × Unit) × Unit)) => f x.1.1
noncomputable def F20 (f : T20) : Fun := ⟨true, runR a20 o20 (u20 f)⟩
noncomputable def pa20_26 : Shape := ⟨[.d .str, .d i64], []⟩
noncomputable def pw20_26 : List Vm.Way := [⟨.exit 0, [], ⟨[], []⟩⟩, ⟨.ret, [2], ⟨[.d .bool], []⟩⟩]
abbrev R20_26 : Type := ((Unit × Unit) ⊕ ((Bool × Unit) × Unit))
abbrev T20_26 : Type := ByteArray → Int → Option R20_26
noncomputable def u20_26 (f : T20_26) : (pa20_26).C → Option (WayC pw20_26) := fun (x : ((ByteArray × Int × Unit) × Unit)) => f x.1.1 x.1.2.1
noncomputable def b20_26 (k : Nat) (rec : T20_26) : T20_26 := fun s0 i3 =>
  cond (decide (i3 < (s0.size : Int)))
    (ixs s0 i3 fun c1 =>
    (f59 k c1).bind fun y2 =>
    cond (!y2.1.1)
      (cond (i3 == 0)
        (some (.inr ((false, ()), ())))
        (ixs s0 i3 fun c3 =>
        (f60 k c3).bind fun y4 =>
        cond (!y4.1.1)
          (some (.inr ((false, ()), ())))
          ((rec s0 (w64 (i3 + 1))).bind fun y5 =>
          match y5 with
          | .inl y5_0 =>
            some (.inl ((), ()))
          | .inr y5_1 =>
            some (.inr ((y5_1.1.1, ()), ())))))
      ((rec s0 (w64 (i3 + 1))).bind fun y6 =>
      match y6 with
      | .inl y6_0 =>
        some (.inl ((), ()))
      | .inr y6_1 =>
        some (.inr ((y6_1.1.1, ()), ()))))
    (some (.inl ((), ())))
noncomputable def l20_26 (k : Nat) : Nat → T20_26
  | 0 => fun _ _ => none
  | j + 1 => b20_26 k (l20_26 k j)
noncomputable def f20 (k : Nat) : T20 := fun s0 =>
  (l20_26 k k s0 0).bind fun y1 =>
  match y1 with
  | .inl y1_0 =>
    cond (decide ((s0.size : Int) ≥ 1))
      (cond (decide ((s0.size : Int) ≤ 12))
        ((f18 k s0).bind fun y2 =>
        some (((!y2.1.1), ()), ()))
        (some ((false, ()), ())))
      (some ((false, ()), ()))
  | .inr y1_1 =>
    some ((y1_1.1.1, ()), ())
noncomputable def C20 (k : Nat) : Nat → Fun := mkC [(18, (F18 (f18 k))), (59, (F59 (f59 k))), (60, (F60 (f60 k)))]
theorem c20_ok (k : Nat) : ∀ f, SoundFn Try.prog f (C20 k f) := (mkC_cons (s18 k) (mkC_cons (s59 k) (mkC_cons (s60 k) mkC_nil)))
noncomputable def H20_26 (k : Nat) : Nat → Option Cut := addH noH 26 ⟨runCut (wrC (bodyOf (codeAt 26 (bd Try.f20) 26))) 39 [0, 3] pa20_26 pw20_26 (u20_26 (l20_26 k k))⟩
theorem e20_26 (k : Nat) (rec : T20_26) (x : (pa20_26).C) : roundF (C20 k) tt noH (bodyOf (codeAt 26 (bd Try.f20) 26)) 52 39 [0, 3] pa20_26 pw20_26 (u20_26 rec) x = u20_26 (b20_26 k rec) x := by kernel_rfl
theorem h20_26_ok (k : Nat) : ∀ p S, H20_26 k p = some S → ∀ c, At (bd Try.f20) p c → CutOk Try.prog c S :=
  have hC := c20_ok k
  addLoop hC ttOk (draw_ok hC ttOk mixed) noH_ok (by kernel_rfl) (F := fun j => u20_26 (l20_26 k j)) (fun _ => rfl) (fun j x _ h => (e20_26 k (l20_26 k j) x).trans h) k
theorem e20 (k : Nat) (x : (a20).C) : bodyR (C20 k) tt (H20_26 k) Try.f20 a20 o20 x = u20 (f20 k) x := by kernel_rfl
theorem s20 (k : Nat) : SoundFn Try.prog 20 (F20 (f20 k)) :=
  have hC := c20_ok k
  fnR_sound hC ttOk (draw_ok hC ttOk mixed) Try.func20 (c0 := bd Try.f20) rfl (entry Try.func20 rfl (by decide)) (h20_26_ok k) rfl (fun x _ h => (e20 k x).trans h)
/-! f4 fathom/fathomlaw20.LexNames (R) -/
noncomputable def a4 : Shape := ⟨[.d .str], []⟩
noncomputable def o4 : List Shape := [⟨[.d .bool], []⟩]
abbrev R4 : Type := ((Bool × Unit) × Unit)
abbrev T4 : Type := ByteArray → Option R4
noncomputable def u4 (f : T4) : (a4).C → Option (OutC o4) := fun (x : ((ByteArray × Unit) × Unit)) => f x.1.1
noncomputable def F4 (f : T4) : Fun := ⟨true, runR a4 o4 (u4 f)⟩
noncomputable def f4 (k : Nat) : T4 := fun s0 =>
  cond (decide ((s0.size : Int) > 300))
    ((f14 k ()).bind fun y1 =>
    some ((y1.1.1, ()), ()))
    ((f17 k s0).bind fun y2 =>
    (f18 k s0).bind fun y3 =>
    cond (y2.1.1 == y3.1.1)
      ((f19 k s0).bind fun y4 =>
      (f20 k s0).bind fun y5 =>
      cond (y4.1.1 == y5.1.1)
        ((f14 k ()).bind fun y6 =>
        some ((y6.1.1, ()), ()))
        (some ((false, ()), ())))
      (some ((false, ()), ())))
noncomputable def C4 (k : Nat) : Nat → Fun := mkC [(14, (F14 (f14 k))), (17, (F17 (f17 k))), (18, (F18 (f18 k))), (19, (F19 (f19 k))), (20, (F20 (f20 k)))]
theorem c4_ok (k : Nat) : ∀ f, SoundFn Try.prog f (C4 k f) := (mkC_cons (s14 k) (mkC_cons (s17 k) (mkC_cons (s18 k) (mkC_cons (s19 k) (mkC_cons (s20 k) mkC_nil)))))
theorem e4 (k : Nat) (x : (a4).C) : bodyR (C4 k) tt noH Try.f4 a4 o4 x = u4 (f4 k) x := by kernel_rfl
theorem s4 (k : Nat) : SoundFn Try.prog 4 (F4 (f4 k)) :=
  have hC := c4_ok k
  fnR_sound hC ttOk (draw_ok hC ttOk mixed) Try.func4 (c0 := bd Try.f4) rfl (entry Try.func4 rfl (by decide)) noH_ok rfl (fun x _ h => (e4 k x).trans h)
end Go.Proofs.Yticelgnmcjkknaa.M
