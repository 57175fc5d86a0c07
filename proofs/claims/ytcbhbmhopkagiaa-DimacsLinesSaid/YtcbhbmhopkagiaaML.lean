/-
PRINTED BY vmp.py: the functions of a law, each as a Lean function, and that it is what the code computes.
-/
import Derived.Test.YtcbhbmhopkagiaaVm42
import Derived.Test.YtcbhbmhopkagiaaProg
import Derived.Test.YtcbhbmhopkagiaaChecked
import Derived.KernelRfl
set_option linter.unusedVariables false
set_option maxRecDepth 100000
namespace Go.Proofs.Ytcbhbmhopkagiaa.M
open Go Go.Proofs Go.Proofs.Ytcbhbmhopkagiaa.Vm
abbrev T_errorAddressString : Ty := (.pair .str (.pair (.int .u64) .unit))
abbrev D_errorAddressString : Type := (ByteArray × Int × Unit)
abbrev T_word : Ty := (.pair i64 (.pair .str .unit))
abbrev D_word : Type := (Int × ByteArray × Unit)
abbrev T_boundsError : Ty := (.pair i64 (.pair i64 (.pair .bool (.pair (.int .u8) .unit))))
abbrev D_boundsError : Type := (Int × Int × Bool × Int × Unit)
abbrev T_Cnf : Ty := (.pair i64 (.pair (.slice (.slice i64)) .unit))
abbrev D_Cnf : Type := (Int × (List (List Int)) × Unit)
abbrev T_reader : Ty := (.pair T_Cnf (.pair .bool (.pair i64 (.pair (.slice i64) (.pair .bool (.pair i64 (.pair i64 .unit)))))))
abbrev D_reader : Type := (D_Cnf × Bool × Int × (List Int) × Bool × Int × Int × Unit)
def s_0 : ByteArray := ByteArray.mk #[99, 32, 97, 108, 108, 32, 111, 102, 32, 105, 116, 13, 10, 32, 112, 32, 32, 99, 110, 102, 9]
def s_1 : ByteArray := ByteArray.mk #[32, 9, 32]
def s_2 : ByteArray := ByteArray.mk #[10, 99, 32, 49, 32, 48, 10]
def s_3 : ByteArray := ByteArray.mk #[48, 49, 50, 51, 52, 53, 54, 55, 56, 57]
def s_4 : ByteArray := ByteArray.mk #[99, 110, 102]
def tl : List (Nat × TI) := [(3, .dat i64 0), (4, .dat .bool 0), (5, .dat (.int .u8) 0), (9, .dat .str 0), (27, .dat (.slice (.slice i64)) 24), (29, .dat T_Cnf 0), (30, .dat (.slice (.int .u8)) 1), (32, .dat (.slice i64) 8), (33, .dat (.slice .str) 16), (34, .dat i64 0), (43, .dat T_reader 0), (48, .dat (.slice T_word) 24), (51, .dat T_word 0), (56, .dat (.arr 2 i64) 0)]
def tt := mkT tl
theorem ttOk : TtOk Try.prog tt := mkT_ok (by kernel_rfl)
theorem mixed : Try.prog.follows .mixedOrders = true := by kernel_rfl
/-! f9 fathom/fathomlaw01.Light (R) -/
noncomputable def a9 : Shape := ⟨[.d T_Cnf], []⟩
noncomputable def o9 : List Shape := [⟨[.d .bool], []⟩]
abbrev R9 : Type := ((Bool × Unit) × Unit)
abbrev T9 : Type := D_Cnf → Option R9
noncomputable def u9 (f : T9) : (a9).C → Option (OutC o9) := fun (x : ((D_Cnf × Unit) × Unit)) => f x.1.1
noncomputable def F9 (f : T9) : Fun := ⟨true, runR a9 o9 (u9 f)⟩
noncomputable def pa9_58 : Shape := ⟨[.ptr 0, .d i64, .d i64], [.box [.d i64, .d (.slice (.slice i64))]]⟩
noncomputable def pw9_58 : List Vm.Way := [⟨.exit 0, [3], ⟨[.d i64], [.box [.d i64, .d (.slice (.slice i64))]]⟩⟩, ⟨.ret, [2], ⟨[.d .bool], [.box [.d i64, .d (.slice (.slice i64))]]⟩⟩]
abbrev R9_58 : Type := (((Int × Unit) × ((Int × (List (List Int)) × Unit) × Unit)) ⊕ ((Bool × Unit) × ((Int × (List (List Int)) × Unit) × Unit)))
abbrev T9_58 : Type := Int → Int → Int → (List (List Int)) → Option R9_58
noncomputable def u9_58 (f : T9_58) : (pa9_58).C → Option (WayC pw9_58) := fun (x : ((Unit × Int × Int × Unit) × ((Int × (List (List Int)) × Unit) × Unit))) => f x.1.2.1 x.1.2.2.1 x.2.1.1 x.2.1.2.1
noncomputable def b9_58 (k : Nat) (rec : T9_58) : T9_58 := fun n3 i4 o0_0 o0_1 =>
  cond (decide (i4 < (o0_1.length : Int)))
    (cond (decide (i4 ≤ 300))
      (ix o0_1 i4 fun e1 =>
      cond (decide ((e1.length : Int) > 5000))
        (some (.inr ((false, ()), ((o0_0, o0_1, ()), ()))))
        (ix o0_1 i4 fun e2 =>
        (rec (w64 (n3 + (e2.length : Int))) (w64 (i4 + 1)) o0_0 o0_1).bind fun y3 =>
        match y3 with
        | .inl y3_0 =>
          some (.inl ((y3_0.1.1, ()), ((y3_0.2.1.1, y3_0.2.1.2.1, ()), ())))
        | .inr y3_1 =>
          some (.inr ((y3_1.1.1, ()), ((y3_1.2.1.1, y3_1.2.1.2.1, ()), ())))))
      (some (.inl ((n3, ()), ((o0_0, o0_1, ()), ())))))
    (some (.inl ((n3, ()), ((o0_0, o0_1, ()), ()))))
noncomputable def l9_58 (k : Nat) : Nat → T9_58
  | 0 => fun _ _ _ _ => none
  | j + 1 => b9_58 k (l9_58 k j)
noncomputable def f9 (k : Nat) : T9 := fun f0 =>
  (l9_58 k k 0 0 f0.1 f0.2.1).bind fun y1 =>
  match y1 with
  | .inl y1_0 =>
    cond (decide ((y1_0.2.1.2.1.length : Int) ≤ 300))
      (some (((decide (y1_0.1.1 ≤ 6000)), ()), ()))
      (some ((false, ()), ()))
  | .inr y1_1 =>
    some ((y1_1.1.1, ()), ())
noncomputable def C9 (k : Nat) : Nat → Fun := mkC []
theorem c9_ok (k : Nat) : ∀ f, SoundFn Try.prog f (C9 k f) := mkC_nil
noncomputable def H9_58 (k : Nat) : Nat → Option Cut := addH noH 58 ⟨runCut (wrC (bodyOf (codeAt 58 (bd Try.f9) 58))) 39 [1, 3, 4] pa9_58 pw9_58 (u9_58 (l9_58 k k))⟩
theorem e9_58 (k : Nat) (rec : T9_58) (x : (pa9_58).C) : roundF (C9 k) tt noH (bodyOf (codeAt 58 (bd Try.f9) 58)) 116 39 [1, 3, 4] pa9_58 pw9_58 (u9_58 rec) x = u9_58 (b9_58 k rec) x := by kernel_rfl
theorem h9_58_ok (k : Nat) : ∀ p S, H9_58 k p = some S → ∀ c, At (bd Try.f9) p c → CutOk Try.prog c S :=
  have hC := c9_ok k
  addLoop hC ttOk (draw_ok hC ttOk mixed) noH_ok (by kernel_rfl) (F := fun j => u9_58 (l9_58 k j)) (fun _ => rfl) (fun j x _ h => (e9_58 k (l9_58 k j) x).trans h) k
theorem e9 (k : Nat) (x : (a9).C) : bodyR (C9 k) tt (H9_58 k) Try.f9 a9 o9 x = u9 (f9 k) x := by kernel_rfl
theorem s9 (k : Nat) : SoundFn Try.prog 9 (F9 (f9 k)) :=
  have hC := c9_ok k
  fnR_sound hC ttOk (draw_ok hC ttOk mixed) Try.func9 (c0 := bd Try.f9) rfl (entry Try.func9 rfl (by decide)) (h9_58_ok k) rfl (fun x _ h => (e9 k x).trans h)
/-! f22 (*fathom/dimacs.reader).fail (W) -/
noncomputable def a22 : Shape := ⟨[.ptr 0, .d i64, .d i64], [.box [.d i64, .own (.slice i64), .d .bool, .d i64, .own i64, .d .bool, .d i64, .d i64]]⟩
noncomputable def o22 : List Shape := [⟨[.d .bool], [.box [.d i64, .own (.slice i64), .d .bool, .d i64, .own i64, .d .bool, .d i64, .d i64]]⟩]
abbrev R22 : Type := ((Bool × Unit) × ((Int × (List (List Int)) × Bool × Int × (List Int) × Bool × Int × Int × Unit) × Unit))
abbrev T22 : Type := Int → Int → Int → (List (List Int)) → Bool → Int → (List Int) → Bool → Int → Int → Option R22
noncomputable def u22 (f : T22) : (a22).C → Option (OutC o22) := fun (x : ((Unit × Int × Int × Unit) × ((Int × (List (List Int)) × Bool × Int × (List Int) × Bool × Int × Int × Unit) × Unit))) => f x.1.2.1 x.1.2.2.1 x.2.1.1 x.2.1.2.1 x.2.1.2.2.1 x.2.1.2.2.2.1 x.2.1.2.2.2.2.1 x.2.1.2.2.2.2.2.1 x.2.1.2.2.2.2.2.2.1 x.2.1.2.2.2.2.2.2.2.1
noncomputable def F22 (f : T22) : Fun := ⟨false, runW a22 o22 (u22 f)⟩
noncomputable def f22 (k : Nat) : T22 := fun at1 e2 o0_0 o0_1 o0_2 o0_3 o0_4 o0_5 o0_6 o0_7 =>
  some ((false, ()), ((o0_0, o0_1, o0_2, o0_3, o0_4, o0_5, at1, e2, ()), ()))
noncomputable def C22 (k : Nat) : Nat → Fun := mkC []
theorem c22_ok (k : Nat) : ∀ f, SoundFn Try.prog f (C22 k f) := mkC_nil
theorem e22 (k : Nat) (x : (a22).C) : bodyW (C22 k) tt noH Try.f22 a22 o22 x = u22 (f22 k) x := by kernel_rfl
theorem s22 (k : Nat) : SoundFn Try.prog 22 (F22 (f22 k)) :=
  have hC := c22_ok k
  fnW_sound hC ttOk (draw_ok hC ttOk mixed) Try.func22 (c0 := bd Try.f22) rfl (entry Try.func22 rfl (by decide)) noH_ok (fun x _ h => (e22 k x).trans h)
/-! f16 (*fathom/dimacs.reader).end (W) -/
noncomputable def a16 : Shape := ⟨[.ptr 0, .d i64], [.box [.d i64, .own (.slice i64), .d .bool, .d i64, .own i64, .d .bool, .d i64, .d i64]]⟩
noncomputable def o16 : List Shape := [⟨[], [.box [.d i64, .own (.slice i64), .d .bool, .d i64, .own i64, .d .bool, .d i64, .d i64]]⟩]
abbrev R16 : Type := (Unit × ((Int × (List (List Int)) × Bool × Int × (List Int) × Bool × Int × Int × Unit) × Unit))
abbrev T16 : Type := Int → Int → (List (List Int)) → Bool → Int → (List Int) → Bool → Int → Int → Option R16
noncomputable def u16 (f : T16) : (a16).C → Option (OutC o16) := fun (x : ((Unit × Int × Unit) × ((Int × (List (List Int)) × Bool × Int × (List Int) × Bool × Int × Int × Unit) × Unit))) => f x.1.2.1 x.2.1.1 x.2.1.2.1 x.2.1.2.2.1 x.2.1.2.2.2.1 x.2.1.2.2.2.2.1 x.2.1.2.2.2.2.2.1 x.2.1.2.2.2.2.2.2.1 x.2.1.2.2.2.2.2.2.2.1
noncomputable def F16 (f : T16) : Fun := ⟨false, runW a16 o16 (u16 f)⟩
noncomputable def f16 (k : Nat) : T16 := fun at1 o0_0 o0_1 o0_2 o0_3 o0_4 o0_5 o0_6 o0_7 =>
  cond (!o0_2)
    ((f22 k at1 2 o0_0 o0_1 o0_2 o0_3 o0_4 o0_5 o0_6 o0_7).bind fun y1 =>
    some ((), ((y1.2.1.1, y1.2.1.2.1, y1.2.1.2.2.1, y1.2.1.2.2.2.1, y1.2.1.2.2.2.2.1, y1.2.1.2.2.2.2.2.1, y1.2.1.2.2.2.2.2.2.1, y1.2.1.2.2.2.2.2.2.2.1, ()), ())))
    (cond o0_5
      ((f22 k at1 2 o0_0 o0_1 o0_2 o0_3 o0_4 o0_5 o0_6 o0_7).bind fun y2 =>
      some ((), ((y2.2.1.1, y2.2.1.2.1, y2.2.1.2.2.1, y2.2.1.2.2.2.1, y2.2.1.2.2.2.2.1, y2.2.1.2.2.2.2.2.1, y2.2.1.2.2.2.2.2.2.1, y2.2.1.2.2.2.2.2.2.2.1, ()), ())))
      (cond (decide ((o0_1.length : Int) < o0_3))
        ((f22 k at1 4 o0_0 o0_1 o0_2 o0_3 o0_4 o0_5 o0_6 o0_7).bind fun y3 =>
        some ((), ((y3.2.1.1, y3.2.1.2.1, y3.2.1.2.2.1, y3.2.1.2.2.2.1, y3.2.1.2.2.2.2.1, y3.2.1.2.2.2.2.2.1, y3.2.1.2.2.2.2.2.2.1, y3.2.1.2.2.2.2.2.2.2.1, ()), ())))
        (some ((), ((o0_0, o0_1, o0_2, o0_3, o0_4, o0_5, o0_6, o0_7, ()), ())))))
noncomputable def C16 (k : Nat) : Nat → Fun := mkC [(22, (F22 (f22 k)))]
theorem c16_ok (k : Nat) : ∀ f, SoundFn Try.prog f (C16 k f) := (mkC_cons (s22 k) mkC_nil)
theorem e16 (k : Nat) (x : (a16).C) : bodyW (C16 k) tt noH Try.f16 a16 o16 x = u16 (f16 k) x := by kernel_rfl
theorem s16 (k : Nat) : SoundFn Try.prog 16 (F16 (f16 k)) :=
  have hC := c16_ok k
  fnW_sound hC ttOk (draw_ok hC ttOk mixed) Try.func16 (c0 := bd Try.f16) rfl (entry Try.func16 rfl (by decide)) noH_ok (fun x _ h => (e16 k x).trans h)
/-! f24 fathom/dimacs.words$1 (W) -/
noncomputable def a24 : Shape := ⟨[.d i64, .ptr 0, .ptr 1, .ptr 2, .ptr 3], [.box [.d i64], .box [.own T_word], .box [.d i64], .box [.d (.slice (.int .u8))]]⟩
noncomputable def o24 : List Shape := [⟨[], [.box [.d i64], .box [.own T_word], .box [.d i64], .box [.d (.slice (.int .u8))]]⟩]
abbrev R24 : Type := (Unit × ((Int × Unit) × ((List D_word) × Unit) × (Int × Unit) × ((List Int) × Unit) × Unit))
abbrev T24 : Type := Int → Int → (List D_word) → Int → (List Int) → Option R24
noncomputable def u24 (f : T24) : (a24).C → Option (OutC o24) := fun (x : ((Int × Unit × Unit × Unit × Unit × Unit) × ((Int × Unit) × ((List D_word) × Unit) × (Int × Unit) × ((List Int) × Unit) × Unit))) => f x.1.1 x.2.1.1 x.2.2.1.1 x.2.2.2.1.1 x.2.2.2.2.1.1
noncomputable def F24 (f : T24) : Fun := ⟨false, runW a24 o24 (u24 f)⟩
noncomputable def f24 (k : Nat) : T24 := fun end0 o0 o1 o2 o3 =>
  cond (decide (o0 ≥ 0))
    (gd (decide (0 ≤ end0)) <|
    gd (decide (end0.toNat ≤ o3.length)) <|
    gd (decide (0 ≤ o0)) <|
    gd (decide (o0.toNat ≤ end0.toNat)) <|
    gd (decide ((o1.length + 1) * 24 ≤ room)) <|
    let v1 := o1 ++ ([((w64 (o2 + o0)), (strOfNums ((o3.take end0.toNat).drop o0.toNat)), ())] : List D_word)
    some ((), (((-1), ()), (v1, ()), (o2, ()), (o3, ()), ())))
    (some ((), (((-1), ()), (o1, ()), (o2, ()), (o3, ()), ())))
noncomputable def C24 (k : Nat) : Nat → Fun := mkC []
theorem c24_ok (k : Nat) : ∀ f, SoundFn Try.prog f (C24 k f) := mkC_nil
theorem e24 (k : Nat) (x : (a24).C) : bodyW (C24 k) tt noH Try.f24 a24 o24 x = u24 (f24 k) x := by kernel_rfl
theorem s24 (k : Nat) : SoundFn Try.prog 24 (F24 (f24 k)) :=
  have hC := c24_ok k
  fnW_sound hC ttOk (draw_ok hC ttOk mixed) Try.func24 (c0 := bd Try.f24) rfl (entry Try.func24 rfl (by decide)) noH_ok (fun x _ h => (e24 k x).trans h)
/-! f19 fathom/dimacs.words (R) -/
noncomputable def a19 : Shape := ⟨[.d (.slice (.int .u8)), .d i64], []⟩
noncomputable def o19 : List Shape := [⟨[.d (.slice T_word)], []⟩]
abbrev R19 : Type := (((List D_word) × Unit) × Unit)
abbrev T19 : Type := (List Int) → Int → Option R19
noncomputable def u19 (f : T19) : (a19).C → Option (OutC o19) := fun (x : (((List Int) × Int × Unit) × Unit)) => f x.1.1 x.1.2.1
noncomputable def F19 (f : T19) : Fun := ⟨true, runR a19 o19 (u19 f)⟩
noncomputable def pa19_250 : Shape := ⟨[.ptr 0, .fn 24 [0, 1, 2, 3], .d (.slice (.int .u8)), .d i64, .d i64], [.box [.d i64], .box [.own T_word], .box [.d i64], .box [.d (.slice (.int .u8))]]⟩
noncomputable def pw19_250 : List Vm.Way := [⟨.exit 0, [], ⟨[], [.box [.d i64], .box [.own T_word], .box [.d i64], .box [.d (.slice (.int .u8))]]⟩⟩]
abbrev R19_250 : Type := (Unit × ((Int × Unit) × ((List D_word) × Unit) × (Int × Unit) × ((List Int) × Unit) × Unit))
abbrev T19_250 : Type := (List Int) → Int → Int → Int → (List D_word) → Int → (List Int) → Option R19_250
noncomputable def u19_250 (f : T19_250) : (pa19_250).C → Option (WayC pw19_250) := fun (x : ((Unit × Unit × (List Int) × Int × Int × Unit) × ((Int × Unit) × ((List D_word) × Unit) × (Int × Unit) × ((List Int) × Unit) × Unit))) => f x.1.2.2.1 x.1.2.2.2.1 x.1.2.2.2.2.1 x.2.1.1 x.2.2.1.1 x.2.2.2.1.1 x.2.2.2.2.1.1
noncomputable def b19_250 (k : Nat) (rec : T19_250) : T19_250 := fun t11 t12 t13 o0 o1 o2 o3 =>
  cond (decide (t13 < t12))
    (ix t11 t13 fun e1 =>
    cond (e1 == 32)
      ((f24 k t13 o0 o1 o2 o3).bind fun y2 =>
      (rec t11 t12 (w64 (t13 + 1)) y2.2.1.1 y2.2.2.1.1 y2.2.2.2.1.1 y2.2.2.2.2.1.1).bind fun y3 =>
      some ((), ((y3.2.1.1, ()), (y3.2.2.1.1, ()), (y3.2.2.2.1.1, ()), (y3.2.2.2.2.1.1, ()), ())))
      (cond (e1 == 9)
        ((f24 k t13 o0 o1 o2 o3).bind fun y4 =>
        (rec t11 t12 (w64 (t13 + 1)) y4.2.1.1 y4.2.2.1.1 y4.2.2.2.1.1 y4.2.2.2.2.1.1).bind fun y5 =>
        some ((), ((y5.2.1.1, ()), (y5.2.2.1.1, ()), (y5.2.2.2.1.1, ()), (y5.2.2.2.2.1.1, ()), ())))
        (cond (decide (o0 < 0))
          ((rec t11 t12 (w64 (t13 + 1)) t13 o1 o2 o3).bind fun y6 =>
          some ((), ((y6.2.1.1, ()), (y6.2.2.1.1, ()), (y6.2.2.2.1.1, ()), (y6.2.2.2.2.1.1, ()), ())))
          ((rec t11 t12 (w64 (t13 + 1)) o0 o1 o2 o3).bind fun y7 =>
          some ((), ((y7.2.1.1, ()), (y7.2.2.1.1, ()), (y7.2.2.2.1.1, ()), (y7.2.2.2.2.1.1, ()), ()))))))
    (some ((), ((o0, ()), (o1, ()), (o2, ()), (o3, ()), ())))
noncomputable def l19_250 (k : Nat) : Nat → T19_250
  | 0 => fun _ _ _ _ _ _ _ => none
  | j + 1 => b19_250 k (l19_250 k j)
noncomputable def f19 (k : Nat) : T19 := fun line0 at1 =>
  (l19_250 k k line0 (line0.length : Int) 0 (-1) [] at1 line0).bind fun y1 =>
  (f24 k (y1.2.2.2.2.1.1.length : Int) y1.2.1.1 y1.2.2.1.1 y1.2.2.2.1.1 y1.2.2.2.2.1.1).bind fun y2 =>
  some ((y2.2.2.1.1, ()), ())
noncomputable def C19 (k : Nat) : Nat → Fun := mkC [(24, (F24 (f24 k)))]
theorem c19_ok (k : Nat) : ∀ f, SoundFn Try.prog f (C19 k f) := (mkC_cons (s24 k) mkC_nil)
noncomputable def H19_250 (k : Nat) : Nat → Option Cut := addH noH 250 ⟨runCut (wrC (bodyOf (codeAt 250 (bd Try.f19) 250))) 38 [6, 7, 11, 12, 13] pa19_250 pw19_250 (u19_250 (l19_250 k k))⟩
theorem e19_250 (k : Nat) (rec : T19_250) (x : (pa19_250).C) : roundF (C19 k) tt noH (bodyOf (codeAt 250 (bd Try.f19) 250)) 500 38 [6, 7, 11, 12, 13] pa19_250 pw19_250 (u19_250 rec) x = u19_250 (b19_250 k rec) x := by kernel_rfl
theorem h19_250_ok (k : Nat) : ∀ p S, H19_250 k p = some S → ∀ c, At (bd Try.f19) p c → CutOk Try.prog c S :=
  have hC := c19_ok k
  addLoop hC ttOk (draw_ok hC ttOk mixed) noH_ok (by kernel_rfl) (F := fun j => u19_250 (l19_250 k j)) (fun _ => rfl) (fun j x _ h => (e19_250 k (l19_250 k j) x).trans h) k
theorem e19 (k : Nat) (x : (a19).C) : bodyR (C19 k) tt (H19_250 k) Try.f19 a19 o19 x = u19 (f19 k) x := by kernel_rfl
theorem s19 (k : Nat) : SoundFn Try.prog 19 (F19 (f19 k)) :=
  have hC := c19_ok k
  fnR_sound hC ttOk (draw_ok hC ttOk mixed) Try.func19 (c0 := bd Try.f19) rfl (entry Try.func19 rfl (by decide)) (h19_250_ok k) rfl (fun x _ h => (e19 k x).trans h)
/-! f6 fathom/dimacs.Number (R) -/
noncomputable def a6 : Shape := ⟨[.d .str], []⟩
noncomputable def o6 : List Shape := [⟨[.d i64, .d .bool], []⟩]
abbrev R6 : Type := ((Int × Bool × Unit) × Unit)
abbrev T6 : Type := ByteArray → Option R6
noncomputable def u6 (f : T6) : (a6).C → Option (OutC o6) := fun (x : ((ByteArray × Unit) × Unit)) => f x.1.1
noncomputable def F6 (f : T6) : Fun := ⟨true, runR a6 o6 (u6 f)⟩
noncomputable def pa6_508 : Shape := ⟨[.d .str, .d .str], []⟩
noncomputable def pw6_508 : List Vm.Way := [⟨.normal, [61], ⟨[.d .bool], []⟩⟩]
abbrev R6_508 : Type := ((Bool × Unit) × Unit)
abbrev T6_508 : Type := ByteArray → ByteArray → Option R6_508
noncomputable def u6_508 (f : T6_508) : (pa6_508).C → Option (WayC pw6_508) := fun (x : ((ByteArray × ByteArray × Unit) × Unit)) => f x.1.1 x.1.2.1
noncomputable def l6_508 (k : Nat) : T6_508 := fun s0 d4 =>
  some (((decide ((d4.size : Int) < (s0.size : Int))), ()), ())
noncomputable def pa6_506 : Shape := ⟨[.d .str, .d i64, .d i64, .d i64], []⟩
noncomputable def pw6_506 : List Vm.Way := [⟨.exit 0, [5], ⟨[.d i64], []⟩⟩, ⟨.ret, [2, 3], ⟨[.d i64, .d .bool], []⟩⟩]
abbrev R6_506 : Type := (((Int × Unit) × Unit) ⊕ ((Int × Bool × Unit) × Unit))
abbrev T6_506 : Type := ByteArray → Int → Int → Int → Option R6_506
noncomputable def u6_506 (f : T6_506) : (pa6_506).C → Option (WayC pw6_506) := fun (x : ((ByteArray × Int × Int × Int × Unit) × Unit)) => f x.1.1 x.1.2.1 x.1.2.2.1 x.1.2.2.2.1
noncomputable def b6_506 (k : Nat) (rec : T6_506) : T6_506 := fun d4 n5 t34 t35 =>
  cond (decide (t35 < t34))
    (ixs d4 t35 fun c1 =>
    cond (decide (c1 < 48))
      (some (.inr ((0, false, ()), ())))
      (ixs d4 t35 fun c2 =>
      cond (decide (c2 > 57))
        (some (.inr ((0, false, ()), ())))
        (ixs d4 t35 fun c3 =>
        (rec d4 (w64 ((w64 (10 * n5)) + (w64 ((IntKind.u8.wrap (c3 - 48)))))) t34 (w64 (t35 + 1))).bind fun y4 =>
        match y4 with
        | .inl y4_0 =>
          some (.inl ((y4_0.1.1, ()), ()))
        | .inr y4_1 =>
          some (.inr ((y4_1.1.1, y4_1.1.2.1, ()), ())))))
    (some (.inl ((n5, ()), ())))
noncomputable def l6_506 (k : Nat) : Nat → T6_506
  | 0 => fun _ _ _ _ => none
  | j + 1 => b6_506 k (l6_506 k j)
noncomputable def pa6_252 : Shape := ⟨[.d .str], []⟩
noncomputable def pw6_252 : List Vm.Way := [⟨.normal, [34, 35], ⟨[.d i64, .d i64], []⟩⟩]
abbrev R6_252 : Type := ((Int × Int × Unit) × Unit)
abbrev T6_252 : Type := ByteArray → Option R6_252
noncomputable def u6_252 (f : T6_252) : (pa6_252).C → Option (WayC pw6_252) := fun (x : ((ByteArray × Unit) × Unit)) => f x.1.1
noncomputable def l6_252 (k : Nat) : T6_252 := fun d4 =>
  some (((d4.size : Int), 0, ()), ())
noncomputable def pa6_126 : Shape := ⟨[.d .str, .d i64], []⟩
noncomputable def pw6_126 : List Vm.Way := [⟨.normal, [5], ⟨[.d i64], []⟩⟩, ⟨.ret, [2, 3], ⟨[.d i64, .d .bool], []⟩⟩]
abbrev R6_126 : Type := (((Int × Unit) × Unit) ⊕ ((Int × Bool × Unit) × Unit))
abbrev T6_126 : Type := ByteArray → Int → Option R6_126
noncomputable def u6_126 (f : T6_126) : (pa6_126).C → Option (WayC pw6_126) := fun (x : ((ByteArray × Int × Unit) × Unit)) => f x.1.1 x.1.2.1
noncomputable def l6_126 (k : Nat) : T6_126 := fun d4 n5 =>
  (l6_252 k d4).bind fun y1 =>
  (l6_506 k k d4 n5 y1.1.1 y1.1.2.1).bind fun y2 =>
  match y2 with
  | .inl y2_0 =>
    some (.inl ((y2_0.1.1, ()), ()))
  | .inr y2_1 =>
    some (.inr ((y2_1.1.1, y2_1.1.2.1, ()), ()))
noncomputable def pa6_62 : Shape := ⟨[], []⟩
noncomputable def pw6_62 : List Vm.Way := [⟨.normal, [5], ⟨[.d i64], []⟩⟩]
abbrev R6_62 : Type := ((Int × Unit) × Unit)
abbrev T6_62 : Type := Unit → Option R6_62
noncomputable def u6_62 (f : T6_62) : (pa6_62).C → Option (WayC pw6_62) := fun (x : (Unit × Unit)) => f ()
noncomputable def l6_62 (k : Nat) : T6_62 := fun _ =>
  some ((0, ()), ())
noncomputable def pa6_60 : Shape := ⟨[.d .str, .d .str], []⟩
noncomputable def pw6_60 : List Vm.Way := [⟨.normal, [32], ⟨[.d .bool], []⟩⟩]
abbrev R6_60 : Type := ((Bool × Unit) × Unit)
abbrev T6_60 : Type := ByteArray → ByteArray → Option R6_60
noncomputable def u6_60 (f : T6_60) : (pa6_60).C → Option (WayC pw6_60) := fun (x : ((ByteArray × ByteArray × Unit) × Unit)) => f x.1.1 x.1.2.1
noncomputable def l6_60 (k : Nat) : T6_60 := fun s0 d4 =>
  cond (d4.toList == ByteArray.empty.toList)
    (some ((true, ()), ()))
    (cond (decide ((d4.size : Int) > 10))
      (some ((true, ()), ()))
      (ixs d4 0 fun c1 =>
      cond (c1 == 48)
        (some (((!(s0.toList == (ByteArray.mk #[48]).toList)), ()), ()))
        (some ((false, ()), ()))))
noncomputable def pa6_30 : Shape := ⟨[.d .str, .d .str], []⟩
noncomputable def pw6_30 : List Vm.Way := [⟨.normal, [], ⟨[], []⟩⟩, ⟨.ret, [2, 3], ⟨[.d i64, .d .bool], []⟩⟩]
abbrev R6_30 : Type := ((Unit × Unit) ⊕ ((Int × Bool × Unit) × Unit))
abbrev T6_30 : Type := ByteArray → ByteArray → Option R6_30
noncomputable def u6_30 (f : T6_30) : (pa6_30).C → Option (WayC pw6_30) := fun (x : ((ByteArray × ByteArray × Unit) × Unit)) => f x.1.1 x.1.2.1
noncomputable def l6_30 (k : Nat) : T6_30 := fun s0 d4 =>
  (l6_60 k s0 d4).bind fun y1 =>
  cond y1.1.1
    (some (.inr ((0, false, ()), ())))
    (some (.inl ((), ())))
noncomputable def pa6_14 : Shape := ⟨[.d .str, .d .str], []⟩
noncomputable def pw6_14 : List Vm.Way := [⟨.normal, [4], ⟨[.d .str], []⟩⟩]
abbrev R6_14 : Type := ((ByteArray × Unit) × Unit)
abbrev T6_14 : Type := ByteArray → ByteArray → Option R6_14
noncomputable def u6_14 (f : T6_14) : (pa6_14).C → Option (WayC pw6_14) := fun (x : ((ByteArray × ByteArray × Unit) × Unit)) => f x.1.1 x.1.2.1
noncomputable def l6_14 (k : Nat) : T6_14 := fun s0 d4 =>
  cond (!(s0.toList == ByteArray.empty.toList))
    (ixs s0 0 fun c1 =>
    cond (c1 == 45)
      (gd (decide (1 ≤ s0.size)) <|
      some (((s0.extract 1 s0.size), ()), ()))
      (some ((d4, ()), ())))
    (some ((d4, ()), ()))
noncomputable def f6 (k : Nat) : T6 := fun s0 =>
  (l6_14 k s0 s0).bind fun y1 =>
  (l6_30 k s0 y1.1.1).bind fun y2 =>
  match y2 with
  | .inl y2_0 =>
    (l6_62 k ()).bind fun y3 =>
    (l6_126 k y1.1.1 y3.1.1).bind fun y4 =>
    match y4 with
    | .inl y4_0 =>
      (l6_508 k s0 y1.1.1).bind fun y5 =>
      cond y5.1.1
        (some (((w64 (0 - y4_0.1.1)), true, ()), ()))
        (some ((y4_0.1.1, true, ()), ()))
    | .inr y4_1 =>
      some ((y4_1.1.1, y4_1.1.2.1, ()), ())
  | .inr y2_1 =>
    some ((y2_1.1.1, y2_1.1.2.1, ()), ())
noncomputable def C6 (k : Nat) : Nat → Fun := mkC []
theorem c6_ok (k : Nat) : ∀ f, SoundFn Try.prog f (C6 k f) := mkC_nil
noncomputable def H6_508 (k : Nat) : Nat → Option Cut := addH noH 508 ⟨runCut (wrC (codeAt 508 (bd Try.f6) 508)) 65 [0, 4] pa6_508 pw6_508 (u6_508 (l6_508 k))⟩
theorem e6_508 (k : Nat) (x : (pa6_508).C) : pieceF (C6 k) tt noH (codeAt 508 (bd Try.f6) 508) 508 65 [0, 4] pa6_508 pw6_508 x = u6_508 (l6_508 k) x := by kernel_rfl
theorem h6_508_ok (k : Nat) : ∀ p S, H6_508 k p = some S → ∀ c, At (bd Try.f6) p c → CutOk Try.prog c S :=
  have hC := c6_ok k
  addPiece hC ttOk (draw_ok hC ttOk mixed) noH_ok (fun x _ h => (e6_508 k x).trans h)
noncomputable def H6_506 (k : Nat) : Nat → Option Cut := addH (H6_508 k) 506 ⟨runCut (wrC (bodyOf (codeAt 506 (bd Try.f6) 506))) 65 [4, 5, 34, 35] pa6_506 pw6_506 (u6_506 (l6_506 k k))⟩
theorem e6_506 (k : Nat) (rec : T6_506) (x : (pa6_506).C) : roundF (C6 k) tt (H6_508 k) (bodyOf (codeAt 506 (bd Try.f6) 506)) 1012 65 [4, 5, 34, 35] pa6_506 pw6_506 (u6_506 rec) x = u6_506 (b6_506 k rec) x := by kernel_rfl
theorem h6_506_ok (k : Nat) : ∀ p S, H6_506 k p = some S → ∀ c, At (bd Try.f6) p c → CutOk Try.prog c S :=
  have hC := c6_ok k
  addLoop hC ttOk (draw_ok hC ttOk mixed) (h6_508_ok k) (by kernel_rfl) (F := fun j => u6_506 (l6_506 k j)) (fun _ => rfl) (fun j x _ h => (e6_506 k (l6_506 k j) x).trans h) k
noncomputable def H6_252 (k : Nat) : Nat → Option Cut := addH (H6_506 k) 252 ⟨runCut (wrC (codeAt 252 (bd Try.f6) 252)) 65 [4] pa6_252 pw6_252 (u6_252 (l6_252 k))⟩
theorem e6_252 (k : Nat) (x : (pa6_252).C) : pieceF (C6 k) tt (H6_506 k) (codeAt 252 (bd Try.f6) 252) 252 65 [4] pa6_252 pw6_252 x = u6_252 (l6_252 k) x := by kernel_rfl
theorem h6_252_ok (k : Nat) : ∀ p S, H6_252 k p = some S → ∀ c, At (bd Try.f6) p c → CutOk Try.prog c S :=
  have hC := c6_ok k
  addPiece hC ttOk (draw_ok hC ttOk mixed) (h6_506_ok k) (fun x _ h => (e6_252 k x).trans h)
noncomputable def H6_126 (k : Nat) : Nat → Option Cut := addH (H6_252 k) 126 ⟨runCut (wrC (codeAt 126 (bd Try.f6) 126)) 65 [4, 5] pa6_126 pw6_126 (u6_126 (l6_126 k))⟩
theorem e6_126 (k : Nat) (x : (pa6_126).C) : pieceF (C6 k) tt (H6_252 k) (codeAt 126 (bd Try.f6) 126) 126 65 [4, 5] pa6_126 pw6_126 x = u6_126 (l6_126 k) x := by kernel_rfl
theorem h6_126_ok (k : Nat) : ∀ p S, H6_126 k p = some S → ∀ c, At (bd Try.f6) p c → CutOk Try.prog c S :=
  have hC := c6_ok k
  addPiece hC ttOk (draw_ok hC ttOk mixed) (h6_252_ok k) (fun x _ h => (e6_126 k x).trans h)
noncomputable def H6_62 (k : Nat) : Nat → Option Cut := addH (H6_126 k) 62 ⟨runCut (wrC (codeAt 62 (bd Try.f6) 62)) 65 [] pa6_62 pw6_62 (u6_62 (l6_62 k))⟩
theorem e6_62 (k : Nat) (x : (pa6_62).C) : pieceF (C6 k) tt (H6_126 k) (codeAt 62 (bd Try.f6) 62) 62 65 [] pa6_62 pw6_62 x = u6_62 (l6_62 k) x := by kernel_rfl
theorem h6_62_ok (k : Nat) : ∀ p S, H6_62 k p = some S → ∀ c, At (bd Try.f6) p c → CutOk Try.prog c S :=
  have hC := c6_ok k
  addPiece hC ttOk (draw_ok hC ttOk mixed) (h6_126_ok k) (fun x _ h => (e6_62 k x).trans h)
noncomputable def H6_60 (k : Nat) : Nat → Option Cut := addH (H6_62 k) 60 ⟨runCut (wrC (codeAt 60 (bd Try.f6) 60)) 65 [0, 4] pa6_60 pw6_60 (u6_60 (l6_60 k))⟩
theorem e6_60 (k : Nat) (x : (pa6_60).C) : pieceF (C6 k) tt (H6_62 k) (codeAt 60 (bd Try.f6) 60) 60 65 [0, 4] pa6_60 pw6_60 x = u6_60 (l6_60 k) x := by kernel_rfl
theorem h6_60_ok (k : Nat) : ∀ p S, H6_60 k p = some S → ∀ c, At (bd Try.f6) p c → CutOk Try.prog c S :=
  have hC := c6_ok k
  addPiece hC ttOk (draw_ok hC ttOk mixed) (h6_62_ok k) (fun x _ h => (e6_60 k x).trans h)
noncomputable def H6_30 (k : Nat) : Nat → Option Cut := addH (H6_60 k) 30 ⟨runCut (wrC (codeAt 30 (bd Try.f6) 30)) 65 [0, 4] pa6_30 pw6_30 (u6_30 (l6_30 k))⟩
theorem e6_30 (k : Nat) (x : (pa6_30).C) : pieceF (C6 k) tt (H6_60 k) (codeAt 30 (bd Try.f6) 30) 30 65 [0, 4] pa6_30 pw6_30 x = u6_30 (l6_30 k) x := by kernel_rfl
theorem h6_30_ok (k : Nat) : ∀ p S, H6_30 k p = some S → ∀ c, At (bd Try.f6) p c → CutOk Try.prog c S :=
  have hC := c6_ok k
  addPiece hC ttOk (draw_ok hC ttOk mixed) (h6_60_ok k) (fun x _ h => (e6_30 k x).trans h)
noncomputable def H6_14 (k : Nat) : Nat → Option Cut := addH (H6_30 k) 14 ⟨runCut (wrC (codeAt 14 (bd Try.f6) 14)) 65 [0, 4] pa6_14 pw6_14 (u6_14 (l6_14 k))⟩
theorem e6_14 (k : Nat) (x : (pa6_14).C) : pieceF (C6 k) tt (H6_30 k) (codeAt 14 (bd Try.f6) 14) 14 65 [0, 4] pa6_14 pw6_14 x = u6_14 (l6_14 k) x := by kernel_rfl
theorem h6_14_ok (k : Nat) : ∀ p S, H6_14 k p = some S → ∀ c, At (bd Try.f6) p c → CutOk Try.prog c S :=
  have hC := c6_ok k
  addPiece hC ttOk (draw_ok hC ttOk mixed) (h6_30_ok k) (fun x _ h => (e6_14 k x).trans h)
theorem e6 (k : Nat) (x : (a6).C) : bodyR (C6 k) tt (H6_14 k) Try.f6 a6 o6 x = u6 (f6 k) x := by kernel_rfl
theorem s6 (k : Nat) : SoundFn Try.prog 6 (F6 (f6 k)) :=
  have hC := c6_ok k
  fnR_sound hC ttOk (draw_ok hC ttOk mixed) Try.func6 (c0 := bd Try.f6) rfl (entry Try.func6 rfl (by decide)) (h6_14_ok k) rfl (fun x _ h => (e6 k x).trans h)
/-! f20 (*fathom/dimacs.reader).begin (W) -/
noncomputable def a20 : Shape := ⟨[.ptr 0, .d (.slice T_word), .d i64], [.box [.d i64, .own (.slice i64), .d .bool, .d i64, .own i64, .d .bool, .d i64, .d i64]]⟩
noncomputable def o20 : List Shape := [⟨[.d .bool], [.box [.d i64, .own (.slice i64), .d .bool, .d i64, .own i64, .d .bool, .d i64, .d i64]]⟩]
abbrev R20 : Type := ((Bool × Unit) × ((Int × (List (List Int)) × Bool × Int × (List Int) × Bool × Int × Int × Unit) × Unit))
abbrev T20 : Type := (List D_word) → Int → Int → (List (List Int)) → Bool → Int → (List Int) → Bool → Int → Int → Option R20
noncomputable def u20 (f : T20) : (a20).C → Option (OutC o20) := fun (x : ((Unit × (List D_word) × Int × Unit) × ((Int × (List (List Int)) × Bool × Int × (List Int) × Bool × Int × Int × Unit) × Unit))) => f x.1.2.1 x.1.2.2.1 x.2.1.1 x.2.1.2.1 x.2.1.2.2.1 x.2.1.2.2.2.1 x.2.1.2.2.2.2.1 x.2.1.2.2.2.2.2.1 x.2.1.2.2.2.2.2.2.1 x.2.1.2.2.2.2.2.2.2.1
noncomputable def F20 (f : T20) : Fun := ⟨false, runW a20 o20 (u20 f)⟩
noncomputable def pa20_122 : Shape := ⟨[.ptr 0, .d (.slice T_word), .d i64, .ptr 1, .own i64, .d i64, .d i64], [.box [.d i64, .own (.slice i64), .d .bool, .d i64, .own i64, .d .bool, .d i64, .d i64], .arr (some 2) i64]⟩
noncomputable def pw20_122 : List Vm.Way := [⟨.exit 3, [], ⟨[], [.box [.d i64, .own (.slice i64), .d .bool, .d i64, .own i64, .d .bool, .d i64, .d i64], .arr (some 2) i64]⟩⟩, ⟨.ret, [6], ⟨[.d .bool], [.box [.d i64, .own (.slice i64), .d .bool, .d i64, .own i64, .d .bool, .d i64, .d i64], .arr (some 2) i64]⟩⟩]
abbrev R20_122 : Type := ((Unit × ((Int × (List (List Int)) × Bool × Int × (List Int) × Bool × Int × Int × Unit) × (List Int) × Unit)) ⊕ ((Bool × Unit) × ((Int × (List (List Int)) × Bool × Int × (List Int) × Bool × Int × Int × Unit) × (List Int) × Unit)))
abbrev T20_122 : Type := (List D_word) → Int → (List Int) → Int → Int → Int → (List (List Int)) → Bool → Int → (List Int) → Bool → Int → Int → (List Int) → Option R20_122
noncomputable def u20_122 (f : T20_122) : (pa20_122).C → Option (WayC pw20_122) := fun (x : ((Unit × (List D_word) × Int × Unit × (List Int) × Int × Int × Unit) × ((Int × (List (List Int)) × Bool × Int × (List Int) × Bool × Int × Int × Unit) × (List Int) × Unit))) => f x.1.2.1 x.1.2.2.1 x.1.2.2.2.2.1 x.1.2.2.2.2.2.1 x.1.2.2.2.2.2.2.1 x.2.1.1 x.2.1.2.1 x.2.1.2.2.1 x.2.1.2.2.2.1 x.2.1.2.2.2.2.1 x.2.1.2.2.2.2.2.1 x.2.1.2.2.2.2.2.2.1 x.2.1.2.2.2.2.2.2.2.1 x.2.2.1
noncomputable def b20_122 (k : Nat) (rec : T20_122) : T20_122 := fun l1 line2 t47 t48 t49 o0_0 o0_1 o0_2 o0_3 o0_4 o0_5 o0_6 o0_7 o1 =>
  cond (decide (t49 < t48))
    (ix t47 t49 fun e1 =>
    cond (decide ((w64 (2 + t49)) ≥ (l1.length : Int)))
      ((f22 k line2 2 o0_0 o0_1 o0_2 o0_3 o0_4 o0_5 o0_6 o0_7).bind fun y2 =>
      some (.inr ((y2.1.1, ()), ((y2.2.1.1, y2.2.1.2.1, y2.2.1.2.2.1, y2.2.1.2.2.2.1, y2.2.1.2.2.2.2.1, y2.2.1.2.2.2.2.2.1, y2.2.1.2.2.2.2.2.2.1, y2.2.1.2.2.2.2.2.2.2.1, ()), o1, ()))))
      (ix l1 (w64 (2 + t49)) fun e3 =>
      (f6 k e3.2.1).bind fun y4 =>
      cond (!y4.1.2.1)
        ((f22 k e3.1 2 o0_0 o0_1 o0_2 o0_3 o0_4 o0_5 o0_6 o0_7).bind fun y5 =>
        some (.inr ((y5.1.1, ()), ((y5.2.1.1, y5.2.1.2.1, y5.2.1.2.2.1, y5.2.1.2.2.2.1, y5.2.1.2.2.2.2.1, y5.2.1.2.2.2.2.2.1, y5.2.1.2.2.2.2.2.2.1, y5.2.1.2.2.2.2.2.2.2.1, ()), o1, ()))))
        (cond (decide (y4.1.1 < 0))
          ((f22 k e3.1 2 o0_0 o0_1 o0_2 o0_3 o0_4 o0_5 o0_6 o0_7).bind fun y6 =>
          some (.inr ((y6.1.1, ()), ((y6.2.1.1, y6.2.1.2.1, y6.2.1.2.2.1, y6.2.1.2.2.2.1, y6.2.1.2.2.2.2.1, y6.2.1.2.2.2.2.2.1, y6.2.1.2.2.2.2.2.2.1, y6.2.1.2.2.2.2.2.2.2.1, ()), o1, ()))))
          (cond (decide (y4.1.1 > e1))
            ((f22 k e3.1 1 o0_0 o0_1 o0_2 o0_3 o0_4 o0_5 o0_6 o0_7).bind fun y7 =>
            some (.inr ((y7.1.1, ()), ((y7.2.1.1, y7.2.1.2.1, y7.2.1.2.2.1, y7.2.1.2.2.2.1, y7.2.1.2.2.2.2.1, y7.2.1.2.2.2.2.2.1, y7.2.1.2.2.2.2.2.2.1, y7.2.1.2.2.2.2.2.2.2.1, ()), o1, ()))))
            (gd (decide (0 ≤ t49)) <|
            gd (decide (t49.toNat < 2)) <|
            gd (decide (t49.toNat < o1.length)) <|
            (rec l1 line2 t47 t48 (w64 (t49 + 1)) o0_0 o0_1 o0_2 o0_3 o0_4 o0_5 o0_6 o0_7 (o1.set t49.toNat y4.1.1)).bind fun y8 =>
            match y8 with
            | .inl y8_0 =>
              some (.inl ((), ((y8_0.2.1.1, y8_0.2.1.2.1, y8_0.2.1.2.2.1, y8_0.2.1.2.2.2.1, y8_0.2.1.2.2.2.2.1, y8_0.2.1.2.2.2.2.2.1, y8_0.2.1.2.2.2.2.2.2.1, y8_0.2.1.2.2.2.2.2.2.2.1, ()), y8_0.2.2.1, ())))
            | .inr y8_1 =>
              some (.inr ((y8_1.1.1, ()), ((y8_1.2.1.1, y8_1.2.1.2.1, y8_1.2.1.2.2.1, y8_1.2.1.2.2.2.1, y8_1.2.1.2.2.2.2.1, y8_1.2.1.2.2.2.2.2.1, y8_1.2.1.2.2.2.2.2.2.1, y8_1.2.1.2.2.2.2.2.2.2.1, ()), y8_1.2.2.1, ()))))))))
    (some (.inl ((), ((o0_0, o0_1, o0_2, o0_3, o0_4, o0_5, o0_6, o0_7, ()), o1, ()))))
noncomputable def l20_122 (k : Nat) : Nat → T20_122
  | 0 => fun _ _ _ _ _ _ _ _ _ _ _ _ _ _ => none
  | j + 1 => b20_122 k (l20_122 k j)
noncomputable def pa20_26 : Shape := ⟨[.ptr 0, .d (.slice T_word), .d i64, .own .str, .d i64, .d i64], [.box [.d i64, .own (.slice i64), .d .bool, .d i64, .own i64, .d .bool, .d i64, .d i64]]⟩
noncomputable def pw20_26 : List Vm.Way := [⟨.exit 0, [], ⟨[], [.box [.d i64, .own (.slice i64), .d .bool, .d i64, .own i64, .d .bool, .d i64, .d i64]]⟩⟩, ⟨.ret, [6], ⟨[.d .bool], [.box [.d i64, .own (.slice i64), .d .bool, .d i64, .own i64, .d .bool, .d i64, .d i64]]⟩⟩]
abbrev R20_26 : Type := ((Unit × ((Int × (List (List Int)) × Bool × Int × (List Int) × Bool × Int × Int × Unit) × Unit)) ⊕ ((Bool × Unit) × ((Int × (List (List Int)) × Bool × Int × (List Int) × Bool × Int × Int × Unit) × Unit)))
abbrev T20_26 : Type := (List D_word) → Int → (List ByteArray) → Int → Int → Int → (List (List Int)) → Bool → Int → (List Int) → Bool → Int → Int → Option R20_26
noncomputable def u20_26 (f : T20_26) : (pa20_26).C → Option (WayC pw20_26) := fun (x : ((Unit × (List D_word) × Int × (List ByteArray) × Int × Int × Unit) × ((Int × (List (List Int)) × Bool × Int × (List Int) × Bool × Int × Int × Unit) × Unit))) => f x.1.2.1 x.1.2.2.1 x.1.2.2.2.1 x.1.2.2.2.2.1 x.1.2.2.2.2.2.1 x.2.1.1 x.2.1.2.1 x.2.1.2.2.1 x.2.1.2.2.2.1 x.2.1.2.2.2.2.1 x.2.1.2.2.2.2.2.1 x.2.1.2.2.2.2.2.2.1 x.2.1.2.2.2.2.2.2.2.1
noncomputable def b20_26 (k : Nat) (rec : T20_26) : T20_26 := fun l1 line2 t15 t16 t17 o0_0 o0_1 o0_2 o0_3 o0_4 o0_5 o0_6 o0_7 =>
  cond (decide (t17 < t16))
    (ix t15 t17 fun e1 =>
    cond (decide (t17 ≥ (l1.length : Int)))
      ((f22 k line2 2 o0_0 o0_1 o0_2 o0_3 o0_4 o0_5 o0_6 o0_7).bind fun y2 =>
      some (.inr ((y2.1.1, ()), ((y2.2.1.1, y2.2.1.2.1, y2.2.1.2.2.1, y2.2.1.2.2.2.1, y2.2.1.2.2.2.2.1, y2.2.1.2.2.2.2.2.1, y2.2.1.2.2.2.2.2.2.1, y2.2.1.2.2.2.2.2.2.2.1, ()), ()))))
      (ix l1 t17 fun e3 =>
      cond (!(e3.2.1.toList == e1.toList))
        (ix l1 t17 fun e4 =>
        (f22 k e4.1 2 o0_0 o0_1 o0_2 o0_3 o0_4 o0_5 o0_6 o0_7).bind fun y5 =>
        some (.inr ((y5.1.1, ()), ((y5.2.1.1, y5.2.1.2.1, y5.2.1.2.2.1, y5.2.1.2.2.2.1, y5.2.1.2.2.2.2.1, y5.2.1.2.2.2.2.2.1, y5.2.1.2.2.2.2.2.2.1, y5.2.1.2.2.2.2.2.2.2.1, ()), ()))))
        ((rec l1 line2 t15 t16 (w64 (t17 + 1)) o0_0 o0_1 o0_2 o0_3 o0_4 o0_5 o0_6 o0_7).bind fun y6 =>
        match y6 with
        | .inl y6_0 =>
          some (.inl ((), ((y6_0.2.1.1, y6_0.2.1.2.1, y6_0.2.1.2.2.1, y6_0.2.1.2.2.2.1, y6_0.2.1.2.2.2.2.1, y6_0.2.1.2.2.2.2.2.1, y6_0.2.1.2.2.2.2.2.2.1, y6_0.2.1.2.2.2.2.2.2.2.1, ()), ())))
        | .inr y6_1 =>
          some (.inr ((y6_1.1.1, ()), ((y6_1.2.1.1, y6_1.2.1.2.1, y6_1.2.1.2.2.1, y6_1.2.1.2.2.2.1, y6_1.2.1.2.2.2.2.1, y6_1.2.1.2.2.2.2.2.1, y6_1.2.1.2.2.2.2.2.2.1, y6_1.2.1.2.2.2.2.2.2.2.1, ()), ()))))))
    (some (.inl ((), ((o0_0, o0_1, o0_2, o0_3, o0_4, o0_5, o0_6, o0_7, ()), ()))))
noncomputable def l20_26 (k : Nat) : Nat → T20_26
  | 0 => fun _ _ _ _ _ _ _ _ _ _ _ _ _ => none
  | j + 1 => b20_26 k (l20_26 k j)
noncomputable def f20 (k : Nat) : T20 := fun l1 line2 o0_0 o0_1 o0_2 o0_3 o0_4 o0_5 o0_6 o0_7 =>
  (l20_26 k k l1 line2 [(ByteArray.mk #[112]), s_4] 2 0 o0_0 o0_1 o0_2 o0_3 o0_4 o0_5 o0_6 o0_7).bind fun y1 =>
  match y1 with
  | .inl y1_0 =>
    (l20_122 k k l1 line2 [1048576, 262144] 2 0 y1_0.2.1.1 y1_0.2.1.2.1 y1_0.2.1.2.2.1 y1_0.2.1.2.2.2.1 y1_0.2.1.2.2.2.2.1 y1_0.2.1.2.2.2.2.2.1 y1_0.2.1.2.2.2.2.2.2.1 y1_0.2.1.2.2.2.2.2.2.2.1 [0, 0]).bind fun y2 =>
    match y2 with
    | .inl y2_0 =>
      cond (decide ((l1.length : Int) > 4))
        (ix l1 4 fun e3 =>
        (f22 k e3.1 2 y2_0.2.1.1 y2_0.2.1.2.1 y2_0.2.1.2.2.1 y2_0.2.1.2.2.2.1 y2_0.2.1.2.2.2.2.1 y2_0.2.1.2.2.2.2.2.1 y2_0.2.1.2.2.2.2.2.2.1 y2_0.2.1.2.2.2.2.2.2.2.1).bind fun y4 =>
        some ((y4.1.1, ()), ((y4.2.1.1, y4.2.1.2.1, y4.2.1.2.2.1, y4.2.1.2.2.2.1, y4.2.1.2.2.2.2.1, y4.2.1.2.2.2.2.2.1, y4.2.1.2.2.2.2.2.2.1, y4.2.1.2.2.2.2.2.2.2.1, ()), ())))
        ((y2_0.2.2.1[0]?).bind fun e5 =>
        (y2_0.2.2.1[1]?).bind fun e6 =>
        some ((true, ()), ((e5, y2_0.2.1.2.1, true, e6, y2_0.2.1.2.2.2.2.1, y2_0.2.1.2.2.2.2.2.1, y2_0.2.1.2.2.2.2.2.2.1, y2_0.2.1.2.2.2.2.2.2.2.1, ()), ())))
    | .inr y2_1 =>
      some ((y2_1.1.1, ()), ((y2_1.2.1.1, y2_1.2.1.2.1, y2_1.2.1.2.2.1, y2_1.2.1.2.2.2.1, y2_1.2.1.2.2.2.2.1, y2_1.2.1.2.2.2.2.2.1, y2_1.2.1.2.2.2.2.2.2.1, y2_1.2.1.2.2.2.2.2.2.2.1, ()), ()))
  | .inr y1_1 =>
    some ((y1_1.1.1, ()), ((y1_1.2.1.1, y1_1.2.1.2.1, y1_1.2.1.2.2.1, y1_1.2.1.2.2.2.1, y1_1.2.1.2.2.2.2.1, y1_1.2.1.2.2.2.2.2.1, y1_1.2.1.2.2.2.2.2.2.1, y1_1.2.1.2.2.2.2.2.2.2.1, ()), ()))
noncomputable def C20 (k : Nat) : Nat → Fun := mkC [(6, (F6 (f6 k))), (22, (F22 (f22 k)))]
theorem c20_ok (k : Nat) : ∀ f, SoundFn Try.prog f (C20 k f) := (mkC_cons (s6 k) (mkC_cons (s22 k) mkC_nil))
noncomputable def H20_122 (k : Nat) : Nat → Option Cut := addH noH 122 ⟨runCut (wrC (bodyOf (codeAt 122 (bd Try.f20) 122))) 119 [0, 1, 2, 9, 47, 48, 49] pa20_122 pw20_122 (u20_122 (l20_122 k k))⟩
theorem e20_122 (k : Nat) (rec : T20_122) (x : (pa20_122).C) : roundF (C20 k) tt noH (bodyOf (codeAt 122 (bd Try.f20) 122)) 244 119 [0, 1, 2, 9, 47, 48, 49] pa20_122 pw20_122 (u20_122 rec) x = u20_122 (b20_122 k rec) x := by kernel_rfl
theorem h20_122_ok (k : Nat) : ∀ p S, H20_122 k p = some S → ∀ c, At (bd Try.f20) p c → CutOk Try.prog c S :=
  have hC := c20_ok k
  addLoop hC ttOk (draw_ok hC ttOk mixed) noH_ok (by kernel_rfl) (F := fun j => u20_122 (l20_122 k j)) (fun _ => rfl) (fun j x _ h => (e20_122 k (l20_122 k j) x).trans h) k
noncomputable def H20_26 (k : Nat) : Nat → Option Cut := addH (H20_122 k) 26 ⟨runCut (wrC (bodyOf (codeAt 26 (bd Try.f20) 26))) 119 [0, 1, 2, 15, 16, 17] pa20_26 pw20_26 (u20_26 (l20_26 k k))⟩
theorem e20_26 (k : Nat) (rec : T20_26) (x : (pa20_26).C) : roundF (C20 k) tt (H20_122 k) (bodyOf (codeAt 26 (bd Try.f20) 26)) 52 119 [0, 1, 2, 15, 16, 17] pa20_26 pw20_26 (u20_26 rec) x = u20_26 (b20_26 k rec) x := by kernel_rfl
theorem h20_26_ok (k : Nat) : ∀ p S, H20_26 k p = some S → ∀ c, At (bd Try.f20) p c → CutOk Try.prog c S :=
  have hC := c20_ok k
  addLoop hC ttOk (draw_ok hC ttOk mixed) (h20_122_ok k) (by kernel_rfl) (F := fun j => u20_26 (l20_26 k j)) (fun _ => rfl) (fun j x _ h => (e20_26 k (l20_26 k j) x).trans h) k
theorem e20 (k : Nat) (x : (a20).C) : bodyW (C20 k) tt (H20_26 k) Try.f20 a20 o20 x = u20 (f20 k) x := by kernel_rfl
theorem s20 (k : Nat) : SoundFn Try.prog 20 (F20 (f20 k)) :=
  have hC := c20_ok k
  fnW_sound hC ttOk (draw_ok hC ttOk mixed) Try.func20 (c0 := bd Try.f20) rfl (entry Try.func20 rfl (by decide)) (h20_26_ok k) (fun x _ h => (e20 k x).trans h)
/-! f21 (*fathom/dimacs.reader).number (W) -/
noncomputable def a21 : Shape := ⟨[.ptr 0, .d T_word], [.box [.d i64, .own (.slice i64), .d .bool, .d i64, .own i64, .d .bool, .d i64, .d i64]]⟩
noncomputable def o21 : List Shape := [⟨[.d .bool], [.box [.d i64, .own (.slice i64), .d .bool, .d i64, .own i64, .d .bool, .d i64, .d i64]]⟩]
abbrev R21 : Type := ((Bool × Unit) × ((Int × (List (List Int)) × Bool × Int × (List Int) × Bool × Int × Int × Unit) × Unit))
abbrev T21 : Type := D_word → Int → (List (List Int)) → Bool → Int → (List Int) → Bool → Int → Int → Option R21
noncomputable def u21 (f : T21) : (a21).C → Option (OutC o21) := fun (x : ((Unit × D_word × Unit) × ((Int × (List (List Int)) × Bool × Int × (List Int) × Bool × Int × Int × Unit) × Unit))) => f x.1.2.1 x.2.1.1 x.2.1.2.1 x.2.1.2.2.1 x.2.1.2.2.2.1 x.2.1.2.2.2.2.1 x.2.1.2.2.2.2.2.1 x.2.1.2.2.2.2.2.2.1 x.2.1.2.2.2.2.2.2.2.1
noncomputable def F21 (f : T21) : Fun := ⟨false, runW a21 o21 (u21 f)⟩
noncomputable def f21 (k : Nat) : T21 := fun w1 o0_0 o0_1 o0_2 o0_3 o0_4 o0_5 o0_6 o0_7 =>
  (f6 k w1.2.1).bind fun y1 =>
  cond (!y1.1.2.1)
    ((f22 k w1.1 2 o0_0 o0_1 o0_2 o0_3 o0_4 o0_5 o0_6 o0_7).bind fun y2 =>
    some ((y2.1.1, ()), ((y2.2.1.1, y2.2.1.2.1, y2.2.1.2.2.1, y2.2.1.2.2.2.1, y2.2.1.2.2.2.2.1, y2.2.1.2.2.2.2.2.1, y2.2.1.2.2.2.2.2.2.1, y2.2.1.2.2.2.2.2.2.2.1, ()), ())))
    (cond (!o0_5)
      (cond ((o0_1.length : Int) == o0_3)
        ((f22 k w1.1 4 o0_0 o0_1 o0_2 o0_3 o0_4 o0_5 o0_6 o0_7).bind fun y3 =>
        some ((y3.1.1, ()), ((y3.2.1.1, y3.2.1.2.1, y3.2.1.2.2.1, y3.2.1.2.2.2.1, y3.2.1.2.2.2.2.1, y3.2.1.2.2.2.2.2.1, y3.2.1.2.2.2.2.2.2.1, y3.2.1.2.2.2.2.2.2.2.1, ()), ())))
        (cond (y1.1.1 == 0)
          (gd (decide ((o0_1.length + 1) * 24 ≤ room)) <|
          some ((true, ()), ((o0_0, (o0_1 ++ ([o0_4] : List (List Int))), o0_2, o0_3, [], false, o0_6, o0_7, ()), ())))
          (cond (decide ((minmax true y1.1.1 (w64 (0 - y1.1.1))) > o0_0))
            ((f22 k w1.1 1 o0_0 o0_1 o0_2 o0_3 o0_4 o0_5 o0_6 o0_7).bind fun y4 =>
            some ((y4.1.1, ()), ((y4.2.1.1, y4.2.1.2.1, y4.2.1.2.2.1, y4.2.1.2.2.2.1, y4.2.1.2.2.2.2.1, y4.2.1.2.2.2.2.2.1, y4.2.1.2.2.2.2.2.2.1, y4.2.1.2.2.2.2.2.2.2.1, ()), ())))
            (cond ((o0_4.length : Int) == 4096)
              ((f22 k w1.1 3 o0_0 o0_1 o0_2 o0_3 o0_4 o0_5 o0_6 o0_7).bind fun y5 =>
              some ((y5.1.1, ()), ((y5.2.1.1, y5.2.1.2.1, y5.2.1.2.2.1, y5.2.1.2.2.2.1, y5.2.1.2.2.2.2.1, y5.2.1.2.2.2.2.2.1, y5.2.1.2.2.2.2.2.2.1, y5.2.1.2.2.2.2.2.2.2.1, ()), ())))
              (gd (decide ((o0_4.length + 1) * 8 ≤ room)) <|
              some ((true, ()), ((o0_0, o0_1, o0_2, o0_3, (o0_4 ++ ([y1.1.1] : List Int)), true, o0_6, o0_7, ()), ())))))))
      (cond (y1.1.1 == 0)
        (gd (decide ((o0_1.length + 1) * 24 ≤ room)) <|
        some ((true, ()), ((o0_0, (o0_1 ++ ([o0_4] : List (List Int))), o0_2, o0_3, [], false, o0_6, o0_7, ()), ())))
        (cond (decide ((minmax true y1.1.1 (w64 (0 - y1.1.1))) > o0_0))
          ((f22 k w1.1 1 o0_0 o0_1 o0_2 o0_3 o0_4 o0_5 o0_6 o0_7).bind fun y6 =>
          some ((y6.1.1, ()), ((y6.2.1.1, y6.2.1.2.1, y6.2.1.2.2.1, y6.2.1.2.2.2.1, y6.2.1.2.2.2.2.1, y6.2.1.2.2.2.2.2.1, y6.2.1.2.2.2.2.2.2.1, y6.2.1.2.2.2.2.2.2.2.1, ()), ())))
          (cond ((o0_4.length : Int) == 4096)
            ((f22 k w1.1 3 o0_0 o0_1 o0_2 o0_3 o0_4 o0_5 o0_6 o0_7).bind fun y7 =>
            some ((y7.1.1, ()), ((y7.2.1.1, y7.2.1.2.1, y7.2.1.2.2.1, y7.2.1.2.2.2.1, y7.2.1.2.2.2.2.1, y7.2.1.2.2.2.2.2.1, y7.2.1.2.2.2.2.2.2.1, y7.2.1.2.2.2.2.2.2.2.1, ()), ())))
            (gd (decide ((o0_4.length + 1) * 8 ≤ room)) <|
            some ((true, ()), ((o0_0, o0_1, o0_2, o0_3, (o0_4 ++ ([y1.1.1] : List Int)), true, o0_6, o0_7, ()), ())))))))
noncomputable def C21 (k : Nat) : Nat → Fun := mkC [(6, (F6 (f6 k))), (22, (F22 (f22 k)))]
theorem c21_ok (k : Nat) : ∀ f, SoundFn Try.prog f (C21 k f) := (mkC_cons (s6 k) (mkC_cons (s22 k) mkC_nil))
theorem e21 (k : Nat) (x : (a21).C) : bodyW (C21 k) tt noH Try.f21 a21 o21 x = u21 (f21 k) x := by kernel_rfl
theorem s21 (k : Nat) : SoundFn Try.prog 21 (F21 (f21 k)) :=
  have hC := c21_ok k
  fnW_sound hC ttOk (draw_ok hC ttOk mixed) Try.func21 (c0 := bd Try.f21) rfl (entry Try.func21 rfl (by decide)) noH_ok (fun x _ h => (e21 k x).trans h)
/-! f15 (*fathom/dimacs.reader).line (W) -/
noncomputable def a15 : Shape := ⟨[.ptr 0, .d (.slice (.int .u8)), .d i64], [.box [.d i64, .own (.slice i64), .d .bool, .d i64, .own i64, .d .bool, .d i64, .d i64]]⟩
noncomputable def o15 : List Shape := [⟨[.d .bool], [.box [.d i64, .own (.slice i64), .d .bool, .d i64, .own i64, .d .bool, .d i64, .d i64]]⟩]
abbrev R15 : Type := ((Bool × Unit) × ((Int × (List (List Int)) × Bool × Int × (List Int) × Bool × Int × Int × Unit) × Unit))
abbrev T15 : Type := (List Int) → Int → Int → (List (List Int)) → Bool → Int → (List Int) → Bool → Int → Int → Option R15
noncomputable def u15 (f : T15) : (a15).C → Option (OutC o15) := fun (x : ((Unit × (List Int) × Int × Unit) × ((Int × (List (List Int)) × Bool × Int × (List Int) × Bool × Int × Int × Unit) × Unit))) => f x.1.2.1 x.1.2.2.1 x.2.1.1 x.2.1.2.1 x.2.1.2.2.1 x.2.1.2.2.2.1 x.2.1.2.2.2.2.1 x.2.1.2.2.2.2.2.1 x.2.1.2.2.2.2.2.2.1 x.2.1.2.2.2.2.2.2.2.1
noncomputable def F15 (f : T15) : Fun := ⟨false, runW a15 o15 (u15 f)⟩
noncomputable def pa15_250 : Shape := ⟨[.ptr 0, .d (.slice T_word), .d i64, .d i64], [.box [.d i64, .own (.slice i64), .d .bool, .d i64, .own i64, .d .bool, .d i64, .d i64]]⟩
noncomputable def pw15_250 : List Vm.Way := [⟨.exit 0, [], ⟨[], [.box [.d i64, .own (.slice i64), .d .bool, .d i64, .own i64, .d .bool, .d i64, .d i64]]⟩⟩, ⟨.ret, [6], ⟨[.d .bool], [.box [.d i64, .own (.slice i64), .d .bool, .d i64, .own i64, .d .bool, .d i64, .d i64]]⟩⟩]
abbrev R15_250 : Type := ((Unit × ((Int × (List (List Int)) × Bool × Int × (List Int) × Bool × Int × Int × Unit) × Unit)) ⊕ ((Bool × Unit) × ((Int × (List (List Int)) × Bool × Int × (List Int) × Bool × Int × Int × Unit) × Unit)))
abbrev T15_250 : Type := (List D_word) → Int → Int → Int → (List (List Int)) → Bool → Int → (List Int) → Bool → Int → Int → Option R15_250
noncomputable def u15_250 (f : T15_250) : (pa15_250).C → Option (WayC pw15_250) := fun (x : ((Unit × (List D_word) × Int × Int × Unit) × ((Int × (List (List Int)) × Bool × Int × (List Int) × Bool × Int × Int × Unit) × Unit))) => f x.1.2.1 x.1.2.2.1 x.1.2.2.2.1 x.2.1.1 x.2.1.2.1 x.2.1.2.2.1 x.2.1.2.2.2.1 x.2.1.2.2.2.2.1 x.2.1.2.2.2.2.2.1 x.2.1.2.2.2.2.2.2.1 x.2.1.2.2.2.2.2.2.2.1
noncomputable def b15_250 (k : Nat) (rec : T15_250) : T15_250 := fun t32 t33 t34 o0_0 o0_1 o0_2 o0_3 o0_4 o0_5 o0_6 o0_7 =>
  cond (decide (t34 < t33))
    (ix t32 t34 fun e1 =>
    (f21 k e1 o0_0 o0_1 o0_2 o0_3 o0_4 o0_5 o0_6 o0_7).bind fun y2 =>
    cond (!y2.1.1)
      (some (.inr ((false, ()), ((y2.2.1.1, y2.2.1.2.1, y2.2.1.2.2.1, y2.2.1.2.2.2.1, y2.2.1.2.2.2.2.1, y2.2.1.2.2.2.2.2.1, y2.2.1.2.2.2.2.2.2.1, y2.2.1.2.2.2.2.2.2.2.1, ()), ()))))
      ((rec t32 t33 (w64 (t34 + 1)) y2.2.1.1 y2.2.1.2.1 y2.2.1.2.2.1 y2.2.1.2.2.2.1 y2.2.1.2.2.2.2.1 y2.2.1.2.2.2.2.2.1 y2.2.1.2.2.2.2.2.2.1 y2.2.1.2.2.2.2.2.2.2.1).bind fun y3 =>
      match y3 with
      | .inl y3_0 =>
        some (.inl ((), ((y3_0.2.1.1, y3_0.2.1.2.1, y3_0.2.1.2.2.1, y3_0.2.1.2.2.2.1, y3_0.2.1.2.2.2.2.1, y3_0.2.1.2.2.2.2.2.1, y3_0.2.1.2.2.2.2.2.2.1, y3_0.2.1.2.2.2.2.2.2.2.1, ()), ())))
      | .inr y3_1 =>
        some (.inr ((y3_1.1.1, ()), ((y3_1.2.1.1, y3_1.2.1.2.1, y3_1.2.1.2.2.1, y3_1.2.1.2.2.2.1, y3_1.2.1.2.2.2.2.1, y3_1.2.1.2.2.2.2.2.1, y3_1.2.1.2.2.2.2.2.2.1, y3_1.2.1.2.2.2.2.2.2.2.1, ()), ())))))
    (some (.inl ((), ((o0_0, o0_1, o0_2, o0_3, o0_4, o0_5, o0_6, o0_7, ()), ()))))
noncomputable def l15_250 (k : Nat) : Nat → T15_250
  | 0 => fun _ _ _ _ _ _ _ _ _ _ _ => none
  | j + 1 => b15_250 k (l15_250 k j)
noncomputable def f15 (k : Nat) : T15 := fun b1 at2 o0_0 o0_1 o0_2 o0_3 o0_4 o0_5 o0_6 o0_7 =>
  (f19 k b1 at2).bind fun y1 =>
  cond ((y1.1.1.length : Int) == 0)
    (some ((true, ()), ((o0_0, o0_1, o0_2, o0_3, o0_4, o0_5, o0_6, o0_7, ()), ())))
    (ix y1.1.1 0 fun e2 =>
    cond (e2.2.1.toList == (ByteArray.mk #[99]).toList)
      (some ((true, ()), ((o0_0, o0_1, o0_2, o0_3, o0_4, o0_5, o0_6, o0_7, ()), ())))
      (cond (!o0_2)
        ((f20 k y1.1.1 at2 o0_0 o0_1 o0_2 o0_3 o0_4 o0_5 o0_6 o0_7).bind fun y3 =>
        some ((y3.1.1, ()), ((y3.2.1.1, y3.2.1.2.1, y3.2.1.2.2.1, y3.2.1.2.2.2.1, y3.2.1.2.2.2.2.1, y3.2.1.2.2.2.2.2.1, y3.2.1.2.2.2.2.2.2.1, y3.2.1.2.2.2.2.2.2.2.1, ()), ())))
        ((l15_250 k k y1.1.1 (y1.1.1.length : Int) 0 o0_0 o0_1 o0_2 o0_3 o0_4 o0_5 o0_6 o0_7).bind fun y4 =>
        match y4 with
        | .inl y4_0 =>
          some ((true, ()), ((y4_0.2.1.1, y4_0.2.1.2.1, y4_0.2.1.2.2.1, y4_0.2.1.2.2.2.1, y4_0.2.1.2.2.2.2.1, y4_0.2.1.2.2.2.2.2.1, y4_0.2.1.2.2.2.2.2.2.1, y4_0.2.1.2.2.2.2.2.2.2.1, ()), ()))
        | .inr y4_1 =>
          some ((y4_1.1.1, ()), ((y4_1.2.1.1, y4_1.2.1.2.1, y4_1.2.1.2.2.1, y4_1.2.1.2.2.2.1, y4_1.2.1.2.2.2.2.1, y4_1.2.1.2.2.2.2.2.1, y4_1.2.1.2.2.2.2.2.2.1, y4_1.2.1.2.2.2.2.2.2.2.1, ()), ())))))
noncomputable def C15 (k : Nat) : Nat → Fun := mkC [(19, (F19 (f19 k))), (20, (F20 (f20 k))), (21, (F21 (f21 k)))]
theorem c15_ok (k : Nat) : ∀ f, SoundFn Try.prog f (C15 k f) := (mkC_cons (s19 k) (mkC_cons (s20 k) (mkC_cons (s21 k) mkC_nil)))
noncomputable def H15_250 (k : Nat) : Nat → Option Cut := addH noH 250 ⟨runCut (wrC (bodyOf (codeAt 250 (bd Try.f15) 250))) 43 [0, 32, 33, 34] pa15_250 pw15_250 (u15_250 (l15_250 k k))⟩
theorem e15_250 (k : Nat) (rec : T15_250) (x : (pa15_250).C) : roundF (C15 k) tt noH (bodyOf (codeAt 250 (bd Try.f15) 250)) 500 43 [0, 32, 33, 34] pa15_250 pw15_250 (u15_250 rec) x = u15_250 (b15_250 k rec) x := by kernel_rfl
theorem h15_250_ok (k : Nat) : ∀ p S, H15_250 k p = some S → ∀ c, At (bd Try.f15) p c → CutOk Try.prog c S :=
  have hC := c15_ok k
  addLoop hC ttOk (draw_ok hC ttOk mixed) noH_ok (by kernel_rfl) (F := fun j => u15_250 (l15_250 k j)) (fun _ => rfl) (fun j x _ h => (e15_250 k (l15_250 k j) x).trans h) k
theorem e15 (k : Nat) (x : (a15).C) : bodyW (C15 k) tt (H15_250 k) Try.f15 a15 o15 x = u15 (f15 k) x := by kernel_rfl
theorem s15 (k : Nat) : SoundFn Try.prog 15 (F15 (f15 k)) :=
  have hC := c15_ok k
  fnW_sound hC ttOk (draw_ok hC ttOk mixed) Try.func15 (c0 := bd Try.f15) rfl (entry Try.func15 rfl (by decide)) (h15_250_ok k) (fun x _ h => (e15 k x).trans h)
/-! f11 fathom/dimacs.Read (R) -/
noncomputable def a11 : Shape := ⟨[.d (.slice (.int .u8))], []⟩
noncomputable def o11 : List Shape := [⟨[.d T_Cnf, .d i64, .d i64], []⟩]
abbrev R11 : Type := ((D_Cnf × Int × Int × Unit) × Unit)
abbrev T11 : Type := (List Int) → Option R11
noncomputable def u11 (f : T11) : (a11).C → Option (OutC o11) := fun (x : (((List Int) × Unit) × Unit)) => f x.1.1
noncomputable def F11 (f : T11) : Fun := ⟨true, runR a11 o11 (u11 f)⟩
noncomputable def pa11_128156 : Shape := ⟨[.d (.slice (.int .u8)), .ptr 0, .d i64, .d i64], [.box [.d i64, .own (.slice i64), .d .bool, .d i64, .own i64, .d .bool, .d i64, .d i64]]⟩
noncomputable def pw11_128156 : List Vm.Way := [⟨.normal, [59], ⟨[.d .bool], [.box [.d i64, .own (.slice i64), .d .bool, .d i64, .own i64, .d .bool, .d i64, .d i64]]⟩⟩]
abbrev R11_128156 : Type := ((Bool × Unit) × ((Int × (List (List Int)) × Bool × Int × (List Int) × Bool × Int × Int × Unit) × Unit))
abbrev T11_128156 : Type := (List Int) → Int → Int → Int → (List (List Int)) → Bool → Int → (List Int) → Bool → Int → Int → Option R11_128156
noncomputable def u11_128156 (f : T11_128156) : (pa11_128156).C → Option (WayC pw11_128156) := fun (x : (((List Int) × Unit × Int × Int × Unit) × ((Int × (List (List Int)) × Bool × Int × (List Int) × Bool × Int × Int × Unit) × Unit))) => f x.1.1 x.1.2.2.1 x.1.2.2.2.1 x.2.1.1 x.2.1.2.1 x.2.1.2.2.1 x.2.1.2.2.2.1 x.2.1.2.2.2.2.1 x.2.1.2.2.2.2.2.1 x.2.1.2.2.2.2.2.2.1 x.2.1.2.2.2.2.2.2.2.1
noncomputable def l11_128156 (k : Nat) : T11_128156 := fun b0 from6 to8 o0_0 o0_1 o0_2 o0_3 o0_4 o0_5 o0_6 o0_7 =>
  gd (decide (0 ≤ to8)) <|
  gd (decide (to8.toNat ≤ b0.length)) <|
  gd (decide (0 ≤ from6)) <|
  gd (decide (from6.toNat ≤ to8.toNat)) <|
  (f15 k ((b0.take to8.toNat).drop from6.toNat) from6 o0_0 o0_1 o0_2 o0_3 o0_4 o0_5 o0_6 o0_7).bind fun y1 =>
  some (((!y1.1.1), ()), ((y1.2.1.1, y1.2.1.2.1, y1.2.1.2.2.1, y1.2.1.2.2.2.1, y1.2.1.2.2.2.2.1, y1.2.1.2.2.2.2.2.1, y1.2.1.2.2.2.2.2.2.1, y1.2.1.2.2.2.2.2.2.2.1, ()), ()))
noncomputable def pa11_64078 : Shape := ⟨[.d (.slice (.int .u8)), .ptr 0, .ptr 1, .d i64, .d i64], [.box [.d i64, .own (.slice i64)], .box [.d i64, .own (.slice i64), .d .bool, .d i64, .own i64, .d .bool, .d i64, .d i64]]⟩
noncomputable def pw11_64078 : List Vm.Way := [⟨.normal, [], ⟨[], [.box [.d i64, .own (.slice i64)], .box [.d i64, .own (.slice i64), .d .bool, .d i64, .own i64, .d .bool, .d i64, .d i64]]⟩⟩, ⟨.ret, [3, 4], ⟨[.d i64, .d i64], [.box [.d i64, .own (.slice i64)], .box [.d i64, .own (.slice i64), .d .bool, .d i64, .own i64, .d .bool, .d i64, .d i64]]⟩⟩]
abbrev R11_64078 : Type := ((Unit × ((Int × (List (List Int)) × Unit) × (Int × (List (List Int)) × Bool × Int × (List Int) × Bool × Int × Int × Unit) × Unit)) ⊕ ((Int × Int × Unit) × ((Int × (List (List Int)) × Unit) × (Int × (List (List Int)) × Bool × Int × (List Int) × Bool × Int × Int × Unit) × Unit)))
abbrev T11_64078 : Type := (List Int) → Int → Int → Int → (List (List Int)) → Int → (List (List Int)) → Bool → Int → (List Int) → Bool → Int → Int → Option R11_64078
noncomputable def u11_64078 (f : T11_64078) : (pa11_64078).C → Option (WayC pw11_64078) := fun (x : (((List Int) × Unit × Unit × Int × Int × Unit) × ((Int × (List (List Int)) × Unit) × (Int × (List (List Int)) × Bool × Int × (List Int) × Bool × Int × Int × Unit) × Unit))) => f x.1.1 x.1.2.2.2.1 x.1.2.2.2.2.1 x.2.1.1 x.2.1.2.1 x.2.2.1.1 x.2.2.1.2.1 x.2.2.1.2.2.1 x.2.2.1.2.2.2.1 x.2.2.1.2.2.2.2.1 x.2.2.1.2.2.2.2.2.1 x.2.2.1.2.2.2.2.2.2.1 x.2.2.1.2.2.2.2.2.2.2.1
noncomputable def l11_64078 (k : Nat) : T11_64078 := fun b0 from6 to8 o0_0 o0_1 o1_0 o1_1 o1_2 o1_3 o1_4 o1_5 o1_6 o1_7 =>
  (l11_128156 k b0 from6 to8 o1_0 o1_1 o1_2 o1_3 o1_4 o1_5 o1_6 o1_7).bind fun y1 =>
  cond y1.1.1
    (some (.inr ((y1.2.1.2.2.2.2.2.2.1, y1.2.1.2.2.2.2.2.2.2.1, ()), ((0, [], ()), (y1.2.1.1, y1.2.1.2.1, y1.2.1.2.2.1, y1.2.1.2.2.2.1, y1.2.1.2.2.2.2.1, y1.2.1.2.2.2.2.2.1, y1.2.1.2.2.2.2.2.2.1, y1.2.1.2.2.2.2.2.2.2.1, ()), ()))))
    (some (.inl ((), ((o0_0, o0_1, ()), (y1.2.1.1, y1.2.1.2.1, y1.2.1.2.2.1, y1.2.1.2.2.2.1, y1.2.1.2.2.2.2.1, y1.2.1.2.2.2.2.2.1, y1.2.1.2.2.2.2.2.2.1, y1.2.1.2.2.2.2.2.2.2.1, ()), ()))))
noncomputable def pa11_64076 : Shape := ⟨[.d (.slice (.int .u8)), .d i64, .d i64, .d i64], []⟩
noncomputable def pw11_64076 : List Vm.Way := [⟨.normal, [49], ⟨[.d .bool], []⟩⟩]
abbrev R11_64076 : Type := ((Bool × Unit) × Unit)
abbrev T11_64076 : Type := (List Int) → Int → Int → Int → Option R11_64076
noncomputable def u11_64076 (f : T11_64076) : (pa11_64076).C → Option (WayC pw11_64076) := fun (x : (((List Int) × Int × Int × Int × Unit) × Unit)) => f x.1.1 x.1.2.1 x.1.2.2.1 x.1.2.2.2.1
noncomputable def l11_64076 (k : Nat) : T11_64076 := fun b0 from6 i7 to8 =>
  cond (decide (i7 < (b0.length : Int)))
    (cond (decide (to8 > from6))
      (ix b0 (w64 (to8 - 1)) fun e1 =>
      some (((e1 == 13), ()), ()))
      (some ((false, ()), ())))
    (some ((false, ()), ()))
noncomputable def pa11_32038 : Shape := ⟨[.d (.slice (.int .u8)), .d i64, .d i64, .d i64], []⟩
noncomputable def pw11_32038 : List Vm.Way := [⟨.normal, [8], ⟨[.d i64], []⟩⟩]
abbrev R11_32038 : Type := ((Int × Unit) × Unit)
abbrev T11_32038 : Type := (List Int) → Int → Int → Int → Option R11_32038
noncomputable def u11_32038 (f : T11_32038) : (pa11_32038).C → Option (WayC pw11_32038) := fun (x : (((List Int) × Int × Int × Int × Unit) × Unit)) => f x.1.1 x.1.2.1 x.1.2.2.1 x.1.2.2.2.1
noncomputable def l11_32038 (k : Nat) : T11_32038 := fun b0 from6 i7 to8 =>
  (l11_64076 k b0 from6 i7 to8).bind fun y1 =>
  cond y1.1.1
    (some (((w64 (to8 - 1)), ()), ()))
    (some ((to8, ()), ()))
noncomputable def pa11_250 : Shape := ⟨[.d (.slice (.int .u8)), .ptr 0, .ptr 1, .d i64, .d i64], [.box [.d i64, .own (.slice i64)], .box [.d i64, .own (.slice i64), .d .bool, .d i64, .own i64, .d .bool, .d i64, .d i64]]⟩
noncomputable def pw11_250 : List Vm.Way := [⟨.exit 0, [], ⟨[], [.box [.d i64, .own (.slice i64)], .box [.d i64, .own (.slice i64), .d .bool, .d i64, .own i64, .d .bool, .d i64, .d i64]]⟩⟩, ⟨.ret, [3, 4], ⟨[.d i64, .d i64], [.box [.d i64, .own (.slice i64)], .box [.d i64, .own (.slice i64), .d .bool, .d i64, .own i64, .d .bool, .d i64, .d i64]]⟩⟩]
abbrev R11_250 : Type := ((Unit × ((Int × (List (List Int)) × Unit) × (Int × (List (List Int)) × Bool × Int × (List Int) × Bool × Int × Int × Unit) × Unit)) ⊕ ((Int × Int × Unit) × ((Int × (List (List Int)) × Unit) × (Int × (List (List Int)) × Bool × Int × (List Int) × Bool × Int × Int × Unit) × Unit)))
abbrev T11_250 : Type := (List Int) → Int → Int → Int → (List (List Int)) → Int → (List (List Int)) → Bool → Int → (List Int) → Bool → Int → Int → Option R11_250
noncomputable def u11_250 (f : T11_250) : (pa11_250).C → Option (WayC pw11_250) := fun (x : (((List Int) × Unit × Unit × Int × Int × Unit) × ((Int × (List (List Int)) × Unit) × (Int × (List (List Int)) × Bool × Int × (List Int) × Bool × Int × Int × Unit) × Unit))) => f x.1.1 x.1.2.2.2.1 x.1.2.2.2.2.1 x.2.1.1 x.2.1.2.1 x.2.2.1.1 x.2.2.1.2.1 x.2.2.1.2.2.1 x.2.2.1.2.2.2.1 x.2.2.1.2.2.2.2.1 x.2.2.1.2.2.2.2.2.1 x.2.2.1.2.2.2.2.2.2.1 x.2.2.1.2.2.2.2.2.2.2.1
noncomputable def b11_250 (k : Nat) (rec : T11_250) : T11_250 := fun b0 from6 i7 o0_0 o0_1 o1_0 o1_1 o1_2 o1_3 o1_4 o1_5 o1_6 o1_7 =>
  cond (decide (i7 ≤ (b0.length : Int)))
    (cond (decide (i7 < (b0.length : Int)))
      (ix b0 i7 fun e1 =>
      cond (e1 != 10)
        ((rec b0 from6 (w64 (i7 + 1)) o0_0 o0_1 o1_0 o1_1 o1_2 o1_3 o1_4 o1_5 o1_6 o1_7).bind fun y2 =>
        match y2 with
        | .inl y2_0 =>
          some (.inl ((), ((y2_0.2.1.1, y2_0.2.1.2.1, ()), (y2_0.2.2.1.1, y2_0.2.2.1.2.1, y2_0.2.2.1.2.2.1, y2_0.2.2.1.2.2.2.1, y2_0.2.2.1.2.2.2.2.1, y2_0.2.2.1.2.2.2.2.2.1, y2_0.2.2.1.2.2.2.2.2.2.1, y2_0.2.2.1.2.2.2.2.2.2.2.1, ()), ())))
        | .inr y2_1 =>
          some (.inr ((y2_1.1.1, y2_1.1.2.1, ()), ((y2_1.2.1.1, y2_1.2.1.2.1, ()), (y2_1.2.2.1.1, y2_1.2.2.1.2.1, y2_1.2.2.1.2.2.1, y2_1.2.2.1.2.2.2.1, y2_1.2.2.1.2.2.2.2.1, y2_1.2.2.1.2.2.2.2.2.1, y2_1.2.2.1.2.2.2.2.2.2.1, y2_1.2.2.1.2.2.2.2.2.2.2.1, ()), ()))))
        ((l11_32038 k b0 from6 i7 i7).bind fun y3 =>
        (l11_64078 k b0 from6 y3.1.1 o0_0 o0_1 o1_0 o1_1 o1_2 o1_3 o1_4 o1_5 o1_6 o1_7).bind fun y4 =>
        match y4 with
        | .inl y4_0 =>
          (rec b0 (w64 (i7 + 1)) (w64 (i7 + 1)) y4_0.2.1.1 y4_0.2.1.2.1 y4_0.2.2.1.1 y4_0.2.2.1.2.1 y4_0.2.2.1.2.2.1 y4_0.2.2.1.2.2.2.1 y4_0.2.2.1.2.2.2.2.1 y4_0.2.2.1.2.2.2.2.2.1 y4_0.2.2.1.2.2.2.2.2.2.1 y4_0.2.2.1.2.2.2.2.2.2.2.1).bind fun y5 =>
          match y5 with
          | .inl y5_0 =>
            some (.inl ((), ((y5_0.2.1.1, y5_0.2.1.2.1, ()), (y5_0.2.2.1.1, y5_0.2.2.1.2.1, y5_0.2.2.1.2.2.1, y5_0.2.2.1.2.2.2.1, y5_0.2.2.1.2.2.2.2.1, y5_0.2.2.1.2.2.2.2.2.1, y5_0.2.2.1.2.2.2.2.2.2.1, y5_0.2.2.1.2.2.2.2.2.2.2.1, ()), ())))
          | .inr y5_1 =>
            some (.inr ((y5_1.1.1, y5_1.1.2.1, ()), ((y5_1.2.1.1, y5_1.2.1.2.1, ()), (y5_1.2.2.1.1, y5_1.2.2.1.2.1, y5_1.2.2.1.2.2.1, y5_1.2.2.1.2.2.2.1, y5_1.2.2.1.2.2.2.2.1, y5_1.2.2.1.2.2.2.2.2.1, y5_1.2.2.1.2.2.2.2.2.2.1, y5_1.2.2.1.2.2.2.2.2.2.2.1, ()), ())))
        | .inr y4_1 =>
          some (.inr ((y4_1.1.1, y4_1.1.2.1, ()), ((y4_1.2.1.1, y4_1.2.1.2.1, ()), (y4_1.2.2.1.1, y4_1.2.2.1.2.1, y4_1.2.2.1.2.2.1, y4_1.2.2.1.2.2.2.1, y4_1.2.2.1.2.2.2.2.1, y4_1.2.2.1.2.2.2.2.2.1, y4_1.2.2.1.2.2.2.2.2.2.1, y4_1.2.2.1.2.2.2.2.2.2.2.1, ()), ())))))
      ((l11_32038 k b0 from6 i7 i7).bind fun y6 =>
      (l11_64078 k b0 from6 y6.1.1 o0_0 o0_1 o1_0 o1_1 o1_2 o1_3 o1_4 o1_5 o1_6 o1_7).bind fun y7 =>
      match y7 with
      | .inl y7_0 =>
        (rec b0 (w64 (i7 + 1)) (w64 (i7 + 1)) y7_0.2.1.1 y7_0.2.1.2.1 y7_0.2.2.1.1 y7_0.2.2.1.2.1 y7_0.2.2.1.2.2.1 y7_0.2.2.1.2.2.2.1 y7_0.2.2.1.2.2.2.2.1 y7_0.2.2.1.2.2.2.2.2.1 y7_0.2.2.1.2.2.2.2.2.2.1 y7_0.2.2.1.2.2.2.2.2.2.2.1).bind fun y8 =>
        match y8 with
        | .inl y8_0 =>
          some (.inl ((), ((y8_0.2.1.1, y8_0.2.1.2.1, ()), (y8_0.2.2.1.1, y8_0.2.2.1.2.1, y8_0.2.2.1.2.2.1, y8_0.2.2.1.2.2.2.1, y8_0.2.2.1.2.2.2.2.1, y8_0.2.2.1.2.2.2.2.2.1, y8_0.2.2.1.2.2.2.2.2.2.1, y8_0.2.2.1.2.2.2.2.2.2.2.1, ()), ())))
        | .inr y8_1 =>
          some (.inr ((y8_1.1.1, y8_1.1.2.1, ()), ((y8_1.2.1.1, y8_1.2.1.2.1, ()), (y8_1.2.2.1.1, y8_1.2.2.1.2.1, y8_1.2.2.1.2.2.1, y8_1.2.2.1.2.2.2.1, y8_1.2.2.1.2.2.2.2.1, y8_1.2.2.1.2.2.2.2.2.1, y8_1.2.2.1.2.2.2.2.2.2.1, y8_1.2.2.1.2.2.2.2.2.2.2.1, ()), ())))
      | .inr y7_1 =>
        some (.inr ((y7_1.1.1, y7_1.1.2.1, ()), ((y7_1.2.1.1, y7_1.2.1.2.1, ()), (y7_1.2.2.1.1, y7_1.2.2.1.2.1, y7_1.2.2.1.2.2.1, y7_1.2.2.1.2.2.2.1, y7_1.2.2.1.2.2.2.2.1, y7_1.2.2.1.2.2.2.2.2.1, y7_1.2.2.1.2.2.2.2.2.2.1, y7_1.2.2.1.2.2.2.2.2.2.2.1, ()), ())))))
    (some (.inl ((), ((o0_0, o0_1, ()), (o1_0, o1_1, o1_2, o1_3, o1_4, o1_5, o1_6, o1_7, ()), ()))))
noncomputable def l11_250 (k : Nat) : Nat → T11_250
  | 0 => fun _ _ _ _ _ _ _ _ _ _ _ _ _ => none
  | j + 1 => b11_250 k (l11_250 k j)
noncomputable def f11 (k : Nat) : T11 := fun b0 =>
  cond (decide ((b0.length : Int) > 4194304))
    (some (((0, [], ()), 0, 3, ()), ()))
    ((l11_250 k k b0 0 0 0 [] 0 [] false 0 [] false 0 0).bind fun y1 =>
    match y1 with
    | .inl y1_0 =>
      (f16 k (b0.length : Int) y1_0.2.2.1.1 y1_0.2.2.1.2.1 y1_0.2.2.1.2.2.1 y1_0.2.2.1.2.2.2.1 y1_0.2.2.1.2.2.2.2.1 y1_0.2.2.1.2.2.2.2.2.1 y1_0.2.2.1.2.2.2.2.2.2.1 y1_0.2.2.1.2.2.2.2.2.2.2.1).bind fun y2 =>
      cond (y2.2.1.2.2.2.2.2.2.2.1 != 0)
        (some (((0, [], ()), y2.2.1.2.2.2.2.2.2.1, y2.2.1.2.2.2.2.2.2.2.1, ()), ()))
        (some (((y2.2.1.1, y2.2.1.2.1, ()), 0, 0, ()), ()))
    | .inr y1_1 =>
      some (((y1_1.2.1.1, y1_1.2.1.2.1, ()), y1_1.1.1, y1_1.1.2.1, ()), ()))
noncomputable def C11 (k : Nat) : Nat → Fun := mkC [(2000002, ownF), (15, (F15 (f15 k))), (16, (F16 (f16 k)))]
theorem c11_ok (k : Nat) : ∀ f, SoundFn Try.prog f (C11 k f) := (mkC_cons ownF_ok (mkC_cons (s15 k) (mkC_cons (s16 k) mkC_nil)))
noncomputable def H11_128156 (k : Nat) : Nat → Option Cut := addH noH 128156 ⟨runCut (wrC (codeAt 128156 (bd Try.f11) 128156)) 93 [0, 5, 6, 8] pa11_128156 pw11_128156 (u11_128156 (l11_128156 k))⟩
theorem e11_128156 (k : Nat) (x : (pa11_128156).C) : pieceF (C11 k) tt noH (codeAt 128156 (bd Try.f11) 128156) 128156 93 [0, 5, 6, 8] pa11_128156 pw11_128156 x = u11_128156 (l11_128156 k) x := by kernel_rfl
theorem h11_128156_ok (k : Nat) : ∀ p S, H11_128156 k p = some S → ∀ c, At (bd Try.f11) p c → CutOk Try.prog c S :=
  have hC := c11_ok k
  addPiece hC ttOk (draw_ok hC ttOk mixed) noH_ok (fun x _ h => (e11_128156 k x).trans h)
noncomputable def H11_64078 (k : Nat) : Nat → Option Cut := addH (H11_128156 k) 64078 ⟨runCut (wrC (codeAt 64078 (bd Try.f11) 64078)) 93 [0, 2, 5, 6, 8] pa11_64078 pw11_64078 (u11_64078 (l11_64078 k))⟩
theorem e11_64078 (k : Nat) (x : (pa11_64078).C) : pieceF (C11 k) tt (H11_128156 k) (codeAt 64078 (bd Try.f11) 64078) 64078 93 [0, 2, 5, 6, 8] pa11_64078 pw11_64078 x = u11_64078 (l11_64078 k) x := by kernel_rfl
theorem h11_64078_ok (k : Nat) : ∀ p S, H11_64078 k p = some S → ∀ c, At (bd Try.f11) p c → CutOk Try.prog c S :=
  have hC := c11_ok k
  addPiece hC ttOk (draw_ok hC ttOk mixed) (h11_128156_ok k) (fun x _ h => (e11_64078 k x).trans h)
noncomputable def H11_64076 (k : Nat) : Nat → Option Cut := addH (H11_64078 k) 64076 ⟨runCut (wrC (codeAt 64076 (bd Try.f11) 64076)) 93 [0, 6, 7, 8] pa11_64076 pw11_64076 (u11_64076 (l11_64076 k))⟩
theorem e11_64076 (k : Nat) (x : (pa11_64076).C) : pieceF (C11 k) tt (H11_64078 k) (codeAt 64076 (bd Try.f11) 64076) 64076 93 [0, 6, 7, 8] pa11_64076 pw11_64076 x = u11_64076 (l11_64076 k) x := by kernel_rfl
theorem h11_64076_ok (k : Nat) : ∀ p S, H11_64076 k p = some S → ∀ c, At (bd Try.f11) p c → CutOk Try.prog c S :=
  have hC := c11_ok k
  addPiece hC ttOk (draw_ok hC ttOk mixed) (h11_64078_ok k) (fun x _ h => (e11_64076 k x).trans h)
noncomputable def H11_32038 (k : Nat) : Nat → Option Cut := addH (H11_64076 k) 32038 ⟨runCut (wrC (codeAt 32038 (bd Try.f11) 32038)) 93 [0, 6, 7, 8] pa11_32038 pw11_32038 (u11_32038 (l11_32038 k))⟩
theorem e11_32038 (k : Nat) (x : (pa11_32038).C) : pieceF (C11 k) tt (H11_64076 k) (codeAt 32038 (bd Try.f11) 32038) 32038 93 [0, 6, 7, 8] pa11_32038 pw11_32038 x = u11_32038 (l11_32038 k) x := by kernel_rfl
theorem h11_32038_ok (k : Nat) : ∀ p S, H11_32038 k p = some S → ∀ c, At (bd Try.f11) p c → CutOk Try.prog c S :=
  have hC := c11_ok k
  addPiece hC ttOk (draw_ok hC ttOk mixed) (h11_64076_ok k) (fun x _ h => (e11_32038 k x).trans h)
noncomputable def H11_250 (k : Nat) : Nat → Option Cut := addH (H11_32038 k) 250 ⟨runCut (wrC (bodyOf (codeAt 250 (bd Try.f11) 250))) 93 [0, 2, 5, 6, 7] pa11_250 pw11_250 (u11_250 (l11_250 k k))⟩
theorem e11_250 (k : Nat) (rec : T11_250) (x : (pa11_250).C) : roundF (C11 k) tt (H11_32038 k) (bodyOf (codeAt 250 (bd Try.f11) 250)) 500 93 [0, 2, 5, 6, 7] pa11_250 pw11_250 (u11_250 rec) x = u11_250 (b11_250 k rec) x := by kernel_rfl
theorem h11_250_ok (k : Nat) : ∀ p S, H11_250 k p = some S → ∀ c, At (bd Try.f11) p c → CutOk Try.prog c S :=
  have hC := c11_ok k
  addLoop hC ttOk (draw_ok hC ttOk mixed) (h11_32038_ok k) (by kernel_rfl) (F := fun j => u11_250 (l11_250 k j)) (fun _ => rfl) (fun j x _ h => (e11_250 k (l11_250 k j) x).trans h) k
theorem e11 (k : Nat) (x : (a11).C) : bodyR (C11 k) tt (H11_250 k) Try.f11 a11 o11 x = u11 (f11 k) x := by kernel_rfl
theorem s11 (k : Nat) : SoundFn Try.prog 11 (F11 (f11 k)) :=
  have hC := c11_ok k
  fnR_sound hC ttOk (draw_ok hC ttOk mixed) Try.func11 (c0 := bd Try.f11) rfl (entry Try.func11 rfl (by decide)) (h11_250_ok k) rfl (fun x _ h => (e11 k x).trans h)
/-! f5 fathom/fathomlaw03.awake (R) -/
noncomputable def a5 : Shape := ⟨[], []⟩
noncomputable def o5 : List Shape := [⟨[.d .bool], []⟩]
abbrev R5 : Type := ((Bool × Unit) × Unit)
abbrev T5 : Type := Unit → Option R5
noncomputable def u5 (f : T5) : (a5).C → Option (OutC o5) := fun (x : (Unit × Unit)) => f ()
noncomputable def F5 (f : T5) : Fun := ⟨true, runR a5 o5 (u5 f)⟩
noncomputable def f5 (k : Nat) : T5 := fun _ =>
  (f11 k [112, 32, 99, 110, 102, 32, 50, 32, 49, 10, 49, 32, 45, 50, 32, 48, 10]).bind fun y1 =>
  cond (y1.1.2.2.1 == 0)
    (cond (y1.1.2.1 == 0)
      (cond (y1.1.1.1 == 2)
        (cond ((y1.1.1.2.1.length : Int) == 1)
          (ix y1.1.1.2.1 0 fun e2 =>
          cond ((e2.length : Int) == 2)
            (ix y1.1.1.2.1 0 fun e3 =>
            ix e3 1 fun e4 =>
            some (((e4 == (-2)), ()), ()))
            (some ((false, ()), ())))
          (some ((false, ()), ())))
        (some ((false, ()), ())))
      (some ((false, ()), ())))
    (some ((false, ()), ()))
noncomputable def C5 (k : Nat) : Nat → Fun := mkC [(11, (F11 (f11 k)))]
theorem c5_ok (k : Nat) : ∀ f, SoundFn Try.prog f (C5 k f) := (mkC_cons (s11 k) mkC_nil)
theorem e5 (k : Nat) (x : (a5).C) : bodyR (C5 k) tt noH Try.f5 a5 o5 x = u5 (f5 k) x := by kernel_rfl
theorem s5 (k : Nat) : SoundFn Try.prog 5 (F5 (f5 k)) :=
  have hC := c5_ok k
  fnR_sound hC ttOk (draw_ok hC ttOk mixed) Try.func5 (c0 := bd Try.f5) rfl (entry Try.func5 rfl (by decide)) noH_ok rfl (fun x _ h => (e5 k x).trans h)
/-! f18 fathom/fathomref01.Lit (R) -/
noncomputable def a18 : Shape := ⟨[.d i64], []⟩
noncomputable def o18 : List Shape := [⟨[.d .bool], []⟩]
abbrev R18 : Type := ((Bool × Unit) × Unit)
abbrev T18 : Type := Int → Option R18
noncomputable def u18 (f : T18) : (a18).C → Option (OutC o18) := fun (x : ((Int × Unit) × Unit)) => f x.1.1
noncomputable def F18 (f : T18) : Fun := ⟨true, runR a18 o18 (u18 f)⟩
noncomputable def f18 (k : Nat) : T18 := fun l0 =>
  cond (l0 != 0)
    (cond (decide (l0 ≥ (-1048576)))
      (some (((decide (l0 ≤ 1048576)), ()), ()))
      (some ((false, ()), ())))
    (some ((false, ()), ()))
noncomputable def C18 (k : Nat) : Nat → Fun := mkC []
theorem c18_ok (k : Nat) : ∀ f, SoundFn Try.prog f (C18 k f) := mkC_nil
theorem e18 (k : Nat) (x : (a18).C) : bodyR (C18 k) tt noH Try.f18 a18 o18 x = u18 (f18 k) x := by kernel_rfl
theorem s18 (k : Nat) : SoundFn Try.prog 18 (F18 (f18 k)) :=
  have hC := c18_ok k
  fnR_sound hC ttOk (draw_ok hC ttOk mixed) Try.func18 (c0 := bd Try.f18) rfl (entry Try.func18 rfl (by decide)) noH_ok rfl (fun x _ h => (e18 k x).trans h)
/-! f13 fathom/fathomref01.May (R) -/
noncomputable def a13 : Shape := ⟨[.d (.slice i64)], []⟩
noncomputable def o13 : List Shape := [⟨[.d .bool], []⟩]
abbrev R13 : Type := ((Bool × Unit) × Unit)
abbrev T13 : Type := (List Int) → Option R13
noncomputable def u13 (f : T13) : (a13).C → Option (OutC o13) := fun (x : (((List Int) × Unit) × Unit)) => f x.1.1
noncomputable def F13 (f : T13) : Fun := ⟨true, runR a13 o13 (u13 f)⟩
noncomputable def pa13_26 : Shape := ⟨[.d (.slice i64), .d i64], []⟩
noncomputable def pw13_26 : List Vm.Way := [⟨.exit 0, [], ⟨[], []⟩⟩, ⟨.ret, [2], ⟨[.d .bool], []⟩⟩]
abbrev R13_26 : Type := ((Unit × Unit) ⊕ ((Bool × Unit) × Unit))
abbrev T13_26 : Type := (List Int) → Int → Option R13_26
noncomputable def u13_26 (f : T13_26) : (pa13_26).C → Option (WayC pw13_26) := fun (x : (((List Int) × Int × Unit) × Unit)) => f x.1.1 x.1.2.1
noncomputable def b13_26 (k : Nat) (rec : T13_26) : T13_26 := fun c0 i3 =>
  cond (decide (i3 < (c0.length : Int)))
    (ix c0 i3 fun e1 =>
    (f18 k e1).bind fun y2 =>
    cond (!y2.1.1)
      (some (.inr ((false, ()), ())))
      ((rec c0 (w64 (i3 + 1))).bind fun y3 =>
      match y3 with
      | .inl y3_0 =>
        some (.inl ((), ()))
      | .inr y3_1 =>
        some (.inr ((y3_1.1.1, ()), ()))))
    (some (.inl ((), ())))
noncomputable def l13_26 (k : Nat) : Nat → T13_26
  | 0 => fun _ _ => none
  | j + 1 => b13_26 k (l13_26 k j)
noncomputable def f13 (k : Nat) : T13 := fun c0 =>
  (l13_26 k k c0 0).bind fun y1 =>
  match y1 with
  | .inl y1_0 =>
    some (((decide ((c0.length : Int) ≤ 4096)), ()), ())
  | .inr y1_1 =>
    some ((y1_1.1.1, ()), ())
noncomputable def C13 (k : Nat) : Nat → Fun := mkC [(18, (F18 (f18 k)))]
theorem c13_ok (k : Nat) : ∀ f, SoundFn Try.prog f (C13 k f) := (mkC_cons (s18 k) mkC_nil)
noncomputable def H13_26 (k : Nat) : Nat → Option Cut := addH noH 26 ⟨runCut (wrC (bodyOf (codeAt 26 (bd Try.f13) 26))) 19 [0, 3] pa13_26 pw13_26 (u13_26 (l13_26 k k))⟩
theorem e13_26 (k : Nat) (rec : T13_26) (x : (pa13_26).C) : roundF (C13 k) tt noH (bodyOf (codeAt 26 (bd Try.f13) 26)) 52 19 [0, 3] pa13_26 pw13_26 (u13_26 rec) x = u13_26 (b13_26 k rec) x := by kernel_rfl
theorem h13_26_ok (k : Nat) : ∀ p S, H13_26 k p = some S → ∀ c, At (bd Try.f13) p c → CutOk Try.prog c S :=
  have hC := c13_ok k
  addLoop hC ttOk (draw_ok hC ttOk mixed) noH_ok (by kernel_rfl) (F := fun j => u13_26 (l13_26 k j)) (fun _ => rfl) (fun j x _ h => (e13_26 k (l13_26 k j) x).trans h) k
theorem e13 (k : Nat) (x : (a13).C) : bodyR (C13 k) tt (H13_26 k) Try.f13 a13 o13 x = u13 (f13 k) x := by kernel_rfl
theorem s13 (k : Nat) : SoundFn Try.prog 13 (F13 (f13 k)) :=
  have hC := c13_ok k
  fnR_sound hC ttOk (draw_ok hC ttOk mixed) Try.func13 (c0 := bd Try.f13) rfl (entry Try.func13 rfl (by decide)) (h13_26_ok k) rfl (fun x _ h => (e13 k x).trans h)
/-! f14 fathom/fathomref01.Var (R) -/
noncomputable def a14 : Shape := ⟨[.d i64], []⟩
noncomputable def o14 : List Shape := [⟨[.d i64], []⟩]
abbrev R14 : Type := ((Int × Unit) × Unit)
abbrev T14 : Type := Int → Option R14
noncomputable def u14 (f : T14) : (a14).C → Option (OutC o14) := fun (x : ((Int × Unit) × Unit)) => f x.1.1
noncomputable def F14 (f : T14) : Fun := ⟨true, runR a14 o14 (u14 f)⟩
noncomputable def f14 (k : Nat) : T14 := fun l0 =>
  cond (decide (l0 < 0))
    (some (((w64 (0 - l0)), ()), ()))
    (some ((l0, ()), ()))
noncomputable def C14 (k : Nat) : Nat → Fun := mkC []
theorem c14_ok (k : Nat) : ∀ f, SoundFn Try.prog f (C14 k f) := mkC_nil
theorem e14 (k : Nat) (x : (a14).C) : bodyR (C14 k) tt noH Try.f14 a14 o14 x = u14 (f14 k) x := by kernel_rfl
theorem s14 (k : Nat) : SoundFn Try.prog 14 (F14 (f14 k)) :=
  have hC := c14_ok k
  fnR_sound hC ttOk (draw_ok hC ttOk mixed) Try.func14 (c0 := bd Try.f14) rfl (entry Try.func14 rfl (by decide)) noH_ok rfl (fun x _ h => (e14 k x).trans h)
/-! f10 fathom/fathomref01.Cnf (R) -/
noncomputable def a10 : Shape := ⟨[.d T_Cnf], []⟩
noncomputable def o10 : List Shape := [⟨[.d .bool], []⟩]
abbrev R10 : Type := ((Bool × Unit) × Unit)
abbrev T10 : Type := D_Cnf → Option R10
noncomputable def u10 (f : T10) : (a10).C → Option (OutC o10) := fun (x : ((D_Cnf × Unit) × Unit)) => f x.1.1
noncomputable def F10 (f : T10) : Fun := ⟨true, runR a10 o10 (u10 f)⟩
noncomputable def pa10_7462 : Shape := ⟨[.ptr 0, .d i64, .d i64], [.box [.d i64, .d (.slice (.slice i64))]]⟩
noncomputable def pw10_7462 : List Vm.Way := [⟨.exit 2, [], ⟨[], [.box [.d i64, .d (.slice (.slice i64))]]⟩⟩, ⟨.ret, [2], ⟨[.d .bool], [.box [.d i64, .d (.slice (.slice i64))]]⟩⟩]
abbrev R10_7462 : Type := ((Unit × ((Int × (List (List Int)) × Unit) × Unit)) ⊕ ((Bool × Unit) × ((Int × (List (List Int)) × Unit) × Unit)))
abbrev T10_7462 : Type := Int → Int → Int → (List (List Int)) → Option R10_7462
noncomputable def u10_7462 (f : T10_7462) : (pa10_7462).C → Option (WayC pw10_7462) := fun (x : ((Unit × Int × Int × Unit) × ((Int × (List (List Int)) × Unit) × Unit))) => f x.1.2.1 x.1.2.2.1 x.2.1.1 x.2.1.2.1
noncomputable def b10_7462 (k : Nat) (rec : T10_7462) : T10_7462 := fun i3 k4 o0_0 o0_1 =>
  ix o0_1 i3 fun e1 =>
  cond (decide (k4 < (e1.length : Int)))
    (ix o0_1 i3 fun e2 =>
    ix e2 k4 fun e3 =>
    (f14 k e3).bind fun y4 =>
    cond (decide (y4.1.1 > o0_0))
      (some (.inr ((false, ()), ((o0_0, o0_1, ()), ()))))
      ((rec i3 (w64 (k4 + 1)) o0_0 o0_1).bind fun y5 =>
      match y5 with
      | .inl y5_0 =>
        some (.inl ((), ((y5_0.2.1.1, y5_0.2.1.2.1, ()), ())))
      | .inr y5_1 =>
        some (.inr ((y5_1.1.1, ()), ((y5_1.2.1.1, y5_1.2.1.2.1, ()), ())))))
    (some (.inl ((), ((o0_0, o0_1, ()), ()))))
noncomputable def l10_7462 (k : Nat) : Nat → T10_7462
  | 0 => fun _ _ _ _ => none
  | j + 1 => b10_7462 k (l10_7462 k j)
noncomputable def pa10_58 : Shape := ⟨[.ptr 0, .d i64], [.box [.d i64, .d (.slice (.slice i64))]]⟩
noncomputable def pw10_58 : List Vm.Way := [⟨.exit 0, [], ⟨[], [.box [.d i64, .d (.slice (.slice i64))]]⟩⟩, ⟨.ret, [2], ⟨[.d .bool], [.box [.d i64, .d (.slice (.slice i64))]]⟩⟩]
abbrev R10_58 : Type := ((Unit × ((Int × (List (List Int)) × Unit) × Unit)) ⊕ ((Bool × Unit) × ((Int × (List (List Int)) × Unit) × Unit)))
abbrev T10_58 : Type := Int → Int → (List (List Int)) → Option R10_58
noncomputable def u10_58 (f : T10_58) : (pa10_58).C → Option (WayC pw10_58) := fun (x : ((Unit × Int × Unit) × ((Int × (List (List Int)) × Unit) × Unit))) => f x.1.2.1 x.2.1.1 x.2.1.2.1
noncomputable def b10_58 (k : Nat) (rec : T10_58) : T10_58 := fun i3 o0_0 o0_1 =>
  cond (decide (i3 < (o0_1.length : Int)))
    (ix o0_1 i3 fun e1 =>
    (f13 k e1).bind fun y2 =>
    cond (!y2.1.1)
      (some (.inr ((false, ()), ((o0_0, o0_1, ()), ()))))
      ((l10_7462 k k i3 0 o0_0 o0_1).bind fun y3 =>
      match y3 with
      | .inl y3_0 =>
        (rec (w64 (i3 + 1)) y3_0.2.1.1 y3_0.2.1.2.1).bind fun y4 =>
        match y4 with
        | .inl y4_0 =>
          some (.inl ((), ((y4_0.2.1.1, y4_0.2.1.2.1, ()), ())))
        | .inr y4_1 =>
          some (.inr ((y4_1.1.1, ()), ((y4_1.2.1.1, y4_1.2.1.2.1, ()), ())))
      | .inr y3_1 =>
        some (.inr ((y3_1.1.1, ()), ((y3_1.2.1.1, y3_1.2.1.2.1, ()), ())))))
    (some (.inl ((), ((o0_0, o0_1, ()), ()))))
noncomputable def l10_58 (k : Nat) : Nat → T10_58
  | 0 => fun _ _ _ => none
  | j + 1 => b10_58 k (l10_58 k j)
noncomputable def f10 (k : Nat) : T10 := fun f0 =>
  cond (decide (f0.1 < 0))
    (some ((false, ()), ()))
    (cond (decide (f0.1 > 1048576))
      (some ((false, ()), ()))
      (cond (decide ((f0.2.1.length : Int) > 262144))
        (some ((false, ()), ()))
        ((l10_58 k k 0 f0.1 f0.2.1).bind fun y1 =>
        match y1 with
        | .inl y1_0 =>
          some ((true, ()), ())
        | .inr y1_1 =>
          some ((y1_1.1.1, ()), ()))))
noncomputable def C10 (k : Nat) : Nat → Fun := mkC [(13, (F13 (f13 k))), (14, (F14 (f14 k)))]
theorem c10_ok (k : Nat) : ∀ f, SoundFn Try.prog f (C10 k f) := (mkC_cons (s13 k) (mkC_cons (s14 k) mkC_nil))
noncomputable def H10_7462 (k : Nat) : Nat → Option Cut := addH noH 7462 ⟨runCut (wrC (bodyOf (codeAt 7462 (bd Try.f10) 7462))) 55 [1, 3, 4] pa10_7462 pw10_7462 (u10_7462 (l10_7462 k k))⟩
theorem e10_7462 (k : Nat) (rec : T10_7462) (x : (pa10_7462).C) : roundF (C10 k) tt noH (bodyOf (codeAt 7462 (bd Try.f10) 7462)) 14924 55 [1, 3, 4] pa10_7462 pw10_7462 (u10_7462 rec) x = u10_7462 (b10_7462 k rec) x := by kernel_rfl
theorem h10_7462_ok (k : Nat) : ∀ p S, H10_7462 k p = some S → ∀ c, At (bd Try.f10) p c → CutOk Try.prog c S :=
  have hC := c10_ok k
  addLoop hC ttOk (draw_ok hC ttOk mixed) noH_ok (by kernel_rfl) (F := fun j => u10_7462 (l10_7462 k j)) (fun _ => rfl) (fun j x _ h => (e10_7462 k (l10_7462 k j) x).trans h) k
noncomputable def H10_58 (k : Nat) : Nat → Option Cut := addH (H10_7462 k) 58 ⟨runCut (wrC (bodyOf (codeAt 58 (bd Try.f10) 58))) 55 [1, 3] pa10_58 pw10_58 (u10_58 (l10_58 k k))⟩
theorem e10_58 (k : Nat) (rec : T10_58) (x : (pa10_58).C) : roundF (C10 k) tt (H10_7462 k) (bodyOf (codeAt 58 (bd Try.f10) 58)) 116 55 [1, 3] pa10_58 pw10_58 (u10_58 rec) x = u10_58 (b10_58 k rec) x := by kernel_rfl
theorem h10_58_ok (k : Nat) : ∀ p S, H10_58 k p = some S → ∀ c, At (bd Try.f10) p c → CutOk Try.prog c S :=
  have hC := c10_ok k
  addLoop hC ttOk (draw_ok hC ttOk mixed) (h10_7462_ok k) (by kernel_rfl) (F := fun j => u10_58 (l10_58 k j)) (fun _ => rfl) (fun j x _ h => (e10_58 k (l10_58 k j) x).trans h) k
theorem e10 (k : Nat) (x : (a10).C) : bodyR (C10 k) tt (H10_58 k) Try.f10 a10 o10 x = u10 (f10 k) x := by kernel_rfl
theorem s10 (k : Nat) : SoundFn Try.prog 10 (F10 (f10 k)) :=
  have hC := c10_ok k
  fnR_sound hC ttOk (draw_ok hC ttOk mixed) Try.func10 (c0 := bd Try.f10) rfl (entry Try.func10 rfl (by decide)) (h10_58_ok k) rfl (fun x _ h => (e10 k x).trans h)
/-! f8 fathom/fathomref03.Digits (R) -/
noncomputable def a8 : Shape := ⟨[.d i64], []⟩
noncomputable def o8 : List Shape := [⟨[.d .str], []⟩]
abbrev R8 : Type := ((ByteArray × Unit) × Unit)
abbrev T8 : Type := Int → Option R8
noncomputable def u8 (f : T8) : (a8).C → Option (OutC o8) := fun (x : ((Int × Unit) × Unit)) => f x.1.1
noncomputable def F8 (f : T8) : Fun := ⟨true, runR a8 o8 (u8 f)⟩
noncomputable def b8 (k : Nat) (r8 : T8) : T8 := fun n0 =>
  cond (decide (n0 < 0))
    ((r8 (w64 (0 - n0))).bind fun y1 =>
    gd (decide ((ByteArray.mk #[45]).size + y1.1.1.size ≤ 9223372036854775807)) <|
    some ((((ByteArray.mk #[45]) ++ y1.1.1), ()), ()))
    (cond (decide (n0 < 10))
      (gd (decide (0 ≤ (w64 (n0 + 1)))) <|
      gd (decide ((w64 (n0 + 1)).toNat ≤ s_3.size)) <|
      gd (decide (0 ≤ n0)) <|
      gd (decide (n0.toNat ≤ (w64 (n0 + 1)).toNat)) <|
      some (((s_3.extract n0.toNat (w64 (n0 + 1)).toNat), ()), ()))
      ((r8 (w64 (Int.tdiv n0 10))).bind fun y2 =>
      (r8 (Int.tmod n0 10)).bind fun y3 =>
      gd (decide (y2.1.1.size + y3.1.1.size ≤ 9223372036854775807)) <|
      some (((y2.1.1 ++ y3.1.1), ()), ())))
noncomputable def S8 : Nat → T8
  | 0 => (fun _ => none)
  | k + 1 => (b8 k (S8 k))
noncomputable def f8 (k : Nat) : T8 := (S8 k)
theorem f8_succ (k : Nat) : f8 (k + 1) = b8 k (f8 k) := rfl
noncomputable def C8 (k : Nat) (r8 : T8) : Nat → Fun := mkC [(8, (F8 r8))]
theorem c8_ok (k : Nat) (r8 : T8) (h8 : SoundFn Try.prog 8 (F8 r8)) : ∀ f, SoundFn Try.prog f (C8 k r8 f) := (mkC_cons h8 mkC_nil)
theorem e8 (k : Nat) (r8 : T8) (x : (a8).C) : bodyR (C8 k r8) tt noH Try.f8 a8 o8 x = u8 (b8 k r8) x := by kernel_rfl
theorem q8 (k : Nat) (r8 : T8) (h8 : SoundFn Try.prog 8 (F8 r8)) : SoundFn Try.prog 8 (F8 (b8 k r8)) :=
  have hC := c8_ok k r8 h8
  fnR_sound hC ttOk (draw_ok hC ttOk mixed) Try.func8 (c0 := bd Try.f8) rfl (entry Try.func8 rfl (by decide)) noH_ok rfl (fun x _ h => (e8 k r8 x).trans h)
theorem sAll8 : ∀ k : Nat, SoundFn Try.prog 8 (F8 (f8 k))
  | 0 => noneR_ok (by intro x; rfl)
  | k + 1 =>
    have ih := sAll8 k
    q8 k (f8 k) ih
theorem s8 (k : Nat) : SoundFn Try.prog 8 (F8 (f8 k)) := (sAll8 k)
/-! f23 fathom/fathomref01.Ints (R) -/
noncomputable def a23 : Shape := ⟨[.d (.slice i64), .d (.slice i64)], []⟩
noncomputable def o23 : List Shape := [⟨[.d .bool], []⟩]
abbrev R23 : Type := ((Bool × Unit) × Unit)
abbrev T23 : Type := (List Int) → (List Int) → Option R23
noncomputable def u23 (f : T23) : (a23).C → Option (OutC o23) := fun (x : (((List Int) × (List Int) × Unit) × Unit)) => f x.1.1 x.1.2.1
noncomputable def F23 (f : T23) : Fun := ⟨true, runR a23 o23 (u23 f)⟩
noncomputable def pa23_58 : Shape := ⟨[.d (.slice i64), .d (.slice i64), .d i64], []⟩
noncomputable def pw23_58 : List Vm.Way := [⟨.exit 0, [], ⟨[], []⟩⟩, ⟨.ret, [4], ⟨[.d .bool], []⟩⟩]
abbrev R23_58 : Type := ((Unit × Unit) ⊕ ((Bool × Unit) × Unit))
abbrev T23_58 : Type := (List Int) → (List Int) → Int → Option R23_58
noncomputable def u23_58 (f : T23_58) : (pa23_58).C → Option (WayC pw23_58) := fun (x : (((List Int) × (List Int) × Int × Unit) × Unit)) => f x.1.1 x.1.2.1 x.1.2.2.1
noncomputable def b23_58 (k : Nat) (rec : T23_58) : T23_58 := fun a0 b1 i5 =>
  cond (decide (i5 < (a0.length : Int)))
    (ix a0 i5 fun e1 =>
    ix b1 i5 fun e2 =>
    cond (e1 != e2)
      (some (.inr ((false, ()), ())))
      ((rec a0 b1 (w64 (i5 + 1))).bind fun y3 =>
      match y3 with
      | .inl y3_0 =>
        some (.inl ((), ()))
      | .inr y3_1 =>
        some (.inr ((y3_1.1.1, ()), ()))))
    (some (.inl ((), ())))
noncomputable def l23_58 (k : Nat) : Nat → T23_58
  | 0 => fun _ _ _ => none
  | j + 1 => b23_58 k (l23_58 k j)
noncomputable def f23 (k : Nat) : T23 := fun a0 b1 =>
  cond ((a0.length : Int) != (b1.length : Int))
    (some ((false, ()), ()))
    ((l23_58 k k a0 b1 0).bind fun y1 =>
    match y1 with
    | .inl y1_0 =>
      some ((true, ()), ())
    | .inr y1_1 =>
      some ((y1_1.1.1, ()), ()))
noncomputable def C23 (k : Nat) : Nat → Fun := mkC []
theorem c23_ok (k : Nat) : ∀ f, SoundFn Try.prog f (C23 k f) := mkC_nil
noncomputable def H23_58 (k : Nat) : Nat → Option Cut := addH noH 58 ⟨runCut (wrC (bodyOf (codeAt 58 (bd Try.f23) 58))) 26 [0, 1, 5] pa23_58 pw23_58 (u23_58 (l23_58 k k))⟩
theorem e23_58 (k : Nat) (rec : T23_58) (x : (pa23_58).C) : roundF (C23 k) tt noH (bodyOf (codeAt 58 (bd Try.f23) 58)) 116 26 [0, 1, 5] pa23_58 pw23_58 (u23_58 rec) x = u23_58 (b23_58 k rec) x := by kernel_rfl
theorem h23_58_ok (k : Nat) : ∀ p S, H23_58 k p = some S → ∀ c, At (bd Try.f23) p c → CutOk Try.prog c S :=
  have hC := c23_ok k
  addLoop hC ttOk (draw_ok hC ttOk mixed) noH_ok (by kernel_rfl) (F := fun j => u23_58 (l23_58 k j)) (fun _ => rfl) (fun j x _ h => (e23_58 k (l23_58 k j) x).trans h) k
theorem e23 (k : Nat) (x : (a23).C) : bodyR (C23 k) tt (H23_58 k) Try.f23 a23 o23 x = u23 (f23 k) x := by kernel_rfl
theorem s23 (k : Nat) : SoundFn Try.prog 23 (F23 (f23 k)) :=
  have hC := c23_ok k
  fnR_sound hC ttOk (draw_ok hC ttOk mixed) Try.func23 (c0 := bd Try.f23) rfl (entry Try.func23 rfl (by decide)) (h23_58_ok k) rfl (fun x _ h => (e23 k x).trans h)
/-! f17 fathom/fathomref01.Lists (R) -/
noncomputable def a17 : Shape := ⟨[.d (.slice (.slice i64)), .d (.slice (.slice i64))], []⟩
noncomputable def o17 : List Shape := [⟨[.d .bool], []⟩]
abbrev R17 : Type := ((Bool × Unit) × Unit)
abbrev T17 : Type := (List (List Int)) → (List (List Int)) → Option R17
noncomputable def u17 (f : T17) : (a17).C → Option (OutC o17) := fun (x : (((List (List Int)) × (List (List Int)) × Unit) × Unit)) => f x.1.1 x.1.2.1
noncomputable def F17 (f : T17) : Fun := ⟨true, runR a17 o17 (u17 f)⟩
noncomputable def pa17_58 : Shape := ⟨[.d (.slice (.slice i64)), .d (.slice (.slice i64)), .d i64], []⟩
noncomputable def pw17_58 : List Vm.Way := [⟨.exit 0, [], ⟨[], []⟩⟩, ⟨.ret, [4], ⟨[.d .bool], []⟩⟩]
abbrev R17_58 : Type := ((Unit × Unit) ⊕ ((Bool × Unit) × Unit))
abbrev T17_58 : Type := (List (List Int)) → (List (List Int)) → Int → Option R17_58
noncomputable def u17_58 (f : T17_58) : (pa17_58).C → Option (WayC pw17_58) := fun (x : (((List (List Int)) × (List (List Int)) × Int × Unit) × Unit)) => f x.1.1 x.1.2.1 x.1.2.2.1
noncomputable def b17_58 (k : Nat) (rec : T17_58) : T17_58 := fun a0 b1 i5 =>
  cond (decide (i5 < (a0.length : Int)))
    (ix a0 i5 fun e1 =>
    ix b1 i5 fun e2 =>
    (f23 k e1 e2).bind fun y3 =>
    cond (!y3.1.1)
      (some (.inr ((false, ()), ())))
      ((rec a0 b1 (w64 (i5 + 1))).bind fun y4 =>
      match y4 with
      | .inl y4_0 =>
        some (.inl ((), ()))
      | .inr y4_1 =>
        some (.inr ((y4_1.1.1, ()), ()))))
    (some (.inl ((), ())))
noncomputable def l17_58 (k : Nat) : Nat → T17_58
  | 0 => fun _ _ _ => none
  | j + 1 => b17_58 k (l17_58 k j)
noncomputable def f17 (k : Nat) : T17 := fun a0 b1 =>
  cond ((a0.length : Int) != (b1.length : Int))
    (some ((false, ()), ()))
    ((l17_58 k k a0 b1 0).bind fun y1 =>
    match y1 with
    | .inl y1_0 =>
      some ((true, ()), ())
    | .inr y1_1 =>
      some ((y1_1.1.1, ()), ()))
noncomputable def C17 (k : Nat) : Nat → Fun := mkC [(23, (F23 (f23 k)))]
theorem c17_ok (k : Nat) : ∀ f, SoundFn Try.prog f (C17 k f) := (mkC_cons (s23 k) mkC_nil)
noncomputable def H17_58 (k : Nat) : Nat → Option Cut := addH noH 58 ⟨runCut (wrC (bodyOf (codeAt 58 (bd Try.f17) 58))) 27 [0, 1, 5] pa17_58 pw17_58 (u17_58 (l17_58 k k))⟩
theorem e17_58 (k : Nat) (rec : T17_58) (x : (pa17_58).C) : roundF (C17 k) tt noH (bodyOf (codeAt 58 (bd Try.f17) 58)) 116 27 [0, 1, 5] pa17_58 pw17_58 (u17_58 rec) x = u17_58 (b17_58 k rec) x := by kernel_rfl
theorem h17_58_ok (k : Nat) : ∀ p S, H17_58 k p = some S → ∀ c, At (bd Try.f17) p c → CutOk Try.prog c S :=
  have hC := c17_ok k
  addLoop hC ttOk (draw_ok hC ttOk mixed) noH_ok (by kernel_rfl) (F := fun j => u17_58 (l17_58 k j)) (fun _ => rfl) (fun j x _ h => (e17_58 k (l17_58 k j) x).trans h) k
theorem e17 (k : Nat) (x : (a17).C) : bodyR (C17 k) tt (H17_58 k) Try.f17 a17 o17 x = u17 (f17 k) x := by kernel_rfl
theorem s17 (k : Nat) : SoundFn Try.prog 17 (F17 (f17 k)) :=
  have hC := c17_ok k
  fnR_sound hC ttOk (draw_ok hC ttOk mixed) Try.func17 (c0 := bd Try.f17) rfl (entry Try.func17 rfl (by decide)) (h17_58_ok k) rfl (fun x _ h => (e17 k x).trans h)
/-! f12 fathom/fathomref01.Same (R) -/
noncomputable def a12 : Shape := ⟨[.d T_Cnf, .d T_Cnf], []⟩
noncomputable def o12 : List Shape := [⟨[.d .bool], []⟩]
abbrev R12 : Type := ((Bool × Unit) × Unit)
abbrev T12 : Type := D_Cnf → D_Cnf → Option R12
noncomputable def u12 (f : T12) : (a12).C → Option (OutC o12) := fun (x : ((D_Cnf × D_Cnf × Unit) × Unit)) => f x.1.1 x.1.2.1
noncomputable def F12 (f : T12) : Fun := ⟨true, runR a12 o12 (u12 f)⟩
noncomputable def f12 (k : Nat) : T12 := fun a0 b1 =>
  cond (a0.1 == b1.1)
    ((f17 k a0.2.1 b1.2.1).bind fun y1 =>
    some ((y1.1.1, ()), ()))
    (some ((false, ()), ()))
noncomputable def C12 (k : Nat) : Nat → Fun := mkC [(17, (F17 (f17 k)))]
theorem c12_ok (k : Nat) : ∀ f, SoundFn Try.prog f (C12 k f) := (mkC_cons (s17 k) mkC_nil)
theorem e12 (k : Nat) (x : (a12).C) : bodyR (C12 k) tt noH Try.f12 a12 o12 x = u12 (f12 k) x := by kernel_rfl
theorem s12 (k : Nat) : SoundFn Try.prog 12 (F12 (f12 k)) :=
  have hC := c12_ok k
  fnR_sound hC ttOk (draw_ok hC ttOk mixed) Try.func12 (c0 := bd Try.f12) rfl (entry Try.func12 rfl (by decide)) noH_ok rfl (fun x _ h => (e12 k x).trans h)
/-! f4 fathom/fathomlaw03.DimacsLines (R) -/
noncomputable def a4 : Shape := ⟨[.d T_Cnf, .d (.slice (.int .u8))], []⟩
noncomputable def o4 : List Shape := [⟨[.d .bool], []⟩]
abbrev R4 : Type := ((Bool × Unit) × Unit)
abbrev T4 : Type := D_Cnf → (List Int) → Option R4
noncomputable def u4 (f : T4) : (a4).C → Option (OutC o4) := fun (x : ((D_Cnf × (List Int) × Unit) × Unit)) => f x.1.1 x.1.2.1
noncomputable def F4 (f : T4) : Fun := ⟨true, runR a4 o4 (u4 f)⟩
noncomputable def pa4_16018 : Shape := ⟨[.d (.slice (.int .u8)), .ptr 0, .d .str, .d i64, .d i64, .d i64], [.box [.d i64, .d (.slice (.slice i64))]]⟩
noncomputable def pw4_16018 : List Vm.Way := [⟨.exit 2, [5, 6], ⟨[.d .str, .d i64], [.box [.d i64, .d (.slice (.slice i64))]]⟩⟩]
abbrev R4_16018 : Type := ((ByteArray × Int × Unit) × ((Int × (List (List Int)) × Unit) × Unit))
abbrev T4_16018 : Type := (List Int) → ByteArray → Int → Int → Int → Int → (List (List Int)) → Option R4_16018
noncomputable def u4_16018 (f : T4_16018) : (pa4_16018).C → Option (WayC pw4_16018) := fun (x : (((List Int) × Unit × ByteArray × Int × Int × Int × Unit) × ((Int × (List (List Int)) × Unit) × Unit))) => f x.1.1 x.1.2.2.1 x.1.2.2.2.1 x.1.2.2.2.2.1 x.1.2.2.2.2.2.1 x.2.1.1 x.2.1.2.1
noncomputable def b4_16018 (k : Nat) (rec : T4_16018) : T4_16018 := fun x1 s5 k6 i7 j8 o0_0 o0_1 =>
  ix o0_1 i7 fun e1 =>
  cond (decide (j8 ≤ (e1.length : Int)))
    (ix o0_1 i7 fun e2 =>
    cond (decide (j8 < (e2.length : Int)))
      (ix o0_1 i7 fun e3 =>
      ix e3 j8 fun e4 =>
      (f8 k e4).bind fun y5 =>
      cond (decide (k6 < (x1.length : Int)))
        (ix x1 k6 fun e6 =>
        ix ([(ByteArray.mk #[32]), (ByteArray.mk #[10]), s_1, (ByteArray.mk #[13, 10]), s_2, (ByteArray.mk #[10, 10])] : List ByteArray) (Int.tmod e6 6) fun e7 =>
        gd (decide (s5.size + y5.1.1.size ≤ 9223372036854775807)) <|
        gd (decide ((s5 ++ y5.1.1).size + e7.size ≤ 9223372036854775807)) <|
        (rec x1 ((s5 ++ y5.1.1) ++ e7) (w64 (k6 + 1)) i7 (w64 (j8 + 1)) o0_0 o0_1).bind fun y8 =>
        some ((y8.1.1, y8.1.2.1, ()), ((y8.2.1.1, y8.2.1.2.1, ()), ())))
        (gd (decide (s5.size + y5.1.1.size ≤ 9223372036854775807)) <|
        gd (decide ((s5 ++ y5.1.1).size + (ByteArray.mk #[32]).size ≤ 9223372036854775807)) <|
        (rec x1 ((s5 ++ y5.1.1) ++ (ByteArray.mk #[32])) (w64 (k6 + 1)) i7 (w64 (j8 + 1)) o0_0 o0_1).bind fun y9 =>
        some ((y9.1.1, y9.1.2.1, ()), ((y9.2.1.1, y9.2.1.2.1, ()), ()))))
      (cond (decide (k6 < (x1.length : Int)))
        (ix x1 k6 fun e10 =>
        ix ([(ByteArray.mk #[32]), (ByteArray.mk #[10]), s_1, (ByteArray.mk #[13, 10]), s_2, (ByteArray.mk #[10, 10])] : List ByteArray) (Int.tmod e10 6) fun e11 =>
        gd (decide (s5.size + (ByteArray.mk #[48]).size ≤ 9223372036854775807)) <|
        gd (decide ((s5 ++ (ByteArray.mk #[48])).size + e11.size ≤ 9223372036854775807)) <|
        (rec x1 ((s5 ++ (ByteArray.mk #[48])) ++ e11) (w64 (k6 + 1)) i7 (w64 (j8 + 1)) o0_0 o0_1).bind fun y12 =>
        some ((y12.1.1, y12.1.2.1, ()), ((y12.2.1.1, y12.2.1.2.1, ()), ())))
        (gd (decide (s5.size + (ByteArray.mk #[48]).size ≤ 9223372036854775807)) <|
        gd (decide ((s5 ++ (ByteArray.mk #[48])).size + (ByteArray.mk #[32]).size ≤ 9223372036854775807)) <|
        (rec x1 ((s5 ++ (ByteArray.mk #[48])) ++ (ByteArray.mk #[32])) (w64 (k6 + 1)) i7 (w64 (j8 + 1)) o0_0 o0_1).bind fun y13 =>
        some ((y13.1.1, y13.1.2.1, ()), ((y13.2.1.1, y13.2.1.2.1, ()), ())))))
    (some ((s5, k6, ()), ((o0_0, o0_1, ()), ())))
noncomputable def l4_16018 (k : Nat) : Nat → T4_16018
  | 0 => fun _ _ _ _ _ _ _ => none
  | j + 1 => b4_16018 k (l4_16018 k j)
noncomputable def pa4_250 : Shape := ⟨[.d (.slice (.int .u8)), .ptr 0, .d .str, .d i64, .d i64], [.box [.d i64, .d (.slice (.slice i64))]]⟩
noncomputable def pw4_250 : List Vm.Way := [⟨.exit 0, [5], ⟨[.d .str], [.box [.d i64, .d (.slice (.slice i64))]]⟩⟩]
abbrev R4_250 : Type := ((ByteArray × Unit) × ((Int × (List (List Int)) × Unit) × Unit))
abbrev T4_250 : Type := (List Int) → ByteArray → Int → Int → Int → (List (List Int)) → Option R4_250
noncomputable def u4_250 (f : T4_250) : (pa4_250).C → Option (WayC pw4_250) := fun (x : (((List Int) × Unit × ByteArray × Int × Int × Unit) × ((Int × (List (List Int)) × Unit) × Unit))) => f x.1.1 x.1.2.2.1 x.1.2.2.2.1 x.1.2.2.2.2.1 x.2.1.1 x.2.1.2.1
noncomputable def b4_250 (k : Nat) (rec : T4_250) : T4_250 := fun x1 s5 k6 i7 o0_0 o0_1 =>
  cond (decide (i7 < (o0_1.length : Int)))
    ((l4_16018 k k x1 s5 k6 i7 0 o0_0 o0_1).bind fun y1 =>
    (rec x1 y1.1.1 y1.1.2.1 (w64 (i7 + 1)) y1.2.1.1 y1.2.1.2.1).bind fun y2 =>
    some ((y2.1.1, ()), ((y2.2.1.1, y2.2.1.2.1, ()), ())))
    (some ((s5, ()), ((o0_0, o0_1, ()), ())))
noncomputable def l4_250 (k : Nat) : Nat → T4_250
  | 0 => fun _ _ _ _ _ _ => none
  | j + 1 => b4_250 k (l4_250 k j)
noncomputable def f4 (k : Nat) : T4 := fun f0 x1 =>
  (f9 k f0).bind fun y1 =>
  cond (!y1.1.1)
    ((f5 k ()).bind fun y2 =>
    some ((y2.1.1, ()), ()))
    ((f10 k f0).bind fun y3 =>
    cond (!y3.1.1)
      ((f5 k ()).bind fun y4 =>
      some ((y4.1.1, ()), ()))
      (cond (decide ((x1.length : Int) > 400))
        ((f5 k ()).bind fun y5 =>
        some ((y5.1.1, ()), ()))
        ((f8 k f0.1).bind fun y6 =>
        gd (decide (s_0.size + y6.1.1.size ≤ 9223372036854775807)) <|
        gd (decide ((s_0 ++ y6.1.1).size + (ByteArray.mk #[32]).size ≤ 9223372036854775807)) <|
        (f8 k (f0.2.1.length : Int)).bind fun y7 =>
        gd (decide (((s_0 ++ y6.1.1) ++ (ByteArray.mk #[32])).size + y7.1.1.size ≤ 9223372036854775807)) <|
        gd (decide ((((s_0 ++ y6.1.1) ++ (ByteArray.mk #[32])) ++ y7.1.1).size + (ByteArray.mk #[32, 10]).size ≤ 9223372036854775807)) <|
        let v8 := (((s_0 ++ y6.1.1) ++ (ByteArray.mk #[32])) ++ y7.1.1) ++ (ByteArray.mk #[32, 10])
        (l4_250 k k x1 v8 0 0 f0.1 f0.2.1).bind fun y9 =>
        (f11 k (bytesD y9.1.1)).bind fun y10 =>
        cond (y10.1.2.2.1 == 0)
          (cond (y10.1.2.1 == 0)
            ((f12 k (y9.2.1.1, y9.2.1.2.1, ()) y10.1.1).bind fun y11 =>
            cond y11.1.1
              ((f5 k ()).bind fun y12 =>
              some ((y12.1.1, ()), ()))
              (some ((false, ()), ())))
            (some ((false, ()), ())))
          (some ((false, ()), ())))))
noncomputable def C4 (k : Nat) : Nat → Fun := mkC [(5, (F5 (f5 k))), (8, (F8 (f8 k))), (9, (F9 (f9 k))), (10, (F10 (f10 k))), (11, (F11 (f11 k))), (12, (F12 (f12 k)))]
theorem c4_ok (k : Nat) : ∀ f, SoundFn Try.prog f (C4 k f) := (mkC_cons (s5 k) (mkC_cons (s8 k) (mkC_cons (s9 k) (mkC_cons (s10 k) (mkC_cons (s11 k) (mkC_cons (s12 k) mkC_nil))))))
noncomputable def H4_16018 (k : Nat) : Nat → Option Cut := addH noH 16018 ⟨runCut (wrC (bodyOf (codeAt 16018 (bd Try.f4) 16018))) 113 [1, 2, 5, 6, 7, 8] pa4_16018 pw4_16018 (u4_16018 (l4_16018 k k))⟩
theorem e4_16018 (k : Nat) (rec : T4_16018) (x : (pa4_16018).C) : roundF (C4 k) tt noH (bodyOf (codeAt 16018 (bd Try.f4) 16018)) 32036 113 [1, 2, 5, 6, 7, 8] pa4_16018 pw4_16018 (u4_16018 rec) x = u4_16018 (b4_16018 k rec) x := by kernel_rfl
theorem h4_16018_ok (k : Nat) : ∀ p S, H4_16018 k p = some S → ∀ c, At (bd Try.f4) p c → CutOk Try.prog c S :=
  have hC := c4_ok k
  addLoop hC ttOk (draw_ok hC ttOk mixed) noH_ok (by kernel_rfl) (F := fun j => u4_16018 (l4_16018 k j)) (fun _ => rfl) (fun j x _ h => (e4_16018 k (l4_16018 k j) x).trans h) k
noncomputable def H4_250 (k : Nat) : Nat → Option Cut := addH (H4_16018 k) 250 ⟨runCut (wrC (bodyOf (codeAt 250 (bd Try.f4) 250))) 113 [1, 2, 5, 6, 7] pa4_250 pw4_250 (u4_250 (l4_250 k k))⟩
theorem e4_250 (k : Nat) (rec : T4_250) (x : (pa4_250).C) : roundF (C4 k) tt (H4_16018 k) (bodyOf (codeAt 250 (bd Try.f4) 250)) 500 113 [1, 2, 5, 6, 7] pa4_250 pw4_250 (u4_250 rec) x = u4_250 (b4_250 k rec) x := by kernel_rfl
theorem h4_250_ok (k : Nat) : ∀ p S, H4_250 k p = some S → ∀ c, At (bd Try.f4) p c → CutOk Try.prog c S :=
  have hC := c4_ok k
  addLoop hC ttOk (draw_ok hC ttOk mixed) (h4_16018_ok k) (by kernel_rfl) (F := fun j => u4_250 (l4_250 k j)) (fun _ => rfl) (fun j x _ h => (e4_250 k (l4_250 k j) x).trans h) k
theorem e4 (k : Nat) (x : (a4).C) : bodyR (C4 k) tt (H4_250 k) Try.f4 a4 o4 x = u4 (f4 k) x := by kernel_rfl
theorem s4 (k : Nat) : SoundFn Try.prog 4 (F4 (f4 k)) :=
  have hC := c4_ok k
  fnR_sound hC ttOk (draw_ok hC ttOk mixed) Try.func4 (c0 := bd Try.f4) rfl (entry Try.func4 rfl (by decide)) (h4_250_ok k) rfl (fun x _ h => (e4 k x).trans h)
end Go.Proofs.Ytcbhbmhopkagiaa.M
