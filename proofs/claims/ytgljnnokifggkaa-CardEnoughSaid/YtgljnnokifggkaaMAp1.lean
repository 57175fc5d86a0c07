/-
PRINTED BY vmp.py: the functions of a law, each as a Lean function, and that it is what the code computes.
-/
import Derived.Test.YtgljnnokifggkaaVm41
import Derived.Test.YtgljnnokifggkaaProg
import Derived.Test.YtgljnnokifggkaaChecked
import Derived.KernelRfl
set_option linter.unusedVariables false
set_option maxRecDepth 100000
namespace Go.Proofs.Ytgljnnokifggkaa.M
open Go Go.Proofs Go.Proofs.Ytgljnnokifggkaa.Vm
abbrev T_errorAddressString : Ty := (.pair .str (.pair (.int .u64) .unit))
abbrev D_errorAddressString : Type := (ByteArray × Int × Unit)
abbrev T_Gate : Ty := (.pair i64 (.pair i64 .unit))
abbrev D_Gate : Type := (Int × Int × Unit)
abbrev T_Asked : Ty := (.pair (.slice i64) (.pair i64 .unit))
abbrev D_Asked : Type := ((List Int) × Int × Unit)
abbrev T_Two : Ty := (.pair (.int .u16) (.pair (.int .u16) (.pair (.int .u32) .unit)))
abbrev D_Two : Type := (Int × Int × Int × Unit)
abbrev T_boundsError : Ty := (.pair i64 (.pair i64 (.pair .bool (.pair (.int .u8) .unit))))
abbrev D_boundsError : Type := (Int × Int × Bool × Int × Unit)
abbrev T_Act : Ty := (.pair i64 (.pair i64 (.pair i64 (.pair i64 .unit))))
abbrev D_Act : Type := (Int × Int × Int × Int × Unit)
def s_0 : ByteArray := ByteArray.mk #[0, 1, 2, 2, 3, 3, 3, 3, 4, 4, 4, 4, 4, 4, 4, 4, 5, 5, 5, 5, 5, 5, 5, 5, 5, 5, 5, 5, 5, 5, 5, 5, 6, 6, 6, 6, 6, 6, 6, 6, 6, 6, 6, 6, 6, 6, 6, 6, 6, 6, 6, 6, 6, 6, 6, 6, 6, 6, 6, 6, 6, 6, 6, 6, 7, 7, 7, 7, 7, 7, 7, 7, 7, 7, 7, 7, 7, 7, 7, 7, 7, 7, 7, 7, 7, 7, 7, 7, 7, 7, 7, 7, 7, 7, 7, 7, 7, 7, 7, 7, 7, 7, 7, 7, 7, 7, 7, 7, 7, 7, 7, 7, 7, 7, 7, 7, 7, 7, 7, 7, 7, 7, 7, 7, 7, 7, 7, 7, 8, 8, 8, 8, 8, 8, 8, 8, 8, 8, 8, 8, 8, 8, 8, 8, 8, 8, 8, 8, 8, 8, 8, 8, 8, 8, 8, 8, 8, 8, 8, 8, 8, 8, 8, 8, 8, 8, 8, 8, 8, 8, 8, 8, 8, 8, 8, 8, 8, 8, 8, 8, 8, 8, 8, 8, 8, 8, 8, 8, 8, 8, 8, 8, 8, 8, 8, 8, 8, 8, 8, 8, 8, 8, 8, 8, 8, 8, 8, 8, 8, 8, 8, 8, 8, 8, 8, 8, 8, 8, 8, 8, 8, 8, 8, 8, 8, 8, 8, 8, 8, 8, 8, 8, 8, 8, 8, 8, 8, 8, 8, 8, 8, 8, 8, 8, 8, 8, 8, 8, 8, 8, 8, 8, 8, 8, 8, 8]
def tl : List (Nat × TI) := [(3, .dat i64 0), (4, .dat .bool 0), (5, .dat (.int .u8) 0), (9, .dat .str 0), (22, .dat (.slice T_Act) 32), (23, .ref 0), (24, .dat (.slice T_Gate) 16), (28, .dat T_Gate 0), (37, .dat T_Act 0), (38, .map T_Gate i64), (40, .mix 2 [(0, 24), (1, 38)]), (43, .dat (.slice i64) 8), (45, .dat (.slice .bool) 1), (63, .dat (.int .u16) 0), (64, .dat (.int .u32) 0), (66, .dat T_Two 0), (86, .dat (.slice (.slice i64)) 24), (102, .dat (.arr 2 i64) 0), (103, .dat (.arr 2 (.arr 2 i64)) 0), (110, .dat (.int .u64) 0), (125, .dat (.int .u64) 0)]
def tt := mkT tl
theorem ttOk : TtOk Try.prog tt := mkT_ok (by kernel_rfl)
theorem mixed : Try.prog.follows .mixedOrders = true := by kernel_rfl
/-! f38 fathom/aig.New (W) -/
noncomputable def a38 : Shape := ⟨[], []⟩
noncomputable def o38 : List Shape := [⟨[.ptr 0], [.box [.own T_Gate, .mp 1], .map T_Gate i64]⟩]
abbrev R38 : Type := ((Unit × Unit) × (((List D_Gate) × Unit × Unit) × (List (D_Gate × Int)) × Unit))
abbrev T38 : Type := Unit → Option R38
noncomputable def u38 (f : T38) : (a38).C → Option (OutC o38) := fun (x : (Unit × Unit)) => f ()
noncomputable def F38 (f : T38) : Fun := ⟨false, runW a38 o38 (u38 f)⟩
noncomputable def f38 (k : Nat) : T38 := fun _ =>
  some (((), ()), (([], (), ()), [], ()))
noncomputable def C38 (k : Nat) : Nat → Fun := mkC []
theorem e38 (k : Nat) (x : (a38).C) : bodyW (C38 k) tt noH Try.f38 a38 o38 x = u38 (f38 k) x := by kernel_rfl
theorem c38_ok (k : Nat) : ∀ f, SoundFn Try.prog f (C38 k f) := mkC_nil
theorem s38 (k : Nat) : SoundFn Try.prog 38 (F38 (f38 k)) :=
  have hC := c38_ok k
  fnW_sound hC ttOk (draw_ok hC ttOk mixed) Try.func38 (c0 := bd Try.f38) rfl (entry Try.func38 rfl (by decide)) noH_ok (fun x _ h => (e38 k x).trans h)
/-! f88 fathom/aig.input (R) -/
noncomputable def a88 : Shape := ⟨[], []⟩
noncomputable def o88 : List Shape := [⟨[.d T_Gate], []⟩]
abbrev R88 : Type := ((D_Gate × Unit) × Unit)
abbrev T88 : Type := Unit → Option R88
noncomputable def u88 (f : T88) : (a88).C → Option (OutC o88) := fun (x : (Unit × Unit)) => f ()
noncomputable def F88 (f : T88) : Fun := ⟨true, runR a88 o88 (u88 f)⟩
noncomputable def f88 (k : Nat) : T88 := fun _ =>
  some ((((-1), (-1), ()), ()), ())
noncomputable def C88 (k : Nat) : Nat → Fun := mkC []
theorem e88 (k : Nat) (x : (a88).C) : bodyR (C88 k) tt noH Try.f88 a88 o88 x = u88 (f88 k) x := by kernel_rfl
theorem c88_ok (k : Nat) : ∀ f, SoundFn Try.prog f (C88 k f) := mkC_nil
theorem s88 (k : Nat) : SoundFn Try.prog 88 (F88 (f88 k)) :=
  have hC := c88_ok k
  fnR_sound hC ttOk (draw_ok hC ttOk mixed) Try.func88 (c0 := bd Try.f88) rfl (entry Try.func88 rfl (by decide)) noH_ok rfl (fun x _ h => (e88 k x).trans h)
/-! f86 (*fathom/aig.Aig).add (W) -/
noncomputable def a86 : Shape := ⟨[.ptr 0, .d T_Gate], [.box [.own T_Gate, .mp 1], .map T_Gate i64]⟩
noncomputable def o86 : List Shape := [⟨[.d i64], [.box [.own T_Gate, .mp 1], .map T_Gate i64]⟩]
abbrev R86 : Type := ((Int × Unit) × (((List D_Gate) × Unit × Unit) × (List (D_Gate × Int)) × Unit))
abbrev T86 : Type := D_Gate → (List D_Gate) → (List (D_Gate × Int)) → Option R86
noncomputable def u86 (f : T86) : (a86).C → Option (OutC o86) := fun (x : ((Unit × D_Gate × Unit) × (((List D_Gate) × Unit × Unit) × (List (D_Gate × Int)) × Unit))) => f x.1.2.1 x.2.1.1 x.2.2.1
noncomputable def F86 (f : T86) : Fun := ⟨false, runW a86 o86 (u86 f)⟩
noncomputable def f86 (k : Nat) : T86 := fun n1 o0 o1 =>
  cond (decide ((o0.length : Int) ≥ 1048576))
    (some (((-1), ()), ((o0, (), ()), o1, ())))
    (gd (decide ((o0.length + 1) * 16 ≤ room)) <|
    some (((w64 (2 * ((o0 ++ ([n1] : List D_Gate)).length : Int))), ()), (((o0 ++ ([n1] : List D_Gate)), (), ()), o1, ())))
noncomputable def C86 (k : Nat) : Nat → Fun := mkC []
theorem e86 (k : Nat) (x : (a86).C) : bodyW (C86 k) tt noH Try.f86 a86 o86 x = u86 (f86 k) x := by kernel_rfl
theorem c86_ok (k : Nat) : ∀ f, SoundFn Try.prog f (C86 k f) := mkC_nil
theorem s86 (k : Nat) : SoundFn Try.prog 86 (F86 (f86 k)) :=
  have hC := c86_ok k
  fnW_sound hC ttOk (draw_ok hC ttOk mixed) Try.func86 (c0 := bd Try.f86) rfl (entry Try.func86 rfl (by decide)) noH_ok (fun x _ h => (e86 k x).trans h)
/-! f25 (*fathom/aig.Aig).In (W) -/
noncomputable def a25 : Shape := ⟨[.ptr 0], [.box [.own T_Gate, .mp 1], .map T_Gate i64]⟩
noncomputable def o25 : List Shape := [⟨[.d i64], [.box [.own T_Gate, .mp 1], .map T_Gate i64]⟩]
abbrev R25 : Type := ((Int × Unit) × (((List D_Gate) × Unit × Unit) × (List (D_Gate × Int)) × Unit))
abbrev T25 : Type := (List D_Gate) → (List (D_Gate × Int)) → Option R25
noncomputable def u25 (f : T25) : (a25).C → Option (OutC o25) := fun (x : ((Unit × Unit) × (((List D_Gate) × Unit × Unit) × (List (D_Gate × Int)) × Unit))) => f x.2.1.1 x.2.2.1
noncomputable def F25 (f : T25) : Fun := ⟨false, runW a25 o25 (u25 f)⟩
noncomputable def f25 (k : Nat) : T25 := fun o0 o1 =>
  (f88 k ()).bind fun y1 =>
  (f86 k y1.1.1 o0 o1).bind fun y2 =>
  some ((y2.1.1, ()), ((y2.2.1.1, (), ()), y2.2.2.1, ()))
noncomputable def C25 (k : Nat) : Nat → Fun := mkC [(86, (F86 (f86 k))), (88, (F88 (f88 k)))]
theorem e25 (k : Nat) (x : (a25).C) : bodyW (C25 k) tt noH Try.f25 a25 o25 x = u25 (f25 k) x := by kernel_rfl
theorem c25_ok (k : Nat) : ∀ f, SoundFn Try.prog f (C25 k f) := (mkC_cons (s86 k) (mkC_cons (s88 k) mkC_nil))
theorem s25 (k : Nat) : SoundFn Try.prog 25 (F25 (f25 k)) :=
  have hC := c25_ok k
  fnW_sound hC ttOk (draw_ok hC ttOk mixed) Try.func25 (c0 := bd Try.f25) rfl (entry Try.func25 rfl (by decide)) noH_ok (fun x _ h => (e25 k x).trans h)
/-! f80 fathom/fathomref15.In (R) -/
noncomputable def a80 : Shape := ⟨[.d (.slice T_Gate)], []⟩
noncomputable def o80 : List Shape := [⟨[.d (.slice T_Gate), .d i64], []⟩]
abbrev R80 : Type := (((List D_Gate) × Int × Unit) × Unit)
abbrev T80 : Type := (List D_Gate) → Option R80
noncomputable def u80 (f : T80) : (a80).C → Option (OutC o80) := fun (x : (((List D_Gate) × Unit) × Unit)) => f x.1.1
noncomputable def F80 (f : T80) : Fun := ⟨true, runR a80 o80 (u80 f)⟩
noncomputable def f80 (k : Nat) : T80 := fun g0 =>
  cond (decide ((g0.length : Int) ≥ 1048576))
    (some ((g0, (-1), ()), ()))
    (gd (decide ((0 + g0.length) * 16 ≤ room)) <|
    gd (decide (((([] : List D_Gate) ++ g0).length + 1) * 16 ≤ room)) <|
    some ((((([] : List D_Gate) ++ g0) ++ ([((-1), (-1), ())] : List D_Gate)), (w64 ((w64 (2 * (g0.length : Int))) + 2)), ()), ()))
noncomputable def C80 (k : Nat) : Nat → Fun := mkC []
theorem e80 (k : Nat) (x : (a80).C) : bodyR (C80 k) tt noH Try.f80 a80 o80 x = u80 (f80 k) x := by kernel_rfl
theorem c80_ok (k : Nat) : ∀ f, SoundFn Try.prog f (C80 k f) := mkC_nil
theorem s80 (k : Nat) : SoundFn Try.prog 80 (F80 (f80 k)) :=
  have hC := c80_ok k
  fnR_sound hC ttOk (draw_ok hC ttOk mixed) Try.func80 (c0 := bd Try.f80) rfl (entry Try.func80 rfl (by decide)) noH_ok rfl (fun x _ h => (e80 k x).trans h)
/-! f24 (*fathom/aig.Aig).Is (R) -/
noncomputable def a24 : Shape := ⟨[.ptr 0, .d i64], [.box [.d (.slice T_Gate), .mp 1], .map T_Gate i64]⟩
noncomputable def o24 : List Shape := [⟨[.d .bool], []⟩]
abbrev R24 : Type := ((Bool × Unit) × Unit)
abbrev T24 : Type := Int → (List D_Gate) → (List (D_Gate × Int)) → Option R24
noncomputable def u24 (f : T24) : (a24).C → Option (OutC o24) := fun (x : ((Unit × Int × Unit) × (((List D_Gate) × Unit × Unit) × (List (D_Gate × Int)) × Unit))) => f x.1.2.1 x.2.1.1 x.2.2.1
noncomputable def F24 (f : T24) : Fun := ⟨true, runR a24 o24 (u24 f)⟩
noncomputable def f24 (k : Nat) : T24 := fun l1 o0 o1 =>
  cond (decide (l1 ≥ 0))
    (some (((decide (l1 ≤ (w64 ((w64 (2 * (o0.length : Int))) + 1)))), ()), ()))
    (some ((false, ()), ()))
noncomputable def C24 (k : Nat) : Nat → Fun := mkC []
theorem e24 (k : Nat) (x : (a24).C) : bodyR (C24 k) tt noH Try.f24 a24 o24 x = u24 (f24 k) x := by kernel_rfl
theorem c24_ok (k : Nat) : ∀ f, SoundFn Try.prog f (C24 k f) := mkC_nil
theorem s24 (k : Nat) : SoundFn Try.prog 24 (F24 (f24 k)) :=
  have hC := c24_ok k
  fnR_sound hC ttOk (draw_ok hC ttOk mixed) Try.func24 (c0 := bd Try.f24) rfl (entry Try.func24 rfl (by decide)) noH_ok rfl (fun x _ h => (e24 k x).trans h)
/-! f111 (*fathom/aig.Aig).kids (R) -/
noncomputable def a111 : Shape := ⟨[.ptr 0, .d i64], [.box [.d (.slice T_Gate), .mp 1], .map T_Gate i64]⟩
noncomputable def o111 : List Shape := [⟨[.d i64, .d i64, .d .bool], []⟩]
abbrev R111 : Type := ((Int × Int × Bool × Unit) × Unit)
abbrev T111 : Type := Int → (List D_Gate) → (List (D_Gate × Int)) → Option R111
noncomputable def u111 (f : T111) : (a111).C → Option (OutC o111) := fun (x : ((Unit × Int × Unit) × (((List D_Gate) × Unit × Unit) × (List (D_Gate × Int)) × Unit))) => f x.1.2.1 x.2.1.1 x.2.2.1
noncomputable def F111 (f : T111) : Fun := ⟨true, runR a111 o111 (u111 f)⟩
noncomputable def f111 (k : Nat) : T111 := fun l1 o0 o1 =>
  cond (decide (l1 < 2))
    (some ((0, 0, false, ()), ()))
    (ix o0 (w64 ((w64 (Int.tdiv l1 2)) - 1)) fun e1 =>
    (f88 k ()).bind fun y2 =>
    some ((e1.1, e1.2.1, (!(beqD T_Gate e1 y2.1.1)), ()), ()))
noncomputable def C111 (k : Nat) : Nat → Fun := mkC [(88, (F88 (f88 k)))]
theorem e111 (k : Nat) (x : (a111).C) : bodyR (C111 k) tt noH Try.f111 a111 o111 x = u111 (f111 k) x := by kernel_rfl
theorem c111_ok (k : Nat) : ∀ f, SoundFn Try.prog f (C111 k f) := (mkC_cons (s88 k) mkC_nil)
theorem s111 (k : Nat) : SoundFn Try.prog 111 (F111 (f111 k)) :=
  have hC := c111_ok k
  fnR_sound hC ttOk (draw_ok hC ttOk mixed) Try.func111 (c0 := bd Try.f111) rfl (entry Try.func111 rfl (by decide)) noH_ok rfl (fun x _ h => (e111 k x).trans h)
/-! f84 (*fathom/aig.Aig).plain (R) -/
noncomputable def a84 : Shape := ⟨[.ptr 0, .d i64, .d i64], [.box [.d (.slice T_Gate), .mp 1], .map T_Gate i64]⟩
noncomputable def o84 : List Shape := [⟨[.d i64, .d .bool], []⟩]
abbrev R84 : Type := ((Int × Bool × Unit) × Unit)
abbrev T84 : Type := Int → Int → (List D_Gate) → (List (D_Gate × Int)) → Option R84
noncomputable def u84 (f : T84) : (a84).C → Option (OutC o84) := fun (x : ((Unit × Int × Int × Unit) × (((List D_Gate) × Unit × Unit) × (List (D_Gate × Int)) × Unit))) => f x.1.2.1 x.1.2.2.1 x.2.1.1 x.2.2.1
noncomputable def F84 (f : T84) : Fun := ⟨true, runR a84 o84 (u84 f)⟩
noncomputable def f84 (k : Nat) : T84 := fun a1 b2 o0 o1 =>
  (f111 k b2 o0 o1).bind fun y1 =>
  cond (!y1.1.2.2.1)
    (some ((0, false, ()), ()))
    (cond ((Int.tmod b2 2) == 1)
      (some ((0, false, ()), ()))
      (cond (a1 == y1.1.1)
        (some ((b2, true, ()), ()))
        (cond (a1 == y1.1.2.1)
          (some ((b2, true, ()), ()))
          (cond ((ibits .xor .i64 a1 1) == y1.1.1)
            (some ((0, true, ()), ()))
            (cond ((ibits .xor .i64 a1 1) == y1.1.2.1)
              (some ((0, true, ()), ()))
              (some ((0, false, ()), ())))))))
noncomputable def C84 (k : Nat) : Nat → Fun := mkC [(111, (F111 (f111 k)))]
theorem e84 (k : Nat) (x : (a84).C) : bodyR (C84 k) tt noH Try.f84 a84 o84 x = u84 (f84 k) x := by kernel_rfl
theorem c84_ok (k : Nat) : ∀ f, SoundFn Try.prog f (C84 k f) := (mkC_cons (s111 k) mkC_nil)
theorem s84 (k : Nat) : SoundFn Try.prog 84 (F84 (f84 k)) :=
  have hC := c84_ok k
  fnR_sound hC ttOk (draw_ok hC ttOk mixed) Try.func84 (c0 := bd Try.f84) rfl (entry Try.func84 rfl (by decide)) noH_ok rfl (fun x _ h => (e84 k x).trans h)
/-! f19 (*fathom/aig.Aig).And (W) -/
noncomputable def a19 : Shape := ⟨[.ptr 0, .d i64, .d i64], [.box [.own T_Gate, .mp 1], .map T_Gate i64]⟩
noncomputable def o19 : List Shape := [⟨[.d i64], [.box [.own T_Gate, .mp 1], .map T_Gate i64]⟩]
abbrev R19 : Type := ((Int × Unit) × (((List D_Gate) × Unit × Unit) × (List (D_Gate × Int)) × Unit))
abbrev T19 : Type := Int → Int → (List D_Gate) → (List (D_Gate × Int)) → Option R19
noncomputable def u19 (f : T19) : (a19).C → Option (OutC o19) := fun (x : ((Unit × Int × Int × Unit) × (((List D_Gate) × Unit × Unit) × (List (D_Gate × Int)) × Unit))) => f x.1.2.1 x.1.2.2.1 x.2.1.1 x.2.2.1
noncomputable def F19 (f : T19) : Fun := ⟨false, runW a19 o19 (u19 f)⟩
/-! f85 (*fathom/aig.Aig).turned (W) -/
noncomputable def a85 : Shape := ⟨[.ptr 0, .d i64, .d i64], [.box [.own T_Gate, .mp 1], .map T_Gate i64]⟩
noncomputable def o85 : List Shape := [⟨[.d i64, .d .bool], [.box [.own T_Gate, .mp 1], .map T_Gate i64]⟩]
abbrev R85 : Type := ((Int × Bool × Unit) × (((List D_Gate) × Unit × Unit) × (List (D_Gate × Int)) × Unit))
abbrev T85 : Type := Int → Int → (List D_Gate) → (List (D_Gate × Int)) → Option R85
noncomputable def u85 (f : T85) : (a85).C → Option (OutC o85) := fun (x : ((Unit × Int × Int × Unit) × (((List D_Gate) × Unit × Unit) × (List (D_Gate × Int)) × Unit))) => f x.1.2.1 x.1.2.2.1 x.2.1.1 x.2.2.1
noncomputable def F85 (f : T85) : Fun := ⟨false, runW a85 o85 (u85 f)⟩
noncomputable def b19 (k : Nat) (r19 : T19) (r85 : T85) : T19 := fun a1 b2 o0 o1 =>
  (f24 k a1 o0 o1).bind fun y1 =>
  cond (!y1.1.1)
    (some (((-1), ()), ((o0, (), ()), o1, ())))
    ((f24 k b2 o0 o1).bind fun y2 =>
    cond (!y2.1.1)
      (some (((-1), ()), ((o0, (), ()), o1, ())))
      (cond ((minmax false a1 b2) == 0)
        (some ((0, ()), ((o0, (), ()), o1, ())))
        (cond ((ibits .xor .i64 (minmax false a1 b2) 1) == (minmax true a1 b2))
          (some ((0, ()), ((o0, (), ()), o1, ())))
          (cond ((minmax false a1 b2) == 1)
            (some (((minmax true a1 b2), ()), ((o0, (), ()), o1, ())))
            (cond ((minmax false a1 b2) == (minmax true a1 b2))
              (some (((minmax true a1 b2), ()), ((o0, (), ()), o1, ())))
              ((f84 k (minmax false a1 b2) (minmax true a1 b2) o0 o1).bind fun y3 =>
              cond y3.1.2.1
                (some ((y3.1.1, ()), ((o0, (), ()), o1, ())))
                ((f84 k (minmax true a1 b2) (minmax false a1 b2) o0 o1).bind fun y4 =>
                cond y4.1.2.1
                  (some ((y4.1.1, ()), ((o0, (), ()), o1, ())))
                  ((r85 (minmax false a1 b2) (minmax true a1 b2) o0 o1).bind fun y5 =>
                  cond y5.1.2.1
                    (some ((y5.1.1, ()), ((y5.2.1.1, (), ()), y5.2.2.1, ())))
                    ((r85 (minmax true a1 b2) (minmax false a1 b2) y5.2.1.1 y5.2.2.1).bind fun y6 =>
                    cond y6.1.2.1
                      (some ((y6.1.1, ()), ((y6.2.1.1, (), ()), y6.2.2.1, ())))
                      (let v7 := mget T_Gate ((minmax false a1 b2), (minmax true a1 b2), ()) y6.2.2.1
                      cond v7.isSome
                        (some (((v7.getD 0), ()), ((y6.2.1.1, (), ()), y6.2.2.1, ())))
                        ((f86 k ((minmax false a1 b2), (minmax true a1 b2), ()) y6.2.1.1 y6.2.2.1).bind fun y8 =>
                        cond (y8.1.1 != (-1))
                          (some ((y8.1.1, ()), ((y8.2.1.1, (), ()), (mput T_Gate ((minmax false a1 b2), (minmax true a1 b2), ()) y8.1.1 y8.2.2.1), ())))
                          (some ((y8.1.1, ()), ((y8.2.1.1, (), ()), y8.2.2.1, ()))))))))))))))
noncomputable def b85 (k : Nat) (r19 : T19) (r85 : T85) : T85 := fun a1 b2 o0 o1 =>
  (f111 k b2 o0 o1).bind fun y1 =>
  cond (!y1.1.2.2.1)
    (some ((0, false, ()), ((o0, (), ()), o1, ())))
    (cond ((Int.tmod b2 2) == 0)
      (some ((0, false, ()), ((o0, (), ()), o1, ())))
      (cond ((ibits .xor .i64 a1 1) == y1.1.1)
        (some ((a1, true, ()), ((o0, (), ()), o1, ())))
        (cond ((ibits .xor .i64 a1 1) == y1.1.2.1)
          (some ((a1, true, ()), ((o0, (), ()), o1, ())))
          (cond (a1 == y1.1.1)
            ((r19 a1 (ibits .xor .i64 y1.1.2.1 1) o0 o1).bind fun y2 =>
            some ((y2.1.1, true, ()), ((y2.2.1.1, (), ()), y2.2.2.1, ())))
            (cond (a1 == y1.1.2.1)
              ((r19 a1 (ibits .xor .i64 y1.1.1 1) o0 o1).bind fun y3 =>
              some ((y3.1.1, true, ()), ((y3.2.1.1, (), ()), y3.2.2.1, ())))
              (some ((0, false, ()), ((o0, (), ()), o1, ()))))))))
noncomputable def S19 : Nat → T19 × T85
  | 0 => (fun _ _ _ _ => none, fun _ _ _ _ => none)
  | k + 1 => (b19 k (S19 k).1 (S19 k).2, b85 k (S19 k).1 (S19 k).2)
noncomputable def f19 (k : Nat) : T19 := (S19 k).1
noncomputable def f85 (k : Nat) : T85 := (S19 k).2
theorem f19_succ (k : Nat) : f19 (k + 1) = b19 k (f19 k) (f85 k) := rfl
theorem f85_succ (k : Nat) : f85 (k + 1) = b85 k (f19 k) (f85 k) := rfl
noncomputable def C19 (k : Nat) (r19 : T19) (r85 : T85) : Nat → Fun := mkC [(24, (F24 (f24 k))), (84, (F84 (f84 k))), (85, (F85 r85)), (86, (F86 (f86 k)))]
theorem e19 (k : Nat) (r19 : T19) (r85 : T85) (x : (a19).C) : bodyW (C19 k r19 r85) tt noH Try.f19 a19 o19 x = u19 (b19 k r19 r85) x := by kernel_rfl
theorem c19_ok (k : Nat) (r19 : T19) (r85 : T85) (h19 : SoundFn Try.prog 19 (F19 r19)) (h85 : SoundFn Try.prog 85 (F85 r85)) : ∀ f, SoundFn Try.prog f (C19 k r19 r85 f) := (mkC_cons (s24 k) (mkC_cons (s84 k) (mkC_cons h85 (mkC_cons (s86 k) mkC_nil))))
theorem q19 (k : Nat) (r19 : T19) (r85 : T85) (h19 : SoundFn Try.prog 19 (F19 r19)) (h85 : SoundFn Try.prog 85 (F85 r85)) : SoundFn Try.prog 19 (F19 (b19 k r19 r85)) :=
  have hC := c19_ok k r19 r85 h19 h85
  fnW_sound hC ttOk (draw_ok hC ttOk mixed) Try.func19 (c0 := bd Try.f19) rfl (entry Try.func19 rfl (by decide)) noH_ok (fun x _ h => (e19 k r19 r85 x).trans h)
noncomputable def C85 (k : Nat) (r19 : T19) (r85 : T85) : Nat → Fun := mkC [(19, (F19 r19)), (111, (F111 (f111 k)))]
theorem e85 (k : Nat) (r19 : T19) (r85 : T85) (x : (a85).C) : bodyW (C85 k r19 r85) tt noH Try.f85 a85 o85 x = u85 (b85 k r19 r85) x := by kernel_rfl
theorem c85_ok (k : Nat) (r19 : T19) (r85 : T85) (h19 : SoundFn Try.prog 19 (F19 r19)) (h85 : SoundFn Try.prog 85 (F85 r85)) : ∀ f, SoundFn Try.prog f (C85 k r19 r85 f) := (mkC_cons h19 (mkC_cons (s111 k) mkC_nil))
theorem q85 (k : Nat) (r19 : T19) (r85 : T85) (h19 : SoundFn Try.prog 19 (F19 r19)) (h85 : SoundFn Try.prog 85 (F85 r85)) : SoundFn Try.prog 85 (F85 (b85 k r19 r85)) :=
  have hC := c85_ok k r19 r85 h19 h85
  fnW_sound hC ttOk (draw_ok hC ttOk mixed) Try.func85 (c0 := bd Try.f85) rfl (entry Try.func85 rfl (by decide)) noH_ok (fun x _ h => (e85 k r19 r85 x).trans h)
theorem sAll19 : ∀ k : Nat, SoundFn Try.prog 19 (F19 (f19 k)) ∧ SoundFn Try.prog 85 (F85 (f85 k))
  | 0 => ⟨noneW_ok (by intro x; rfl), noneW_ok (by intro x; rfl)⟩
  | k + 1 =>
    have ih := sAll19 k
    ⟨q19 k (f19 k) (f85 k) ih.1 ih.2, q85 k (f19 k) (f85 k) ih.1 ih.2⟩
theorem s19 (k : Nat) : SoundFn Try.prog 19 (F19 (f19 k)) := (sAll19 k).1
theorem s85 (k : Nat) : SoundFn Try.prog 85 (F85 (f85 k)) := (sAll19 k).2
/-! f67 fathom/fathomref15.Is (R) -/
noncomputable def a67 : Shape := ⟨[.d (.slice T_Gate), .d i64], []⟩
noncomputable def o67 : List Shape := [⟨[.d .bool], []⟩]
abbrev R67 : Type := ((Bool × Unit) × Unit)
abbrev T67 : Type := (List D_Gate) → Int → Option R67
noncomputable def u67 (f : T67) : (a67).C → Option (OutC o67) := fun (x : (((List D_Gate) × Int × Unit) × Unit)) => f x.1.1 x.1.2.1
noncomputable def F67 (f : T67) : Fun := ⟨true, runR a67 o67 (u67 f)⟩
noncomputable def f67 (k : Nat) : T67 := fun g0 l1 =>
  cond (decide (l1 ≥ 0))
    (some (((decide (l1 ≤ (w64 ((w64 (2 * (g0.length : Int))) + 1)))), ()), ()))
    (some ((false, ()), ()))
noncomputable def C67 (k : Nat) : Nat → Fun := mkC []
theorem e67 (k : Nat) (x : (a67).C) : bodyR (C67 k) tt noH Try.f67 a67 o67 x = u67 (f67 k) x := by kernel_rfl
theorem c67_ok (k : Nat) : ∀ f, SoundFn Try.prog f (C67 k f) := mkC_nil
theorem s67 (k : Nat) : SoundFn Try.prog 67 (F67 (f67 k)) :=
  have hC := c67_ok k
  fnR_sound hC ttOk (draw_ok hC ttOk mixed) Try.func67 (c0 := bd Try.f67) rfl (entry Try.func67 rfl (by decide)) noH_ok rfl (fun x _ h => (e67 k x).trans h)
/-! f90 fathom/fathomref15.Not (R) -/
noncomputable def a90 : Shape := ⟨[.d i64], []⟩
noncomputable def o90 : List Shape := [⟨[.d i64], []⟩]
abbrev R90 : Type := ((Int × Unit) × Unit)
abbrev T90 : Type := Int → Option R90
noncomputable def u90 (f : T90) : (a90).C → Option (OutC o90) := fun (x : ((Int × Unit) × Unit)) => f x.1.1
noncomputable def F90 (f : T90) : Fun := ⟨true, runR a90 o90 (u90 f)⟩
noncomputable def f90 (k : Nat) : T90 := fun l0 =>
  cond (decide (l0 < 0))
    (some (((-1), ()), ()))
    (cond ((Int.tmod l0 2) == 0)
      (some (((w64 (l0 + 1)), ()), ()))
      (some (((w64 (l0 - 1)), ()), ())))
noncomputable def C90 (k : Nat) : Nat → Fun := mkC []
theorem e90 (k : Nat) (x : (a90).C) : bodyR (C90 k) tt noH Try.f90 a90 o90 x = u90 (f90 k) x := by kernel_rfl
theorem c90_ok (k : Nat) : ∀ f, SoundFn Try.prog f (C90 k f) := mkC_nil
theorem s90 (k : Nat) : SoundFn Try.prog 90 (F90 (f90 k)) :=
  have hC := c90_ok k
  fnR_sound hC ttOk (draw_ok hC ttOk mixed) Try.func90 (c0 := bd Try.f90) rfl (entry Try.func90 rfl (by decide)) noH_ok rfl (fun x _ h => (e90 k x).trans h)
/-! f91 fathom/fathomref15.Kids (R) -/
noncomputable def a91 : Shape := ⟨[.d (.slice T_Gate), .d i64, .d .bool], []⟩
noncomputable def o91 : List Shape := [⟨[.d i64, .d i64, .d .bool], []⟩]
abbrev R91 : Type := ((Int × Int × Bool × Unit) × Unit)
abbrev T91 : Type := (List D_Gate) → Int → Bool → Option R91
noncomputable def u91 (f : T91) : (a91).C → Option (OutC o91) := fun (x : (((List D_Gate) × Int × Bool × Unit) × Unit)) => f x.1.1 x.1.2.1 x.1.2.2.1
noncomputable def F91 (f : T91) : Fun := ⟨true, runR a91 o91 (u91 f)⟩
noncomputable def f91 (k : Nat) : T91 := fun g0 l1 negated2 =>
  cond (decide (l1 < 2))
    (some ((0, 0, false, ()), ()))
    (cond (!(((Int.tmod l1 2) == 1) == negated2))
      (some ((0, 0, false, ()), ()))
      (ix g0 (w64 ((w64 (Int.tdiv l1 2)) - 1)) fun e1 =>
      cond (decide (e1.1 < 0))
        (some ((0, 0, false, ()), ()))
        (ix g0 (w64 ((w64 (Int.tdiv l1 2)) - 1)) fun e2 =>
        ix g0 (w64 ((w64 (Int.tdiv l1 2)) - 1)) fun e3 =>
        some ((e2.1, e3.2.1, true, ()), ()))))
noncomputable def C91 (k : Nat) : Nat → Fun := mkC []
theorem e91 (k : Nat) (x : (a91).C) : bodyR (C91 k) tt noH Try.f91 a91 o91 x = u91 (f91 k) x := by kernel_rfl
theorem c91_ok (k : Nat) : ∀ f, SoundFn Try.prog f (C91 k f) := mkC_nil
theorem s91 (k : Nat) : SoundFn Try.prog 91 (F91 (f91 k)) :=
  have hC := c91_ok k
  fnR_sound hC ttOk (draw_ok hC ttOk mixed) Try.func91 (c0 := bd Try.f91) rfl (entry Try.func91 rfl (by decide)) noH_ok rfl (fun x _ h => (e91 k x).trans h)
/-! f36 fathom/fathomref15.And (R) -/
noncomputable def a36 : Shape := ⟨[.d (.slice T_Gate), .d i64, .d i64], []⟩
noncomputable def o36 : List Shape := [⟨[.d (.slice T_Gate), .d i64], []⟩]
abbrev R36 : Type := (((List D_Gate) × Int × Unit) × Unit)
abbrev T36 : Type := (List D_Gate) → Int → Int → Option R36
noncomputable def u36 (f : T36) : (a36).C → Option (OutC o36) := fun (x : (((List D_Gate) × Int × Int × Unit) × Unit)) => f x.1.1 x.1.2.1 x.1.2.2.1
noncomputable def F36 (f : T36) : Fun := ⟨true, runR a36 o36 (u36 f)⟩
noncomputable def pa36_1045662 : Shape := ⟨[.d i64, .d i64, .d .bool], []⟩
noncomputable def pw36_1045662 : List Vm.Way := [⟨.normal, [165], ⟨[.d .bool], []⟩⟩]
abbrev R36_1045662 : Type := ((Bool × Unit) × Unit)
abbrev T36_1045662 : Type := Int → Int → Bool → Option R36_1045662
noncomputable def u36_1045662 (f : T36_1045662) : (pa36_1045662).C → Option (WayC pw36_1045662) := fun (x : ((Int × Int × Bool × Unit) × Unit)) => f x.1.1 x.1.2.1 x.1.2.2.1
noncomputable def l36_1045662 (k : Nat) (r36 : T36) : T36_1045662 := fun x16 d19 ok20 =>
  cond ok20
    (some (((x16 == d19), ()), ()))
    (some ((false, ()), ()))
noncomputable def pa36_1045660 : Shape := ⟨[.d i64, .d i64, .d .bool], []⟩
noncomputable def pw36_1045660 : List Vm.Way := [⟨.normal, [152], ⟨[.d .bool], []⟩⟩]
abbrev R36_1045660 : Type := ((Bool × Unit) × Unit)
abbrev T36_1045660 : Type := Int → Int → Bool → Option R36_1045660
noncomputable def u36_1045660 (f : T36_1045660) : (pa36_1045660).C → Option (WayC pw36_1045660) := fun (x : ((Int × Int × Bool × Unit) × Unit)) => f x.1.1 x.1.2.1 x.1.2.2.1
noncomputable def l36_1045660 (k : Nat) (r36 : T36) : T36_1045660 := fun x16 c18 ok20 =>
  cond ok20
    (some (((x16 == c18), ()), ()))
    (some ((false, ()), ()))
noncomputable def pa36_522828 : Shape := ⟨[.d i64, .d i64, .d i64, .d .bool], []⟩
noncomputable def pw36_522828 : List Vm.Way := [⟨.normal, [144], ⟨[.d .bool], []⟩⟩]
abbrev R36_522828 : Type := ((Bool × Unit) × Unit)
abbrev T36_522828 : Type := Int → Int → Int → Bool → Option R36_522828
noncomputable def u36_522828 (f : T36_522828) : (pa36_522828).C → Option (WayC pw36_522828) := fun (x : ((Int × Int × Int × Bool × Unit) × Unit)) => f x.1.1 x.1.2.1 x.1.2.2.1 x.1.2.2.2.1
noncomputable def l36_522828 (k : Nat) (r36 : T36) : T36_522828 := fun x16 c18 d19 ok20 =>
  cond ok20
    ((f90 k x16).bind fun y1 =>
    cond (y1.1.1 == c18)
      (some ((true, ()), ()))
      ((f90 k x16).bind fun y2 =>
      some (((y2.1.1 == d19), ()), ())))
    (some ((false, ()), ()))
noncomputable def pa36_260686 : Shape := ⟨[.d i64, .d i64, .d i64, .d .bool], []⟩
noncomputable def pw36_260686 : List Vm.Way := [⟨.normal, [111], ⟨[.d .bool], []⟩⟩]
abbrev R36_260686 : Type := ((Bool × Unit) × Unit)
abbrev T36_260686 : Type := Int → Int → Int → Bool → Option R36_260686
noncomputable def u36_260686 (f : T36_260686) : (pa36_260686).C → Option (WayC pw36_260686) := fun (x : ((Int × Int × Int × Bool × Unit) × Unit)) => f x.1.1 x.1.2.1 x.1.2.2.1 x.1.2.2.2.1
noncomputable def l36_260686 (k : Nat) (r36 : T36) : T36_260686 := fun x10 c12 d13 ok14 =>
  cond ok14
    ((f90 k x10).bind fun y1 =>
    cond (y1.1.1 == c12)
      (some ((true, ()), ()))
      ((f90 k x10).bind fun y2 =>
      some (((y2.1.1 == d13), ()), ())))
    (some ((false, ()), ()))
noncomputable def pa36_4090 : Shape := ⟨[.d (.slice T_Gate), .d i64, .d i64, .d i64], []⟩
noncomputable def pw36_4090 : List Vm.Way := [⟨.exit 4, [], ⟨[], []⟩⟩, ⟨.ret, [6, 7], ⟨[.d (.slice T_Gate), .d i64], []⟩⟩]
abbrev R36_4090 : Type := ((Unit × Unit) ⊕ (((List D_Gate) × Int × Unit) × Unit))
abbrev T36_4090 : Type := (List D_Gate) → Int → Int → Int → Option R36_4090
noncomputable def u36_4090 (f : T36_4090) : (pa36_4090).C → Option (WayC pw36_4090) := fun (x : (((List D_Gate) × Int × Int × Int × Unit) × Unit)) => f x.1.1 x.1.2.1 x.1.2.2.1 x.1.2.2.2.1
noncomputable def b36_4090 (k : Nat) (r36 : T36) (rec : T36_4090) : T36_4090 := fun g0 a1 b2 i21 =>
  cond (decide (i21 < (g0.length : Int)))
    (ix g0 i21 fun e1 =>
    cond (e1.1 == a1)
      (ix g0 i21 fun e2 =>
      cond (e2.2.1 == b2)
        (some (.inr ((g0, (w64 ((w64 (2 * i21)) + 2)), ()), ())))
        ((rec g0 a1 b2 (w64 (i21 + 1))).bind fun y3 =>
        match y3 with
        | .inl y3_0 =>
          some (.inl ((), ()))
        | .inr y3_1 =>
          some (.inr ((y3_1.1.1, y3_1.1.2.1, ()), ()))))
      ((rec g0 a1 b2 (w64 (i21 + 1))).bind fun y4 =>
      match y4 with
      | .inl y4_0 =>
        some (.inl ((), ()))
      | .inr y4_1 =>
        some (.inr ((y4_1.1.1, y4_1.1.2.1, ()), ()))))
    (some (.inl ((), ())))
noncomputable def l36_4090 (k : Nat) (r36 : T36) : Nat → T36_4090
  | 0 => fun _ _ _ _ => none
  | j + 1 => b36_4090 k r36 (l36_4090 k r36 j)
noncomputable def pa36_2042 : Shape := ⟨[.d (.slice T_Gate), .ptr 0, .d i64], [.arr (some 2) (.arr 2 i64)]⟩
noncomputable def pw36_2042 : List Vm.Way := [⟨.exit 2, [], ⟨[], [.arr (some 2) (.arr 2 i64)]⟩⟩, ⟨.ret, [6, 7], ⟨[.d (.slice T_Gate), .d i64], [.arr (some 2) (.arr 2 i64)]⟩⟩]
abbrev R36_2042 : Type := ((Unit × ((List (List Int)) × Unit)) ⊕ (((List D_Gate) × Int × Unit) × ((List (List Int)) × Unit)))
abbrev T36_2042 : Type := (List D_Gate) → Int → (List (List Int)) → Option R36_2042
noncomputable def u36_2042 (f : T36_2042) : (pa36_2042).C → Option (WayC pw36_2042) := fun (x : (((List D_Gate) × Unit × Int × Unit) × ((List (List Int)) × Unit))) => f x.1.1 x.1.2.2.1 x.2.1
noncomputable def b36_2042 (k : Nat) (r36 : T36) (rec : T36_2042) : T36_2042 := fun g0 i15 o0 =>
  cond (decide (i15 < 2))
    (gd (decide (0 ≤ i15)) <|
    gd (decide (i15.toNat < 2)) <|
    (o0[i15.toNat]?).bind fun e1 =>
    (e1[0]?).bind fun e2 =>
    gd (decide (0 ≤ i15)) <|
    gd (decide (i15.toNat < 2)) <|
    (o0[i15.toNat]?).bind fun e3 =>
    (e3[1]?).bind fun e4 =>
    (f91 k g0 e4 true).bind fun y5 =>
    (l36_522828 k r36 e2 y5.1.1 y5.1.2.1 y5.1.2.2.1).bind fun y6 =>
    cond y6.1.1
      (some (.inr ((g0, e2, ()), (o0, ()))))
      ((l36_1045660 k r36 e2 y5.1.1 y5.1.2.2.1).bind fun y7 =>
      cond y7.1.1
        ((f90 k y5.1.2.1).bind fun y8 =>
        (r36 g0 e2 y8.1.1).bind fun y9 =>
        some (.inr ((y9.1.1, y9.1.2.1, ()), (o0, ()))))
        ((l36_1045662 k r36 e2 y5.1.2.1 y5.1.2.2.1).bind fun y10 =>
        cond y10.1.1
          ((f90 k y5.1.1).bind fun y11 =>
          (r36 g0 e2 y11.1.1).bind fun y12 =>
          some (.inr ((y12.1.1, y12.1.2.1, ()), (o0, ()))))
          ((rec g0 (w64 (i15 + 1)) o0).bind fun y13 =>
          match y13 with
          | .inl y13_0 =>
            some (.inl ((), (y13_0.2.1, ())))
          | .inr y13_1 =>
            some (.inr ((y13_1.1.1, y13_1.1.2.1, ()), (y13_1.2.1, ())))))))
    (some (.inl ((), (o0, ()))))
noncomputable def l36_2042 (k : Nat) (r36 : T36) : Nat → T36_2042
  | 0 => fun _ _ _ => none
  | j + 1 => b36_2042 k r36 (l36_2042 k r36 j)
noncomputable def pa36_1018 : Shape := ⟨[.d (.slice T_Gate), .ptr 0, .d i64], [.arr (some 2) (.arr 2 i64)]⟩
noncomputable def pw36_1018 : List Vm.Way := [⟨.exit 0, [], ⟨[], [.arr (some 2) (.arr 2 i64)]⟩⟩, ⟨.ret, [6, 7], ⟨[.d (.slice T_Gate), .d i64], [.arr (some 2) (.arr 2 i64)]⟩⟩]
abbrev R36_1018 : Type := ((Unit × ((List (List Int)) × Unit)) ⊕ (((List D_Gate) × Int × Unit) × ((List (List Int)) × Unit)))
abbrev T36_1018 : Type := (List D_Gate) → Int → (List (List Int)) → Option R36_1018
noncomputable def u36_1018 (f : T36_1018) : (pa36_1018).C → Option (WayC pw36_1018) := fun (x : (((List D_Gate) × Unit × Int × Unit) × ((List (List Int)) × Unit))) => f x.1.1 x.1.2.2.1 x.2.1
noncomputable def b36_1018 (k : Nat) (r36 : T36) (rec : T36_1018) : T36_1018 := fun g0 i9 o0 =>
  cond (decide (i9 < 2))
    (gd (decide (0 ≤ i9)) <|
    gd (decide (i9.toNat < 2)) <|
    (o0[i9.toNat]?).bind fun e1 =>
    (e1[0]?).bind fun e2 =>
    gd (decide (0 ≤ i9)) <|
    gd (decide (i9.toNat < 2)) <|
    (o0[i9.toNat]?).bind fun e3 =>
    (e3[1]?).bind fun e4 =>
    (f91 k g0 e4 false).bind fun y5 =>
    cond y5.1.2.2.1
      (cond (e2 == y5.1.1)
        (some (.inr ((g0, e4, ()), (o0, ()))))
        (cond (e2 == y5.1.2.1)
          (some (.inr ((g0, e4, ()), (o0, ()))))
          ((l36_260686 k r36 e2 y5.1.1 y5.1.2.1 y5.1.2.2.1).bind fun y6 =>
          cond y6.1.1
            (some (.inr ((g0, 0, ()), (o0, ()))))
            ((rec g0 (w64 (i9 + 1)) o0).bind fun y7 =>
            match y7 with
            | .inl y7_0 =>
              some (.inl ((), (y7_0.2.1, ())))
            | .inr y7_1 =>
              some (.inr ((y7_1.1.1, y7_1.1.2.1, ()), (y7_1.2.1, ())))))))
      ((l36_260686 k r36 e2 y5.1.1 y5.1.2.1 y5.1.2.2.1).bind fun y8 =>
      cond y8.1.1
        (some (.inr ((g0, 0, ()), (o0, ()))))
        ((rec g0 (w64 (i9 + 1)) o0).bind fun y9 =>
        match y9 with
        | .inl y9_0 =>
          some (.inl ((), (y9_0.2.1, ())))
        | .inr y9_1 =>
          some (.inr ((y9_1.1.1, y9_1.1.2.1, ()), (y9_1.2.1, ()))))))
    (some (.inl ((), (o0, ()))))
noncomputable def l36_1018 (k : Nat) (r36 : T36) : Nat → T36_1018
  | 0 => fun _ _ _ => none
  | j + 1 => b36_1018 k r36 (l36_1018 k r36 j)
noncomputable def b36 (k : Nat) (r36 : T36) : T36 := fun g0 a1 b2 =>
  (f67 k g0 a1).bind fun y1 =>
  cond (!y1.1.1)
    (some ((g0, (-1), ()), ()))
    ((f67 k g0 b2).bind fun y2 =>
    cond (!y2.1.1)
      (some ((g0, (-1), ()), ()))
      (cond (decide (a1 > b2))
        ((r36 g0 b2 a1).bind fun y3 =>
        some ((y3.1.1, y3.1.2.1, ()), ()))
        (cond (a1 == 0)
          (some ((g0, 0, ()), ()))
          ((f90 k a1).bind fun y4 =>
          cond (b2 == y4.1.1)
            (some ((g0, 0, ()), ()))
            (cond (a1 == 1)
              (some ((g0, b2, ()), ()))
              (cond (a1 == b2)
                (some ((g0, b2, ()), ()))
                ((l36_1018 k r36 k g0 0 [[a1, b2], [b2, a1]]).bind fun y5 =>
                match y5 with
                | .inl y5_0 =>
                  (l36_2042 k r36 k g0 0 y5_0.2.1).bind fun y6 =>
                  match y6 with
                  | .inl y6_0 =>
                    (l36_4090 k r36 k g0 a1 b2 0).bind fun y7 =>
                    match y7 with
                    | .inl y7_0 =>
                      cond (decide ((g0.length : Int) ≥ 1048576))
                        (some ((g0, (-1), ()), ()))
                        (gd (decide ((0 + g0.length) * 16 ≤ room)) <|
                        gd (decide (((([] : List D_Gate) ++ g0).length + 1) * 16 ≤ room)) <|
                        some ((((([] : List D_Gate) ++ g0) ++ ([(a1, b2, ())] : List D_Gate)), (w64 ((w64 (2 * (g0.length : Int))) + 2)), ()), ()))
                    | .inr y7_1 =>
                      some ((y7_1.1.1, y7_1.1.2.1, ()), ())
                  | .inr y6_1 =>
                    some ((y6_1.1.1, y6_1.1.2.1, ()), ())
                | .inr y5_1 =>
                  some ((y5_1.1.1, y5_1.1.2.1, ()), ()))))))))
noncomputable def S36 : Nat → T36
  | 0 => (fun _ _ _ => none)
  | k + 1 => (b36 k (S36 k))
noncomputable def f36 (k : Nat) : T36 := (S36 k)
theorem f36_succ (k : Nat) : f36 (k + 1) = b36 k (f36 k) := rfl
noncomputable def C36 (k : Nat) (r36 : T36) : Nat → Fun := mkC [(36, (F36 r36)), (67, (F67 (f67 k))), (90, (F90 (f90 k))), (91, (F91 (f91 k)))]
noncomputable def H36_1045662 (k : Nat) (r36 : T36) : Nat → Option Cut := addH noH 1045662 ⟨runCut (wrC (codeAt 1045662 (bd Try.f36) 1045662)) 215 [16, 19, 20] pa36_1045662 pw36_1045662 (u36_1045662 (l36_1045662 k r36))⟩
theorem e36_1045662 (k : Nat) (r36 : T36) (x : (pa36_1045662).C) : pieceF (C36 k r36) tt noH (codeAt 1045662 (bd Try.f36) 1045662) 1045662 215 [16, 19, 20] pa36_1045662 pw36_1045662 x = u36_1045662 (l36_1045662 k r36) x := by kernel_rfl
noncomputable def H36_1045660 (k : Nat) (r36 : T36) : Nat → Option Cut := addH (H36_1045662 k r36) 1045660 ⟨runCut (wrC (codeAt 1045660 (bd Try.f36) 1045660)) 215 [16, 18, 20] pa36_1045660 pw36_1045660 (u36_1045660 (l36_1045660 k r36))⟩
theorem e36_1045660 (k : Nat) (r36 : T36) (x : (pa36_1045660).C) : pieceF (C36 k r36) tt (H36_1045662 k r36) (codeAt 1045660 (bd Try.f36) 1045660) 1045660 215 [16, 18, 20] pa36_1045660 pw36_1045660 x = u36_1045660 (l36_1045660 k r36) x := by kernel_rfl
noncomputable def H36_522828 (k : Nat) (r36 : T36) : Nat → Option Cut := addH (H36_1045660 k r36) 522828 ⟨runCut (wrC (codeAt 522828 (bd Try.f36) 522828)) 215 [16, 18, 19, 20] pa36_522828 pw36_522828 (u36_522828 (l36_522828 k r36))⟩
theorem e36_522828 (k : Nat) (r36 : T36) (x : (pa36_522828).C) : pieceF (C36 k r36) tt (H36_1045660 k r36) (codeAt 522828 (bd Try.f36) 522828) 522828 215 [16, 18, 19, 20] pa36_522828 pw36_522828 x = u36_522828 (l36_522828 k r36) x := by kernel_rfl
noncomputable def H36_260686 (k : Nat) (r36 : T36) : Nat → Option Cut := addH (H36_522828 k r36) 260686 ⟨runCut (wrC (codeAt 260686 (bd Try.f36) 260686)) 215 [10, 12, 13, 14] pa36_260686 pw36_260686 (u36_260686 (l36_260686 k r36))⟩
theorem e36_260686 (k : Nat) (r36 : T36) (x : (pa36_260686).C) : pieceF (C36 k r36) tt (H36_522828 k r36) (codeAt 260686 (bd Try.f36) 260686) 260686 215 [10, 12, 13, 14] pa36_260686 pw36_260686 x = u36_260686 (l36_260686 k r36) x := by kernel_rfl
noncomputable def H36_4090 (k : Nat) (r36 : T36) : Nat → Option Cut := addH (H36_260686 k r36) 4090 ⟨runCut (wrC (bodyOf (codeAt 4090 (bd Try.f36) 4090))) 215 [0, 1, 2, 21] pa36_4090 pw36_4090 (u36_4090 (l36_4090 k r36 k))⟩
theorem e36_4090 (k : Nat) (r36 : T36) (rec : T36_4090) (x : (pa36_4090).C) : roundF (C36 k r36) tt (H36_260686 k r36) (bodyOf (codeAt 4090 (bd Try.f36) 4090)) 8180 215 [0, 1, 2, 21] pa36_4090 pw36_4090 (u36_4090 rec) x = u36_4090 (b36_4090 k r36 rec) x := by kernel_rfl
noncomputable def H36_2042 (k : Nat) (r36 : T36) : Nat → Option Cut := addH (H36_4090 k r36) 2042 ⟨runCut (wrC (bodyOf (codeAt 2042 (bd Try.f36) 2042))) 215 [0, 8, 15] pa36_2042 pw36_2042 (u36_2042 (l36_2042 k r36 k))⟩
theorem e36_2042 (k : Nat) (r36 : T36) (rec : T36_2042) (x : (pa36_2042).C) : roundF (C36 k r36) tt (H36_4090 k r36) (bodyOf (codeAt 2042 (bd Try.f36) 2042)) 4084 215 [0, 8, 15] pa36_2042 pw36_2042 (u36_2042 rec) x = u36_2042 (b36_2042 k r36 rec) x := by kernel_rfl
noncomputable def H36_1018 (k : Nat) (r36 : T36) : Nat → Option Cut := addH (H36_2042 k r36) 1018 ⟨runCut (wrC (bodyOf (codeAt 1018 (bd Try.f36) 1018))) 215 [0, 8, 9] pa36_1018 pw36_1018 (u36_1018 (l36_1018 k r36 k))⟩
theorem e36_1018 (k : Nat) (r36 : T36) (rec : T36_1018) (x : (pa36_1018).C) : roundF (C36 k r36) tt (H36_2042 k r36) (bodyOf (codeAt 1018 (bd Try.f36) 1018)) 2036 215 [0, 8, 9] pa36_1018 pw36_1018 (u36_1018 rec) x = u36_1018 (b36_1018 k r36 rec) x := by kernel_rfl
theorem e36 (k : Nat) (r36 : T36) (x : (a36).C) : bodyR (C36 k r36) tt (H36_1018 k r36) Try.f36 a36 o36 x = u36 (b36 k r36) x := by kernel_rfl
theorem c36_ok (k : Nat) (r36 : T36) (h36 : SoundFn Try.prog 36 (F36 r36)) : ∀ f, SoundFn Try.prog f (C36 k r36 f) := (mkC_cons h36 (mkC_cons (s67 k) (mkC_cons (s90 k) (mkC_cons (s91 k) mkC_nil))))
theorem h36_1045662_ok (k : Nat) (r36 : T36) (h36 : SoundFn Try.prog 36 (F36 r36)) : ∀ p S, H36_1045662 k r36 p = some S → ∀ c, At (bd Try.f36) p c → CutOk Try.prog c S :=
  have hC := c36_ok k r36 h36
  addPiece hC ttOk (draw_ok hC ttOk mixed) noH_ok (fun x _ h => (e36_1045662 k r36 x).trans h)
theorem h36_1045660_ok (k : Nat) (r36 : T36) (h36 : SoundFn Try.prog 36 (F36 r36)) : ∀ p S, H36_1045660 k r36 p = some S → ∀ c, At (bd Try.f36) p c → CutOk Try.prog c S :=
  have hC := c36_ok k r36 h36
  addPiece hC ttOk (draw_ok hC ttOk mixed) (h36_1045662_ok k r36 h36) (fun x _ h => (e36_1045660 k r36 x).trans h)
theorem h36_522828_ok (k : Nat) (r36 : T36) (h36 : SoundFn Try.prog 36 (F36 r36)) : ∀ p S, H36_522828 k r36 p = some S → ∀ c, At (bd Try.f36) p c → CutOk Try.prog c S :=
  have hC := c36_ok k r36 h36
  addPiece hC ttOk (draw_ok hC ttOk mixed) (h36_1045660_ok k r36 h36) (fun x _ h => (e36_522828 k r36 x).trans h)
theorem h36_260686_ok (k : Nat) (r36 : T36) (h36 : SoundFn Try.prog 36 (F36 r36)) : ∀ p S, H36_260686 k r36 p = some S → ∀ c, At (bd Try.f36) p c → CutOk Try.prog c S :=
  have hC := c36_ok k r36 h36
  addPiece hC ttOk (draw_ok hC ttOk mixed) (h36_522828_ok k r36 h36) (fun x _ h => (e36_260686 k r36 x).trans h)
theorem h36_4090_ok (k : Nat) (r36 : T36) (h36 : SoundFn Try.prog 36 (F36 r36)) : ∀ p S, H36_4090 k r36 p = some S → ∀ c, At (bd Try.f36) p c → CutOk Try.prog c S :=
  have hC := c36_ok k r36 h36
  addLoop hC ttOk (draw_ok hC ttOk mixed) (h36_260686_ok k r36 h36) (by kernel_rfl) (F := fun j => u36_4090 (l36_4090 k r36 j)) (fun _ => rfl) (fun j x _ h => (e36_4090 k r36 (l36_4090 k r36 j) x).trans h) k
theorem h36_2042_ok (k : Nat) (r36 : T36) (h36 : SoundFn Try.prog 36 (F36 r36)) : ∀ p S, H36_2042 k r36 p = some S → ∀ c, At (bd Try.f36) p c → CutOk Try.prog c S :=
  have hC := c36_ok k r36 h36
  addLoop hC ttOk (draw_ok hC ttOk mixed) (h36_4090_ok k r36 h36) (by kernel_rfl) (F := fun j => u36_2042 (l36_2042 k r36 j)) (fun _ => rfl) (fun j x _ h => (e36_2042 k r36 (l36_2042 k r36 j) x).trans h) k
theorem h36_1018_ok (k : Nat) (r36 : T36) (h36 : SoundFn Try.prog 36 (F36 r36)) : ∀ p S, H36_1018 k r36 p = some S → ∀ c, At (bd Try.f36) p c → CutOk Try.prog c S :=
  have hC := c36_ok k r36 h36
  addLoop hC ttOk (draw_ok hC ttOk mixed) (h36_2042_ok k r36 h36) (by kernel_rfl) (F := fun j => u36_1018 (l36_1018 k r36 j)) (fun _ => rfl) (fun j x _ h => (e36_1018 k r36 (l36_1018 k r36 j) x).trans h) k
theorem q36 (k : Nat) (r36 : T36) (h36 : SoundFn Try.prog 36 (F36 r36)) : SoundFn Try.prog 36 (F36 (b36 k r36)) :=
  have hC := c36_ok k r36 h36
  fnR_sound hC ttOk (draw_ok hC ttOk mixed) Try.func36 (c0 := bd Try.f36) rfl (entry Try.func36 rfl (by decide)) (h36_1018_ok k r36 h36) rfl (fun x _ h => (e36 k r36 x).trans h)
theorem sAll36 : ∀ k : Nat, SoundFn Try.prog 36 (F36 (f36 k))
  | 0 => noneR_ok (by intro x; rfl)
  | k + 1 =>
    have ih := sAll36 k
    q36 k (f36 k) ih
theorem s36 (k : Nat) : SoundFn Try.prog 36 (F36 (f36 k)) := (sAll36 k)
/-! f89 fathom/aig.not (R) -/
noncomputable def a89 : Shape := ⟨[.d i64], []⟩
noncomputable def o89 : List Shape := [⟨[.d i64], []⟩]
abbrev R89 : Type := ((Int × Unit) × Unit)
abbrev T89 : Type := Int → Option R89
noncomputable def u89 (f : T89) : (a89).C → Option (OutC o89) := fun (x : ((Int × Unit) × Unit)) => f x.1.1
noncomputable def F89 (f : T89) : Fun := ⟨true, runR a89 o89 (u89 f)⟩
noncomputable def f89 (k : Nat) : T89 := fun l0 =>
  cond (decide (l0 < 0))
    (some (((-1), ()), ()))
    (some (((ibits .xor .i64 l0 1), ()), ()))
noncomputable def C89 (k : Nat) : Nat → Fun := mkC []
theorem e89 (k : Nat) (x : (a89).C) : bodyR (C89 k) tt noH Try.f89 a89 o89 x = u89 (f89 k) x := by kernel_rfl
theorem c89_ok (k : Nat) : ∀ f, SoundFn Try.prog f (C89 k f) := mkC_nil
theorem s89 (k : Nat) : SoundFn Try.prog 89 (F89 (f89 k)) :=
  have hC := c89_ok k
  fnR_sound hC ttOk (draw_ok hC ttOk mixed) Try.func89 (c0 := bd Try.f89) rfl (entry Try.func89 rfl (by decide)) noH_ok rfl (fun x _ h => (e89 k x).trans h)
/-! f26 (*fathom/aig.Aig).Or (W) -/
noncomputable def a26 : Shape := ⟨[.ptr 0, .d i64, .d i64], [.box [.own T_Gate, .mp 1], .map T_Gate i64]⟩
noncomputable def o26 : List Shape := [⟨[.d i64], [.box [.own T_Gate, .mp 1], .map T_Gate i64]⟩]
abbrev R26 : Type := ((Int × Unit) × (((List D_Gate) × Unit × Unit) × (List (D_Gate × Int)) × Unit))
abbrev T26 : Type := Int → Int → (List D_Gate) → (List (D_Gate × Int)) → Option R26
noncomputable def u26 (f : T26) : (a26).C → Option (OutC o26) := fun (x : ((Unit × Int × Int × Unit) × (((List D_Gate) × Unit × Unit) × (List (D_Gate × Int)) × Unit))) => f x.1.2.1 x.1.2.2.1 x.2.1.1 x.2.2.1
noncomputable def F26 (f : T26) : Fun := ⟨false, runW a26 o26 (u26 f)⟩
noncomputable def f26 (k : Nat) : T26 := fun a1 b2 o0 o1 =>
  (f89 k a1).bind fun y1 =>
  (f89 k b2).bind fun y2 =>
  (f19 k y1.1.1 y2.1.1 o0 o1).bind fun y3 =>
  (f89 k y3.1.1).bind fun y4 =>
  some ((y4.1.1, ()), ((y3.2.1.1, (), ()), y3.2.2.1, ()))
noncomputable def C26 (k : Nat) : Nat → Fun := mkC [(19, (F19 (f19 k))), (89, (F89 (f89 k)))]
theorem e26 (k : Nat) (x : (a26).C) : bodyW (C26 k) tt noH Try.f26 a26 o26 x = u26 (f26 k) x := by kernel_rfl
theorem c26_ok (k : Nat) : ∀ f, SoundFn Try.prog f (C26 k f) := (mkC_cons (s19 k) (mkC_cons (s89 k) mkC_nil))
theorem s26 (k : Nat) : SoundFn Try.prog 26 (F26 (f26 k)) :=
  have hC := c26_ok k
  fnW_sound hC ttOk (draw_ok hC ttOk mixed) Try.func26 (c0 := bd Try.f26) rfl (entry Try.func26 rfl (by decide)) noH_ok (fun x _ h => (e26 k x).trans h)
/-! f81 fathom/fathomref15.Or (R) -/
noncomputable def a81 : Shape := ⟨[.d (.slice T_Gate), .d i64, .d i64], []⟩
noncomputable def o81 : List Shape := [⟨[.d (.slice T_Gate), .d i64], []⟩]
abbrev R81 : Type := (((List D_Gate) × Int × Unit) × Unit)
abbrev T81 : Type := (List D_Gate) → Int → Int → Option R81
noncomputable def u81 (f : T81) : (a81).C → Option (OutC o81) := fun (x : (((List D_Gate) × Int × Int × Unit) × Unit)) => f x.1.1 x.1.2.1 x.1.2.2.1
noncomputable def F81 (f : T81) : Fun := ⟨true, runR a81 o81 (u81 f)⟩
noncomputable def f81 (k : Nat) : T81 := fun g0 a1 b2 =>
  (f90 k a1).bind fun y1 =>
  (f90 k b2).bind fun y2 =>
  (f36 k g0 y1.1.1 y2.1.1).bind fun y3 =>
  (f90 k y3.1.2.1).bind fun y4 =>
  some ((y3.1.1, y4.1.1, ()), ())
noncomputable def C81 (k : Nat) : Nat → Fun := mkC [(36, (F36 (f36 k))), (90, (F90 (f90 k)))]
theorem e81 (k : Nat) (x : (a81).C) : bodyR (C81 k) tt noH Try.f81 a81 o81 x = u81 (f81 k) x := by kernel_rfl
theorem c81_ok (k : Nat) : ∀ f, SoundFn Try.prog f (C81 k f) := (mkC_cons (s36 k) (mkC_cons (s90 k) mkC_nil))
theorem s81 (k : Nat) : SoundFn Try.prog 81 (F81 (f81 k)) :=
  have hC := c81_ok k
  fnR_sound hC ttOk (draw_ok hC ttOk mixed) Try.func81 (c0 := bd Try.f81) rfl (entry Try.func81 rfl (by decide)) noH_ok rfl (fun x _ h => (e81 k x).trans h)
/-! f27 (*fathom/aig.Aig).Xor (W) -/
noncomputable def a27 : Shape := ⟨[.ptr 0, .d i64, .d i64], [.box [.own T_Gate, .mp 1], .map T_Gate i64]⟩
noncomputable def o27 : List Shape := [⟨[.d i64], [.box [.own T_Gate, .mp 1], .map T_Gate i64]⟩]
abbrev R27 : Type := ((Int × Unit) × (((List D_Gate) × Unit × Unit) × (List (D_Gate × Int)) × Unit))
abbrev T27 : Type := Int → Int → (List D_Gate) → (List (D_Gate × Int)) → Option R27
noncomputable def u27 (f : T27) : (a27).C → Option (OutC o27) := fun (x : ((Unit × Int × Int × Unit) × (((List D_Gate) × Unit × Unit) × (List (D_Gate × Int)) × Unit))) => f x.1.2.1 x.1.2.2.1 x.2.1.1 x.2.2.1
noncomputable def F27 (f : T27) : Fun := ⟨false, runW a27 o27 (u27 f)⟩
noncomputable def f27 (k : Nat) : T27 := fun a1 b2 o0 o1 =>
  (f89 k b2).bind fun y1 =>
  (f19 k a1 y1.1.1 o0 o1).bind fun y2 =>
  (f89 k a1).bind fun y3 =>
  (f19 k y3.1.1 b2 y2.2.1.1 y2.2.2.1).bind fun y4 =>
  (f26 k y2.1.1 y4.1.1 y4.2.1.1 y4.2.2.1).bind fun y5 =>
  some ((y5.1.1, ()), ((y5.2.1.1, (), ()), y5.2.2.1, ()))
noncomputable def C27 (k : Nat) : Nat → Fun := mkC [(19, (F19 (f19 k))), (26, (F26 (f26 k))), (89, (F89 (f89 k)))]
theorem e27 (k : Nat) (x : (a27).C) : bodyW (C27 k) tt noH Try.f27 a27 o27 x = u27 (f27 k) x := by kernel_rfl
theorem c27_ok (k : Nat) : ∀ f, SoundFn Try.prog f (C27 k f) := (mkC_cons (s19 k) (mkC_cons (s26 k) (mkC_cons (s89 k) mkC_nil)))
theorem s27 (k : Nat) : SoundFn Try.prog 27 (F27 (f27 k)) :=
  have hC := c27_ok k
  fnW_sound hC ttOk (draw_ok hC ttOk mixed) Try.func27 (c0 := bd Try.f27) rfl (entry Try.func27 rfl (by decide)) noH_ok (fun x _ h => (e27 k x).trans h)
/-! f82 fathom/fathomref15.Xor (R) -/
noncomputable def a82 : Shape := ⟨[.d (.slice T_Gate), .d i64, .d i64], []⟩
noncomputable def o82 : List Shape := [⟨[.d (.slice T_Gate), .d i64], []⟩]
abbrev R82 : Type := (((List D_Gate) × Int × Unit) × Unit)
abbrev T82 : Type := (List D_Gate) → Int → Int → Option R82
noncomputable def u82 (f : T82) : (a82).C → Option (OutC o82) := fun (x : (((List D_Gate) × Int × Int × Unit) × Unit)) => f x.1.1 x.1.2.1 x.1.2.2.1
noncomputable def F82 (f : T82) : Fun := ⟨true, runR a82 o82 (u82 f)⟩
noncomputable def f82 (k : Nat) : T82 := fun g0 a1 b2 =>
  (f90 k b2).bind fun y1 =>
  (f36 k g0 a1 y1.1.1).bind fun y2 =>
  (f90 k a1).bind fun y3 =>
  (f36 k y2.1.1 y3.1.1 b2).bind fun y4 =>
  (f81 k y4.1.1 y2.1.2.1 y4.1.2.1).bind fun y5 =>
  some ((y5.1.1, y5.1.2.1, ()), ())
noncomputable def C82 (k : Nat) : Nat → Fun := mkC [(36, (F36 (f36 k))), (81, (F81 (f81 k))), (90, (F90 (f90 k)))]
theorem e82 (k : Nat) (x : (a82).C) : bodyR (C82 k) tt noH Try.f82 a82 o82 x = u82 (f82 k) x := by kernel_rfl
theorem c82_ok (k : Nat) : ∀ f, SoundFn Try.prog f (C82 k f) := (mkC_cons (s36 k) (mkC_cons (s81 k) (mkC_cons (s90 k) mkC_nil)))
theorem s82 (k : Nat) : SoundFn Try.prog 82 (F82 (f82 k)) :=
  have hC := c82_ok k
  fnR_sound hC ttOk (draw_ok hC ttOk mixed) Try.func82 (c0 := bd Try.f82) rfl (entry Try.func82 rfl (by decide)) noH_ok rfl (fun x _ h => (e82 k x).trans h)
/-! f28 (*fathom/aig.Aig).Ite (W) -/
noncomputable def a28 : Shape := ⟨[.ptr 0, .d i64, .d i64, .d i64], [.box [.own T_Gate, .mp 1], .map T_Gate i64]⟩
noncomputable def o28 : List Shape := [⟨[.d i64], [.box [.own T_Gate, .mp 1], .map T_Gate i64]⟩]
abbrev R28 : Type := ((Int × Unit) × (((List D_Gate) × Unit × Unit) × (List (D_Gate × Int)) × Unit))
abbrev T28 : Type := Int → Int → Int → (List D_Gate) → (List (D_Gate × Int)) → Option R28
noncomputable def u28 (f : T28) : (a28).C → Option (OutC o28) := fun (x : ((Unit × Int × Int × Int × Unit) × (((List D_Gate) × Unit × Unit) × (List (D_Gate × Int)) × Unit))) => f x.1.2.1 x.1.2.2.1 x.1.2.2.2.1 x.2.1.1 x.2.2.1
noncomputable def F28 (f : T28) : Fun := ⟨false, runW a28 o28 (u28 f)⟩
noncomputable def f28 (k : Nat) : T28 := fun c1 a2 b3 o0 o1 =>
  (f19 k c1 a2 o0 o1).bind fun y1 =>
  (f89 k c1).bind fun y2 =>
  (f19 k y2.1.1 b3 y1.2.1.1 y1.2.2.1).bind fun y3 =>
  (f26 k y1.1.1 y3.1.1 y3.2.1.1 y3.2.2.1).bind fun y4 =>
  some ((y4.1.1, ()), ((y4.2.1.1, (), ()), y4.2.2.1, ()))
noncomputable def C28 (k : Nat) : Nat → Fun := mkC [(19, (F19 (f19 k))), (26, (F26 (f26 k))), (89, (F89 (f89 k)))]
theorem e28 (k : Nat) (x : (a28).C) : bodyW (C28 k) tt noH Try.f28 a28 o28 x = u28 (f28 k) x := by kernel_rfl
theorem c28_ok (k : Nat) : ∀ f, SoundFn Try.prog f (C28 k f) := (mkC_cons (s19 k) (mkC_cons (s26 k) (mkC_cons (s89 k) mkC_nil)))
theorem s28 (k : Nat) : SoundFn Try.prog 28 (F28 (f28 k)) :=
  have hC := c28_ok k
  fnW_sound hC ttOk (draw_ok hC ttOk mixed) Try.func28 (c0 := bd Try.f28) rfl (entry Try.func28 rfl (by decide)) noH_ok (fun x _ h => (e28 k x).trans h)
/-! f83 fathom/fathomref15.Ite (R) -/
noncomputable def a83 : Shape := ⟨[.d (.slice T_Gate), .d i64, .d i64, .d i64], []⟩
noncomputable def o83 : List Shape := [⟨[.d (.slice T_Gate), .d i64], []⟩]
abbrev R83 : Type := (((List D_Gate) × Int × Unit) × Unit)
abbrev T83 : Type := (List D_Gate) → Int → Int → Int → Option R83
noncomputable def u83 (f : T83) : (a83).C → Option (OutC o83) := fun (x : (((List D_Gate) × Int × Int × Int × Unit) × Unit)) => f x.1.1 x.1.2.1 x.1.2.2.1 x.1.2.2.2.1
noncomputable def F83 (f : T83) : Fun := ⟨true, runR a83 o83 (u83 f)⟩
noncomputable def f83 (k : Nat) : T83 := fun g0 c1 a2 b3 =>
  (f36 k g0 c1 a2).bind fun y1 =>
  (f90 k c1).bind fun y2 =>
  (f36 k y1.1.1 y2.1.1 b3).bind fun y3 =>
  (f81 k y3.1.1 y1.1.2.1 y3.1.2.1).bind fun y4 =>
  some ((y4.1.1, y4.1.2.1, ()), ())
noncomputable def C83 (k : Nat) : Nat → Fun := mkC [(36, (F36 (f36 k))), (81, (F81 (f81 k))), (90, (F90 (f90 k)))]
theorem e83 (k : Nat) (x : (a83).C) : bodyR (C83 k) tt noH Try.f83 a83 o83 x = u83 (f83 k) x := by kernel_rfl
theorem c83_ok (k : Nat) : ∀ f, SoundFn Try.prog f (C83 k f) := (mkC_cons (s36 k) (mkC_cons (s81 k) (mkC_cons (s90 k) mkC_nil)))
theorem s83 (k : Nat) : SoundFn Try.prog 83 (F83 (f83 k)) :=
  have hC := c83_ok k
  fnR_sound hC ttOk (draw_ok hC ttOk mixed) Try.func83 (c0 := bd Try.f83) rfl (entry Try.func83 rfl (by decide)) noH_ok rfl (fun x _ h => (e83 k x).trans h)
/-! f18 fathom/fathomlaw15.Play (W) -/
noncomputable def a18 : Shape := ⟨[.d (.slice T_Act), .d i64], []⟩
noncomputable def o18 : List Shape := [⟨[.ptr 0, .d (.slice T_Gate), .d .bool], [.box [.own T_Gate, .mp 1], .map T_Gate i64]⟩]
abbrev R18 : Type := ((Unit × (List D_Gate) × Bool × Unit) × (((List D_Gate) × Unit × Unit) × (List (D_Gate × Int)) × Unit))
abbrev T18 : Type := (List D_Act) → Int → Option R18
noncomputable def u18 (f : T18) : (a18).C → Option (OutC o18) := fun (x : (((List D_Act) × Int × Unit) × Unit)) => f x.1.1 x.1.2.1
noncomputable def F18 (f : T18) : Fun := ⟨false, runW a18 o18 (u18 f)⟩
noncomputable def pa18_15654 : Shape := ⟨[.d i64, .d i64], []⟩
noncomputable def pw18_15654 : List Vm.Way := [⟨.normal, [167], ⟨[.d .bool], []⟩⟩]
abbrev R18_15654 : Type := ((Bool × Unit) × Unit)
abbrev T18_15654 : Type := Int → Int → Option R18_15654
noncomputable def u18_15654 (f : T18_15654) : (pa18_15654).C → Option (WayC pw18_15654) := fun (x : ((Int × Int × Unit) × Unit)) => f x.1.1 x.1.2.1
noncomputable def l18_15654 (k : Nat) : T18_15654 := fun a10 b11 =>
  some (((a10 != b11), ()), ())
noncomputable def pa18_7826 : Shape := ⟨[.d (.slice T_Act), .ptr 0, .d (.slice T_Gate), .d i64, .d i64, .d i64], [.box [.own T_Gate, .mp 1], .map T_Gate i64]⟩
noncomputable def pw18_7826 : List Vm.Way := [⟨.normal, [8, 10, 11], ⟨[.d (.slice T_Gate), .d i64, .d i64], [.box [.own T_Gate, .mp 1], .map T_Gate i64]⟩⟩]
abbrev R18_7826 : Type := (((List D_Gate) × Int × Int × Unit) × (((List D_Gate) × Unit × Unit) × (List (D_Gate × Int)) × Unit))
abbrev T18_7826 : Type := (List D_Act) → (List D_Gate) → Int → Int → Int → (List D_Gate) → (List (D_Gate × Int)) → Option R18_7826
noncomputable def u18_7826 (f : T18_7826) : (pa18_7826).C → Option (WayC pw18_7826) := fun (x : (((List D_Act) × Unit × (List D_Gate) × Int × Int × Int × Unit) × (((List D_Gate) × Unit × Unit) × (List (D_Gate × Int)) × Unit))) => f x.1.1 x.1.2.2.1 x.1.2.2.2.1 x.1.2.2.2.2.1 x.1.2.2.2.2.2.1 x.2.1.1 x.2.2.1
noncomputable def l18_7826 (k : Nat) : T18_7826 := fun l0 g8 i9 a10 b11 o0 o1 =>
  ix l0 i9 fun e1 =>
  cond (e1.1 == 0)
    ((f25 k o0 o1).bind fun y2 =>
    (f80 k g8).bind fun y3 =>
    some ((y3.1.1, y2.1.1, y3.1.2.1, ()), ((y2.2.1.1, (), ()), y2.2.2.1, ())))
    (cond (e1.1 == 1)
      (ix l0 i9 fun e4 =>
      ix l0 i9 fun e5 =>
      (f19 k e4.2.1 e5.2.2.1 o0 o1).bind fun y6 =>
      ix l0 i9 fun e7 =>
      ix l0 i9 fun e8 =>
      (f36 k g8 e7.2.1 e8.2.2.1).bind fun y9 =>
      some ((y9.1.1, y6.1.1, y9.1.2.1, ()), ((y6.2.1.1, (), ()), y6.2.2.1, ())))
      (cond (e1.1 == 2)
        (ix l0 i9 fun e10 =>
        ix l0 i9 fun e11 =>
        (f26 k e10.2.1 e11.2.2.1 o0 o1).bind fun y12 =>
        ix l0 i9 fun e13 =>
        ix l0 i9 fun e14 =>
        (f81 k g8 e13.2.1 e14.2.2.1).bind fun y15 =>
        some ((y15.1.1, y12.1.1, y15.1.2.1, ()), ((y12.2.1.1, (), ()), y12.2.2.1, ())))
        (cond (e1.1 == 3)
          (ix l0 i9 fun e16 =>
          ix l0 i9 fun e17 =>
          (f27 k e16.2.1 e17.2.2.1 o0 o1).bind fun y18 =>
          ix l0 i9 fun e19 =>
          ix l0 i9 fun e20 =>
          (f82 k g8 e19.2.1 e20.2.2.1).bind fun y21 =>
          some ((y21.1.1, y18.1.1, y21.1.2.1, ()), ((y18.2.1.1, (), ()), y18.2.2.1, ())))
          (cond (e1.1 == 4)
            (ix l0 i9 fun e22 =>
            ix l0 i9 fun e23 =>
            ix l0 i9 fun e24 =>
            (f28 k e22.2.2.2.1 e23.2.1 e24.2.2.1 o0 o1).bind fun y25 =>
            ix l0 i9 fun e26 =>
            ix l0 i9 fun e27 =>
            ix l0 i9 fun e28 =>
            (f83 k g8 e26.2.2.2.1 e27.2.1 e28.2.2.1).bind fun y29 =>
            some ((y29.1.1, y25.1.1, y29.1.2.1, ()), ((y25.2.1.1, (), ()), y25.2.2.1, ())))
            (some ((g8, a10, b11, ()), ((o0, (), ()), o1, ())))))))
noncomputable def pa18_122 : Shape := ⟨[.d (.slice T_Act), .d i64, .ptr 0, .d (.slice T_Gate), .d i64], [.box [.own T_Gate, .mp 1], .map T_Gate i64]⟩
noncomputable def pw18_122 : List Vm.Way := [⟨.exit 0, [8], ⟨[.d (.slice T_Gate)], [.box [.own T_Gate, .mp 1], .map T_Gate i64]⟩⟩, ⟨.ret, [4, 5, 6], ⟨[.ptr 0, .d (.slice T_Gate), .d .bool], [.box [.own T_Gate, .mp 1], .map T_Gate i64]⟩⟩]
abbrev R18_122 : Type := ((((List D_Gate) × Unit) × (((List D_Gate) × Unit × Unit) × (List (D_Gate × Int)) × Unit)) ⊕ ((Unit × (List D_Gate) × Bool × Unit) × (((List D_Gate) × Unit × Unit) × (List (D_Gate × Int)) × Unit)))
abbrev T18_122 : Type := (List D_Act) → Int → (List D_Gate) → Int → (List D_Gate) → (List (D_Gate × Int)) → Option R18_122
noncomputable def u18_122 (f : T18_122) : (pa18_122).C → Option (WayC pw18_122) := fun (x : (((List D_Act) × Int × Unit × (List D_Gate) × Int × Unit) × (((List D_Gate) × Unit × Unit) × (List (D_Gate × Int)) × Unit))) => f x.1.1 x.1.2.1 x.1.2.2.2.1 x.1.2.2.2.2.1 x.2.1.1 x.2.2.1
noncomputable def b18_122 (k : Nat) (rec : T18_122) : T18_122 := fun l0 most1 g8 i9 o0 o1 =>
  cond (decide (i9 < (l0.length : Int)))
    (cond (decide (i9 < most1))
      ((l18_7826 k l0 g8 i9 0 0 o0 o1).bind fun y1 =>
      (l18_15654 k y1.1.2.1 y1.1.2.2.1).bind fun y2 =>
      cond y2.1.1
        (some (.inr (((), y1.1.1, false, ()), ((y1.2.1.1, (), ()), y1.2.2.1, ()))))
        ((rec l0 most1 y1.1.1 (w64 (i9 + 1)) y1.2.1.1 y1.2.2.1).bind fun y3 =>
        match y3 with
        | .inl y3_0 =>
          some (.inl ((y3_0.1.1, ()), ((y3_0.2.1.1, (), ()), y3_0.2.2.1, ())))
        | .inr y3_1 =>
          some (.inr (((), y3_1.1.2.1, y3_1.1.2.2.1, ()), ((y3_1.2.1.1, (), ()), y3_1.2.2.1, ())))))
      (some (.inl ((g8, ()), ((o0, (), ()), o1, ())))))
    (some (.inl ((g8, ()), ((o0, (), ()), o1, ()))))
noncomputable def l18_122 (k : Nat) : Nat → T18_122
  | 0 => fun _ _ _ _ _ _ => none
  | j + 1 => b18_122 k (l18_122 k j)
noncomputable def f18 (k : Nat) : T18 := fun l0 most1 =>
  (f38 k ()).bind fun y1 =>
  (l18_122 k k l0 most1 [] 0 y1.2.1.1 y1.2.2.1).bind fun y2 =>
  match y2 with
  | .inl y2_0 =>
    some (((), y2_0.1.1, true, ()), ((y2_0.2.1.1, (), ()), y2_0.2.2.1, ()))
  | .inr y2_1 =>
    some (((), y2_1.1.2.1, y2_1.1.2.2.1, ()), ((y2_1.2.1.1, (), ()), y2_1.2.2.1, ()))
noncomputable def C18 (k : Nat) : Nat → Fun := mkC [(19, (F19 (f19 k))), (25, (F25 (f25 k))), (26, (F26 (f26 k))), (27, (F27 (f27 k))), (28, (F28 (f28 k))), (36, (F36 (f36 k))), (38, (F38 (f38 k))), (80, (F80 (f80 k))), (81, (F81 (f81 k))), (82, (F82 (f82 k))), (83, (F83 (f83 k)))]
noncomputable def H18_15654 (k : Nat) : Nat → Option Cut := addH noH 15654 ⟨runCut (wrC (codeAt 15654 (bd Try.f18) 15654)) 172 [10, 11] pa18_15654 pw18_15654 (u18_15654 (l18_15654 k))⟩
theorem e18_15654 (k : Nat) (x : (pa18_15654).C) : pieceF (C18 k) tt noH (codeAt 15654 (bd Try.f18) 15654) 15654 172 [10, 11] pa18_15654 pw18_15654 x = u18_15654 (l18_15654 k) x := by kernel_rfl
noncomputable def H18_7826 (k : Nat) : Nat → Option Cut := addH (H18_15654 k) 7826 ⟨runCut (wrC (codeAt 7826 (bd Try.f18) 7826)) 172 [0, 7, 8, 9, 10, 11] pa18_7826 pw18_7826 (u18_7826 (l18_7826 k))⟩
theorem e18_7826 (k : Nat) (x : (pa18_7826).C) : pieceF (C18 k) tt (H18_15654 k) (codeAt 7826 (bd Try.f18) 7826) 7826 172 [0, 7, 8, 9, 10, 11] pa18_7826 pw18_7826 x = u18_7826 (l18_7826 k) x := by kernel_rfl
noncomputable def H18_122 (k : Nat) : Nat → Option Cut := addH (H18_7826 k) 122 ⟨runCut (wrC (bodyOf (codeAt 122 (bd Try.f18) 122))) 172 [0, 1, 7, 8, 9] pa18_122 pw18_122 (u18_122 (l18_122 k k))⟩
theorem e18_122 (k : Nat) (rec : T18_122) (x : (pa18_122).C) : roundF (C18 k) tt (H18_7826 k) (bodyOf (codeAt 122 (bd Try.f18) 122)) 244 172 [0, 1, 7, 8, 9] pa18_122 pw18_122 (u18_122 rec) x = u18_122 (b18_122 k rec) x := by kernel_rfl
theorem e18 (k : Nat) (x : (a18).C) : bodyW (C18 k) tt (H18_122 k) Try.f18 a18 o18 x = u18 (f18 k) x := by kernel_rfl
theorem c18_ok (k : Nat) : ∀ f, SoundFn Try.prog f (C18 k f) := (mkC_cons (s19 k) (mkC_cons (s25 k) (mkC_cons (s26 k) (mkC_cons (s27 k) (mkC_cons (s28 k) (mkC_cons (s36 k) (mkC_cons (s38 k) (mkC_cons (s80 k) (mkC_cons (s81 k) (mkC_cons (s82 k) (mkC_cons (s83 k) mkC_nil)))))))))))
theorem h18_15654_ok (k : Nat) : ∀ p S, H18_15654 k p = some S → ∀ c, At (bd Try.f18) p c → CutOk Try.prog c S :=
  have hC := c18_ok k
  addPiece hC ttOk (draw_ok hC ttOk mixed) noH_ok (fun x _ h => (e18_15654 k x).trans h)
theorem h18_7826_ok (k : Nat) : ∀ p S, H18_7826 k p = some S → ∀ c, At (bd Try.f18) p c → CutOk Try.prog c S :=
  have hC := c18_ok k
  addPiece hC ttOk (draw_ok hC ttOk mixed) (h18_15654_ok k) (fun x _ h => (e18_7826 k x).trans h)
theorem h18_122_ok (k : Nat) : ∀ p S, H18_122 k p = some S → ∀ c, At (bd Try.f18) p c → CutOk Try.prog c S :=
  have hC := c18_ok k
  addLoop hC ttOk (draw_ok hC ttOk mixed) (h18_7826_ok k) (by kernel_rfl) (F := fun j => u18_122 (l18_122 k j)) (fun _ => rfl) (fun j x _ h => (e18_122 k (l18_122 k j) x).trans h) k
theorem s18 (k : Nat) : SoundFn Try.prog 18 (F18 (f18 k)) :=
  have hC := c18_ok k
  fnW_sound hC ttOk (draw_ok hC ttOk mixed) Try.func18 (c0 := bd Try.f18) rfl (entry Try.func18 rfl (by decide)) (h18_122_ok k) (fun x _ h => (e18 k x).trans h)
/-! f20 (*fathom/aig.Aig).Len (R) -/
noncomputable def a20 : Shape := ⟨[.ptr 0], [.box [.d (.slice T_Gate), .mp 1], .map T_Gate i64]⟩
noncomputable def o20 : List Shape := [⟨[.d i64], []⟩]
abbrev R20 : Type := ((Int × Unit) × Unit)
abbrev T20 : Type := (List D_Gate) → (List (D_Gate × Int)) → Option R20
noncomputable def u20 (f : T20) : (a20).C → Option (OutC o20) := fun (x : ((Unit × Unit) × (((List D_Gate) × Unit × Unit) × (List (D_Gate × Int)) × Unit))) => f x.2.1.1 x.2.2.1
noncomputable def F20 (f : T20) : Fun := ⟨true, runR a20 o20 (u20 f)⟩
noncomputable def f20 (k : Nat) : T20 := fun o0 o1 =>
  some (((o0.length : Int), ()), ())
noncomputable def C20 (k : Nat) : Nat → Fun := mkC []
theorem e20 (k : Nat) (x : (a20).C) : bodyR (C20 k) tt noH Try.f20 a20 o20 x = u20 (f20 k) x := by kernel_rfl
theorem c20_ok (k : Nat) : ∀ f, SoundFn Try.prog f (C20 k f) := mkC_nil
theorem s20 (k : Nat) : SoundFn Try.prog 20 (F20 (f20 k)) :=
  have hC := c20_ok k
  fnR_sound hC ttOk (draw_ok hC ttOk mixed) Try.func20 (c0 := bd Try.f20) rfl (entry Try.func20 rfl (by decide)) noH_ok rfl (fun x _ h => (e20 k x).trans h)
/-! f21 fathom/fathomlaw15.awake (R) -/
noncomputable def a21 : Shape := ⟨[], []⟩
noncomputable def o21 : List Shape := [⟨[.d .bool], []⟩]
abbrev R21 : Type := ((Bool × Unit) × Unit)
abbrev T21 : Type := Unit → Option R21
noncomputable def u21 (f : T21) : (a21).C → Option (OutC o21) := fun (x : (Unit × Unit)) => f ()
noncomputable def F21 (f : T21) : Fun := ⟨true, runR a21 o21 (u21 f)⟩
noncomputable def f21 (k : Nat) : T21 := fun _ =>
  (f38 k ()).bind fun y1 =>
  (f25 k y1.2.1.1 y1.2.2.1).bind fun y2 =>
  (f25 k y2.2.1.1 y2.2.2.1).bind fun y3 =>
  (f19 k y2.1.1 y3.1.1 y3.2.1.1 y3.2.2.1).bind fun y4 =>
  cond (y2.1.1 == 2)
    (cond (y3.1.1 == 4)
      (cond (y4.1.1 == 6)
        ((f19 k y4.1.1 y2.1.1 y4.2.1.1 y4.2.2.1).bind fun y5 =>
        cond (y5.1.1 == 6)
          ((f19 k y4.1.1 3 y5.2.1.1 y5.2.2.1).bind fun y6 =>
          cond (y6.1.1 == 0)
            ((f19 k y3.1.1 y2.1.1 y6.2.1.1 y6.2.2.1).bind fun y7 =>
            some (((y7.1.1 == 6), ()), ()))
            (some ((false, ()), ())))
          (some ((false, ()), ())))
        (some ((false, ()), ())))
      (some ((false, ()), ())))
    (some ((false, ()), ()))
noncomputable def C21 (k : Nat) : Nat → Fun := mkC [(19, (F19 (f19 k))), (25, (F25 (f25 k))), (38, (F38 (f38 k)))]
theorem e21 (k : Nat) (x : (a21).C) : bodyR (C21 k) tt noH Try.f21 a21 o21 x = u21 (f21 k) x := by kernel_rfl
theorem c21_ok (k : Nat) : ∀ f, SoundFn Try.prog f (C21 k f) := (mkC_cons (s19 k) (mkC_cons (s25 k) (mkC_cons (s38 k) mkC_nil)))
theorem s21 (k : Nat) : SoundFn Try.prog 21 (F21 (f21 k)) :=
  have hC := c21_ok k
  fnR_sound hC ttOk (draw_ok hC ttOk mixed) Try.func21 (c0 := bd Try.f21) rfl (entry Try.func21 rfl (by decide)) noH_ok rfl (fun x _ h => (e21 k x).trans h)
/-! f3 fathom/fathomlaw15.AigShares (R) -/
noncomputable def a3 : Shape := ⟨[.d (.slice T_Act)], []⟩
noncomputable def o3 : List Shape := [⟨[.d .bool], []⟩]
abbrev R3 : Type := ((Bool × Unit) × Unit)
abbrev T3 : Type := (List D_Act) → Option R3
noncomputable def u3 (f : T3) : (a3).C → Option (OutC o3) := fun (x : (((List D_Act) × Unit) × Unit)) => f x.1.1
noncomputable def F3 (f : T3) : Fun := ⟨true, runR a3 o3 (u3 f)⟩
noncomputable def pa3_62618 : Shape := ⟨[.d (.slice T_Gate), .d i64, .d i64], []⟩
noncomputable def pw3_62618 : List Vm.Way := [⟨.exit 2, [], ⟨[], []⟩⟩, ⟨.ret, [2], ⟨[.d .bool], []⟩⟩]
abbrev R3_62618 : Type := ((Unit × Unit) ⊕ ((Bool × Unit) × Unit))
abbrev T3_62618 : Type := (List D_Gate) → Int → Int → Option R3_62618
noncomputable def u3_62618 (f : T3_62618) : (pa3_62618).C → Option (WayC pw3_62618) := fun (x : (((List D_Gate) × Int × Int × Unit) × Unit)) => f x.1.1 x.1.2.1 x.1.2.2.1
noncomputable def b3_62618 (k : Nat) (rec : T3_62618) : T3_62618 := fun g4 i6 k7 =>
  cond (decide (k7 < i6))
    (ix g4 k7 fun e1 =>
    ix g4 i6 fun e2 =>
    cond (beqD T_Gate e1 e2)
      (some (.inr ((false, ()), ())))
      ((rec g4 i6 (w64 (k7 + 1))).bind fun y3 =>
      match y3 with
      | .inl y3_0 =>
        some (.inl ((), ()))
      | .inr y3_1 =>
        some (.inr ((y3_1.1.1, ()), ()))))
    (some (.inl ((), ())))
noncomputable def l3_62618 (k : Nat) : Nat → T3_62618
  | 0 => fun _ _ _ => none
  | j + 1 => b3_62618 k (l3_62618 k j)
noncomputable def pa3_122 : Shape := ⟨[.ptr 0, .d (.slice T_Gate), .d i64], [.box [.own T_Gate, .mp 1], .map T_Gate i64]⟩
noncomputable def pw3_122 : List Vm.Way := [⟨.exit 0, [], ⟨[], [.box [.own T_Gate, .mp 1], .map T_Gate i64]⟩⟩, ⟨.ret, [2], ⟨[.d .bool], [.box [.own T_Gate, .mp 1], .map T_Gate i64]⟩⟩]
abbrev R3_122 : Type := ((Unit × (((List D_Gate) × Unit × Unit) × (List (D_Gate × Int)) × Unit)) ⊕ ((Bool × Unit) × (((List D_Gate) × Unit × Unit) × (List (D_Gate × Int)) × Unit)))
abbrev T3_122 : Type := (List D_Gate) → Int → (List D_Gate) → (List (D_Gate × Int)) → Option R3_122
noncomputable def u3_122 (f : T3_122) : (pa3_122).C → Option (WayC pw3_122) := fun (x : ((Unit × (List D_Gate) × Int × Unit) × (((List D_Gate) × Unit × Unit) × (List (D_Gate × Int)) × Unit))) => f x.1.2.1 x.1.2.2.1 x.2.1.1 x.2.2.1
noncomputable def b3_122 (k : Nat) (rec : T3_122) : T3_122 := fun g4 i6 o0 o1 =>
  cond (decide (i6 < (g4.length : Int)))
    (ix g4 i6 fun e1 =>
    cond (decide (e1.1 < 0))
      ((rec g4 (w64 (i6 + 1)) o0 o1).bind fun y2 =>
      match y2 with
      | .inl y2_0 =>
        some (.inl ((), ((y2_0.2.1.1, (), ()), y2_0.2.2.1, ())))
      | .inr y2_1 =>
        some (.inr ((y2_1.1.1, ()), ((y2_1.2.1.1, (), ()), y2_1.2.2.1, ()))))
      (ix g4 i6 fun e3 =>
      cond (decide (e3.1 < 2))
        (some (.inr ((false, ()), ((o0, (), ()), o1, ()))))
        (ix g4 i6 fun e4 =>
        ix g4 i6 fun e5 =>
        cond ((w64 (Int.tdiv e4.2.1 2)) == (w64 (Int.tdiv e5.1 2)))
          (some (.inr ((false, ()), ((o0, (), ()), o1, ()))))
          (ix g4 i6 fun e6 =>
          ix g4 i6 fun e7 =>
          cond (decide (e6.1 ≥ e7.2.1))
            (some (.inr ((false, ()), ((o0, (), ()), o1, ()))))
            ((l3_62618 k k g4 i6 0).bind fun y8 =>
            match y8 with
            | .inl y8_0 =>
              ix g4 i6 fun e9 =>
              ix g4 i6 fun e10 =>
              (f19 k e9.2.1 e10.1 o0 o1).bind fun y11 =>
              cond (y11.1.1 != (w64 ((w64 (2 * i6)) + 2)))
                (some (.inr ((false, ()), ((y11.2.1.1, (), ()), y11.2.2.1, ()))))
                ((rec g4 (w64 (i6 + 1)) y11.2.1.1 y11.2.2.1).bind fun y12 =>
                match y12 with
                | .inl y12_0 =>
                  some (.inl ((), ((y12_0.2.1.1, (), ()), y12_0.2.2.1, ())))
                | .inr y12_1 =>
                  some (.inr ((y12_1.1.1, ()), ((y12_1.2.1.1, (), ()), y12_1.2.2.1, ()))))
            | .inr y8_1 =>
              some (.inr ((y8_1.1.1, ()), ((o0, (), ()), o1, ()))))))))
    (some (.inl ((), ((o0, (), ()), o1, ()))))
noncomputable def l3_122 (k : Nat) : Nat → T3_122
  | 0 => fun _ _ _ _ => none
  | j + 1 => b3_122 k (l3_122 k j)
noncomputable def f3 (k : Nat) : T3 := fun l0 =>
  (f18 k l0 25).bind fun y1 =>
  cond (!y1.1.2.2.1)
    (some ((false, ()), ()))
    ((l3_122 k k y1.1.2.1 0 y1.2.1.1 y1.2.2.1).bind fun y2 =>
    match y2 with
    | .inl y2_0 =>
      (f20 k y2_0.2.1.1 y2_0.2.2.1).bind fun y3 =>
      cond (y3.1.1 == (y1.1.2.1.length : Int))
        ((f21 k ()).bind fun y4 =>
        some ((y4.1.1, ()), ()))
        (some ((false, ()), ()))
    | .inr y2_1 =>
      some ((y2_1.1.1, ()), ()))
noncomputable def C3 (k : Nat) : Nat → Fun := mkC [(18, (F18 (f18 k))), (19, (F19 (f19 k))), (20, (F20 (f20 k))), (21, (F21 (f21 k)))]
noncomputable def H3_62618 (k : Nat) : Nat → Option Cut := addH noH 62618 ⟨runCut (wrC (bodyOf (codeAt 62618 (bd Try.f3) 62618))) 104 [4, 6, 7] pa3_62618 pw3_62618 (u3_62618 (l3_62618 k k))⟩
theorem e3_62618 (k : Nat) (rec : T3_62618) (x : (pa3_62618).C) : roundF (C3 k) tt noH (bodyOf (codeAt 62618 (bd Try.f3) 62618)) 125236 104 [4, 6, 7] pa3_62618 pw3_62618 (u3_62618 rec) x = u3_62618 (b3_62618 k rec) x := by kernel_rfl
noncomputable def H3_122 (k : Nat) : Nat → Option Cut := addH (H3_62618 k) 122 ⟨runCut (wrC (bodyOf (codeAt 122 (bd Try.f3) 122))) 104 [3, 4, 6] pa3_122 pw3_122 (u3_122 (l3_122 k k))⟩
theorem e3_122 (k : Nat) (rec : T3_122) (x : (pa3_122).C) : roundF (C3 k) tt (H3_62618 k) (bodyOf (codeAt 122 (bd Try.f3) 122)) 244 104 [3, 4, 6] pa3_122 pw3_122 (u3_122 rec) x = u3_122 (b3_122 k rec) x := by kernel_rfl
theorem e3 (k : Nat) (x : (a3).C) : bodyR (C3 k) tt (H3_122 k) Try.f3 a3 o3 x = u3 (f3 k) x := by kernel_rfl
theorem c3_ok (k : Nat) : ∀ f, SoundFn Try.prog f (C3 k f) := (mkC_cons (s18 k) (mkC_cons (s19 k) (mkC_cons (s20 k) (mkC_cons (s21 k) mkC_nil))))
theorem h3_62618_ok (k : Nat) : ∀ p S, H3_62618 k p = some S → ∀ c, At (bd Try.f3) p c → CutOk Try.prog c S :=
  have hC := c3_ok k
  addLoop hC ttOk (draw_ok hC ttOk mixed) noH_ok (by kernel_rfl) (F := fun j => u3_62618 (l3_62618 k j)) (fun _ => rfl) (fun j x _ h => (e3_62618 k (l3_62618 k j) x).trans h) k
theorem h3_122_ok (k : Nat) : ∀ p S, H3_122 k p = some S → ∀ c, At (bd Try.f3) p c → CutOk Try.prog c S :=
  have hC := c3_ok k
  addLoop hC ttOk (draw_ok hC ttOk mixed) (h3_62618_ok k) (by kernel_rfl) (F := fun j => u3_122 (l3_122 k j)) (fun _ => rfl) (fun j x _ h => (e3_122 k (l3_122 k j) x).trans h) k
theorem s3 (k : Nat) : SoundFn Try.prog 3 (F3 (f3 k)) :=
  have hC := c3_ok k
  fnR_sound hC ttOk (draw_ok hC ttOk mixed) Try.func3 (c0 := bd Try.f3) rfl (entry Try.func3 rfl (by decide)) (h3_122_ok k) rfl (fun x _ h => (e3 k x).trans h)
/-! f87v2 slices.Clone[[]fathom/api.Gate,fathom/api.Gate] (W) -/
noncomputable def a87v2 : Shape := ⟨[.nils], []⟩
noncomputable def o87v2 : List Shape := [⟨[.own T_Gate], []⟩]
abbrev R87v2 : Type := (((List D_Gate) × Unit) × Unit)
abbrev T87v2 : Type := Unit → Option R87v2
noncomputable def u87v2 (f : T87v2) : (a87v2).C → Option (OutC o87v2) := fun (x : ((Unit × Unit) × Unit)) => f ()
noncomputable def F87v2 (f : T87v2) : Fun := ⟨false, runW a87v2 o87v2 (u87v2 f)⟩
noncomputable def f87v2 (k : Nat) : T87v2 := fun _ =>
  some (([], ()), ())
noncomputable def C87v2 (k : Nat) : Nat → Fun := mkC []
theorem e87v2 (k : Nat) (x : (a87v2).C) : bodyW (C87v2 k) tt noH Try.f87 a87v2 o87v2 x = u87v2 (f87v2 k) x := by kernel_rfl
theorem c87v2_ok (k : Nat) : ∀ f, SoundFn Try.prog f (C87v2 k f) := mkC_nil
theorem s87v2 (k : Nat) : SoundFn Try.prog 87 (F87v2 (f87v2 k)) :=
  have hC := c87v2_ok k
  fnW_sound hC ttOk (draw_ok hC ttOk mixed) Try.func87 (c0 := bd Try.f87) rfl (entry Try.func87 rfl (by decide)) noH_ok (fun x _ h => (e87v2 k x).trans h)
/-! f87v3 slices.Clone[[]fathom/api.Gate,fathom/api.Gate] (W) -/
noncomputable def a87v3 : Shape := ⟨[.nn T_Gate], []⟩
noncomputable def o87v3 : List Shape := [⟨[.own T_Gate], []⟩]
abbrev R87v3 : Type := (((List D_Gate) × Unit) × Unit)
abbrev T87v3 : Type := (List D_Gate) → Option R87v3
noncomputable def u87v3 (f : T87v3) : (a87v3).C → Option (OutC o87v3) := fun (x : (((List D_Gate) × Unit) × Unit)) => f x.1.1
noncomputable def F87v3 (f : T87v3) : Fun := ⟨false, runW a87v3 o87v3 (u87v3 f)⟩
noncomputable def f87v3 (k : Nat) : T87v3 := fun s0 =>
  gd (decide ((0 + s0.length) * 16 ≤ room)) <|
  some (((([] : List D_Gate) ++ s0), ()), ())
noncomputable def C87v3 (k : Nat) : Nat → Fun := mkC []
theorem e87v3 (k : Nat) (x : (a87v3).C) : bodyW (C87v3 k) tt noH Try.f87 a87v3 o87v3 x = u87v3 (f87v3 k) x := by kernel_rfl
theorem c87v3_ok (k : Nat) : ∀ f, SoundFn Try.prog f (C87v3 k f) := mkC_nil
theorem s87v3 (k : Nat) : SoundFn Try.prog 87 (F87v3 (f87v3 k)) :=
  have hC := c87v3_ok k
  fnW_sound hC ttOk (draw_ok hC ttOk mixed) Try.func87 (c0 := bd Try.f87) rfl (entry Try.func87 rfl (by decide)) noH_ok (fun x _ h => (e87v3 k x).trans h)
/-! f87 slices.Clone[[]fathom/api.Gate,fathom/api.Gate] (W) -/
noncomputable def a87 : Shape := ⟨[.d (.slice T_Gate)], []⟩
noncomputable def o87 : List Shape := [⟨[.own T_Gate], []⟩]
abbrev R87 : Type := (((List D_Gate) × Unit) × Unit)
abbrev T87 : Type := (List D_Gate) → Option R87
noncomputable def u87 (f : T87) : (a87).C → Option (OutC o87) := fun (x : (((List D_Gate) × Unit) × Unit)) => f x.1.1
noncomputable def F87 (f : T87) : Fun := ⟨false, runW a87 o87 (u87 f)⟩
noncomputable def f87 (k : Nat) : T87 := fun s0 => f87v3 k s0
theorem s87 (k : Nat) : SoundFn Try.prog 87 (F87 (f87 k)) := splitW (s87v2 k) (s87v3 k) (fun xs y h => ⟨h, fun e => by subst e; exact (show u87v2 (f87v2 k) (((), ()), ()) = u87v3 (f87v3 k) (([], ()), ()) from by kernel_rfl).trans h⟩)
/-! f23 (*fathom/aig.Aig).Nodes (R) -/
noncomputable def a23 : Shape := ⟨[.ptr 0], [.box [.d (.slice T_Gate), .mp 1], .map T_Gate i64]⟩
noncomputable def o23 : List Shape := [⟨[.d (.slice T_Gate)], []⟩]
abbrev R23 : Type := (((List D_Gate) × Unit) × Unit)
abbrev T23 : Type := (List D_Gate) → (List (D_Gate × Int)) → Option R23
noncomputable def u23 (f : T23) : (a23).C → Option (OutC o23) := fun (x : ((Unit × Unit) × (((List D_Gate) × Unit × Unit) × (List (D_Gate × Int)) × Unit))) => f x.2.1.1 x.2.2.1
noncomputable def F23 (f : T23) : Fun := ⟨true, runR a23 o23 (u23 f)⟩
noncomputable def f23 (k : Nat) : T23 := fun o0 o1 =>
  (f87 k o0).bind fun y1 =>
  some ((y1.1.1, ()), ())
noncomputable def C23 (k : Nat) : Nat → Fun := mkC [(87, (F87 (f87 k)))]
theorem e23 (k : Nat) (x : (a23).C) : bodyR (C23 k) tt noH Try.f23 a23 o23 x = u23 (f23 k) x := by kernel_rfl
theorem c23_ok (k : Nat) : ∀ f, SoundFn Try.prog f (C23 k f) := (mkC_cons (s87 k) mkC_nil)
theorem s23 (k : Nat) : SoundFn Try.prog 23 (F23 (f23 k)) :=
  have hC := c23_ok k
  fnR_sound hC ttOk (draw_ok hC ttOk mixed) Try.func23 (c0 := bd Try.f23) rfl (entry Try.func23 rfl (by decide)) noH_ok rfl (fun x _ h => (e23 k x).trans h)
/-! f22 fathom/fathomref15.Same (R) -/
noncomputable def a22 : Shape := ⟨[.d (.slice T_Gate), .d (.slice T_Gate)], []⟩
noncomputable def o22 : List Shape := [⟨[.d .bool], []⟩]
abbrev R22 : Type := ((Bool × Unit) × Unit)
abbrev T22 : Type := (List D_Gate) → (List D_Gate) → Option R22
noncomputable def u22 (f : T22) : (a22).C → Option (OutC o22) := fun (x : (((List D_Gate) × (List D_Gate) × Unit) × Unit)) => f x.1.1 x.1.2.1
noncomputable def F22 (f : T22) : Fun := ⟨true, runR a22 o22 (u22 f)⟩
noncomputable def pa22_58 : Shape := ⟨[.d (.slice T_Gate), .d (.slice T_Gate), .d i64], []⟩
noncomputable def pw22_58 : List Vm.Way := [⟨.exit 0, [], ⟨[], []⟩⟩, ⟨.ret, [4], ⟨[.d .bool], []⟩⟩]
abbrev R22_58 : Type := ((Unit × Unit) ⊕ ((Bool × Unit) × Unit))
abbrev T22_58 : Type := (List D_Gate) → (List D_Gate) → Int → Option R22_58
noncomputable def u22_58 (f : T22_58) : (pa22_58).C → Option (WayC pw22_58) := fun (x : (((List D_Gate) × (List D_Gate) × Int × Unit) × Unit)) => f x.1.1 x.1.2.1 x.1.2.2.1
noncomputable def b22_58 (k : Nat) (rec : T22_58) : T22_58 := fun a0 b1 i5 =>
  cond (decide (i5 < (a0.length : Int)))
    (ix a0 i5 fun e1 =>
    ix b1 i5 fun e2 =>
    cond (!(beqD T_Gate e1 e2))
      (some (.inr ((false, ()), ())))
      ((rec a0 b1 (w64 (i5 + 1))).bind fun y3 =>
      match y3 with
      | .inl y3_0 =>
        some (.inl ((), ()))
      | .inr y3_1 =>
        some (.inr ((y3_1.1.1, ()), ()))))
    (some (.inl ((), ())))
noncomputable def l22_58 (k : Nat) : Nat → T22_58
  | 0 => fun _ _ _ => none
  | j + 1 => b22_58 k (l22_58 k j)
noncomputable def f22 (k : Nat) : T22 := fun a0 b1 =>
  cond ((a0.length : Int) != (b1.length : Int))
    (some ((false, ()), ()))
    ((l22_58 k k a0 b1 0).bind fun y1 =>
    match y1 with
    | .inl y1_0 =>
      some ((true, ()), ())
    | .inr y1_1 =>
      some ((y1_1.1.1, ()), ()))
noncomputable def C22 (k : Nat) : Nat → Fun := mkC []
noncomputable def H22_58 (k : Nat) : Nat → Option Cut := addH noH 58 ⟨runCut (wrC (bodyOf (codeAt 58 (bd Try.f22) 58))) 26 [0, 1, 5] pa22_58 pw22_58 (u22_58 (l22_58 k k))⟩
theorem e22_58 (k : Nat) (rec : T22_58) (x : (pa22_58).C) : roundF (C22 k) tt noH (bodyOf (codeAt 58 (bd Try.f22) 58)) 116 26 [0, 1, 5] pa22_58 pw22_58 (u22_58 rec) x = u22_58 (b22_58 k rec) x := by kernel_rfl
theorem e22 (k : Nat) (x : (a22).C) : bodyR (C22 k) tt (H22_58 k) Try.f22 a22 o22 x = u22 (f22 k) x := by kernel_rfl
theorem c22_ok (k : Nat) : ∀ f, SoundFn Try.prog f (C22 k f) := mkC_nil
theorem h22_58_ok (k : Nat) : ∀ p S, H22_58 k p = some S → ∀ c, At (bd Try.f22) p c → CutOk Try.prog c S :=
  have hC := c22_ok k
  addLoop hC ttOk (draw_ok hC ttOk mixed) noH_ok (by kernel_rfl) (F := fun j => u22_58 (l22_58 k j)) (fun _ => rfl) (fun j x _ h => (e22_58 k (l22_58 k j) x).trans h) k
theorem s22 (k : Nat) : SoundFn Try.prog 22 (F22 (f22 k)) :=
  have hC := c22_ok k
  fnR_sound hC ttOk (draw_ok hC ttOk mixed) Try.func22 (c0 := bd Try.f22) rfl (entry Try.func22 rfl (by decide)) (h22_58_ok k) rfl (fun x _ h => (e22 k x).trans h)
/-! f4 fathom/fathomlaw15.AigMakes (R) -/
noncomputable def a4 : Shape := ⟨[.d (.slice T_Act)], []⟩
noncomputable def o4 : List Shape := [⟨[.d .bool], []⟩]
abbrev R4 : Type := ((Bool × Unit) × Unit)
abbrev T4 : Type := (List D_Act) → Option R4
noncomputable def u4 (f : T4) : (a4).C → Option (OutC o4) := fun (x : (((List D_Act) × Unit) × Unit)) => f x.1.1
noncomputable def F4 (f : T4) : Fun := ⟨true, runR a4 o4 (u4 f)⟩
noncomputable def f4 (k : Nat) : T4 := fun l0 =>
  (f18 k l0 25).bind fun y1 =>
  cond y1.1.2.2.1
    ((f23 k y1.2.1.1 y1.2.2.1).bind fun y2 =>
    (f22 k y2.1.1 y1.1.2.1).bind fun y3 =>
    cond y3.1.1
      ((f20 k y1.2.1.1 y1.2.2.1).bind fun y4 =>
      cond (y4.1.1 == (y1.1.2.1.length : Int))
        ((f24 k (w64 ((w64 (2 * (y1.1.2.1.length : Int))) + 1)) y1.2.1.1 y1.2.2.1).bind fun y5 =>
        cond y5.1.1
          ((f24 k (w64 ((w64 (2 * (y1.1.2.1.length : Int))) + 2)) y1.2.1.1 y1.2.2.1).bind fun y6 =>
          cond (!y6.1.1)
            ((f24 k (-1) y1.2.1.1 y1.2.2.1).bind fun y7 =>
            cond (!y7.1.1)
              ((f21 k ()).bind fun y8 =>
              some ((y8.1.1, ()), ()))
              (some ((false, ()), ())))
            (some ((false, ()), ())))
          (some ((false, ()), ())))
        (some ((false, ()), ())))
      (some ((false, ()), ())))
    (some ((false, ()), ()))
noncomputable def C4 (k : Nat) : Nat → Fun := mkC [(18, (F18 (f18 k))), (20, (F20 (f20 k))), (21, (F21 (f21 k))), (22, (F22 (f22 k))), (23, (F23 (f23 k))), (24, (F24 (f24 k)))]
theorem e4 (k : Nat) (x : (a4).C) : bodyR (C4 k) tt noH Try.f4 a4 o4 x = u4 (f4 k) x := by kernel_rfl
theorem c4_ok (k : Nat) : ∀ f, SoundFn Try.prog f (C4 k f) := (mkC_cons (s18 k) (mkC_cons (s20 k) (mkC_cons (s21 k) (mkC_cons (s22 k) (mkC_cons (s23 k) (mkC_cons (s24 k) mkC_nil))))))
theorem s4 (k : Nat) : SoundFn Try.prog 4 (F4 (f4 k)) :=
  have hC := c4_ok k
  fnR_sound hC ttOk (draw_ok hC ttOk mixed) Try.func4 (c0 := bd Try.f4) rfl (entry Try.func4 rfl (by decide)) noH_ok rfl (fun x _ h => (e4 k x).trans h)
/-! f25v2 (*fathom/aig.Aig).In (W) -/
noncomputable def a25v2 : Shape := ⟨[.ptr 0], [.box [.own T_Gate, .nilm]]⟩
noncomputable def o25v2 : List Shape := [⟨[.d i64], [.box [.own T_Gate, .nilm]]⟩]
abbrev R25v2 : Type := ((Int × Unit) × (((List D_Gate) × Unit × Unit) × Unit))
abbrev T25v2 : Type := (List D_Gate) → Option R25v2
noncomputable def u25v2 (f : T25v2) : (a25v2).C → Option (OutC o25v2) := fun (x : ((Unit × Unit) × (((List D_Gate) × Unit × Unit) × Unit))) => f x.2.1.1
noncomputable def F25v2 (f : T25v2) : Fun := ⟨false, runW a25v2 o25v2 (u25v2 f)⟩
noncomputable def f25v2 (k : Nat) : T25v2 := fun o0 =>
  some (((-1), ()), ((o0, (), ()), ()))
noncomputable def C25v2 (k : Nat) : Nat → Fun := mkC []
theorem e25v2 (k : Nat) (x : (a25v2).C) : bodyW (C25v2 k) tt noH Try.f25 a25v2 o25v2 x = u25v2 (f25v2 k) x := by kernel_rfl
theorem c25v2_ok (k : Nat) : ∀ f, SoundFn Try.prog f (C25v2 k f) := mkC_nil
theorem s25v2 (k : Nat) : SoundFn Try.prog 25 (F25v2 (f25v2 k)) :=
  have hC := c25v2_ok k
  fnW_sound hC ttOk (draw_ok hC ttOk mixed) Try.func25 (c0 := bd Try.f25) rfl (entry Try.func25 rfl (by decide)) noH_ok (fun x _ h => (e25v2 k x).trans h)
/-! f24v2 (*fathom/aig.Aig).Is (R) -/
noncomputable def a24v2 : Shape := ⟨[.ptr 0, .d i64], [.box [.d (.slice T_Gate), .nilm]]⟩
noncomputable def o24v2 : List Shape := [⟨[.d .bool], []⟩]
abbrev R24v2 : Type := ((Bool × Unit) × Unit)
abbrev T24v2 : Type := Int → (List D_Gate) → Option R24v2
noncomputable def u24v2 (f : T24v2) : (a24v2).C → Option (OutC o24v2) := fun (x : ((Unit × Int × Unit) × (((List D_Gate) × Unit × Unit) × Unit))) => f x.1.2.1 x.2.1.1
noncomputable def F24v2 (f : T24v2) : Fun := ⟨true, runR a24v2 o24v2 (u24v2 f)⟩
noncomputable def f24v2 (k : Nat) : T24v2 := fun l1 o0 =>
  some ((false, ()), ())
noncomputable def C24v2 (k : Nat) : Nat → Fun := mkC []
theorem e24v2 (k : Nat) (x : (a24v2).C) : bodyR (C24v2 k) tt noH Try.f24 a24v2 o24v2 x = u24v2 (f24v2 k) x := by kernel_rfl
theorem c24v2_ok (k : Nat) : ∀ f, SoundFn Try.prog f (C24v2 k f) := mkC_nil
theorem s24v2 (k : Nat) : SoundFn Try.prog 24 (F24v2 (f24v2 k)) :=
  have hC := c24v2_ok k
  fnR_sound hC ttOk (draw_ok hC ttOk mixed) Try.func24 (c0 := bd Try.f24) rfl (entry Try.func24 rfl (by decide)) noH_ok rfl (fun x _ h => (e24v2 k x).trans h)
/-! f111v2 (*fathom/aig.Aig).kids (R) -/
noncomputable def a111v2 : Shape := ⟨[.ptr 0, .d i64], [.box [.d (.slice T_Gate), .nilm]]⟩
noncomputable def o111v2 : List Shape := [⟨[.d i64, .d i64, .d .bool], []⟩]
abbrev R111v2 : Type := ((Int × Int × Bool × Unit) × Unit)
abbrev T111v2 : Type := Int → (List D_Gate) → Option R111v2
noncomputable def u111v2 (f : T111v2) : (a111v2).C → Option (OutC o111v2) := fun (x : ((Unit × Int × Unit) × (((List D_Gate) × Unit × Unit) × Unit))) => f x.1.2.1 x.2.1.1
noncomputable def F111v2 (f : T111v2) : Fun := ⟨true, runR a111v2 o111v2 (u111v2 f)⟩
noncomputable def f111v2 (k : Nat) : T111v2 := fun l1 o0 =>
  cond (decide (l1 < 2))
    (some ((0, 0, false, ()), ()))
    (ix o0 (w64 ((w64 (Int.tdiv l1 2)) - 1)) fun e1 =>
    (f88 k ()).bind fun y2 =>
    some ((e1.1, e1.2.1, (!(beqD T_Gate e1 y2.1.1)), ()), ()))
noncomputable def C111v2 (k : Nat) : Nat → Fun := mkC [(88, (F88 (f88 k)))]
theorem e111v2 (k : Nat) (x : (a111v2).C) : bodyR (C111v2 k) tt noH Try.f111 a111v2 o111v2 x = u111v2 (f111v2 k) x := by kernel_rfl
theorem c111v2_ok (k : Nat) : ∀ f, SoundFn Try.prog f (C111v2 k f) := (mkC_cons (s88 k) mkC_nil)
theorem s111v2 (k : Nat) : SoundFn Try.prog 111 (F111v2 (f111v2 k)) :=
  have hC := c111v2_ok k
  fnR_sound hC ttOk (draw_ok hC ttOk mixed) Try.func111 (c0 := bd Try.f111) rfl (entry Try.func111 rfl (by decide)) noH_ok rfl (fun x _ h => (e111v2 k x).trans h)
/-! f84v2 (*fathom/aig.Aig).plain (R) -/
noncomputable def a84v2 : Shape := ⟨[.ptr 0, .d i64, .d i64], [.box [.d (.slice T_Gate), .nilm]]⟩
noncomputable def o84v2 : List Shape := [⟨[.d i64, .d .bool], []⟩]
abbrev R84v2 : Type := ((Int × Bool × Unit) × Unit)
abbrev T84v2 : Type := Int → Int → (List D_Gate) → Option R84v2
noncomputable def u84v2 (f : T84v2) : (a84v2).C → Option (OutC o84v2) := fun (x : ((Unit × Int × Int × Unit) × (((List D_Gate) × Unit × Unit) × Unit))) => f x.1.2.1 x.1.2.2.1 x.2.1.1
noncomputable def F84v2 (f : T84v2) : Fun := ⟨true, runR a84v2 o84v2 (u84v2 f)⟩
noncomputable def f84v2 (k : Nat) : T84v2 := fun a1 b2 o0 =>
  (f111v2 k b2 o0).bind fun y1 =>
  cond (!y1.1.2.2.1)
    (some ((0, false, ()), ()))
    (cond ((Int.tmod b2 2) == 1)
      (some ((0, false, ()), ()))
      (cond (a1 == y1.1.1)
        (some ((b2, true, ()), ()))
        (cond (a1 == y1.1.2.1)
          (some ((b2, true, ()), ()))
          (cond ((ibits .xor .i64 a1 1) == y1.1.1)
            (some ((0, true, ()), ()))
            (cond ((ibits .xor .i64 a1 1) == y1.1.2.1)
              (some ((0, true, ()), ()))
              (some ((0, false, ()), ())))))))
noncomputable def C84v2 (k : Nat) : Nat → Fun := mkC [(111, (F111v2 (f111v2 k)))]
theorem e84v2 (k : Nat) (x : (a84v2).C) : bodyR (C84v2 k) tt noH Try.f84 a84v2 o84v2 x = u84v2 (f84v2 k) x := by kernel_rfl
theorem c84v2_ok (k : Nat) : ∀ f, SoundFn Try.prog f (C84v2 k f) := (mkC_cons (s111v2 k) mkC_nil)
theorem s84v2 (k : Nat) : SoundFn Try.prog 84 (F84v2 (f84v2 k)) :=
  have hC := c84v2_ok k
  fnR_sound hC ttOk (draw_ok hC ttOk mixed) Try.func84 (c0 := bd Try.f84) rfl (entry Try.func84 rfl (by decide)) noH_ok rfl (fun x _ h => (e84v2 k x).trans h)
/-! f86v2 (*fathom/aig.Aig).add (W) -/
noncomputable def a86v2 : Shape := ⟨[.ptr 0, .d T_Gate], [.box [.own T_Gate, .nilm]]⟩
noncomputable def o86v2 : List Shape := [⟨[.d i64], [.box [.own T_Gate, .nilm]]⟩]
abbrev R86v2 : Type := ((Int × Unit) × (((List D_Gate) × Unit × Unit) × Unit))
abbrev T86v2 : Type := D_Gate → (List D_Gate) → Option R86v2
noncomputable def u86v2 (f : T86v2) : (a86v2).C → Option (OutC o86v2) := fun (x : ((Unit × D_Gate × Unit) × (((List D_Gate) × Unit × Unit) × Unit))) => f x.1.2.1 x.2.1.1
noncomputable def F86v2 (f : T86v2) : Fun := ⟨false, runW a86v2 o86v2 (u86v2 f)⟩
noncomputable def f86v2 (k : Nat) : T86v2 := fun n1 o0 =>
  cond (decide ((o0.length : Int) ≥ 1048576))
    (some (((-1), ()), ((o0, (), ()), ())))
    (gd (decide ((o0.length + 1) * 16 ≤ room)) <|
    some (((w64 (2 * ((o0 ++ ([n1] : List D_Gate)).length : Int))), ()), (((o0 ++ ([n1] : List D_Gate)), (), ()), ())))
noncomputable def C86v2 (k : Nat) : Nat → Fun := mkC []
theorem e86v2 (k : Nat) (x : (a86v2).C) : bodyW (C86v2 k) tt noH Try.f86 a86v2 o86v2 x = u86v2 (f86v2 k) x := by kernel_rfl
theorem c86v2_ok (k : Nat) : ∀ f, SoundFn Try.prog f (C86v2 k f) := mkC_nil
theorem s86v2 (k : Nat) : SoundFn Try.prog 86 (F86v2 (f86v2 k)) :=
  have hC := c86v2_ok k
  fnW_sound hC ttOk (draw_ok hC ttOk mixed) Try.func86 (c0 := bd Try.f86) rfl (entry Try.func86 rfl (by decide)) noH_ok (fun x _ h => (e86v2 k x).trans h)
/-! f19v2 (*fathom/aig.Aig).And (W) -/
noncomputable def a19v2 : Shape := ⟨[.ptr 0, .d i64, .d i64], [.box [.own T_Gate, .nilm]]⟩
noncomputable def o19v2 : List Shape := [⟨[.d i64], [.box [.own T_Gate, .nilm]]⟩]
abbrev R19v2 : Type := ((Int × Unit) × (((List D_Gate) × Unit × Unit) × Unit))
abbrev T19v2 : Type := Int → Int → (List D_Gate) → Option R19v2
noncomputable def u19v2 (f : T19v2) : (a19v2).C → Option (OutC o19v2) := fun (x : ((Unit × Int × Int × Unit) × (((List D_Gate) × Unit × Unit) × Unit))) => f x.1.2.1 x.1.2.2.1 x.2.1.1
noncomputable def F19v2 (f : T19v2) : Fun := ⟨false, runW a19v2 o19v2 (u19v2 f)⟩
/-! f85v2 (*fathom/aig.Aig).turned (W) -/
noncomputable def a85v2 : Shape := ⟨[.ptr 0, .d i64, .d i64], [.box [.own T_Gate, .nilm]]⟩
noncomputable def o85v2 : List Shape := [⟨[.d i64, .d .bool], [.box [.own T_Gate, .nilm]]⟩]
abbrev R85v2 : Type := ((Int × Bool × Unit) × (((List D_Gate) × Unit × Unit) × Unit))
abbrev T85v2 : Type := Int → Int → (List D_Gate) → Option R85v2
noncomputable def u85v2 (f : T85v2) : (a85v2).C → Option (OutC o85v2) := fun (x : ((Unit × Int × Int × Unit) × (((List D_Gate) × Unit × Unit) × Unit))) => f x.1.2.1 x.1.2.2.1 x.2.1.1
noncomputable def F85v2 (f : T85v2) : Fun := ⟨false, runW a85v2 o85v2 (u85v2 f)⟩
noncomputable def b19v2 (k : Nat) (r19v2 : T19v2) (r85v2 : T85v2) : T19v2 := fun a1 b2 o0 =>
  (f24v2 k a1 o0).bind fun y1 =>
  cond (!y1.1.1)
    (some (((-1), ()), ((o0, (), ()), ())))
    ((f24v2 k b2 o0).bind fun y2 =>
    cond (!y2.1.1)
      (some (((-1), ()), ((o0, (), ()), ())))
      (cond ((minmax false a1 b2) == 0)
        (some ((0, ()), ((o0, (), ()), ())))
        (cond ((ibits .xor .i64 (minmax false a1 b2) 1) == (minmax true a1 b2))
          (some ((0, ()), ((o0, (), ()), ())))
          (cond ((minmax false a1 b2) == 1)
            (some (((minmax true a1 b2), ()), ((o0, (), ()), ())))
            (cond ((minmax false a1 b2) == (minmax true a1 b2))
              (some (((minmax true a1 b2), ()), ((o0, (), ()), ())))
              ((f84v2 k (minmax false a1 b2) (minmax true a1 b2) o0).bind fun y3 =>
              cond y3.1.2.1
                (some ((y3.1.1, ()), ((o0, (), ()), ())))
                ((f84v2 k (minmax true a1 b2) (minmax false a1 b2) o0).bind fun y4 =>
                cond y4.1.2.1
                  (some ((y4.1.1, ()), ((o0, (), ()), ())))
                  ((r85v2 (minmax false a1 b2) (minmax true a1 b2) o0).bind fun y5 =>
                  cond y5.1.2.1
                    (some ((y5.1.1, ()), ((y5.2.1.1, (), ()), ())))
                    ((r85v2 (minmax true a1 b2) (minmax false a1 b2) y5.2.1.1).bind fun y6 =>
                    cond y6.1.2.1
                      (some ((y6.1.1, ()), ((y6.2.1.1, (), ()), ())))
                      ((f86v2 k ((minmax false a1 b2), (minmax true a1 b2), ()) y6.2.1.1).bind fun y7 =>
                      cond (y7.1.1 != (-1))
                        (none)
                        (some ((y7.1.1, ()), ((y7.2.1.1, (), ()), ())))))))))))))
noncomputable def b85v2 (k : Nat) (r19v2 : T19v2) (r85v2 : T85v2) : T85v2 := fun a1 b2 o0 =>
  (f111v2 k b2 o0).bind fun y1 =>
  cond (!y1.1.2.2.1)
    (some ((0, false, ()), ((o0, (), ()), ())))
    (cond ((Int.tmod b2 2) == 0)
      (some ((0, false, ()), ((o0, (), ()), ())))
      (cond ((ibits .xor .i64 a1 1) == y1.1.1)
        (some ((a1, true, ()), ((o0, (), ()), ())))
        (cond ((ibits .xor .i64 a1 1) == y1.1.2.1)
          (some ((a1, true, ()), ((o0, (), ()), ())))
          (cond (a1 == y1.1.1)
            ((r19v2 a1 (ibits .xor .i64 y1.1.2.1 1) o0).bind fun y2 =>
            some ((y2.1.1, true, ()), ((y2.2.1.1, (), ()), ())))
            (cond (a1 == y1.1.2.1)
              ((r19v2 a1 (ibits .xor .i64 y1.1.1 1) o0).bind fun y3 =>
              some ((y3.1.1, true, ()), ((y3.2.1.1, (), ()), ())))
              (some ((0, false, ()), ((o0, (), ()), ()))))))))
noncomputable def S19v2 : Nat → T19v2 × T85v2
  | 0 => (fun _ _ _ => none, fun _ _ _ => none)
  | k + 1 => (b19v2 k (S19v2 k).1 (S19v2 k).2, b85v2 k (S19v2 k).1 (S19v2 k).2)
noncomputable def f19v2 (k : Nat) : T19v2 := (S19v2 k).1
noncomputable def f85v2 (k : Nat) : T85v2 := (S19v2 k).2
theorem f19v2_succ (k : Nat) : f19v2 (k + 1) = b19v2 k (f19v2 k) (f85v2 k) := rfl
theorem f85v2_succ (k : Nat) : f85v2 (k + 1) = b85v2 k (f19v2 k) (f85v2 k) := rfl
noncomputable def C19v2 (k : Nat) (r19v2 : T19v2) (r85v2 : T85v2) : Nat → Fun := mkC [(24, (F24v2 (f24v2 k))), (84, (F84v2 (f84v2 k))), (85, (F85v2 r85v2)), (86, (F86v2 (f86v2 k)))]
theorem e19v2 (k : Nat) (r19v2 : T19v2) (r85v2 : T85v2) (x : (a19v2).C) : bodyW (C19v2 k r19v2 r85v2) tt noH Try.f19 a19v2 o19v2 x = u19v2 (b19v2 k r19v2 r85v2) x := by kernel_rfl
theorem c19v2_ok (k : Nat) (r19v2 : T19v2) (r85v2 : T85v2) (h19v2 : SoundFn Try.prog 19 (F19v2 r19v2)) (h85v2 : SoundFn Try.prog 85 (F85v2 r85v2)) : ∀ f, SoundFn Try.prog f (C19v2 k r19v2 r85v2 f) := (mkC_cons (s24v2 k) (mkC_cons (s84v2 k) (mkC_cons h85v2 (mkC_cons (s86v2 k) mkC_nil))))
theorem q19v2 (k : Nat) (r19v2 : T19v2) (r85v2 : T85v2) (h19v2 : SoundFn Try.prog 19 (F19v2 r19v2)) (h85v2 : SoundFn Try.prog 85 (F85v2 r85v2)) : SoundFn Try.prog 19 (F19v2 (b19v2 k r19v2 r85v2)) :=
  have hC := c19v2_ok k r19v2 r85v2 h19v2 h85v2
  fnW_sound hC ttOk (draw_ok hC ttOk mixed) Try.func19 (c0 := bd Try.f19) rfl (entry Try.func19 rfl (by decide)) noH_ok (fun x _ h => (e19v2 k r19v2 r85v2 x).trans h)
noncomputable def C85v2 (k : Nat) (r19v2 : T19v2) (r85v2 : T85v2) : Nat → Fun := mkC [(19, (F19v2 r19v2)), (111, (F111v2 (f111v2 k)))]
theorem e85v2 (k : Nat) (r19v2 : T19v2) (r85v2 : T85v2) (x : (a85v2).C) : bodyW (C85v2 k r19v2 r85v2) tt noH Try.f85 a85v2 o85v2 x = u85v2 (b85v2 k r19v2 r85v2) x := by kernel_rfl
theorem c85v2_ok (k : Nat) (r19v2 : T19v2) (r85v2 : T85v2) (h19v2 : SoundFn Try.prog 19 (F19v2 r19v2)) (h85v2 : SoundFn Try.prog 85 (F85v2 r85v2)) : ∀ f, SoundFn Try.prog f (C85v2 k r19v2 r85v2 f) := (mkC_cons h19v2 (mkC_cons (s111v2 k) mkC_nil))
theorem q85v2 (k : Nat) (r19v2 : T19v2) (r85v2 : T85v2) (h19v2 : SoundFn Try.prog 19 (F19v2 r19v2)) (h85v2 : SoundFn Try.prog 85 (F85v2 r85v2)) : SoundFn Try.prog 85 (F85v2 (b85v2 k r19v2 r85v2)) :=
  have hC := c85v2_ok k r19v2 r85v2 h19v2 h85v2
  fnW_sound hC ttOk (draw_ok hC ttOk mixed) Try.func85 (c0 := bd Try.f85) rfl (entry Try.func85 rfl (by decide)) noH_ok (fun x _ h => (e85v2 k r19v2 r85v2 x).trans h)
theorem sAll19v2 : ∀ k : Nat, SoundFn Try.prog 19 (F19v2 (f19v2 k)) ∧ SoundFn Try.prog 85 (F85v2 (f85v2 k))
  | 0 => ⟨noneW_ok (by intro x; rfl), noneW_ok (by intro x; rfl)⟩
  | k + 1 =>
    have ih := sAll19v2 k
    ⟨q19v2 k (f19v2 k) (f85v2 k) ih.1 ih.2, q85v2 k (f19v2 k) (f85v2 k) ih.1 ih.2⟩
theorem s19v2 (k : Nat) : SoundFn Try.prog 19 (F19v2 (f19v2 k)) := (sAll19v2 k).1
theorem s85v2 (k : Nat) : SoundFn Try.prog 85 (F85v2 (f85v2 k)) := (sAll19v2 k).2
/-! f26v2 (*fathom/aig.Aig).Or (W) -/
noncomputable def a26v2 : Shape := ⟨[.ptr 0, .d i64, .d i64], [.box [.own T_Gate, .nilm]]⟩
noncomputable def o26v2 : List Shape := [⟨[.d i64], [.box [.own T_Gate, .nilm]]⟩]
abbrev R26v2 : Type := ((Int × Unit) × (((List D_Gate) × Unit × Unit) × Unit))
abbrev T26v2 : Type := Int → Int → (List D_Gate) → Option R26v2
noncomputable def u26v2 (f : T26v2) : (a26v2).C → Option (OutC o26v2) := fun (x : ((Unit × Int × Int × Unit) × (((List D_Gate) × Unit × Unit) × Unit))) => f x.1.2.1 x.1.2.2.1 x.2.1.1
noncomputable def F26v2 (f : T26v2) : Fun := ⟨false, runW a26v2 o26v2 (u26v2 f)⟩
noncomputable def f26v2 (k : Nat) : T26v2 := fun a1 b2 o0 =>
  (f89 k a1).bind fun y1 =>
  (f89 k b2).bind fun y2 =>
  (f19v2 k y1.1.1 y2.1.1 o0).bind fun y3 =>
  (f89 k y3.1.1).bind fun y4 =>
  some ((y4.1.1, ()), ((y3.2.1.1, (), ()), ()))
noncomputable def C26v2 (k : Nat) : Nat → Fun := mkC [(19, (F19v2 (f19v2 k))), (89, (F89 (f89 k)))]
theorem e26v2 (k : Nat) (x : (a26v2).C) : bodyW (C26v2 k) tt noH Try.f26 a26v2 o26v2 x = u26v2 (f26v2 k) x := by kernel_rfl
theorem c26v2_ok (k : Nat) : ∀ f, SoundFn Try.prog f (C26v2 k f) := (mkC_cons (s19v2 k) (mkC_cons (s89 k) mkC_nil))
theorem s26v2 (k : Nat) : SoundFn Try.prog 26 (F26v2 (f26v2 k)) :=
  have hC := c26v2_ok k
  fnW_sound hC ttOk (draw_ok hC ttOk mixed) Try.func26 (c0 := bd Try.f26) rfl (entry Try.func26 rfl (by decide)) noH_ok (fun x _ h => (e26v2 k x).trans h)
/-! f27v2 (*fathom/aig.Aig).Xor (W) -/
noncomputable def a27v2 : Shape := ⟨[.ptr 0, .d i64, .d i64], [.box [.own T_Gate, .nilm]]⟩
noncomputable def o27v2 : List Shape := [⟨[.d i64], [.box [.own T_Gate, .nilm]]⟩]
abbrev R27v2 : Type := ((Int × Unit) × (((List D_Gate) × Unit × Unit) × Unit))
abbrev T27v2 : Type := Int → Int → (List D_Gate) → Option R27v2
noncomputable def u27v2 (f : T27v2) : (a27v2).C → Option (OutC o27v2) := fun (x : ((Unit × Int × Int × Unit) × (((List D_Gate) × Unit × Unit) × Unit))) => f x.1.2.1 x.1.2.2.1 x.2.1.1
noncomputable def F27v2 (f : T27v2) : Fun := ⟨false, runW a27v2 o27v2 (u27v2 f)⟩
noncomputable def f27v2 (k : Nat) : T27v2 := fun a1 b2 o0 =>
  (f89 k b2).bind fun y1 =>
  (f19v2 k a1 y1.1.1 o0).bind fun y2 =>
  (f89 k a1).bind fun y3 =>
  (f19v2 k y3.1.1 b2 y2.2.1.1).bind fun y4 =>
  (f26v2 k y2.1.1 y4.1.1 y4.2.1.1).bind fun y5 =>
  some ((y5.1.1, ()), ((y5.2.1.1, (), ()), ()))
noncomputable def C27v2 (k : Nat) : Nat → Fun := mkC [(19, (F19v2 (f19v2 k))), (26, (F26v2 (f26v2 k))), (89, (F89 (f89 k)))]
theorem e27v2 (k : Nat) (x : (a27v2).C) : bodyW (C27v2 k) tt noH Try.f27 a27v2 o27v2 x = u27v2 (f27v2 k) x := by kernel_rfl
theorem c27v2_ok (k : Nat) : ∀ f, SoundFn Try.prog f (C27v2 k f) := (mkC_cons (s19v2 k) (mkC_cons (s26v2 k) (mkC_cons (s89 k) mkC_nil)))
theorem s27v2 (k : Nat) : SoundFn Try.prog 27 (F27v2 (f27v2 k)) :=
  have hC := c27v2_ok k
  fnW_sound hC ttOk (draw_ok hC ttOk mixed) Try.func27 (c0 := bd Try.f27) rfl (entry Try.func27 rfl (by decide)) noH_ok (fun x _ h => (e27v2 k x).trans h)
/-! f28v2 (*fathom/aig.Aig).Ite (W) -/
noncomputable def a28v2 : Shape := ⟨[.ptr 0, .d i64, .d i64, .d i64], [.box [.own T_Gate, .nilm]]⟩
noncomputable def o28v2 : List Shape := [⟨[.d i64], [.box [.own T_Gate, .nilm]]⟩]
abbrev R28v2 : Type := ((Int × Unit) × (((List D_Gate) × Unit × Unit) × Unit))
abbrev T28v2 : Type := Int → Int → Int → (List D_Gate) → Option R28v2
noncomputable def u28v2 (f : T28v2) : (a28v2).C → Option (OutC o28v2) := fun (x : ((Unit × Int × Int × Int × Unit) × (((List D_Gate) × Unit × Unit) × Unit))) => f x.1.2.1 x.1.2.2.1 x.1.2.2.2.1 x.2.1.1
noncomputable def F28v2 (f : T28v2) : Fun := ⟨false, runW a28v2 o28v2 (u28v2 f)⟩
noncomputable def f28v2 (k : Nat) : T28v2 := fun c1 a2 b3 o0 =>
  (f19v2 k c1 a2 o0).bind fun y1 =>
  (f89 k c1).bind fun y2 =>
  (f19v2 k y2.1.1 b3 y1.2.1.1).bind fun y3 =>
  (f26v2 k y1.1.1 y3.1.1 y3.2.1.1).bind fun y4 =>
  some ((y4.1.1, ()), ((y4.2.1.1, (), ()), ()))
noncomputable def C28v2 (k : Nat) : Nat → Fun := mkC [(19, (F19v2 (f19v2 k))), (26, (F26v2 (f26v2 k))), (89, (F89 (f89 k)))]
theorem e28v2 (k : Nat) (x : (a28v2).C) : bodyW (C28v2 k) tt noH Try.f28 a28v2 o28v2 x = u28v2 (f28v2 k) x := by kernel_rfl
theorem c28v2_ok (k : Nat) : ∀ f, SoundFn Try.prog f (C28v2 k f) := (mkC_cons (s19v2 k) (mkC_cons (s26v2 k) (mkC_cons (s89 k) mkC_nil)))
theorem s28v2 (k : Nat) : SoundFn Try.prog 28 (F28v2 (f28v2 k)) :=
  have hC := c28v2_ok k
  fnW_sound hC ttOk (draw_ok hC ttOk mixed) Try.func28 (c0 := bd Try.f28) rfl (entry Try.func28 rfl (by decide)) noH_ok (fun x _ h => (e28v2 k x).trans h)
/-! f29v2 (*fathom/aig.Aig).All (W) -/
noncomputable def a29v2 : Shape := ⟨[.ptr 0, .d (.slice i64)], [.box [.own T_Gate, .nilm]]⟩
noncomputable def o29v2 : List Shape := [⟨[.d i64], [.box [.own T_Gate, .nilm]]⟩]
abbrev R29v2 : Type := ((Int × Unit) × (((List D_Gate) × Unit × Unit) × Unit))
abbrev T29v2 : Type := (List Int) → (List D_Gate) → Option R29v2
noncomputable def u29v2 (f : T29v2) : (a29v2).C → Option (OutC o29v2) := fun (x : ((Unit × (List Int) × Unit) × (((List D_Gate) × Unit × Unit) × Unit))) => f x.1.2.1 x.2.1.1
noncomputable def F29v2 (f : T29v2) : Fun := ⟨false, runW a29v2 o29v2 (u29v2 f)⟩
noncomputable def f29v2 (k : Nat) : T29v2 := fun l1 o0 =>
  some (((-1), ()), ((o0, (), ()), ()))
noncomputable def C29v2 (k : Nat) : Nat → Fun := mkC []
theorem e29v2 (k : Nat) (x : (a29v2).C) : bodyW (C29v2 k) tt noH Try.f29 a29v2 o29v2 x = u29v2 (f29v2 k) x := by kernel_rfl
theorem c29v2_ok (k : Nat) : ∀ f, SoundFn Try.prog f (C29v2 k f) := mkC_nil
theorem s29v2 (k : Nat) : SoundFn Try.prog 29 (F29v2 (f29v2 k)) :=
  have hC := c29v2_ok k
  fnW_sound hC ttOk (draw_ok hC ttOk mixed) Try.func29 (c0 := bd Try.f29) rfl (entry Try.func29 rfl (by decide)) noH_ok (fun x _ h => (e29v2 k x).trans h)
/-! f23v2 (*fathom/aig.Aig).Nodes (R) -/
noncomputable def a23v2 : Shape := ⟨[.ptr 0], [.box [.d (.slice T_Gate), .nilm]]⟩
noncomputable def o23v2 : List Shape := [⟨[.d (.slice T_Gate)], []⟩]
abbrev R23v2 : Type := (((List D_Gate) × Unit) × Unit)
abbrev T23v2 : Type := (List D_Gate) → Option R23v2
noncomputable def u23v2 (f : T23v2) : (a23v2).C → Option (OutC o23v2) := fun (x : ((Unit × Unit) × (((List D_Gate) × Unit × Unit) × Unit))) => f x.2.1.1
noncomputable def F23v2 (f : T23v2) : Fun := ⟨true, runR a23v2 o23v2 (u23v2 f)⟩
noncomputable def f23v2 (k : Nat) : T23v2 := fun o0 =>
  (f87 k o0).bind fun y1 =>
  some ((y1.1.1, ()), ())
noncomputable def C23v2 (k : Nat) : Nat → Fun := mkC [(87, (F87 (f87 k)))]
theorem e23v2 (k : Nat) (x : (a23v2).C) : bodyR (C23v2 k) tt noH Try.f23 a23v2 o23v2 x = u23v2 (f23v2 k) x := by kernel_rfl
theorem c23v2_ok (k : Nat) : ∀ f, SoundFn Try.prog f (C23v2 k f) := (mkC_cons (s87 k) mkC_nil)
theorem s23v2 (k : Nat) : SoundFn Try.prog 23 (F23v2 (f23v2 k)) :=
  have hC := c23v2_ok k
  fnR_sound hC ttOk (draw_ok hC ttOk mixed) Try.func23 (c0 := bd Try.f23) rfl (entry Try.func23 rfl (by decide)) noH_ok rfl (fun x _ h => (e23v2 k x).trans h)
/-! f20v3 (*fathom/aig.Aig).Len (R) -/
noncomputable def a20v3 : Shape := ⟨[.ptr 0], [.box [.d (.slice T_Gate), .nilm]]⟩
noncomputable def o20v3 : List Shape := [⟨[.d i64], []⟩]
abbrev R20v3 : Type := ((Int × Unit) × Unit)
abbrev T20v3 : Type := (List D_Gate) → Option R20v3
noncomputable def u20v3 (f : T20v3) : (a20v3).C → Option (OutC o20v3) := fun (x : ((Unit × Unit) × (((List D_Gate) × Unit × Unit) × Unit))) => f x.2.1.1
noncomputable def F20v3 (f : T20v3) : Fun := ⟨true, runR a20v3 o20v3 (u20v3 f)⟩
noncomputable def f20v3 (k : Nat) : T20v3 := fun o0 =>
  some (((o0.length : Int), ()), ())
noncomputable def C20v3 (k : Nat) : Nat → Fun := mkC []
theorem e20v3 (k : Nat) (x : (a20v3).C) : bodyR (C20v3 k) tt noH Try.f20 a20v3 o20v3 x = u20v3 (f20v3 k) x := by kernel_rfl
theorem c20v3_ok (k : Nat) : ∀ f, SoundFn Try.prog f (C20v3 k f) := mkC_nil
theorem s20v3 (k : Nat) : SoundFn Try.prog 20 (F20v3 (f20v3 k)) :=
  have hC := c20v3_ok k
  fnR_sound hC ttOk (draw_ok hC ttOk mixed) Try.func20 (c0 := bd Try.f20) rfl (entry Try.func20 rfl (by decide)) noH_ok rfl (fun x _ h => (e20v3 k x).trans h)
/-! f25v3 (*fathom/aig.Aig).In (W) -/
noncomputable def a25v3 : Shape := ⟨[.nilp], []⟩
noncomputable def o25v3 : List Shape := [⟨[.d i64], []⟩]
abbrev R25v3 : Type := ((Int × Unit) × Unit)
abbrev T25v3 : Type := Unit → Option R25v3
noncomputable def u25v3 (f : T25v3) : (a25v3).C → Option (OutC o25v3) := fun (x : ((Unit × Unit) × Unit)) => f ()
noncomputable def F25v3 (f : T25v3) : Fun := ⟨false, runW a25v3 o25v3 (u25v3 f)⟩
noncomputable def f25v3 (k : Nat) : T25v3 := fun _ =>
  some (((-1), ()), ())
noncomputable def C25v3 (k : Nat) : Nat → Fun := mkC []
theorem e25v3 (k : Nat) (x : (a25v3).C) : bodyW (C25v3 k) tt noH Try.f25 a25v3 o25v3 x = u25v3 (f25v3 k) x := by kernel_rfl
theorem c25v3_ok (k : Nat) : ∀ f, SoundFn Try.prog f (C25v3 k f) := mkC_nil
theorem s25v3 (k : Nat) : SoundFn Try.prog 25 (F25v3 (f25v3 k)) :=
  have hC := c25v3_ok k
  fnW_sound hC ttOk (draw_ok hC ttOk mixed) Try.func25 (c0 := bd Try.f25) rfl (entry Try.func25 rfl (by decide)) noH_ok (fun x _ h => (e25v3 k x).trans h)
/-! f24v3 (*fathom/aig.Aig).Is (R) -/
noncomputable def a24v3 : Shape := ⟨[.nilp, .d i64], []⟩
noncomputable def o24v3 : List Shape := [⟨[.d .bool], []⟩]
abbrev R24v3 : Type := ((Bool × Unit) × Unit)
abbrev T24v3 : Type := Int → Option R24v3
noncomputable def u24v3 (f : T24v3) : (a24v3).C → Option (OutC o24v3) := fun (x : ((Unit × Int × Unit) × Unit)) => f x.1.2.1
noncomputable def F24v3 (f : T24v3) : Fun := ⟨true, runR a24v3 o24v3 (u24v3 f)⟩
noncomputable def f24v3 (k : Nat) : T24v3 := fun l1 =>
  some ((false, ()), ())
noncomputable def C24v3 (k : Nat) : Nat → Fun := mkC []
theorem e24v3 (k : Nat) (x : (a24v3).C) : bodyR (C24v3 k) tt noH Try.f24 a24v3 o24v3 x = u24v3 (f24v3 k) x := by kernel_rfl
theorem c24v3_ok (k : Nat) : ∀ f, SoundFn Try.prog f (C24v3 k f) := mkC_nil
theorem s24v3 (k : Nat) : SoundFn Try.prog 24 (F24v3 (f24v3 k)) :=
  have hC := c24v3_ok k
  fnR_sound hC ttOk (draw_ok hC ttOk mixed) Try.func24 (c0 := bd Try.f24) rfl (entry Try.func24 rfl (by decide)) noH_ok rfl (fun x _ h => (e24v3 k x).trans h)
/-! f111v3 (*fathom/aig.Aig).kids (R) -/
noncomputable def a111v3 : Shape := ⟨[.nilp, .d i64], []⟩
noncomputable def o111v3 : List Shape := [⟨[.d i64, .d i64, .d .bool], []⟩]
abbrev R111v3 : Type := ((Int × Int × Bool × Unit) × Unit)
abbrev T111v3 : Type := Int → Option R111v3
noncomputable def u111v3 (f : T111v3) : (a111v3).C → Option (OutC o111v3) := fun (x : ((Unit × Int × Unit) × Unit)) => f x.1.2.1
noncomputable def F111v3 (f : T111v3) : Fun := ⟨true, runR a111v3 o111v3 (u111v3 f)⟩
noncomputable def f111v3 (k : Nat) : T111v3 := fun l1 =>
  cond (decide (l1 < 2))
    (some ((0, 0, false, ()), ()))
    (none)
noncomputable def C111v3 (k : Nat) : Nat → Fun := mkC []
theorem e111v3 (k : Nat) (x : (a111v3).C) : bodyR (C111v3 k) tt noH Try.f111 a111v3 o111v3 x = u111v3 (f111v3 k) x := by kernel_rfl
theorem c111v3_ok (k : Nat) : ∀ f, SoundFn Try.prog f (C111v3 k f) := mkC_nil
theorem s111v3 (k : Nat) : SoundFn Try.prog 111 (F111v3 (f111v3 k)) :=
  have hC := c111v3_ok k
  fnR_sound hC ttOk (draw_ok hC ttOk mixed) Try.func111 (c0 := bd Try.f111) rfl (entry Try.func111 rfl (by decide)) noH_ok rfl (fun x _ h => (e111v3 k x).trans h)
/-! f84v3 (*fathom/aig.Aig).plain (R) -/
noncomputable def a84v3 : Shape := ⟨[.nilp, .d i64, .d i64], []⟩
noncomputable def o84v3 : List Shape := [⟨[.d i64, .d .bool], []⟩]
abbrev R84v3 : Type := ((Int × Bool × Unit) × Unit)
abbrev T84v3 : Type := Int → Int → Option R84v3
noncomputable def u84v3 (f : T84v3) : (a84v3).C → Option (OutC o84v3) := fun (x : ((Unit × Int × Int × Unit) × Unit)) => f x.1.2.1 x.1.2.2.1
noncomputable def F84v3 (f : T84v3) : Fun := ⟨true, runR a84v3 o84v3 (u84v3 f)⟩
noncomputable def f84v3 (k : Nat) : T84v3 := fun a1 b2 =>
  (f111v3 k b2).bind fun y1 =>
  cond (!y1.1.2.2.1)
    (some ((0, false, ()), ()))
    (cond ((Int.tmod b2 2) == 1)
      (some ((0, false, ()), ()))
      (cond (a1 == y1.1.1)
        (some ((b2, true, ()), ()))
        (cond (a1 == y1.1.2.1)
          (some ((b2, true, ()), ()))
          (cond ((ibits .xor .i64 a1 1) == y1.1.1)
            (some ((0, true, ()), ()))
            (cond ((ibits .xor .i64 a1 1) == y1.1.2.1)
              (some ((0, true, ()), ()))
              (some ((0, false, ()), ())))))))
noncomputable def C84v3 (k : Nat) : Nat → Fun := mkC [(111, (F111v3 (f111v3 k)))]
theorem e84v3 (k : Nat) (x : (a84v3).C) : bodyR (C84v3 k) tt noH Try.f84 a84v3 o84v3 x = u84v3 (f84v3 k) x := by kernel_rfl
theorem c84v3_ok (k : Nat) : ∀ f, SoundFn Try.prog f (C84v3 k f) := (mkC_cons (s111v3 k) mkC_nil)
theorem s84v3 (k : Nat) : SoundFn Try.prog 84 (F84v3 (f84v3 k)) :=
  have hC := c84v3_ok k
  fnR_sound hC ttOk (draw_ok hC ttOk mixed) Try.func84 (c0 := bd Try.f84) rfl (entry Try.func84 rfl (by decide)) noH_ok rfl (fun x _ h => (e84v3 k x).trans h)
/-! f19v3 (*fathom/aig.Aig).And (W) -/
noncomputable def a19v3 : Shape := ⟨[.nilp, .d i64, .d i64], []⟩
noncomputable def o19v3 : List Shape := [⟨[.d i64], []⟩]
abbrev R19v3 : Type := ((Int × Unit) × Unit)
abbrev T19v3 : Type := Int → Int → Option R19v3
noncomputable def u19v3 (f : T19v3) : (a19v3).C → Option (OutC o19v3) := fun (x : ((Unit × Int × Int × Unit) × Unit)) => f x.1.2.1 x.1.2.2.1
noncomputable def F19v3 (f : T19v3) : Fun := ⟨false, runW a19v3 o19v3 (u19v3 f)⟩
/-! f85v3 (*fathom/aig.Aig).turned (W) -/
noncomputable def a85v3 : Shape := ⟨[.nilp, .d i64, .d i64], []⟩
noncomputable def o85v3 : List Shape := [⟨[.d i64, .d .bool], []⟩]
abbrev R85v3 : Type := ((Int × Bool × Unit) × Unit)
abbrev T85v3 : Type := Int → Int → Option R85v3
noncomputable def u85v3 (f : T85v3) : (a85v3).C → Option (OutC o85v3) := fun (x : ((Unit × Int × Int × Unit) × Unit)) => f x.1.2.1 x.1.2.2.1
noncomputable def F85v3 (f : T85v3) : Fun := ⟨false, runW a85v3 o85v3 (u85v3 f)⟩
noncomputable def b19v3 (k : Nat) (r19v3 : T19v3) (r85v3 : T85v3) : T19v3 := fun a1 b2 =>
  (f24v3 k a1).bind fun y1 =>
  cond (!y1.1.1)
    (some (((-1), ()), ()))
    ((f24v3 k b2).bind fun y2 =>
    cond (!y2.1.1)
      (some (((-1), ()), ()))
      (cond ((minmax false a1 b2) == 0)
        (some ((0, ()), ()))
        (cond ((ibits .xor .i64 (minmax false a1 b2) 1) == (minmax true a1 b2))
          (some ((0, ()), ()))
          (cond ((minmax false a1 b2) == 1)
            (some (((minmax true a1 b2), ()), ()))
            (cond ((minmax false a1 b2) == (minmax true a1 b2))
              (some (((minmax true a1 b2), ()), ()))
              ((f84v3 k (minmax false a1 b2) (minmax true a1 b2)).bind fun y3 =>
              cond y3.1.2.1
                (some ((y3.1.1, ()), ()))
                ((f84v3 k (minmax true a1 b2) (minmax false a1 b2)).bind fun y4 =>
                cond y4.1.2.1
                  (some ((y4.1.1, ()), ()))
                  ((r85v3 (minmax false a1 b2) (minmax true a1 b2)).bind fun y5 =>
                  cond y5.1.2.1
                    (some ((y5.1.1, ()), ()))
                    ((r85v3 (minmax true a1 b2) (minmax false a1 b2)).bind fun y6 =>
                    cond y6.1.2.1
                      (some ((y6.1.1, ()), ()))
                      (none))))))))))
noncomputable def b85v3 (k : Nat) (r19v3 : T19v3) (r85v3 : T85v3) : T85v3 := fun a1 b2 =>
  (f111v3 k b2).bind fun y1 =>
  cond (!y1.1.2.2.1)
    (some ((0, false, ()), ()))
    (cond ((Int.tmod b2 2) == 0)
      (some ((0, false, ()), ()))
      (cond ((ibits .xor .i64 a1 1) == y1.1.1)
        (some ((a1, true, ()), ()))
        (cond ((ibits .xor .i64 a1 1) == y1.1.2.1)
          (some ((a1, true, ()), ()))
          (cond (a1 == y1.1.1)
            ((r19v3 a1 (ibits .xor .i64 y1.1.2.1 1)).bind fun y2 =>
            some ((y2.1.1, true, ()), ()))
            (cond (a1 == y1.1.2.1)
              ((r19v3 a1 (ibits .xor .i64 y1.1.1 1)).bind fun y3 =>
              some ((y3.1.1, true, ()), ()))
              (some ((0, false, ()), ())))))))
noncomputable def S19v3 : Nat → T19v3 × T85v3
  | 0 => (fun _ _ => none, fun _ _ => none)
  | k + 1 => (b19v3 k (S19v3 k).1 (S19v3 k).2, b85v3 k (S19v3 k).1 (S19v3 k).2)
noncomputable def f19v3 (k : Nat) : T19v3 := (S19v3 k).1
noncomputable def f85v3 (k : Nat) : T85v3 := (S19v3 k).2
theorem f19v3_succ (k : Nat) : f19v3 (k + 1) = b19v3 k (f19v3 k) (f85v3 k) := rfl
theorem f85v3_succ (k : Nat) : f85v3 (k + 1) = b85v3 k (f19v3 k) (f85v3 k) := rfl
noncomputable def C19v3 (k : Nat) (r19v3 : T19v3) (r85v3 : T85v3) : Nat → Fun := mkC [(24, (F24v3 (f24v3 k))), (84, (F84v3 (f84v3 k))), (85, (F85v3 r85v3))]
theorem e19v3 (k : Nat) (r19v3 : T19v3) (r85v3 : T85v3) (x : (a19v3).C) : bodyW (C19v3 k r19v3 r85v3) tt noH Try.f19 a19v3 o19v3 x = u19v3 (b19v3 k r19v3 r85v3) x := by kernel_rfl
theorem c19v3_ok (k : Nat) (r19v3 : T19v3) (r85v3 : T85v3) (h19v3 : SoundFn Try.prog 19 (F19v3 r19v3)) (h85v3 : SoundFn Try.prog 85 (F85v3 r85v3)) : ∀ f, SoundFn Try.prog f (C19v3 k r19v3 r85v3 f) := (mkC_cons (s24v3 k) (mkC_cons (s84v3 k) (mkC_cons h85v3 mkC_nil)))
theorem q19v3 (k : Nat) (r19v3 : T19v3) (r85v3 : T85v3) (h19v3 : SoundFn Try.prog 19 (F19v3 r19v3)) (h85v3 : SoundFn Try.prog 85 (F85v3 r85v3)) : SoundFn Try.prog 19 (F19v3 (b19v3 k r19v3 r85v3)) :=
  have hC := c19v3_ok k r19v3 r85v3 h19v3 h85v3
  fnW_sound hC ttOk (draw_ok hC ttOk mixed) Try.func19 (c0 := bd Try.f19) rfl (entry Try.func19 rfl (by decide)) noH_ok (fun x _ h => (e19v3 k r19v3 r85v3 x).trans h)
noncomputable def C85v3 (k : Nat) (r19v3 : T19v3) (r85v3 : T85v3) : Nat → Fun := mkC [(19, (F19v3 r19v3)), (111, (F111v3 (f111v3 k)))]
theorem e85v3 (k : Nat) (r19v3 : T19v3) (r85v3 : T85v3) (x : (a85v3).C) : bodyW (C85v3 k r19v3 r85v3) tt noH Try.f85 a85v3 o85v3 x = u85v3 (b85v3 k r19v3 r85v3) x := by kernel_rfl
theorem c85v3_ok (k : Nat) (r19v3 : T19v3) (r85v3 : T85v3) (h19v3 : SoundFn Try.prog 19 (F19v3 r19v3)) (h85v3 : SoundFn Try.prog 85 (F85v3 r85v3)) : ∀ f, SoundFn Try.prog f (C85v3 k r19v3 r85v3 f) := (mkC_cons h19v3 (mkC_cons (s111v3 k) mkC_nil))
theorem q85v3 (k : Nat) (r19v3 : T19v3) (r85v3 : T85v3) (h19v3 : SoundFn Try.prog 19 (F19v3 r19v3)) (h85v3 : SoundFn Try.prog 85 (F85v3 r85v3)) : SoundFn Try.prog 85 (F85v3 (b85v3 k r19v3 r85v3)) :=
  have hC := c85v3_ok k r19v3 r85v3 h19v3 h85v3
  fnW_sound hC ttOk (draw_ok hC ttOk mixed) Try.func85 (c0 := bd Try.f85) rfl (entry Try.func85 rfl (by decide)) noH_ok (fun x _ h => (e85v3 k r19v3 r85v3 x).trans h)
theorem sAll19v3 : ∀ k : Nat, SoundFn Try.prog 19 (F19v3 (f19v3 k)) ∧ SoundFn Try.prog 85 (F85v3 (f85v3 k))
  | 0 => ⟨noneW_ok (by intro x; rfl), noneW_ok (by intro x; rfl)⟩
  | k + 1 =>
    have ih := sAll19v3 k
    ⟨q19v3 k (f19v3 k) (f85v3 k) ih.1 ih.2, q85v3 k (f19v3 k) (f85v3 k) ih.1 ih.2⟩
theorem s19v3 (k : Nat) : SoundFn Try.prog 19 (F19v3 (f19v3 k)) := (sAll19v3 k).1
theorem s85v3 (k : Nat) : SoundFn Try.prog 85 (F85v3 (f85v3 k)) := (sAll19v3 k).2
/-! f26v3 (*fathom/aig.Aig).Or (W) -/
noncomputable def a26v3 : Shape := ⟨[.nilp, .d i64, .d i64], []⟩
noncomputable def o26v3 : List Shape := [⟨[.d i64], []⟩]
abbrev R26v3 : Type := ((Int × Unit) × Unit)
abbrev T26v3 : Type := Int → Int → Option R26v3
noncomputable def u26v3 (f : T26v3) : (a26v3).C → Option (OutC o26v3) := fun (x : ((Unit × Int × Int × Unit) × Unit)) => f x.1.2.1 x.1.2.2.1
noncomputable def F26v3 (f : T26v3) : Fun := ⟨false, runW a26v3 o26v3 (u26v3 f)⟩
noncomputable def f26v3 (k : Nat) : T26v3 := fun a1 b2 =>
  (f89 k a1).bind fun y1 =>
  (f89 k b2).bind fun y2 =>
  (f19v3 k y1.1.1 y2.1.1).bind fun y3 =>
  (f89 k y3.1.1).bind fun y4 =>
  some ((y4.1.1, ()), ())
noncomputable def C26v3 (k : Nat) : Nat → Fun := mkC [(19, (F19v3 (f19v3 k))), (89, (F89 (f89 k)))]
theorem e26v3 (k : Nat) (x : (a26v3).C) : bodyW (C26v3 k) tt noH Try.f26 a26v3 o26v3 x = u26v3 (f26v3 k) x := by kernel_rfl
theorem c26v3_ok (k : Nat) : ∀ f, SoundFn Try.prog f (C26v3 k f) := (mkC_cons (s19v3 k) (mkC_cons (s89 k) mkC_nil))
theorem s26v3 (k : Nat) : SoundFn Try.prog 26 (F26v3 (f26v3 k)) :=
  have hC := c26v3_ok k
  fnW_sound hC ttOk (draw_ok hC ttOk mixed) Try.func26 (c0 := bd Try.f26) rfl (entry Try.func26 rfl (by decide)) noH_ok (fun x _ h => (e26v3 k x).trans h)
/-! f27v3 (*fathom/aig.Aig).Xor (W) -/
noncomputable def a27v3 : Shape := ⟨[.nilp, .d i64, .d i64], []⟩
noncomputable def o27v3 : List Shape := [⟨[.d i64], []⟩]
abbrev R27v3 : Type := ((Int × Unit) × Unit)
abbrev T27v3 : Type := Int → Int → Option R27v3
noncomputable def u27v3 (f : T27v3) : (a27v3).C → Option (OutC o27v3) := fun (x : ((Unit × Int × Int × Unit) × Unit)) => f x.1.2.1 x.1.2.2.1
noncomputable def F27v3 (f : T27v3) : Fun := ⟨false, runW a27v3 o27v3 (u27v3 f)⟩
noncomputable def f27v3 (k : Nat) : T27v3 := fun a1 b2 =>
  (f89 k b2).bind fun y1 =>
  (f19v3 k a1 y1.1.1).bind fun y2 =>
  (f89 k a1).bind fun y3 =>
  (f19v3 k y3.1.1 b2).bind fun y4 =>
  (f26v3 k y2.1.1 y4.1.1).bind fun y5 =>
  some ((y5.1.1, ()), ())
noncomputable def C27v3 (k : Nat) : Nat → Fun := mkC [(19, (F19v3 (f19v3 k))), (26, (F26v3 (f26v3 k))), (89, (F89 (f89 k)))]
theorem e27v3 (k : Nat) (x : (a27v3).C) : bodyW (C27v3 k) tt noH Try.f27 a27v3 o27v3 x = u27v3 (f27v3 k) x := by kernel_rfl
theorem c27v3_ok (k : Nat) : ∀ f, SoundFn Try.prog f (C27v3 k f) := (mkC_cons (s19v3 k) (mkC_cons (s26v3 k) (mkC_cons (s89 k) mkC_nil)))
theorem s27v3 (k : Nat) : SoundFn Try.prog 27 (F27v3 (f27v3 k)) :=
  have hC := c27v3_ok k
  fnW_sound hC ttOk (draw_ok hC ttOk mixed) Try.func27 (c0 := bd Try.f27) rfl (entry Try.func27 rfl (by decide)) noH_ok (fun x _ h => (e27v3 k x).trans h)
/-! f28v3 (*fathom/aig.Aig).Ite (W) -/
noncomputable def a28v3 : Shape := ⟨[.nilp, .d i64, .d i64, .d i64], []⟩
noncomputable def o28v3 : List Shape := [⟨[.d i64], []⟩]
abbrev R28v3 : Type := ((Int × Unit) × Unit)
abbrev T28v3 : Type := Int → Int → Int → Option R28v3
noncomputable def u28v3 (f : T28v3) : (a28v3).C → Option (OutC o28v3) := fun (x : ((Unit × Int × Int × Int × Unit) × Unit)) => f x.1.2.1 x.1.2.2.1 x.1.2.2.2.1
noncomputable def F28v3 (f : T28v3) : Fun := ⟨false, runW a28v3 o28v3 (u28v3 f)⟩
noncomputable def f28v3 (k : Nat) : T28v3 := fun c1 a2 b3 =>
  (f19v3 k c1 a2).bind fun y1 =>
  (f89 k c1).bind fun y2 =>
  (f19v3 k y2.1.1 b3).bind fun y3 =>
  (f26v3 k y1.1.1 y3.1.1).bind fun y4 =>
  some ((y4.1.1, ()), ())
noncomputable def C28v3 (k : Nat) : Nat → Fun := mkC [(19, (F19v3 (f19v3 k))), (26, (F26v3 (f26v3 k))), (89, (F89 (f89 k)))]
theorem e28v3 (k : Nat) (x : (a28v3).C) : bodyW (C28v3 k) tt noH Try.f28 a28v3 o28v3 x = u28v3 (f28v3 k) x := by kernel_rfl
theorem c28v3_ok (k : Nat) : ∀ f, SoundFn Try.prog f (C28v3 k f) := (mkC_cons (s19v3 k) (mkC_cons (s26v3 k) (mkC_cons (s89 k) mkC_nil)))
theorem s28v3 (k : Nat) : SoundFn Try.prog 28 (F28v3 (f28v3 k)) :=
  have hC := c28v3_ok k
  fnW_sound hC ttOk (draw_ok hC ttOk mixed) Try.func28 (c0 := bd Try.f28) rfl (entry Try.func28 rfl (by decide)) noH_ok (fun x _ h => (e28v3 k x).trans h)
/-! f29v3 (*fathom/aig.Aig).All (W) -/
noncomputable def a29v3 : Shape := ⟨[.nilp, .d (.slice i64)], []⟩
noncomputable def o29v3 : List Shape := [⟨[.d i64], []⟩]
abbrev R29v3 : Type := ((Int × Unit) × Unit)
abbrev T29v3 : Type := (List Int) → Option R29v3
noncomputable def u29v3 (f : T29v3) : (a29v3).C → Option (OutC o29v3) := fun (x : ((Unit × (List Int) × Unit) × Unit)) => f x.1.2.1
noncomputable def F29v3 (f : T29v3) : Fun := ⟨false, runW a29v3 o29v3 (u29v3 f)⟩
noncomputable def f29v3 (k : Nat) : T29v3 := fun l1 =>
  some (((-1), ()), ())
noncomputable def C29v3 (k : Nat) : Nat → Fun := mkC []
theorem e29v3 (k : Nat) (x : (a29v3).C) : bodyW (C29v3 k) tt noH Try.f29 a29v3 o29v3 x = u29v3 (f29v3 k) x := by kernel_rfl
theorem c29v3_ok (k : Nat) : ∀ f, SoundFn Try.prog f (C29v3 k f) := mkC_nil
theorem s29v3 (k : Nat) : SoundFn Try.prog 29 (F29v3 (f29v3 k)) :=
  have hC := c29v3_ok k
  fnW_sound hC ttOk (draw_ok hC ttOk mixed) Try.func29 (c0 := bd Try.f29) rfl (entry Try.func29 rfl (by decide)) noH_ok (fun x _ h => (e29v3 k x).trans h)
/-! f23v3 (*fathom/aig.Aig).Nodes (R) -/
noncomputable def a23v3 : Shape := ⟨[.nilp], []⟩
noncomputable def o23v3 : List Shape := [⟨[.d (.slice T_Gate)], []⟩]
abbrev R23v3 : Type := (((List D_Gate) × Unit) × Unit)
abbrev T23v3 : Type := Unit → Option R23v3
noncomputable def u23v3 (f : T23v3) : (a23v3).C → Option (OutC o23v3) := fun (x : ((Unit × Unit) × Unit)) => f ()
noncomputable def F23v3 (f : T23v3) : Fun := ⟨true, runR a23v3 o23v3 (u23v3 f)⟩
noncomputable def f23v3 (k : Nat) : T23v3 := fun _ =>
  some (([], ()), ())
noncomputable def C23v3 (k : Nat) : Nat → Fun := mkC []
theorem e23v3 (k : Nat) (x : (a23v3).C) : bodyR (C23v3 k) tt noH Try.f23 a23v3 o23v3 x = u23v3 (f23v3 k) x := by kernel_rfl
theorem c23v3_ok (k : Nat) : ∀ f, SoundFn Try.prog f (C23v3 k f) := mkC_nil
theorem s23v3 (k : Nat) : SoundFn Try.prog 23 (F23v3 (f23v3 k)) :=
  have hC := c23v3_ok k
  fnR_sound hC ttOk (draw_ok hC ttOk mixed) Try.func23 (c0 := bd Try.f23) rfl (entry Try.func23 rfl (by decide)) noH_ok rfl (fun x _ h => (e23v3 k x).trans h)
/-! f20v2 (*fathom/aig.Aig).Len (R) -/
noncomputable def a20v2 : Shape := ⟨[.nilp], []⟩
noncomputable def o20v2 : List Shape := [⟨[.d i64], []⟩]
abbrev R20v2 : Type := ((Int × Unit) × Unit)
abbrev T20v2 : Type := Unit → Option R20v2
noncomputable def u20v2 (f : T20v2) : (a20v2).C → Option (OutC o20v2) := fun (x : ((Unit × Unit) × Unit)) => f ()
noncomputable def F20v2 (f : T20v2) : Fun := ⟨true, runR a20v2 o20v2 (u20v2 f)⟩
noncomputable def f20v2 (k : Nat) : T20v2 := fun _ =>
  some ((0, ()), ())
noncomputable def C20v2 (k : Nat) : Nat → Fun := mkC []
theorem e20v2 (k : Nat) (x : (a20v2).C) : bodyR (C20v2 k) tt noH Try.f20 a20v2 o20v2 x = u20v2 (f20v2 k) x := by kernel_rfl
theorem c20v2_ok (k : Nat) : ∀ f, SoundFn Try.prog f (C20v2 k f) := mkC_nil
theorem s20v2 (k : Nat) : SoundFn Try.prog 20 (F20v2 (f20v2 k)) :=
  have hC := c20v2_ok k
  fnR_sound hC ttOk (draw_ok hC ttOk mixed) Try.func20 (c0 := bd Try.f20) rfl (entry Try.func20 rfl (by decide)) noH_ok rfl (fun x _ h => (e20v2 k x).trans h)
/-! f5 fathom/fathomlaw15.AigNobody (R) -/
noncomputable def a5 : Shape := ⟨[.d T_Act], []⟩
noncomputable def o5 : List Shape := [⟨[.d .bool], []⟩]
abbrev R5 : Type := ((Bool × Unit) × Unit)
abbrev T5 : Type := D_Act → Option R5
noncomputable def u5 (f : T5) : (a5).C → Option (OutC o5) := fun (x : ((D_Act × Unit) × Unit)) => f x.1.1
noncomputable def F5 (f : T5) : Fun := ⟨true, runR a5 o5 (u5 f)⟩
noncomputable def pa5_1682 : Shape := ⟨[.d i64, .nilp], []⟩
noncomputable def pw5_1682 : List Vm.Way := [⟨.normal, [4], ⟨[.ptr 0], [.box [.own T_Gate, .nilm]]⟩⟩, ⟨.normal, [4], ⟨[.nilp], []⟩⟩]
abbrev R5_1682 : Type := (((Unit × Unit) × (((List D_Gate) × Unit × Unit) × Unit)) ⊕ ((Unit × Unit) × Unit))
abbrev T5_1682 : Type := Int → Option R5_1682
noncomputable def u5_1682 (f : T5_1682) : (pa5_1682).C → Option (WayC pw5_1682) := fun (x : ((Int × Unit × Unit) × Unit)) => f x.1.1
noncomputable def l5_1682 (k : Nat) : T5_1682 := fun k3 =>
  cond (k3 == 1)
    (some (.inl (((), ()), (([], (), ()), ()))))
    (some (.inr (((), ()), ())))
noncomputable def pa5_26 : Shape := ⟨[.ptr 0, .d i64], [.box [.d i64, .d i64, .d i64, .d i64]]⟩
noncomputable def pw5_26 : List Vm.Way := [⟨.exit 0, [], ⟨[], [.box [.d i64, .d i64, .d i64, .d i64]]⟩⟩, ⟨.ret, [2], ⟨[.d .bool], [.box [.d i64, .d i64, .d i64, .d i64]]⟩⟩]
abbrev R5_26 : Type := ((Unit × ((Int × Int × Int × Int × Unit) × Unit)) ⊕ ((Bool × Unit) × ((Int × Int × Int × Int × Unit) × Unit)))
abbrev T5_26 : Type := Int → Int → Int → Int → Int → Option R5_26
noncomputable def u5_26 (f : T5_26) : (pa5_26).C → Option (WayC pw5_26) := fun (x : ((Unit × Int × Unit) × ((Int × Int × Int × Int × Unit) × Unit))) => f x.1.2.1 x.2.1.1 x.2.1.2.1 x.2.1.2.2.1 x.2.1.2.2.2.1
noncomputable def b5_26 (k : Nat) (rec : T5_26) : T5_26 := fun k3 o0_0 o0_1 o0_2 o0_3 =>
  cond (decide (k3 < 2))
    ((l5_1682 k k3).bind fun y1 =>
    match y1 with
    | .inl y1_0 =>
      (f25v2 k y1_0.2.1.1).bind fun y2 =>
      cond (y2.1.1 != (-1))
        (some (.inr ((false, ()), ((o0_0, o0_1, o0_2, o0_3, ()), ()))))
        ((f19v2 k o0_1 o0_2 y2.2.1.1).bind fun y3 =>
        cond (y3.1.1 != (-1))
          (some (.inr ((false, ()), ((o0_0, o0_1, o0_2, o0_3, ()), ()))))
          ((f26v2 k o0_1 o0_2 y3.2.1.1).bind fun y4 =>
          cond (y4.1.1 != (-1))
            (some (.inr ((false, ()), ((o0_0, o0_1, o0_2, o0_3, ()), ()))))
            ((f27v2 k o0_1 o0_2 y4.2.1.1).bind fun y5 =>
            cond (y5.1.1 != (-1))
              (some (.inr ((false, ()), ((o0_0, o0_1, o0_2, o0_3, ()), ()))))
              ((f28v2 k o0_3 o0_1 o0_2 y5.2.1.1).bind fun y6 =>
              cond (y6.1.1 != (-1))
                (some (.inr ((false, ()), ((o0_0, o0_1, o0_2, o0_3, ()), ()))))
                ((f29v2 k [o0_1] y6.2.1.1).bind fun y7 =>
                cond (y7.1.1 != (-1))
                  (some (.inr ((false, ()), ((o0_0, o0_1, o0_2, o0_3, ()), ()))))
                  ((f24v2 k o0_1 y7.2.1.1).bind fun y8 =>
                  cond y8.1.1
                    (some (.inr ((false, ()), ((o0_0, o0_1, o0_2, o0_3, ()), ()))))
                    ((f23v2 k y7.2.1.1).bind fun y9 =>
                    cond ((y9.1.1.length : Int) != 0)
                      (some (.inr ((false, ()), ((o0_0, o0_1, o0_2, o0_3, ()), ()))))
                      ((f20v3 k y7.2.1.1).bind fun y10 =>
                      cond (y10.1.1 != 0)
                        (some (.inr ((false, ()), ((o0_0, o0_1, o0_2, o0_3, ()), ()))))
                        ((rec (w64 (k3 + 1)) o0_0 o0_1 o0_2 o0_3).bind fun y11 =>
                        match y11 with
                        | .inl y11_0 =>
                          some (.inl ((), ((y11_0.2.1.1, y11_0.2.1.2.1, y11_0.2.1.2.2.1, y11_0.2.1.2.2.2.1, ()), ())))
                        | .inr y11_1 =>
                          some (.inr ((y11_1.1.1, ()), ((y11_1.2.1.1, y11_1.2.1.2.1, y11_1.2.1.2.2.1, y11_1.2.1.2.2.2.1, ()), ()))))))))))))
    | .inr y1_1 =>
      (f25v3 k ()).bind fun y12 =>
      cond (y12.1.1 != (-1))
        (some (.inr ((false, ()), ((o0_0, o0_1, o0_2, o0_3, ()), ()))))
        ((f19v3 k o0_1 o0_2).bind fun y13 =>
        cond (y13.1.1 != (-1))
          (some (.inr ((false, ()), ((o0_0, o0_1, o0_2, o0_3, ()), ()))))
          ((f26v3 k o0_1 o0_2).bind fun y14 =>
          cond (y14.1.1 != (-1))
            (some (.inr ((false, ()), ((o0_0, o0_1, o0_2, o0_3, ()), ()))))
            ((f27v3 k o0_1 o0_2).bind fun y15 =>
            cond (y15.1.1 != (-1))
              (some (.inr ((false, ()), ((o0_0, o0_1, o0_2, o0_3, ()), ()))))
              ((f28v3 k o0_3 o0_1 o0_2).bind fun y16 =>
              cond (y16.1.1 != (-1))
                (some (.inr ((false, ()), ((o0_0, o0_1, o0_2, o0_3, ()), ()))))
                ((f29v3 k [o0_1]).bind fun y17 =>
                cond (y17.1.1 != (-1))
                  (some (.inr ((false, ()), ((o0_0, o0_1, o0_2, o0_3, ()), ()))))
                  ((f24v3 k o0_1).bind fun y18 =>
                  cond y18.1.1
                    (some (.inr ((false, ()), ((o0_0, o0_1, o0_2, o0_3, ()), ()))))
                    ((f23v3 k ()).bind fun y19 =>
                    cond ((y19.1.1.length : Int) != 0)
                      (some (.inr ((false, ()), ((o0_0, o0_1, o0_2, o0_3, ()), ()))))
                      ((f20v2 k ()).bind fun y20 =>
                      cond (y20.1.1 != 0)
                        (some (.inr ((false, ()), ((o0_0, o0_1, o0_2, o0_3, ()), ()))))
                        ((rec (w64 (k3 + 1)) o0_0 o0_1 o0_2 o0_3).bind fun y21 =>
                        match y21 with
                        | .inl y21_0 =>
                          some (.inl ((), ((y21_0.2.1.1, y21_0.2.1.2.1, y21_0.2.1.2.2.1, y21_0.2.1.2.2.2.1, ()), ())))
                        | .inr y21_1 =>
                          some (.inr ((y21_1.1.1, ()), ((y21_1.2.1.1, y21_1.2.1.2.1, y21_1.2.1.2.2.1, y21_1.2.1.2.2.2.1, ()), ())))))))))))))
    (some (.inl ((), ((o0_0, o0_1, o0_2, o0_3, ()), ()))))
noncomputable def l5_26 (k : Nat) : Nat → T5_26
  | 0 => fun _ _ _ _ _ => none
  | j + 1 => b5_26 k (l5_26 k j)
noncomputable def f5 (k : Nat) : T5 := fun a0 =>
  (l5_26 k k 0 a0.1 a0.2.1 a0.2.2.1 a0.2.2.2.1).bind fun y1 =>
  match y1 with
  | .inl y1_0 =>
    (f21 k ()).bind fun y2 =>
    some ((y2.1.1, ()), ())
  | .inr y1_1 =>
    some ((y1_1.1.1, ()), ())
noncomputable def C5 (k : Nat) : Nat → Fun := mkC [(19, (altF a19v2 true (F19v2 (f19v2 k)) (F19v3 (f19v3 k)))), (20, (altF a20v2 false (F20v2 (f20v2 k)) (F20v3 (f20v3 k)))), (21, (F21 (f21 k))), (23, (altF a23v2 false (F23v2 (f23v2 k)) (F23v3 (f23v3 k)))), (24, (altF a24v2 false (F24v2 (f24v2 k)) (F24v3 (f24v3 k)))), (25, (altF a25v2 true (F25v2 (f25v2 k)) (F25v3 (f25v3 k)))), (26, (altF a26v2 true (F26v2 (f26v2 k)) (F26v3 (f26v3 k)))), (27, (altF a27v2 true (F27v2 (f27v2 k)) (F27v3 (f27v3 k)))), (28, (altF a28v2 true (F28v2 (f28v2 k)) (F28v3 (f28v3 k)))), (29, (altF a29v2 true (F29v2 (f29v2 k)) (F29v3 (f29v3 k))))]
noncomputable def H5_1682 (k : Nat) : Nat → Option Cut := addH noH 1682 ⟨runCut (wrC (codeAt 1682 (bd Try.f5) 1682)) 80 [3, 4] pa5_1682 pw5_1682 (u5_1682 (l5_1682 k))⟩
theorem e5_1682 (k : Nat) (x : (pa5_1682).C) : pieceF (C5 k) tt noH (codeAt 1682 (bd Try.f5) 1682) 1682 80 [3, 4] pa5_1682 pw5_1682 x = u5_1682 (l5_1682 k) x := by kernel_rfl
noncomputable def H5_26 (k : Nat) : Nat → Option Cut := addH (H5_1682 k) 26 ⟨runCut (wrC (bodyOf (codeAt 26 (bd Try.f5) 26))) 80 [1, 3] pa5_26 pw5_26 (u5_26 (l5_26 k k))⟩
theorem e5_26 (k : Nat) (rec : T5_26) (x : (pa5_26).C) : roundF (C5 k) tt (H5_1682 k) (bodyOf (codeAt 26 (bd Try.f5) 26)) 52 80 [1, 3] pa5_26 pw5_26 (u5_26 rec) x = u5_26 (b5_26 k rec) x := by kernel_rfl
theorem e5 (k : Nat) (x : (a5).C) : bodyR (C5 k) tt (H5_26 k) Try.f5 a5 o5 x = u5 (f5 k) x := by kernel_rfl
theorem c5_ok (k : Nat) : ∀ f, SoundFn Try.prog f (C5 k f) := (mkC_cons (altF_ok (s19v2 k) (s19v3 k) rfl) (mkC_cons (altF_ok (s20v2 k) (s20v3 k) rfl) (mkC_cons (s21 k) (mkC_cons (altF_ok (s23v2 k) (s23v3 k) rfl) (mkC_cons (altF_ok (s24v2 k) (s24v3 k) rfl) (mkC_cons (altF_ok (s25v2 k) (s25v3 k) rfl) (mkC_cons (altF_ok (s26v2 k) (s26v3 k) rfl) (mkC_cons (altF_ok (s27v2 k) (s27v3 k) rfl) (mkC_cons (altF_ok (s28v2 k) (s28v3 k) rfl) (mkC_cons (altF_ok (s29v2 k) (s29v3 k) rfl) mkC_nil))))))))))
theorem h5_1682_ok (k : Nat) : ∀ p S, H5_1682 k p = some S → ∀ c, At (bd Try.f5) p c → CutOk Try.prog c S :=
  have hC := c5_ok k
  addPiece hC ttOk (draw_ok hC ttOk mixed) noH_ok (fun x _ h => (e5_1682 k x).trans h)
theorem h5_26_ok (k : Nat) : ∀ p S, H5_26 k p = some S → ∀ c, At (bd Try.f5) p c → CutOk Try.prog c S :=
  have hC := c5_ok k
  addLoop hC ttOk (draw_ok hC ttOk mixed) (h5_1682_ok k) (by kernel_rfl) (F := fun j => u5_26 (l5_26 k j)) (fun _ => rfl) (fun j x _ h => (e5_26 k (l5_26 k j) x).trans h) k
theorem s5 (k : Nat) : SoundFn Try.prog 5 (F5 (f5 k)) :=
  have hC := c5_ok k
  fnR_sound hC ttOk (draw_ok hC ttOk mixed) Try.func5 (c0 := bd Try.f5) rfl (entry Try.func5 rfl (by decide)) (h5_26_ok k) rfl (fun x _ h => (e5 k x).trans h)
/-! f33 fathom/aig.Check (R) -/
noncomputable def a33 : Shape := ⟨[.d (.slice T_Gate)], []⟩
noncomputable def o33 : List Shape := [⟨[.d i64], []⟩]
abbrev R33 : Type := ((Int × Unit) × Unit)
abbrev T33 : Type := (List D_Gate) → Option R33
noncomputable def u33 (f : T33) : (a33).C → Option (OutC o33) := fun (x : (((List D_Gate) × Unit) × Unit)) => f x.1.1
noncomputable def F33 (f : T33) : Fun := ⟨true, runR a33 o33 (u33 f)⟩
noncomputable def pa33_58 : Shape := ⟨[.d (.slice T_Gate), .d i64, .d i64], []⟩
noncomputable def pw33_58 : List Vm.Way := [⟨.exit 0, [], ⟨[], []⟩⟩, ⟨.ret, [2], ⟨[.d i64], []⟩⟩]
abbrev R33_58 : Type := ((Unit × Unit) ⊕ ((Int × Unit) × Unit))
abbrev T33_58 : Type := (List D_Gate) → Int → Int → Option R33_58
noncomputable def u33_58 (f : T33_58) : (pa33_58).C → Option (WayC pw33_58) := fun (x : (((List D_Gate) × Int × Int × Unit) × Unit)) => f x.1.1 x.1.2.1 x.1.2.2.1
noncomputable def b33_58 (k : Nat) (rec : T33_58) : T33_58 := fun t8 t9 t10 =>
  cond (decide (t10 < t9))
    (ix t8 t10 fun e1 =>
    (f88 k ()).bind fun y2 =>
    cond (!(beqD T_Gate e1 y2.1.1))
      (cond (decide (e1.1 < 0))
        (some (.inr ((1, ()), ())))
        (cond (decide (e1.2.1 < 0))
          (some (.inr ((1, ()), ())))
          (cond (decide (e1.1 > (w64 ((w64 (2 * t10)) + 1))))
            (some (.inr ((1, ()), ())))
            (cond (decide (e1.2.1 > (w64 ((w64 (2 * t10)) + 1))))
              (some (.inr ((1, ()), ())))
              ((rec t8 t9 (w64 (t10 + 1))).bind fun y3 =>
              match y3 with
              | .inl y3_0 =>
                some (.inl ((), ()))
              | .inr y3_1 =>
                some (.inr ((y3_1.1.1, ()), ())))))))
      ((rec t8 t9 (w64 (t10 + 1))).bind fun y4 =>
      match y4 with
      | .inl y4_0 =>
        some (.inl ((), ()))
      | .inr y4_1 =>
        some (.inr ((y4_1.1.1, ()), ()))))
    (some (.inl ((), ())))
noncomputable def l33_58 (k : Nat) : Nat → T33_58
  | 0 => fun _ _ _ => none
  | j + 1 => b33_58 k (l33_58 k j)
noncomputable def f33 (k : Nat) : T33 := fun g0 =>
  cond (decide ((g0.length : Int) > 1048576))
    (some ((1, ()), ()))
    ((l33_58 k k g0 (g0.length : Int) 0).bind fun y1 =>
    match y1 with
    | .inl y1_0 =>
      some ((0, ()), ())
    | .inr y1_1 =>
      some ((y1_1.1.1, ()), ()))
noncomputable def C33 (k : Nat) : Nat → Fun := mkC [(88, (F88 (f88 k)))]
noncomputable def H33_58 (k : Nat) : Nat → Option Cut := addH noH 58 ⟨runCut (wrC (bodyOf (codeAt 58 (bd Try.f33) 58))) 45 [8, 9, 10] pa33_58 pw33_58 (u33_58 (l33_58 k k))⟩
theorem e33_58 (k : Nat) (rec : T33_58) (x : (pa33_58).C) : roundF (C33 k) tt noH (bodyOf (codeAt 58 (bd Try.f33) 58)) 116 45 [8, 9, 10] pa33_58 pw33_58 (u33_58 rec) x = u33_58 (b33_58 k rec) x := by kernel_rfl
theorem e33 (k : Nat) (x : (a33).C) : bodyR (C33 k) tt (H33_58 k) Try.f33 a33 o33 x = u33 (f33 k) x := by kernel_rfl
theorem c33_ok (k : Nat) : ∀ f, SoundFn Try.prog f (C33 k f) := (mkC_cons (s88 k) mkC_nil)
theorem h33_58_ok (k : Nat) : ∀ p S, H33_58 k p = some S → ∀ c, At (bd Try.f33) p c → CutOk Try.prog c S :=
  have hC := c33_ok k
  addLoop hC ttOk (draw_ok hC ttOk mixed) noH_ok (by kernel_rfl) (F := fun j => u33_58 (l33_58 k j)) (fun _ => rfl) (fun j x _ h => (e33_58 k (l33_58 k j) x).trans h) k
theorem s33 (k : Nat) : SoundFn Try.prog 33 (F33 (f33 k)) :=
  have hC := c33_ok k
  fnR_sound hC ttOk (draw_ok hC ttOk mixed) Try.func33 (c0 := bd Try.f33) rfl (entry Try.func33 rfl (by decide)) (h33_58_ok k) rfl (fun x _ h => (e33 k x).trans h)
/-! f34 fathom/aig.Value (R) -/
noncomputable def a34 : Shape := ⟨[.d (.slice .bool), .d i64], []⟩
noncomputable def o34 : List Shape := [⟨[.d .bool], []⟩]
abbrev R34 : Type := ((Bool × Unit) × Unit)
abbrev T34 : Type := (List Bool) → Int → Option R34
noncomputable def u34 (f : T34) : (a34).C → Option (OutC o34) := fun (x : (((List Bool) × Int × Unit) × Unit)) => f x.1.1 x.1.2.1
noncomputable def F34 (f : T34) : Fun := ⟨true, runR a34 o34 (u34 f)⟩
noncomputable def f34 (k : Nat) : T34 := fun v0 l1 =>
  cond (decide (l1 < 0))
    (some ((false, ()), ()))
    (cond (decide ((w64 (Int.tdiv l1 2)) > (v0.length : Int)))
      (some ((false, ()), ()))
      (cond (decide (l1 < 2))
        (some (((l1 == 1), ()), ()))
        (ix v0 (w64 ((w64 (Int.tdiv l1 2)) - 1)) fun e1 =>
        some (((!(e1 == ((Int.tmod l1 2) == 1))), ()), ()))))
noncomputable def C34 (k : Nat) : Nat → Fun := mkC []
theorem e34 (k : Nat) (x : (a34).C) : bodyR (C34 k) tt noH Try.f34 a34 o34 x = u34 (f34 k) x := by kernel_rfl
theorem c34_ok (k : Nat) : ∀ f, SoundFn Try.prog f (C34 k f) := mkC_nil
theorem s34 (k : Nat) : SoundFn Try.prog 34 (F34 (f34 k)) :=
  have hC := c34_ok k
  fnR_sound hC ttOk (draw_ok hC ttOk mixed) Try.func34 (c0 := bd Try.f34) rfl (entry Try.func34 rfl (by decide)) noH_ok rfl (fun x _ h => (e34 k x).trans h)
/-! f31 fathom/aig.Eval (R) -/
noncomputable def a31 : Shape := ⟨[.d (.slice T_Gate), .d (.slice .bool)], []⟩
noncomputable def o31 : List Shape := [⟨[.d (.slice .bool)], []⟩]
abbrev R31 : Type := (((List Bool) × Unit) × Unit)
abbrev T31 : Type := (List D_Gate) → (List Bool) → Option R31
noncomputable def u31 (f : T31) : (a31).C → Option (OutC o31) := fun (x : (((List D_Gate) × (List Bool) × Unit) × Unit)) => f x.1.1 x.1.2.1
noncomputable def F31 (f : T31) : Fun := ⟨true, runR a31 o31 (u31 f)⟩
noncomputable def pa31_250 : Shape := ⟨[.d (.slice .bool), .own .bool, .d i64, .d (.slice T_Gate), .d i64, .d i64], []⟩
noncomputable def pw31_250 : List Vm.Way := [⟨.exit 0, [5], ⟨[.own .bool], []⟩⟩]
abbrev R31_250 : Type := (((List Bool) × Unit) × Unit)
abbrev T31_250 : Type := (List Bool) → (List Bool) → Int → (List D_Gate) → Int → Int → Option R31_250
noncomputable def u31_250 (f : T31_250) : (pa31_250).C → Option (WayC pw31_250) := fun (x : (((List Bool) × (List Bool) × Int × (List D_Gate) × Int × Int × Unit) × Unit)) => f x.1.1 x.1.2.1 x.1.2.2.1 x.1.2.2.2.1 x.1.2.2.2.2.1 x.1.2.2.2.2.2.1
noncomputable def b31_250 (k : Nat) (rec : T31_250) : T31_250 := fun ins1 v5 k6 t12 t13 t14 =>
  cond (decide (t14 < t13))
    (ix t12 t14 fun e1 =>
    (f88 k ()).bind fun y2 =>
    cond (beqD T_Gate e1 y2.1.1)
      (cond (decide (k6 < (ins1.length : Int)))
        (ix ins1 k6 fun e3 =>
        gd (decide ((v5.length + 1) * 1 ≤ room)) <|
        (rec ins1 (v5 ++ ([e3] : List Bool)) (w64 (k6 + 1)) t12 t13 (w64 (t14 + 1))).bind fun y4 =>
        some ((y4.1.1, ()), ()))
        (gd (decide ((v5.length + 1) * 1 ≤ room)) <|
        (rec ins1 (v5 ++ ([false] : List Bool)) (w64 (k6 + 1)) t12 t13 (w64 (t14 + 1))).bind fun y5 =>
        some ((y5.1.1, ()), ())))
      ((f34 k v5 e1.1).bind fun y6 =>
      cond y6.1.1
        ((f34 k v5 e1.2.1).bind fun y7 =>
        gd (decide ((v5.length + 1) * 1 ≤ room)) <|
        (rec ins1 (v5 ++ ([y7.1.1] : List Bool)) k6 t12 t13 (w64 (t14 + 1))).bind fun y8 =>
        some ((y8.1.1, ()), ()))
        (gd (decide ((v5.length + 1) * 1 ≤ room)) <|
        (rec ins1 (v5 ++ ([false] : List Bool)) k6 t12 t13 (w64 (t14 + 1))).bind fun y9 =>
        some ((y9.1.1, ()), ()))))
    (some ((v5, ()), ()))
noncomputable def l31_250 (k : Nat) : Nat → T31_250
  | 0 => fun _ _ _ _ _ _ => none
  | j + 1 => b31_250 k (l31_250 k j)
noncomputable def f31 (k : Nat) : T31 := fun g0 ins1 =>
  (f33 k g0).bind fun y1 =>
  cond (y1.1.1 != 0)
    (some (([], ()), ()))
    ((l31_250 k k ins1 [] 0 g0 (g0.length : Int) 0).bind fun y2 =>
    some ((y2.1.1, ()), ()))
noncomputable def C31 (k : Nat) : Nat → Fun := mkC [(33, (F33 (f33 k))), (34, (F34 (f34 k))), (88, (F88 (f88 k)))]
noncomputable def H31_250 (k : Nat) : Nat → Option Cut := addH noH 250 ⟨runCut (wrC (bodyOf (codeAt 250 (bd Try.f31) 250))) 51 [1, 5, 6, 12, 13, 14] pa31_250 pw31_250 (u31_250 (l31_250 k k))⟩
theorem e31_250 (k : Nat) (rec : T31_250) (x : (pa31_250).C) : roundF (C31 k) tt noH (bodyOf (codeAt 250 (bd Try.f31) 250)) 500 51 [1, 5, 6, 12, 13, 14] pa31_250 pw31_250 (u31_250 rec) x = u31_250 (b31_250 k rec) x := by kernel_rfl
theorem e31 (k : Nat) (x : (a31).C) : bodyR (C31 k) tt (H31_250 k) Try.f31 a31 o31 x = u31 (f31 k) x := by kernel_rfl
theorem c31_ok (k : Nat) : ∀ f, SoundFn Try.prog f (C31 k f) := (mkC_cons (s33 k) (mkC_cons (s34 k) (mkC_cons (s88 k) mkC_nil)))
theorem h31_250_ok (k : Nat) : ∀ p S, H31_250 k p = some S → ∀ c, At (bd Try.f31) p c → CutOk Try.prog c S :=
  have hC := c31_ok k
  addLoop hC ttOk (draw_ok hC ttOk mixed) noH_ok (by kernel_rfl) (F := fun j => u31_250 (l31_250 k j)) (fun _ => rfl) (fun j x _ h => (e31_250 k (l31_250 k j) x).trans h) k
theorem s31 (k : Nat) : SoundFn Try.prog 31 (F31 (f31 k)) :=
  have hC := c31_ok k
  fnR_sound hC ttOk (draw_ok hC ttOk mixed) Try.func31 (c0 := bd Try.f31) rfl (entry Try.func31 rfl (by decide)) (h31_250_ok k) rfl (fun x _ h => (e31 k x).trans h)
/-! f32 fathom/fathomref15.May (R) -/
noncomputable def a32 : Shape := ⟨[.d (.slice T_Gate)], []⟩
noncomputable def o32 : List Shape := [⟨[.d .bool], []⟩]
abbrev R32 : Type := ((Bool × Unit) × Unit)
abbrev T32 : Type := (List D_Gate) → Option R32
noncomputable def u32 (f : T32) : (a32).C → Option (OutC o32) := fun (x : (((List D_Gate) × Unit) × Unit)) => f x.1.1
noncomputable def F32 (f : T32) : Fun := ⟨true, runR a32 o32 (u32 f)⟩
noncomputable def pa32_1682 : Shape := ⟨[.d (.slice T_Gate), .d i64, .d .bool], []⟩
noncomputable def pw32_1682 : List Vm.Way := [⟨.normal, [64], ⟨[.d .bool], []⟩⟩]
abbrev R32_1682 : Type := ((Bool × Unit) × Unit)
abbrev T32_1682 : Type := (List D_Gate) → Int → Bool → Option R32_1682
noncomputable def u32_1682 (f : T32_1682) : (pa32_1682).C → Option (WayC pw32_1682) := fun (x : (((List D_Gate) × Int × Bool × Unit) × Unit)) => f x.1.1 x.1.2.1 x.1.2.2.1
noncomputable def l32_1682 (k : Nat) : T32_1682 := fun g0 i3 in4 =>
  cond (!in4)
    (ix g0 i3 fun e1 =>
    cond (decide (e1.1 < 0))
      (some ((true, ()), ()))
      (ix g0 i3 fun e2 =>
      cond (decide (e2.2.1 < 0))
        (some ((true, ()), ()))
        (ix g0 i3 fun e3 =>
        cond (decide (e3.1 > (w64 ((w64 (2 * i3)) + 1))))
          (some ((true, ()), ()))
          (ix g0 i3 fun e4 =>
          some (((decide (e4.2.1 > (w64 ((w64 (2 * i3)) + 1)))), ()), ())))))
    (some ((false, ()), ()))
noncomputable def pa32_26 : Shape := ⟨[.d (.slice T_Gate), .d i64], []⟩
noncomputable def pw32_26 : List Vm.Way := [⟨.exit 0, [], ⟨[], []⟩⟩, ⟨.ret, [2], ⟨[.d .bool], []⟩⟩]
abbrev R32_26 : Type := ((Unit × Unit) ⊕ ((Bool × Unit) × Unit))
abbrev T32_26 : Type := (List D_Gate) → Int → Option R32_26
noncomputable def u32_26 (f : T32_26) : (pa32_26).C → Option (WayC pw32_26) := fun (x : (((List D_Gate) × Int × Unit) × Unit)) => f x.1.1 x.1.2.1
noncomputable def b32_26 (k : Nat) (rec : T32_26) : T32_26 := fun g0 i3 =>
  cond (decide (i3 < (g0.length : Int)))
    (ix g0 i3 fun e1 =>
    cond (e1.1 == (-1))
      (ix g0 i3 fun e2 =>
      (l32_1682 k g0 i3 (e2.2.1 == (-1))).bind fun y3 =>
      cond y3.1.1
        (some (.inr ((false, ()), ())))
        ((rec g0 (w64 (i3 + 1))).bind fun y4 =>
        match y4 with
        | .inl y4_0 =>
          some (.inl ((), ()))
        | .inr y4_1 =>
          some (.inr ((y4_1.1.1, ()), ()))))
      ((l32_1682 k g0 i3 false).bind fun y5 =>
      cond y5.1.1
        (some (.inr ((false, ()), ())))
        ((rec g0 (w64 (i3 + 1))).bind fun y6 =>
        match y6 with
        | .inl y6_0 =>
          some (.inl ((), ()))
        | .inr y6_1 =>
          some (.inr ((y6_1.1.1, ()), ())))))
    (some (.inl ((), ())))
noncomputable def l32_26 (k : Nat) : Nat → T32_26
  | 0 => fun _ _ => none
  | j + 1 => b32_26 k (l32_26 k j)
noncomputable def f32 (k : Nat) : T32 := fun g0 =>
  (l32_26 k k g0 0).bind fun y1 =>
  match y1 with
  | .inl y1_0 =>
    some (((decide ((g0.length : Int) ≤ 1048576)), ()), ())
  | .inr y1_1 =>
    some ((y1_1.1.1, ()), ())
noncomputable def C32 (k : Nat) : Nat → Fun := mkC []
noncomputable def H32_1682 (k : Nat) : Nat → Option Cut := addH noH 1682 ⟨runCut (wrC (codeAt 1682 (bd Try.f32) 1682)) 68 [0, 3, 4] pa32_1682 pw32_1682 (u32_1682 (l32_1682 k))⟩
theorem e32_1682 (k : Nat) (x : (pa32_1682).C) : pieceF (C32 k) tt noH (codeAt 1682 (bd Try.f32) 1682) 1682 68 [0, 3, 4] pa32_1682 pw32_1682 x = u32_1682 (l32_1682 k) x := by kernel_rfl
noncomputable def H32_26 (k : Nat) : Nat → Option Cut := addH (H32_1682 k) 26 ⟨runCut (wrC (bodyOf (codeAt 26 (bd Try.f32) 26))) 68 [0, 3] pa32_26 pw32_26 (u32_26 (l32_26 k k))⟩
theorem e32_26 (k : Nat) (rec : T32_26) (x : (pa32_26).C) : roundF (C32 k) tt (H32_1682 k) (bodyOf (codeAt 26 (bd Try.f32) 26)) 52 68 [0, 3] pa32_26 pw32_26 (u32_26 rec) x = u32_26 (b32_26 k rec) x := by kernel_rfl
theorem e32 (k : Nat) (x : (a32).C) : bodyR (C32 k) tt (H32_26 k) Try.f32 a32 o32 x = u32 (f32 k) x := by kernel_rfl
theorem c32_ok (k : Nat) : ∀ f, SoundFn Try.prog f (C32 k f) := mkC_nil
theorem h32_1682_ok (k : Nat) : ∀ p S, H32_1682 k p = some S → ∀ c, At (bd Try.f32) p c → CutOk Try.prog c S :=
  have hC := c32_ok k
  addPiece hC ttOk (draw_ok hC ttOk mixed) noH_ok (fun x _ h => (e32_1682 k x).trans h)
theorem h32_26_ok (k : Nat) : ∀ p S, H32_26 k p = some S → ∀ c, At (bd Try.f32) p c → CutOk Try.prog c S :=
  have hC := c32_ok k
  addLoop hC ttOk (draw_ok hC ttOk mixed) (h32_1682_ok k) (by kernel_rfl) (F := fun j => u32_26 (l32_26 k j)) (fun _ => rfl) (fun j x _ h => (e32_26 k (l32_26 k j) x).trans h) k
theorem s32 (k : Nat) : SoundFn Try.prog 32 (F32 (f32 k)) :=
  have hC := c32_ok k
  fnR_sound hC ttOk (draw_ok hC ttOk mixed) Try.func32 (c0 := bd Try.f32) rfl (entry Try.func32 rfl (by decide)) (h32_26_ok k) rfl (fun x _ h => (e32 k x).trans h)
/-! f30 fathom/aig.Load (W) -/
noncomputable def a30 : Shape := ⟨[.d (.slice T_Gate)], []⟩
noncomputable def o30 : List Shape := [⟨[.nilp, .d i64], []⟩, ⟨[.ptr 0, .d i64], [.box [.own T_Gate, .mp 1], .map T_Gate i64]⟩]
abbrev R30 : Type := (((Unit × Int × Unit) × Unit) ⊕ ((Unit × Int × Unit) × (((List D_Gate) × Unit × Unit) × (List (D_Gate × Int)) × Unit)))
abbrev T30 : Type := (List D_Gate) → Option R30
noncomputable def u30 (f : T30) : (a30).C → Option (OutC o30) := fun (x : (((List D_Gate) × Unit) × Unit)) => f x.1.1
noncomputable def F30 (f : T30) : Fun := ⟨false, runW a30 o30 (u30 f)⟩
noncomputable def pa30_250 : Shape := ⟨[.ptr 0, .d (.slice T_Gate), .d i64, .d i64], [.box [.own T_Gate, .mp 1], .map T_Gate i64]⟩
noncomputable def pw30_250 : List Vm.Way := [⟨.exit 0, [], ⟨[], [.box [.own T_Gate, .mp 1], .map T_Gate i64]⟩⟩]
abbrev R30_250 : Type := (Unit × (((List D_Gate) × Unit × Unit) × (List (D_Gate × Int)) × Unit))
abbrev T30_250 : Type := (List D_Gate) → Int → Int → (List D_Gate) → (List (D_Gate × Int)) → Option R30_250
noncomputable def u30_250 (f : T30_250) : (pa30_250).C → Option (WayC pw30_250) := fun (x : ((Unit × (List D_Gate) × Int × Int × Unit) × (((List D_Gate) × Unit × Unit) × (List (D_Gate × Int)) × Unit))) => f x.1.2.1 x.1.2.2.1 x.1.2.2.2.1 x.2.1.1 x.2.2.1
noncomputable def b30_250 (k : Nat) (rec : T30_250) : T30_250 := fun t21 t22 t23 o0 o1 =>
  cond (decide (t23 < t22))
    (ix t21 t23 fun e1 =>
    (f88 k ()).bind fun y2 =>
    cond (!(beqD T_Gate e1 y2.1.1))
      (cond (!(mget T_Gate e1 o1).isSome)
        ((rec t21 t22 (w64 (t23 + 1)) o0 (mput T_Gate e1 (w64 (2 * (w64 (t23 + 1)))) o1)).bind fun y3 =>
        some ((), ((y3.2.1.1, (), ()), y3.2.2.1, ())))
        ((rec t21 t22 (w64 (t23 + 1)) o0 o1).bind fun y4 =>
        some ((), ((y4.2.1.1, (), ()), y4.2.2.1, ()))))
      ((rec t21 t22 (w64 (t23 + 1)) o0 o1).bind fun y5 =>
      some ((), ((y5.2.1.1, (), ()), y5.2.2.1, ()))))
    (some ((), ((o0, (), ()), o1, ())))
noncomputable def l30_250 (k : Nat) : Nat → T30_250
  | 0 => fun _ _ _ _ _ => none
  | j + 1 => b30_250 k (l30_250 k j)
noncomputable def f30 (k : Nat) : T30 := fun g0 =>
  (f33 k g0).bind fun y1 =>
  cond (y1.1.1 != 0)
    (some (.inl (((), y1.1.1, ()), ())))
    ((f38 k ()).bind fun y2 =>
    (f87 k g0).bind fun y3 =>
    (l30_250 k k g0 (g0.length : Int) 0 y3.1.1 y2.2.2.1).bind fun y4 =>
    some (.inr (((), 0, ()), ((y4.2.1.1, (), ()), y4.2.2.1, ()))))
noncomputable def C30 (k : Nat) : Nat → Fun := mkC [(33, (F33 (f33 k))), (38, (F38 (f38 k))), (87, (F87 (f87 k))), (88, (F88 (f88 k)))]
noncomputable def H30_250 (k : Nat) : Nat → Option Cut := addH noH 250 ⟨runCut (wrC (bodyOf (codeAt 250 (bd Try.f30) 250))) 54 [5, 21, 22, 23] pa30_250 pw30_250 (u30_250 (l30_250 k k))⟩
theorem e30_250 (k : Nat) (rec : T30_250) (x : (pa30_250).C) : roundF (C30 k) tt noH (bodyOf (codeAt 250 (bd Try.f30) 250)) 500 54 [5, 21, 22, 23] pa30_250 pw30_250 (u30_250 rec) x = u30_250 (b30_250 k rec) x := by kernel_rfl
theorem e30 (k : Nat) (x : (a30).C) : bodyW (C30 k) tt (H30_250 k) Try.f30 a30 o30 x = u30 (f30 k) x := by kernel_rfl
theorem c30_ok (k : Nat) : ∀ f, SoundFn Try.prog f (C30 k f) := (mkC_cons (s33 k) (mkC_cons (s38 k) (mkC_cons (s87 k) (mkC_cons (s88 k) mkC_nil))))
theorem h30_250_ok (k : Nat) : ∀ p S, H30_250 k p = some S → ∀ c, At (bd Try.f30) p c → CutOk Try.prog c S :=
  have hC := c30_ok k
  addLoop hC ttOk (draw_ok hC ttOk mixed) noH_ok (by kernel_rfl) (F := fun j => u30_250 (l30_250 k j)) (fun _ => rfl) (fun j x _ h => (e30_250 k (l30_250 k j) x).trans h) k
theorem s30 (k : Nat) : SoundFn Try.prog 30 (F30 (f30 k)) :=
  have hC := c30_ok k
  fnW_sound hC ttOk (draw_ok hC ttOk mixed) Try.func30 (c0 := bd Try.f30) rfl (entry Try.func30 rfl (by decide)) (h30_250_ok k) (fun x _ h => (e30 k x).trans h)
/-! f35 fathom/fathomref15.True (R) -/
noncomputable def a35 : Shape := ⟨[.d (.slice T_Gate), .d (.slice .bool), .d i64], []⟩
noncomputable def o35 : List Shape := [⟨[.d .bool], []⟩]
abbrev R35 : Type := ((Bool × Unit) × Unit)
abbrev T35 : Type := (List D_Gate) → (List Bool) → Int → Option R35
noncomputable def u35 (f : T35) : (a35).C → Option (OutC o35) := fun (x : (((List D_Gate) × (List Bool) × Int × Unit) × Unit)) => f x.1.1 x.1.2.1 x.1.2.2.1
noncomputable def F35 (f : T35) : Fun := ⟨true, runR a35 o35 (u35 f)⟩
noncomputable def pa35_4026 : Shape := ⟨[.d (.slice T_Gate), .d i64, .d i64, .d i64], []⟩
noncomputable def pw35_4026 : List Vm.Way := [⟨.exit 0, [9], ⟨[.d i64], []⟩⟩]
abbrev R35_4026 : Type := ((Int × Unit) × Unit)
abbrev T35_4026 : Type := (List D_Gate) → Int → Int → Int → Option R35_4026
noncomputable def u35_4026 (f : T35_4026) : (pa35_4026).C → Option (WayC pw35_4026) := fun (x : (((List D_Gate) × Int × Int × Int × Unit) × Unit)) => f x.1.1 x.1.2.1 x.1.2.2.1 x.1.2.2.2.1
noncomputable def b35_4026 (k : Nat) (r35 : T35) (rec : T35_4026) : T35_4026 := fun g0 l2 k9 i10 =>
  cond (decide (i10 < (w64 ((w64 (Int.tdiv l2 2)) - 1))))
    (ix g0 i10 fun e1 =>
    cond (decide (e1.1 < 0))
      ((rec g0 l2 (w64 (k9 + 1)) (w64 (i10 + 1))).bind fun y2 =>
      some ((y2.1.1, ()), ()))
      ((rec g0 l2 k9 (w64 (i10 + 1))).bind fun y3 =>
      some ((y3.1.1, ()), ())))
    (some ((k9, ()), ()))
noncomputable def l35_4026 (k : Nat) (r35 : T35) : Nat → T35_4026
  | 0 => fun _ _ _ _ => none
  | j + 1 => b35_4026 k r35 (l35_4026 k r35 j)
noncomputable def b35 (k : Nat) (r35 : T35) : T35 := fun g0 ins1 l2 =>
  cond (decide (l2 < 2))
    (some (((l2 == 1), ()), ()))
    (ix g0 (w64 ((w64 (Int.tdiv l2 2)) - 1)) fun e1 =>
    cond (decide (e1.1 ≥ 0))
      ((r35 g0 ins1 e1.1).bind fun y2 =>
      cond y2.1.1
        ((r35 g0 ins1 e1.2.1).bind fun y3 =>
        some (((!(y3.1.1 == ((Int.tmod l2 2) == 1))), ()), ()))
        (some (((!(false == ((Int.tmod l2 2) == 1))), ()), ())))
      ((l35_4026 k r35 k g0 l2 0 0).bind fun y4 =>
      cond (decide (y4.1.1 < (ins1.length : Int)))
        (ix ins1 y4.1.1 fun e5 =>
        some (((!(e5 == ((Int.tmod l2 2) == 1))), ()), ()))
        (some (((!(false == ((Int.tmod l2 2) == 1))), ()), ()))))
noncomputable def S35 : Nat → T35
  | 0 => (fun _ _ _ => none)
  | k + 1 => (b35 k (S35 k))
noncomputable def f35 (k : Nat) : T35 := (S35 k)
theorem f35_succ (k : Nat) : f35 (k + 1) = b35 k (f35 k) := rfl
noncomputable def C35 (k : Nat) (r35 : T35) : Nat → Fun := mkC [(35, (F35 r35))]
noncomputable def H35_4026 (k : Nat) (r35 : T35) : Nat → Option Cut := addH noH 4026 ⟨runCut (wrC (bodyOf (codeAt 4026 (bd Try.f35) 4026))) 66 [0, 2, 9, 10] pa35_4026 pw35_4026 (u35_4026 (l35_4026 k r35 k))⟩
theorem e35_4026 (k : Nat) (r35 : T35) (rec : T35_4026) (x : (pa35_4026).C) : roundF (C35 k r35) tt noH (bodyOf (codeAt 4026 (bd Try.f35) 4026)) 8052 66 [0, 2, 9, 10] pa35_4026 pw35_4026 (u35_4026 rec) x = u35_4026 (b35_4026 k r35 rec) x := by kernel_rfl
theorem e35 (k : Nat) (r35 : T35) (x : (a35).C) : bodyR (C35 k r35) tt (H35_4026 k r35) Try.f35 a35 o35 x = u35 (b35 k r35) x := by kernel_rfl
theorem c35_ok (k : Nat) (r35 : T35) (h35 : SoundFn Try.prog 35 (F35 r35)) : ∀ f, SoundFn Try.prog f (C35 k r35 f) := (mkC_cons h35 mkC_nil)
theorem h35_4026_ok (k : Nat) (r35 : T35) (h35 : SoundFn Try.prog 35 (F35 r35)) : ∀ p S, H35_4026 k r35 p = some S → ∀ c, At (bd Try.f35) p c → CutOk Try.prog c S :=
  have hC := c35_ok k r35 h35
  addLoop hC ttOk (draw_ok hC ttOk mixed) noH_ok (by kernel_rfl) (F := fun j => u35_4026 (l35_4026 k r35 j)) (fun _ => rfl) (fun j x _ h => (e35_4026 k r35 (l35_4026 k r35 j) x).trans h) k
theorem q35 (k : Nat) (r35 : T35) (h35 : SoundFn Try.prog 35 (F35 r35)) : SoundFn Try.prog 35 (F35 (b35 k r35)) :=
  have hC := c35_ok k r35 h35
  fnR_sound hC ttOk (draw_ok hC ttOk mixed) Try.func35 (c0 := bd Try.f35) rfl (entry Try.func35 rfl (by decide)) (h35_4026_ok k r35 h35) rfl (fun x _ h => (e35 k r35 x).trans h)
theorem sAll35 : ∀ k : Nat, SoundFn Try.prog 35 (F35 (f35 k))
  | 0 => noneR_ok (by intro x; rfl)
  | k + 1 =>
    have ih := sAll35 k
    q35 k (f35 k) ih
theorem s35 (k : Nat) : SoundFn Try.prog 35 (F35 (f35 k)) := (sAll35 k)
/-! f6 fathom/fathomlaw15.AigLoads (R) -/
noncomputable def a6 : Shape := ⟨[.d (.slice T_Gate), .d (.slice .bool), .d T_Act], []⟩
noncomputable def o6 : List Shape := [⟨[.d .bool], []⟩]
abbrev R6 : Type := ((Bool × Unit) × Unit)
abbrev T6 : Type := (List D_Gate) → (List Bool) → D_Act → Option R6
noncomputable def u6 (f : T6) : (a6).C → Option (OutC o6) := fun (x : (((List D_Gate) × (List Bool) × D_Act × Unit) × Unit)) => f x.1.1 x.1.2.1 x.1.2.2.1
noncomputable def F6 (f : T6) : Fun := ⟨true, runR a6 o6 (u6 f)⟩
noncomputable def pa6_1018 : Shape := ⟨[.d (.slice T_Gate), .d (.slice .bool), .d (.slice .bool), .d i64], []⟩
noncomputable def pw6_1018 : List Vm.Way := [⟨.exit 0, [], ⟨[], []⟩⟩, ⟨.ret, [6], ⟨[.d .bool], []⟩⟩]
abbrev R6_1018 : Type := ((Unit × Unit) ⊕ ((Bool × Unit) × Unit))
abbrev T6_1018 : Type := (List D_Gate) → (List Bool) → (List Bool) → Int → Option R6_1018
noncomputable def u6_1018 (f : T6_1018) : (pa6_1018).C → Option (WayC pw6_1018) := fun (x : (((List D_Gate) × (List Bool) × (List Bool) × Int × Unit) × Unit)) => f x.1.1 x.1.2.1 x.1.2.2.1 x.1.2.2.2.1
noncomputable def b6_1018 (k : Nat) (rec : T6_1018) : T6_1018 := fun g0 ins1 v9 l10 =>
  cond (decide (l10 ≤ (w64 ((w64 (2 * (g0.length : Int))) + 1))))
    ((f34 k v9 l10).bind fun y1 =>
    (f35 k g0 ins1 l10).bind fun y2 =>
    cond (!(y1.1.1 == y2.1.1))
      (some (.inr ((false, ()), ())))
      ((rec g0 ins1 v9 (w64 (l10 + 1))).bind fun y3 =>
      match y3 with
      | .inl y3_0 =>
        some (.inl ((), ()))
      | .inr y3_1 =>
        some (.inr ((y3_1.1.1, ()), ()))))
    (some (.inl ((), ())))
noncomputable def l6_1018 (k : Nat) : Nat → T6_1018
  | 0 => fun _ _ _ _ => none
  | j + 1 => b6_1018 k (l6_1018 k j)
noncomputable def pa6_14 : Shape := ⟨[.d (.slice T_Gate)], []⟩
noncomputable def pw6_14 : List Vm.Way := [⟨.normal, [7, 8], ⟨[.nilp, .d i64], []⟩⟩, ⟨.normal, [7, 8], ⟨[.ptr 0, .d i64], [.box [.own T_Gate, .mp 1], .map T_Gate i64]⟩⟩]
abbrev R6_14 : Type := (((Unit × Int × Unit) × Unit) ⊕ ((Unit × Int × Unit) × (((List D_Gate) × Unit × Unit) × (List (D_Gate × Int)) × Unit)))
abbrev T6_14 : Type := (List D_Gate) → Option R6_14
noncomputable def u6_14 (f : T6_14) : (pa6_14).C → Option (WayC pw6_14) := fun (x : (((List D_Gate) × Unit) × Unit)) => f x.1.1
noncomputable def l6_14 (k : Nat) : T6_14 := fun g0 =>
  (f30 k g0).bind fun y1 =>
  match y1 with
  | .inl y1_0 =>
    some (.inl (((), y1_0.1.2.1, ()), ()))
  | .inr y1_1 =>
    some (.inr (((), y1_1.1.2.1, ()), ((y1_1.2.1.1, (), ()), y1_1.2.2.1, ())))
noncomputable def f6 (k : Nat) : T6 := fun g0 ins1 a2 =>
  cond (decide ((g0.length : Int) > 14))
    ((f21 k ()).bind fun y1 =>
    some ((y1.1.1, ()), ()))
    ((l6_14 k g0).bind fun y2 =>
    match y2 with
    | .inl y2_0 =>
      (f31 k g0 ins1).bind fun y3 =>
      (f32 k g0).bind fun y4 =>
      cond (!y4.1.1)
        (cond (y2_0.1.2.1 == 1)
          (cond ((y3.1.1.length : Int) == 0)
            ((f33 k g0).bind fun y5 =>
            cond (y5.1.1 == 1)
              ((f21 k ()).bind fun y6 =>
              some ((y6.1.1, ()), ()))
              (some ((false, ()), ())))
            (some ((false, ()), ())))
          (some ((false, ()), ())))
        (cond (y2_0.1.2.1 != 0)
          (some ((false, ()), ()))
          (some ((false, ()), ())))
    | .inr y2_1 =>
      (f31 k g0 ins1).bind fun y7 =>
      (f32 k g0).bind fun y8 =>
      cond (!y8.1.1)
        (cond (y2_1.1.2.1 == 1)
          (some ((false, ()), ()))
          (some ((false, ()), ())))
        (cond (y2_1.1.2.1 != 0)
          (some ((false, ()), ()))
          ((f33 k g0).bind fun y9 =>
          cond (y9.1.1 != 0)
            (some ((false, ()), ()))
            (cond ((y7.1.1.length : Int) != (g0.length : Int))
              (some ((false, ()), ()))
              ((f23 k y2_1.2.1.1 y2_1.2.2.1).bind fun y10 =>
              (f22 k y10.1.1 g0).bind fun y11 =>
              cond (!y11.1.1)
                (some ((false, ()), ()))
                ((l6_1018 k k g0 ins1 y7.1.1 0).bind fun y12 =>
                match y12 with
                | .inl y12_0 =>
                  (f34 k y7.1.1 (-1)).bind fun y13 =>
                  cond y13.1.1
                    (some ((false, ()), ()))
                    ((f34 k y7.1.1 (w64 ((w64 (2 * (g0.length : Int))) + 2))).bind fun y14 =>
                    cond y14.1.1
                      (some ((false, ()), ()))
                      ((f19 k a2.2.1 a2.2.2.1 y2_1.2.1.1 y2_1.2.2.1).bind fun y15 =>
                      (f36 k g0 a2.2.1 a2.2.2.1).bind fun y16 =>
                      cond (y15.1.1 == y16.1.2.1)
                        ((f23 k y15.2.1.1 y15.2.2.1).bind fun y17 =>
                        (f22 k y17.1.1 y16.1.1).bind fun y18 =>
                        cond y18.1.1
                          ((f21 k ()).bind fun y19 =>
                          some ((y19.1.1, ()), ()))
                          (some ((false, ()), ())))
                        (some ((false, ()), ()))))
                | .inr y12_1 =>
                  some ((y12_1.1.1, ()), ())))))))
noncomputable def C6 (k : Nat) : Nat → Fun := mkC [(19, (F19 (f19 k))), (21, (F21 (f21 k))), (22, (F22 (f22 k))), (23, (F23 (f23 k))), (30, (F30 (f30 k))), (31, (F31 (f31 k))), (32, (F32 (f32 k))), (33, (F33 (f33 k))), (34, (F34 (f34 k))), (35, (F35 (f35 k))), (36, (F36 (f36 k)))]
noncomputable def H6_1018 (k : Nat) : Nat → Option Cut := addH noH 1018 ⟨runCut (wrC (bodyOf (codeAt 1018 (bd Try.f6) 1018))) 126 [0, 1, 9, 10] pa6_1018 pw6_1018 (u6_1018 (l6_1018 k k))⟩
theorem e6_1018 (k : Nat) (rec : T6_1018) (x : (pa6_1018).C) : roundF (C6 k) tt noH (bodyOf (codeAt 1018 (bd Try.f6) 1018)) 2036 126 [0, 1, 9, 10] pa6_1018 pw6_1018 (u6_1018 rec) x = u6_1018 (b6_1018 k rec) x := by kernel_rfl
noncomputable def H6_14 (k : Nat) : Nat → Option Cut := addH (H6_1018 k) 14 ⟨runCut (wrC (codeAt 14 (bd Try.f6) 14)) 126 [0] pa6_14 pw6_14 (u6_14 (l6_14 k))⟩
theorem e6_14 (k : Nat) (x : (pa6_14).C) : pieceF (C6 k) tt (H6_1018 k) (codeAt 14 (bd Try.f6) 14) 14 126 [0] pa6_14 pw6_14 x = u6_14 (l6_14 k) x := by kernel_rfl
theorem e6 (k : Nat) (x : (a6).C) : bodyR (C6 k) tt (H6_14 k) Try.f6 a6 o6 x = u6 (f6 k) x := by kernel_rfl
theorem c6_ok (k : Nat) : ∀ f, SoundFn Try.prog f (C6 k f) := (mkC_cons (s19 k) (mkC_cons (s21 k) (mkC_cons (s22 k) (mkC_cons (s23 k) (mkC_cons (s30 k) (mkC_cons (s31 k) (mkC_cons (s32 k) (mkC_cons (s33 k) (mkC_cons (s34 k) (mkC_cons (s35 k) (mkC_cons (s36 k) mkC_nil)))))))))))
theorem h6_1018_ok (k : Nat) : ∀ p S, H6_1018 k p = some S → ∀ c, At (bd Try.f6) p c → CutOk Try.prog c S :=
  have hC := c6_ok k
  addLoop hC ttOk (draw_ok hC ttOk mixed) noH_ok (by kernel_rfl) (F := fun j => u6_1018 (l6_1018 k j)) (fun _ => rfl) (fun j x _ h => (e6_1018 k (l6_1018 k j) x).trans h) k
theorem h6_14_ok (k : Nat) : ∀ p S, H6_14 k p = some S → ∀ c, At (bd Try.f6) p c → CutOk Try.prog c S :=
  have hC := c6_ok k
  addPiece hC ttOk (draw_ok hC ttOk mixed) (h6_1018_ok k) (fun x _ h => (e6_14 k x).trans h)
theorem s6 (k : Nat) : SoundFn Try.prog 6 (F6 (f6 k)) :=
  have hC := c6_ok k
  fnR_sound hC ttOk (draw_ok hC ttOk mixed) Try.func6 (c0 := bd Try.f6) rfl (entry Try.func6 rfl (by decide)) (h6_14_ok k) rfl (fun x _ h => (e6 k x).trans h)
/-! f29 (*fathom/aig.Aig).All (W) -/
noncomputable def a29 : Shape := ⟨[.ptr 0, .d (.slice i64)], [.box [.own T_Gate, .mp 1], .map T_Gate i64]⟩
noncomputable def o29 : List Shape := [⟨[.d i64], [.box [.own T_Gate, .mp 1], .map T_Gate i64]⟩]
abbrev R29 : Type := ((Int × Unit) × (((List D_Gate) × Unit × Unit) × (List (D_Gate × Int)) × Unit))
abbrev T29 : Type := (List Int) → (List D_Gate) → (List (D_Gate × Int)) → Option R29
noncomputable def u29 (f : T29) : (a29).C → Option (OutC o29) := fun (x : ((Unit × (List Int) × Unit) × (((List D_Gate) × Unit × Unit) × (List (D_Gate × Int)) × Unit))) => f x.1.2.1 x.2.1.1 x.2.2.1
noncomputable def F29 (f : T29) : Fun := ⟨false, runW a29 o29 (u29 f)⟩
noncomputable def pa29_122 : Shape := ⟨[.ptr 0, .d i64, .d (.slice i64), .d i64, .d i64], [.box [.own T_Gate, .mp 1], .map T_Gate i64]⟩
noncomputable def pw29_122 : List Vm.Way := [⟨.exit 0, [5], ⟨[.d i64], [.box [.own T_Gate, .mp 1], .map T_Gate i64]⟩⟩]
abbrev R29_122 : Type := ((Int × Unit) × (((List D_Gate) × Unit × Unit) × (List (D_Gate × Int)) × Unit))
abbrev T29_122 : Type := Int → (List Int) → Int → Int → (List D_Gate) → (List (D_Gate × Int)) → Option R29_122
noncomputable def u29_122 (f : T29_122) : (pa29_122).C → Option (WayC pw29_122) := fun (x : ((Unit × Int × (List Int) × Int × Int × Unit) × (((List D_Gate) × Unit × Unit) × (List (D_Gate × Int)) × Unit))) => f x.1.2.1 x.1.2.2.1 x.1.2.2.2.1 x.1.2.2.2.2.1 x.2.1.1 x.2.2.1
noncomputable def b29_122 (k : Nat) (rec : T29_122) : T29_122 := fun out5 t17 t18 t19 o0 o1 =>
  cond (decide (t19 < t18))
    (ix t17 t19 fun e1 =>
    (f19 k out5 e1 o0 o1).bind fun y2 =>
    (rec y2.1.1 t17 t18 (w64 (t19 + 1)) y2.2.1.1 y2.2.2.1).bind fun y3 =>
    some ((y3.1.1, ()), ((y3.2.1.1, (), ()), y3.2.2.1, ())))
    (some ((out5, ()), ((o0, (), ()), o1, ())))
noncomputable def l29_122 (k : Nat) : Nat → T29_122
  | 0 => fun _ _ _ _ _ _ => none
  | j + 1 => b29_122 k (l29_122 k j)
noncomputable def f29 (k : Nat) : T29 := fun l1 o0 o1 =>
  (l29_122 k k 1 l1 (l1.length : Int) 0 o0 o1).bind fun y1 =>
  some ((y1.1.1, ()), ((y1.2.1.1, (), ()), y1.2.2.1, ()))
noncomputable def C29 (k : Nat) : Nat → Fun := mkC [(19, (F19 (f19 k)))]
noncomputable def H29_122 (k : Nat) : Nat → Option Cut := addH noH 122 ⟨runCut (wrC (bodyOf (codeAt 122 (bd Try.f29) 122))) 29 [0, 5, 17, 18, 19] pa29_122 pw29_122 (u29_122 (l29_122 k k))⟩
theorem e29_122 (k : Nat) (rec : T29_122) (x : (pa29_122).C) : roundF (C29 k) tt noH (bodyOf (codeAt 122 (bd Try.f29) 122)) 244 29 [0, 5, 17, 18, 19] pa29_122 pw29_122 (u29_122 rec) x = u29_122 (b29_122 k rec) x := by kernel_rfl
theorem e29 (k : Nat) (x : (a29).C) : bodyW (C29 k) tt (H29_122 k) Try.f29 a29 o29 x = u29 (f29 k) x := by kernel_rfl
theorem c29_ok (k : Nat) : ∀ f, SoundFn Try.prog f (C29 k f) := (mkC_cons (s19 k) mkC_nil)
theorem h29_122_ok (k : Nat) : ∀ p S, H29_122 k p = some S → ∀ c, At (bd Try.f29) p c → CutOk Try.prog c S :=
  have hC := c29_ok k
  addLoop hC ttOk (draw_ok hC ttOk mixed) noH_ok (by kernel_rfl) (F := fun j => u29_122 (l29_122 k j)) (fun _ => rfl) (fun j x _ h => (e29_122 k (l29_122 k j) x).trans h) k
theorem s29 (k : Nat) : SoundFn Try.prog 29 (F29 (f29 k)) :=
  have hC := c29_ok k
  fnW_sound hC ttOk (draw_ok hC ttOk mixed) Try.func29 (c0 := bd Try.f29) rfl (entry Try.func29 rfl (by decide)) (h29_122_ok k) (fun x _ h => (e29 k x).trans h)
/-! f7 fathom/fathomlaw15.AigMeans (R) -/
noncomputable def a7 : Shape := ⟨[.d (.slice T_Act), .d (.slice .bool), .d (.slice i64)], []⟩
noncomputable def o7 : List Shape := [⟨[.d .bool], []⟩]
abbrev R7 : Type := ((Bool × Unit) × Unit)
abbrev T7 : Type := (List D_Act) → (List Bool) → (List Int) → Option R7
noncomputable def u7 (f : T7) : (a7).C → Option (OutC o7) := fun (x : (((List D_Act) × (List Bool) × (List Int) × Unit) × Unit)) => f x.1.1 x.1.2.1 x.1.2.2.1
noncomputable def F7 (f : T7) : Fun := ⟨true, runR a7 o7 (u7 f)⟩
noncomputable def pa7_1048570 : Shape := ⟨[.own i64, .d (.slice .bool), .own .bool, .d i64], []⟩
noncomputable def pw7_1048570 : List Vm.Way := [⟨.exit 4, [], ⟨[], []⟩⟩, ⟨.ret, [6], ⟨[.d .bool], []⟩⟩]
abbrev R7_1048570 : Type := ((Unit × Unit) ⊕ ((Bool × Unit) × Unit))
abbrev T7_1048570 : Type := (List Int) → (List Bool) → (List Bool) → Int → Option R7_1048570
noncomputable def u7_1048570 (f : T7_1048570) : (pa7_1048570).C → Option (WayC pw7_1048570) := fun (x : (((List Int) × (List Bool) × (List Bool) × Int × Unit) × Unit)) => f x.1.1 x.1.2.1 x.1.2.2.1 x.1.2.2.2.1
noncomputable def b7_1048570 (k : Nat) (rec : T7_1048570) : T7_1048570 := fun told16 v17 want23 i24 =>
  cond (decide (i24 < (want23.length : Int)))
    (ix told16 i24 fun e1 =>
    cond (decide (e1 < 0))
      (some (.inr ((false, ()), ())))
      (ix told16 i24 fun e2 =>
      (f34 k v17 e2).bind fun y3 =>
      ix want23 i24 fun e4 =>
      cond (!(y3.1.1 == e4))
        (some (.inr ((false, ()), ())))
        ((rec told16 v17 want23 (w64 (i24 + 1))).bind fun y5 =>
        match y5 with
        | .inl y5_0 =>
          some (.inl ((), ()))
        | .inr y5_1 =>
          some (.inr ((y5_1.1.1, ()), ())))))
    (some (.inl ((), ())))
noncomputable def l7_1048570 (k : Nat) : Nat → T7_1048570
  | 0 => fun _ _ _ _ => none
  | j + 1 => b7_1048570 k (l7_1048570 k j)
noncomputable def pa7_524284 : Shape := ⟨[], []⟩
noncomputable def pw7_524284 : List Vm.Way := [⟨.normal, [24], ⟨[.d i64], []⟩⟩]
abbrev R7_524284 : Type := ((Int × Unit) × Unit)
abbrev T7_524284 : Type := Unit → Option R7_524284
noncomputable def u7_524284 (f : T7_524284) : (pa7_524284).C → Option (WayC pw7_524284) := fun (x : (Unit × Unit)) => f ()
noncomputable def l7_524284 (k : Nat) : T7_524284 := fun _ =>
  some ((0, ()), ())
noncomputable def pa7_131070 : Shape := ⟨[.d .bool, .d .bool, .d .bool, .d .bool], []⟩
noncomputable def pw7_131070 : List Vm.Way := [⟨.normal, [23], ⟨[.own .bool], []⟩⟩]
abbrev R7_131070 : Type := (((List Bool) × Unit) × Unit)
abbrev T7_131070 : Type := Bool → Bool → Bool → Bool → Option R7_131070
noncomputable def u7_131070 (f : T7_131070) : (pa7_131070).C → Option (WayC pw7_131070) := fun (x : ((Bool × Bool × Bool × Bool × Unit) × Unit)) => f x.1.1 x.1.2.1 x.1.2.2.1 x.1.2.2.2.1
noncomputable def l7_131070 (k : Nat) : T7_131070 := fun s18 t19 all20 either22 =>
  cond s18
    (cond s18
      (some (([t19, true, (!(s18 == t19)), either22, all20], ()), ()))
      (some (([t19, t19, (!(s18 == t19)), either22, all20], ()), ())))
    (cond s18
      (some (([false, true, (!(s18 == t19)), either22, all20], ()), ()))
      (some (([false, t19, (!(s18 == t19)), either22, all20], ()), ())))
noncomputable def pa7_65530 : Shape := ⟨[.own i64, .d (.slice .bool), .d .bool, .d i64], []⟩
noncomputable def pw7_65530 : List Vm.Way := [⟨.exit 2, [20], ⟨[.d .bool], []⟩⟩]
abbrev R7_65530 : Type := ((Bool × Unit) × Unit)
abbrev T7_65530 : Type := (List Int) → (List Bool) → Bool → Int → Option R7_65530
noncomputable def u7_65530 (f : T7_65530) : (pa7_65530).C → Option (WayC pw7_65530) := fun (x : (((List Int) × (List Bool) × Bool × Int × Unit) × Unit)) => f x.1.1 x.1.2.1 x.1.2.2.1 x.1.2.2.2.1
noncomputable def b7_65530 (k : Nat) (rec : T7_65530) : T7_65530 := fun q11 v17 all20 i21 =>
  cond (decide (i21 < (q11.length : Int)))
    (cond all20
      (ix q11 i21 fun e1 =>
      (f34 k v17 e1).bind fun y2 =>
      (rec q11 v17 y2.1.1 (w64 (i21 + 1))).bind fun y3 =>
      some ((y3.1.1, ()), ()))
      ((rec q11 v17 false (w64 (i21 + 1))).bind fun y4 =>
      some ((y4.1.1, ()), ())))
    (some ((all20, ()), ()))
noncomputable def l7_65530 (k : Nat) : Nat → T7_65530
  | 0 => fun _ _ _ _ => none
  | j + 1 => b7_65530 k (l7_65530 k j)
noncomputable def pa7_506 : Shape := ⟨[.d (.slice i64), .d i64, .own i64, .d i64], []⟩
noncomputable def pw7_506 : List Vm.Way := [⟨.exit 0, [11], ⟨[.own i64], []⟩⟩]
abbrev R7_506 : Type := (((List Int) × Unit) × Unit)
abbrev T7_506 : Type := (List Int) → Int → (List Int) → Int → Option R7_506
noncomputable def u7_506 (f : T7_506) : (pa7_506).C → Option (WayC pw7_506) := fun (x : (((List Int) × Int × (List Int) × Int × Unit) × Unit)) => f x.1.1 x.1.2.1 x.1.2.2.1 x.1.2.2.2.1
noncomputable def b7_506 (k : Nat) (rec : T7_506) : T7_506 := fun p2 n10 q11 i12 =>
  cond (decide (i12 < (p2.length : Int)))
    (ix p2 i12 fun e1 =>
    cond (decide (e1 ≥ 0))
      (ix p2 i12 fun e2 =>
      cond (decide (n10 = 0))
        (none)
        (gd (decide ((q11.length + 1) * 8 ≤ room)) <|
        (rec p2 n10 (q11 ++ ([(Int.tmod e2 n10)] : List Int)) (w64 (i12 + 1))).bind fun y3 =>
        some ((y3.1.1, ()), ())))
      ((rec p2 n10 q11 (w64 (i12 + 1))).bind fun y4 =>
      some ((y4.1.1, ()), ())))
    (some ((q11, ()), ()))
noncomputable def l7_506 (k : Nat) : Nat → T7_506
  | 0 => fun _ _ _ _ => none
  | j + 1 => b7_506 k (l7_506 k j)
noncomputable def f7 (k : Nat) : T7 := fun l0 ins1 p2 =>
  (f18 k l0 25).bind fun y1 =>
  cond (!y1.1.2.2.1)
    (cond y1.1.2.2.1
      ((f21 k ()).bind fun y2 =>
      some ((y2.1.1, ()), ()))
      (some ((false, ()), ())))
    (cond (decide ((p2.length : Int) > 20))
      (cond y1.1.2.2.1
        ((f21 k ()).bind fun y3 =>
        some ((y3.1.1, ()), ()))
        (some ((false, ()), ())))
      ((f20 k y1.2.1.1 y1.2.2.1).bind fun y4 =>
      (l7_506 k k p2 (w64 ((w64 (2 * y4.1.1)) + 2)) [] 0).bind fun y5 =>
      cond (decide ((y5.1.1.length : Int) < 3))
        ((f21 k ()).bind fun y6 =>
        some ((y6.1.1, ()), ()))
        (ix y5.1.1 0 fun e7 =>
        ix y5.1.1 1 fun e8 =>
        ix y5.1.1 2 fun e9 =>
        (f19 k e7 e8 y1.2.1.1 y1.2.2.1).bind fun y10 =>
        (f26 k e7 e8 y10.2.1.1 y10.2.2.1).bind fun y11 =>
        (f27 k e7 e8 y11.2.1.1 y11.2.2.1).bind fun y12 =>
        (f28 k e9 e7 e8 y12.2.1.1 y12.2.2.1).bind fun y13 =>
        (f29 k y5.1.1 y13.2.1.1 y13.2.2.1).bind fun y14 =>
        (f23 k y14.2.1.1 y14.2.2.1).bind fun y15 =>
        (f31 k y15.1.1 ins1).bind fun y16 =>
        (f34 k y16.1.1 e7).bind fun y17 =>
        (f34 k y16.1.1 e8).bind fun y18 =>
        (l7_65530 k k y5.1.1 y16.1.1 true 0).bind fun y19 =>
        (f34 k y16.1.1 e9).bind fun y20 =>
        cond y20.1.1
          ((l7_131070 k y17.1.1 y18.1.1 y19.1.1 y17.1.1).bind fun y21 =>
          (l7_524284 k ()).bind fun y22 =>
          (l7_1048570 k k [y10.1.1, y11.1.1, y12.1.1, y13.1.1, y14.1.1] y16.1.1 y21.1.1 y22.1.1).bind fun y23 =>
          match y23 with
          | .inl y23_0 =>
            (f21 k ()).bind fun y24 =>
            some ((y24.1.1, ()), ())
          | .inr y23_1 =>
            some ((y23_1.1.1, ()), ()))
          ((l7_131070 k y17.1.1 y18.1.1 y19.1.1 y18.1.1).bind fun y25 =>
          (l7_524284 k ()).bind fun y26 =>
          (l7_1048570 k k [y10.1.1, y11.1.1, y12.1.1, y13.1.1, y14.1.1] y16.1.1 y25.1.1 y26.1.1).bind fun y27 =>
          match y27 with
          | .inl y27_0 =>
            (f21 k ()).bind fun y28 =>
            some ((y28.1.1, ()), ())
          | .inr y27_1 =>
            some ((y27_1.1.1, ()), ())))))
noncomputable def C7 (k : Nat) : Nat → Fun := mkC [(18, (F18 (f18 k))), (19, (F19 (f19 k))), (20, (F20 (f20 k))), (21, (F21 (f21 k))), (23, (F23 (f23 k))), (26, (F26 (f26 k))), (27, (F27 (f27 k))), (28, (F28 (f28 k))), (29, (F29 (f29 k))), (31, (F31 (f31 k))), (34, (F34 (f34 k)))]
noncomputable def H7_1048570 (k : Nat) : Nat → Option Cut := addH noH 1048570 ⟨runCut (wrC (bodyOf (codeAt 1048570 (bd Try.f7) 1048570))) 178 [16, 17, 23, 24] pa7_1048570 pw7_1048570 (u7_1048570 (l7_1048570 k k))⟩
theorem e7_1048570 (k : Nat) (rec : T7_1048570) (x : (pa7_1048570).C) : roundF (C7 k) tt noH (bodyOf (codeAt 1048570 (bd Try.f7) 1048570)) 2097140 178 [16, 17, 23, 24] pa7_1048570 pw7_1048570 (u7_1048570 rec) x = u7_1048570 (b7_1048570 k rec) x := by kernel_rfl
noncomputable def H7_524284 (k : Nat) : Nat → Option Cut := addH (H7_1048570 k) 524284 ⟨runCut (wrC (codeAt 524284 (bd Try.f7) 524284)) 178 [] pa7_524284 pw7_524284 (u7_524284 (l7_524284 k))⟩
theorem e7_524284 (k : Nat) (x : (pa7_524284).C) : pieceF (C7 k) tt (H7_1048570 k) (codeAt 524284 (bd Try.f7) 524284) 524284 178 [] pa7_524284 pw7_524284 x = u7_524284 (l7_524284 k) x := by kernel_rfl
noncomputable def H7_131070 (k : Nat) : Nat → Option Cut := addH (H7_524284 k) 131070 ⟨runCut (wrC (codeAt 131070 (bd Try.f7) 131070)) 178 [18, 19, 20, 22] pa7_131070 pw7_131070 (u7_131070 (l7_131070 k))⟩
theorem e7_131070 (k : Nat) (x : (pa7_131070).C) : pieceF (C7 k) tt (H7_524284 k) (codeAt 131070 (bd Try.f7) 131070) 131070 178 [18, 19, 20, 22] pa7_131070 pw7_131070 x = u7_131070 (l7_131070 k) x := by kernel_rfl
noncomputable def H7_65530 (k : Nat) : Nat → Option Cut := addH (H7_131070 k) 65530 ⟨runCut (wrC (bodyOf (codeAt 65530 (bd Try.f7) 65530))) 178 [11, 17, 20, 21] pa7_65530 pw7_65530 (u7_65530 (l7_65530 k k))⟩
theorem e7_65530 (k : Nat) (rec : T7_65530) (x : (pa7_65530).C) : roundF (C7 k) tt (H7_131070 k) (bodyOf (codeAt 65530 (bd Try.f7) 65530)) 131060 178 [11, 17, 20, 21] pa7_65530 pw7_65530 (u7_65530 rec) x = u7_65530 (b7_65530 k rec) x := by kernel_rfl
noncomputable def H7_506 (k : Nat) : Nat → Option Cut := addH (H7_65530 k) 506 ⟨runCut (wrC (bodyOf (codeAt 506 (bd Try.f7) 506))) 178 [2, 10, 11, 12] pa7_506 pw7_506 (u7_506 (l7_506 k k))⟩
theorem e7_506 (k : Nat) (rec : T7_506) (x : (pa7_506).C) : roundF (C7 k) tt (H7_65530 k) (bodyOf (codeAt 506 (bd Try.f7) 506)) 1012 178 [2, 10, 11, 12] pa7_506 pw7_506 (u7_506 rec) x = u7_506 (b7_506 k rec) x := by kernel_rfl
theorem e7 (k : Nat) (x : (a7).C) : bodyR (C7 k) tt (H7_506 k) Try.f7 a7 o7 x = u7 (f7 k) x := by kernel_rfl
theorem c7_ok (k : Nat) : ∀ f, SoundFn Try.prog f (C7 k f) := (mkC_cons (s18 k) (mkC_cons (s19 k) (mkC_cons (s20 k) (mkC_cons (s21 k) (mkC_cons (s23 k) (mkC_cons (s26 k) (mkC_cons (s27 k) (mkC_cons (s28 k) (mkC_cons (s29 k) (mkC_cons (s31 k) (mkC_cons (s34 k) mkC_nil)))))))))))
theorem h7_1048570_ok (k : Nat) : ∀ p S, H7_1048570 k p = some S → ∀ c, At (bd Try.f7) p c → CutOk Try.prog c S :=
  have hC := c7_ok k
  addLoop hC ttOk (draw_ok hC ttOk mixed) noH_ok (by kernel_rfl) (F := fun j => u7_1048570 (l7_1048570 k j)) (fun _ => rfl) (fun j x _ h => (e7_1048570 k (l7_1048570 k j) x).trans h) k
theorem h7_524284_ok (k : Nat) : ∀ p S, H7_524284 k p = some S → ∀ c, At (bd Try.f7) p c → CutOk Try.prog c S :=
  have hC := c7_ok k
  addPiece hC ttOk (draw_ok hC ttOk mixed) (h7_1048570_ok k) (fun x _ h => (e7_524284 k x).trans h)
theorem h7_131070_ok (k : Nat) : ∀ p S, H7_131070 k p = some S → ∀ c, At (bd Try.f7) p c → CutOk Try.prog c S :=
  have hC := c7_ok k
  addPiece hC ttOk (draw_ok hC ttOk mixed) (h7_524284_ok k) (fun x _ h => (e7_131070 k x).trans h)
theorem h7_65530_ok (k : Nat) : ∀ p S, H7_65530 k p = some S → ∀ c, At (bd Try.f7) p c → CutOk Try.prog c S :=
  have hC := c7_ok k
  addLoop hC ttOk (draw_ok hC ttOk mixed) (h7_131070_ok k) (by kernel_rfl) (F := fun j => u7_65530 (l7_65530 k j)) (fun _ => rfl) (fun j x _ h => (e7_65530 k (l7_65530 k j) x).trans h) k
theorem h7_506_ok (k : Nat) : ∀ p S, H7_506 k p = some S → ∀ c, At (bd Try.f7) p c → CutOk Try.prog c S :=
  have hC := c7_ok k
  addLoop hC ttOk (draw_ok hC ttOk mixed) (h7_65530_ok k) (by kernel_rfl) (F := fun j => u7_506 (l7_506 k j)) (fun _ => rfl) (fun j x _ h => (e7_506 k (l7_506 k j) x).trans h) k
theorem s7 (k : Nat) : SoundFn Try.prog 7 (F7 (f7 k)) :=
  have hC := c7_ok k
  fnR_sound hC ttOk (draw_ok hC ttOk mixed) Try.func7 (c0 := bd Try.f7) rfl (entry Try.func7 rfl (by decide)) (h7_506_ok k) rfl (fun x _ h => (e7 k x).trans h)
/-! f37 fathom/vec.Const (R) -/
noncomputable def a37 : Shape := ⟨[.d i64, .d i64], []⟩
noncomputable def o37 : List Shape := [⟨[.d (.slice i64)], []⟩]
abbrev R37 : Type := (((List Int) × Unit) × Unit)
abbrev T37 : Type := Int → Int → Option R37
noncomputable def u37 (f : T37) : (a37).C → Option (OutC o37) := fun (x : ((Int × Int × Unit) × Unit)) => f x.1.1 x.1.2.1
noncomputable def F37 (f : T37) : Fun := ⟨true, runR a37 o37 (u37 f)⟩
noncomputable def pa37_122 : Shape := ⟨[.d i64, .own i64, .d i64, .d i64], []⟩
noncomputable def pw37_122 : List Vm.Way := [⟨.exit 0, [5], ⟨[.own i64], []⟩⟩]
abbrev R37_122 : Type := (((List Int) × Unit) × Unit)
abbrev T37_122 : Type := Int → (List Int) → Int → Int → Option R37_122
noncomputable def u37_122 (f : T37_122) : (pa37_122).C → Option (WayC pw37_122) := fun (x : ((Int × (List Int) × Int × Int × Unit) × Unit)) => f x.1.1 x.1.2.1 x.1.2.2.1 x.1.2.2.2.1
noncomputable def b37_122 (k : Nat) (rec : T37_122) : T37_122 := fun n0 a5 t13 t14 =>
  cond (decide (t14 < t13))
    (cond (decide (t14 < 0))
      (none)
      (gd (decide ((a5.length + 1) * 8 ≤ room)) <|
      (rec n0 (a5 ++ ([(ibits .and .i64 (Int.fdiv n0 (2 ^ (min t14.toNat 64))) 1)] : List Int)) t13 (w64 (t14 + 1))).bind fun y1 =>
      some ((y1.1.1, ()), ())))
    (some ((a5, ()), ()))
noncomputable def l37_122 (k : Nat) : Nat → T37_122
  | 0 => fun _ _ _ _ => none
  | j + 1 => b37_122 k (l37_122 k j)
noncomputable def f37 (k : Nat) : T37 := fun n0 w1 =>
  cond (decide (w1 < 1))
    (some (([], ()), ()))
    (cond (decide (w1 > 16))
      (some (([], ()), ()))
      ((l37_122 k k n0 [] w1 0).bind fun y1 =>
      some ((y1.1.1, ()), ())))
noncomputable def C37 (k : Nat) : Nat → Fun := mkC []
noncomputable def H37_122 (k : Nat) : Nat → Option Cut := addH noH 122 ⟨runCut (wrC (bodyOf (codeAt 122 (bd Try.f37) 122))) 26 [0, 5, 13, 14] pa37_122 pw37_122 (u37_122 (l37_122 k k))⟩
theorem e37_122 (k : Nat) (rec : T37_122) (x : (pa37_122).C) : roundF (C37 k) tt noH (bodyOf (codeAt 122 (bd Try.f37) 122)) 244 26 [0, 5, 13, 14] pa37_122 pw37_122 (u37_122 rec) x = u37_122 (b37_122 k rec) x := by kernel_rfl
theorem e37 (k : Nat) (x : (a37).C) : bodyR (C37 k) tt (H37_122 k) Try.f37 a37 o37 x = u37 (f37 k) x := by kernel_rfl
theorem c37_ok (k : Nat) : ∀ f, SoundFn Try.prog f (C37 k f) := mkC_nil
theorem h37_122_ok (k : Nat) : ∀ p S, H37_122 k p = some S → ∀ c, At (bd Try.f37) p c → CutOk Try.prog c S :=
  have hC := c37_ok k
  addLoop hC ttOk (draw_ok hC ttOk mixed) noH_ok (by kernel_rfl) (F := fun j => u37_122 (l37_122 k j)) (fun _ => rfl) (fun j x _ h => (e37_122 k (l37_122 k j) x).trans h) k
theorem s37 (k : Nat) : SoundFn Try.prog 37 (F37 (f37 k)) :=
  have hC := c37_ok k
  fnR_sound hC ttOk (draw_ok hC ttOk mixed) Try.func37 (c0 := bd Try.f37) rfl (entry Try.func37 rfl (by decide)) (h37_122_ok k) rfl (fun x _ h => (e37 k x).trans h)
/-! f118 slices.Index[[]int,int] (R) -/
noncomputable def a118 : Shape := ⟨[.d (.slice i64), .d i64], []⟩
noncomputable def o118 : List Shape := [⟨[.d i64], []⟩]
abbrev R118 : Type := ((Int × Unit) × Unit)
abbrev T118 : Type := (List Int) → Int → Option R118
noncomputable def u118 (f : T118) : (a118).C → Option (OutC o118) := fun (x : (((List Int) × Int × Unit) × Unit)) => f x.1.1 x.1.2.1
noncomputable def F118 (f : T118) : Fun := ⟨true, runR a118 o118 (u118 f)⟩
noncomputable def pa118_26 : Shape := ⟨[.d (.slice i64), .d i64, .d i64, .d i64], []⟩
noncomputable def pw118_26 : List Vm.Way := [⟨.exit 0, [], ⟨[], []⟩⟩, ⟨.ret, [4], ⟨[.d i64], []⟩⟩]
abbrev R118_26 : Type := ((Unit × Unit) ⊕ ((Int × Unit) × Unit))
abbrev T118_26 : Type := (List Int) → Int → Int → Int → Option R118_26
noncomputable def u118_26 (f : T118_26) : (pa118_26).C → Option (WayC pw118_26) := fun (x : (((List Int) × Int × Int × Int × Unit) × Unit)) => f x.1.1 x.1.2.1 x.1.2.2.1 x.1.2.2.2.1
noncomputable def b118_26 (k : Nat) (rec : T118_26) : T118_26 := fun s0 v1 t7 t8 =>
  cond (decide (t8 < t7))
    (ix s0 t8 fun e1 =>
    cond (v1 == e1)
      (some (.inr ((t8, ()), ())))
      ((rec s0 v1 t7 (w64 (t8 + 1))).bind fun y2 =>
      match y2 with
      | .inl y2_0 =>
        some (.inl ((), ()))
      | .inr y2_1 =>
        some (.inr ((y2_1.1.1, ()), ()))))
    (some (.inl ((), ())))
noncomputable def l118_26 (k : Nat) : Nat → T118_26
  | 0 => fun _ _ _ _ => none
  | j + 1 => b118_26 k (l118_26 k j)
noncomputable def f118 (k : Nat) : T118 := fun s0 v1 =>
  (l118_26 k k s0 v1 (s0.length : Int) 0).bind fun y1 =>
  match y1 with
  | .inl y1_0 =>
    some (((-1), ()), ())
  | .inr y1_1 =>
    some ((y1_1.1.1, ()), ())
noncomputable def C118 (k : Nat) : Nat → Fun := mkC []
noncomputable def H118_26 (k : Nat) : Nat → Option Cut := addH noH 26 ⟨runCut (wrC (bodyOf (codeAt 26 (bd Try.f118) 26))) 19 [0, 1, 7, 8] pa118_26 pw118_26 (u118_26 (l118_26 k k))⟩
theorem e118_26 (k : Nat) (rec : T118_26) (x : (pa118_26).C) : roundF (C118 k) tt noH (bodyOf (codeAt 26 (bd Try.f118) 26)) 52 19 [0, 1, 7, 8] pa118_26 pw118_26 (u118_26 rec) x = u118_26 (b118_26 k rec) x := by kernel_rfl
theorem e118 (k : Nat) (x : (a118).C) : bodyR (C118 k) tt (H118_26 k) Try.f118 a118 o118 x = u118 (f118 k) x := by kernel_rfl
theorem c118_ok (k : Nat) : ∀ f, SoundFn Try.prog f (C118 k f) := mkC_nil
theorem h118_26_ok (k : Nat) : ∀ p S, H118_26 k p = some S → ∀ c, At (bd Try.f118) p c → CutOk Try.prog c S :=
  have hC := c118_ok k
  addLoop hC ttOk (draw_ok hC ttOk mixed) noH_ok (by kernel_rfl) (F := fun j => u118_26 (l118_26 k j)) (fun _ => rfl) (fun j x _ h => (e118_26 k (l118_26 k j) x).trans h) k
theorem s118 (k : Nat) : SoundFn Try.prog 118 (F118 (f118 k)) :=
  have hC := c118_ok k
  fnR_sound hC ttOk (draw_ok hC ttOk mixed) Try.func118 (c0 := bd Try.f118) rfl (entry Try.func118 rfl (by decide)) (h118_26_ok k) rfl (fun x _ h => (e118 k x).trans h)
/-! f112 slices.Contains[[]int,int] (R) -/
noncomputable def a112 : Shape := ⟨[.d (.slice i64), .d i64], []⟩
noncomputable def o112 : List Shape := [⟨[.d .bool], []⟩]
abbrev R112 : Type := ((Bool × Unit) × Unit)
abbrev T112 : Type := (List Int) → Int → Option R112
noncomputable def u112 (f : T112) : (a112).C → Option (OutC o112) := fun (x : (((List Int) × Int × Unit) × Unit)) => f x.1.1 x.1.2.1
noncomputable def F112 (f : T112) : Fun := ⟨true, runR a112 o112 (u112 f)⟩
noncomputable def f112 (k : Nat) : T112 := fun s0 v1 =>
  (f118 k s0 v1).bind fun y1 =>
  some (((decide (y1.1.1 ≥ 0)), ()), ())
noncomputable def C112 (k : Nat) : Nat → Fun := mkC [(118, (F118 (f118 k)))]
theorem e112 (k : Nat) (x : (a112).C) : bodyR (C112 k) tt noH Try.f112 a112 o112 x = u112 (f112 k) x := by kernel_rfl
theorem c112_ok (k : Nat) : ∀ f, SoundFn Try.prog f (C112 k f) := (mkC_cons (s118 k) mkC_nil)
theorem s112 (k : Nat) : SoundFn Try.prog 112 (F112 (f112 k)) :=
  have hC := c112_ok k
  fnR_sound hC ttOk (draw_ok hC ttOk mixed) Try.func112 (c0 := bd Try.f112) rfl (entry Try.func112 rfl (by decide)) noH_ok rfl (fun x _ h => (e112 k x).trans h)
/-! f92 fathom/vec.whole (W) -/
noncomputable def a92 : Shape := ⟨[.own i64], []⟩
noncomputable def o92 : List Shape := [⟨[.nils], []⟩, ⟨[.own i64], []⟩]
abbrev R92 : Type := (((Unit × Unit) × Unit) ⊕ (((List Int) × Unit) × Unit))
abbrev T92 : Type := (List Int) → Option R92
noncomputable def u92 (f : T92) : (a92).C → Option (OutC o92) := fun (x : (((List Int) × Unit) × Unit)) => f x.1.1
noncomputable def F92 (f : T92) : Fun := ⟨false, runW a92 o92 (u92 f)⟩
noncomputable def f92 (k : Nat) : T92 := fun a0 =>
  (f112 k a0 (-1)).bind fun y1 =>
  cond y1.1.1
    (some (.inl (((), ()), ())))
    (some (.inr ((a0, ()), ())))
noncomputable def C92 (k : Nat) : Nat → Fun := mkC [(112, (F112 (f112 k)))]
theorem e92 (k : Nat) (x : (a92).C) : bodyW (C92 k) tt noH Try.f92 a92 o92 x = u92 (f92 k) x := by kernel_rfl
theorem c92_ok (k : Nat) : ∀ f, SoundFn Try.prog f (C92 k f) := (mkC_cons (s112 k) mkC_nil)
theorem s92 (k : Nat) : SoundFn Try.prog 92 (F92 (f92 k)) :=
  have hC := c92_ok k
  fnW_sound hC ttOk (draw_ok hC ttOk mixed) Try.func92 (c0 := bd Try.f92) rfl (entry Try.func92 rfl (by decide)) noH_ok (fun x _ h => (e92 k x).trans h)
/-! f39 fathom/vec.In (W) -/
noncomputable def a39 : Shape := ⟨[.ptr 0, .d i64], [.box [.own T_Gate, .mp 1], .map T_Gate i64]⟩
noncomputable def o39 : List Shape := [⟨[.own i64], [.box [.own T_Gate, .mp 1], .map T_Gate i64]⟩]
abbrev R39 : Type := (((List Int) × Unit) × (((List D_Gate) × Unit × Unit) × (List (D_Gate × Int)) × Unit))
abbrev T39 : Type := Int → (List D_Gate) → (List (D_Gate × Int)) → Option R39
noncomputable def u39 (f : T39) : (a39).C → Option (OutC o39) := fun (x : ((Unit × Int × Unit) × (((List D_Gate) × Unit × Unit) × (List (D_Gate × Int)) × Unit))) => f x.1.2.1 x.2.1.1 x.2.2.1
noncomputable def F39 (f : T39) : Fun := ⟨false, runW a39 o39 (u39 f)⟩
noncomputable def pa39_122 : Shape := ⟨[.ptr 0, .own i64, .d i64, .d i64], [.box [.own T_Gate, .mp 1], .map T_Gate i64]⟩
noncomputable def pw39_122 : List Vm.Way := [⟨.exit 0, [5], ⟨[.own i64], [.box [.own T_Gate, .mp 1], .map T_Gate i64]⟩⟩]
abbrev R39_122 : Type := (((List Int) × Unit) × (((List D_Gate) × Unit × Unit) × (List (D_Gate × Int)) × Unit))
abbrev T39_122 : Type := (List Int) → Int → Int → (List D_Gate) → (List (D_Gate × Int)) → Option R39_122
noncomputable def u39_122 (f : T39_122) : (pa39_122).C → Option (WayC pw39_122) := fun (x : ((Unit × (List Int) × Int × Int × Unit) × (((List D_Gate) × Unit × Unit) × (List (D_Gate × Int)) × Unit))) => f x.1.2.1 x.1.2.2.1 x.1.2.2.2.1 x.2.1.1 x.2.2.1
noncomputable def b39_122 (k : Nat) (rec : T39_122) : T39_122 := fun a5 t12 t13 o0 o1 =>
  cond (decide (t13 < t12))
    ((f25 k o0 o1).bind fun y1 =>
    gd (decide ((a5.length + 1) * 8 ≤ room)) <|
    (rec (a5 ++ ([y1.1.1] : List Int)) t12 (w64 (t13 + 1)) y1.2.1.1 y1.2.2.1).bind fun y2 =>
    some ((y2.1.1, ()), ((y2.2.1.1, (), ()), y2.2.2.1, ())))
    (some ((a5, ()), ((o0, (), ()), o1, ())))
noncomputable def l39_122 (k : Nat) : Nat → T39_122
  | 0 => fun _ _ _ _ _ => none
  | j + 1 => b39_122 k (l39_122 k j)
noncomputable def f39 (k : Nat) : T39 := fun w1 o0 o1 =>
  cond (decide (w1 < 1))
    (some (([], ()), ((o0, (), ()), o1, ())))
    (cond (decide (w1 > 16))
      (some (([], ()), ((o0, (), ()), o1, ())))
      ((l39_122 k k [] w1 0 o0 o1).bind fun y1 =>
      (f92 k y1.1.1).bind fun y2 =>
      match y2 with
      | .inl y2_0 =>
        some (([], ()), ((y1.2.1.1, (), ()), y1.2.2.1, ()))
      | .inr y2_1 =>
        some ((y2_1.1.1, ()), ((y1.2.1.1, (), ()), y1.2.2.1, ()))))
noncomputable def C39 (k : Nat) : Nat → Fun := mkC [(25, (F25 (f25 k))), (1000092, ownF), (92, (F92 (f92 k)))]
noncomputable def H39_122 (k : Nat) : Nat → Option Cut := addH noH 122 ⟨runCut (wrC (bodyOf (codeAt 122 (bd Try.f39) 122))) 23 [0, 5, 12, 13] pa39_122 pw39_122 (u39_122 (l39_122 k k))⟩
theorem e39_122 (k : Nat) (rec : T39_122) (x : (pa39_122).C) : roundF (C39 k) tt noH (bodyOf (codeAt 122 (bd Try.f39) 122)) 244 23 [0, 5, 12, 13] pa39_122 pw39_122 (u39_122 rec) x = u39_122 (b39_122 k rec) x := by kernel_rfl
theorem e39 (k : Nat) (x : (a39).C) : bodyW (C39 k) tt (H39_122 k) Try.f39 a39 o39 x = u39 (f39 k) x := by kernel_rfl
theorem c39_ok (k : Nat) : ∀ f, SoundFn Try.prog f (C39 k f) := (mkC_cons (s25 k) (mkC_cons ownF_ok (mkC_cons (s92 k) mkC_nil)))
theorem h39_122_ok (k : Nat) : ∀ p S, H39_122 k p = some S → ∀ c, At (bd Try.f39) p c → CutOk Try.prog c S :=
  have hC := c39_ok k
  addLoop hC ttOk (draw_ok hC ttOk mixed) noH_ok (by kernel_rfl) (F := fun j => u39_122 (l39_122 k j)) (fun _ => rfl) (fun j x _ h => (e39_122 k (l39_122 k j) x).trans h) k
theorem s39 (k : Nat) : SoundFn Try.prog 39 (F39 (f39 k)) :=
  have hC := c39_ok k
  fnW_sound hC ttOk (draw_ok hC ttOk mixed) Try.func39 (c0 := bd Try.f39) rfl (entry Try.func39 rfl (by decide)) (h39_122_ok k) (fun x _ h => (e39 k x).trans h)
/-! f107 fathom/vec.Check$1 (R) -/
noncomputable def a107 : Shape := ⟨[.d i64, .ptr 0], [.box [.ptr 1], .box [.d (.slice T_Gate), .mp 2], .map T_Gate i64]⟩
noncomputable def o107 : List Shape := [⟨[.d .bool], []⟩]
abbrev R107 : Type := ((Bool × Unit) × Unit)
abbrev T107 : Type := Int → (List D_Gate) → (List (D_Gate × Int)) → Option R107
noncomputable def u107 (f : T107) : (a107).C → Option (OutC o107) := fun (x : ((Int × Unit × Unit) × ((Unit × Unit) × ((List D_Gate) × Unit × Unit) × (List (D_Gate × Int)) × Unit))) => f x.1.1 x.2.2.1.1 x.2.2.2.1
noncomputable def F107 (f : T107) : Fun := ⟨true, runR a107 o107 (u107 f)⟩
noncomputable def f107 (k : Nat) : T107 := fun l0 o1 o2 =>
  (f24 k l0 o1 o2).bind fun y1 =>
  some (((!y1.1.1), ()), ())
noncomputable def C107 (k : Nat) : Nat → Fun := mkC [(24, (F24 (f24 k)))]
theorem e107 (k : Nat) (x : (a107).C) : bodyR (C107 k) tt noH Try.f107 a107 o107 x = u107 (f107 k) x := by kernel_rfl
theorem c107_ok (k : Nat) : ∀ f, SoundFn Try.prog f (C107 k f) := (mkC_cons (s24 k) mkC_nil)
theorem s107 (k : Nat) : SoundFn Try.prog 107 (F107 (f107 k)) :=
  have hC := c107_ok k
  fnR_sound hC ttOk (draw_ok hC ttOk mixed) Try.func107 (c0 := bd Try.f107) rfl (entry Try.func107 rfl (by decide)) noH_ok rfl (fun x _ h => (e107 k x).trans h)
/-! f113 slices.IndexFunc[[]int,int] (R) -/
noncomputable def a113 : Shape := ⟨[.d (.slice i64), .fn 107 [0]], [.box [.ptr 1], .box [.d (.slice T_Gate), .mp 2], .map T_Gate i64]⟩
noncomputable def o113 : List Shape := [⟨[.d i64], []⟩]
abbrev R113 : Type := ((Int × Unit) × Unit)
abbrev T113 : Type := (List Int) → (List D_Gate) → (List (D_Gate × Int)) → Option R113
noncomputable def u113 (f : T113) : (a113).C → Option (OutC o113) := fun (x : (((List Int) × Unit × Unit) × ((Unit × Unit) × ((List D_Gate) × Unit × Unit) × (List (D_Gate × Int)) × Unit))) => f x.1.1 x.2.2.1.1 x.2.2.2.1
noncomputable def F113 (f : T113) : Fun := ⟨true, runR a113 o113 (u113 f)⟩
noncomputable def pa113_26 : Shape := ⟨[.d (.slice i64), .fn 107 [0], .d i64, .d i64], [.lk (.box [.ptr 1]), .lk (.box [.d (.slice T_Gate), .mp 2]), .lk (.map T_Gate i64)]⟩
noncomputable def pw113_26 : List Vm.Way := [⟨.exit 0, [], ⟨[], [.any, .any, .any]⟩⟩, ⟨.ret, [4], ⟨[.d i64], [.any, .any, .any]⟩⟩]
abbrev R113_26 : Type := ((Unit × (Unit × Unit × Unit × Unit)) ⊕ ((Int × Unit) × (Unit × Unit × Unit × Unit)))
abbrev T113_26 : Type := (List Int) → Int → Int → (List D_Gate) → (List (D_Gate × Int)) → Option R113_26
noncomputable def u113_26 (f : T113_26) : (pa113_26).C → Option (WayC pw113_26) := fun (x : (((List Int) × Unit × Int × Int × Unit) × ((Unit × Unit) × ((List D_Gate) × Unit × Unit) × (List (D_Gate × Int)) × Unit))) => f x.1.1 x.1.2.2.1 x.1.2.2.2.1 x.2.2.1.1 x.2.2.2.1
noncomputable def b113_26 (k : Nat) (rec : T113_26) : T113_26 := fun s0 t7 t8 o1 o2 =>
  cond (decide (t8 < t7))
    (ix s0 t8 fun e1 =>
    (f107 k e1 o1 o2).bind fun y2 =>
    cond y2.1.1
      (some (.inr ((t8, ()), ((), (), (), ()))))
      ((rec s0 t7 (w64 (t8 + 1)) o1 o2).bind fun y3 =>
      match y3 with
      | .inl y3_0 =>
        some (.inl ((), ((), (), (), ())))
      | .inr y3_1 =>
        some (.inr ((y3_1.1.1, ()), ((), (), (), ())))))
    (some (.inl ((), ((), (), (), ()))))
noncomputable def l113_26 (k : Nat) : Nat → T113_26
  | 0 => fun _ _ _ _ _ => none
  | j + 1 => b113_26 k (l113_26 k j)
noncomputable def f113 (k : Nat) : T113 := fun s0 o1 o2 =>
  (l113_26 k k s0 (s0.length : Int) 0 o1 o2).bind fun y1 =>
  match y1 with
  | .inl y1_0 =>
    some (((-1), ()), ())
  | .inr y1_1 =>
    some ((y1_1.1.1, ()), ())
noncomputable def C113 (k : Nat) : Nat → Fun := mkC [(107, (F107 (f107 k)))]
noncomputable def H113_26 (k : Nat) : Nat → Option Cut := addH noH 26 ⟨runCut (wrC (bodyOf (codeAt 26 (bd Try.f113) 26))) 19 [0, 1, 7, 8] pa113_26 pw113_26 (u113_26 (l113_26 k k))⟩
theorem e113_26 (k : Nat) (rec : T113_26) (x : (pa113_26).C) : roundF (C113 k) tt noH (bodyOf (codeAt 26 (bd Try.f113) 26)) 52 19 [0, 1, 7, 8] pa113_26 pw113_26 (u113_26 rec) x = u113_26 (b113_26 k rec) x := by kernel_rfl
theorem e113 (k : Nat) (x : (a113).C) : bodyR (C113 k) tt (H113_26 k) Try.f113 a113 o113 x = u113 (f113 k) x := by kernel_rfl
theorem c113_ok (k : Nat) : ∀ f, SoundFn Try.prog f (C113 k f) := (mkC_cons (s107 k) mkC_nil)
theorem h113_26_ok (k : Nat) : ∀ p S, H113_26 k p = some S → ∀ c, At (bd Try.f113) p c → CutOk Try.prog c S :=
  have hC := c113_ok k
  addLoop hC ttOk (draw_ok hC ttOk mixed) noH_ok (by kernel_rfl) (F := fun j => u113_26 (l113_26 k j)) (fun _ => rfl) (fun j x _ h => (e113_26 k (l113_26 k j) x).trans h) k
theorem s113 (k : Nat) : SoundFn Try.prog 113 (F113 (f113 k)) :=
  have hC := c113_ok k
  fnR_sound hC ttOk (draw_ok hC ttOk mixed) Try.func113 (c0 := bd Try.f113) rfl (entry Try.func113 rfl (by decide)) (h113_26_ok k) rfl (fun x _ h => (e113 k x).trans h)
/-! f106 slices.ContainsFunc[[]int,int] (R) -/
noncomputable def a106 : Shape := ⟨[.d (.slice i64), .fn 107 [0]], [.box [.ptr 1], .box [.d (.slice T_Gate), .mp 2], .map T_Gate i64]⟩
noncomputable def o106 : List Shape := [⟨[.d .bool], []⟩]
abbrev R106 : Type := ((Bool × Unit) × Unit)
abbrev T106 : Type := (List Int) → (List D_Gate) → (List (D_Gate × Int)) → Option R106
noncomputable def u106 (f : T106) : (a106).C → Option (OutC o106) := fun (x : (((List Int) × Unit × Unit) × ((Unit × Unit) × ((List D_Gate) × Unit × Unit) × (List (D_Gate × Int)) × Unit))) => f x.1.1 x.2.2.1.1 x.2.2.2.1
noncomputable def F106 (f : T106) : Fun := ⟨true, runR a106 o106 (u106 f)⟩
noncomputable def f106 (k : Nat) : T106 := fun s0 o1 o2 =>
  (f113 k s0 o1 o2).bind fun y1 =>
  some (((decide (y1.1.1 ≥ 0)), ()), ())
noncomputable def C106 (k : Nat) : Nat → Fun := mkC [(113, (F113 (f113 k)))]
theorem e106 (k : Nat) (x : (a106).C) : bodyR (C106 k) tt noH Try.f106 a106 o106 x = u106 (f106 k) x := by kernel_rfl
theorem c106_ok (k : Nat) : ∀ f, SoundFn Try.prog f (C106 k f) := (mkC_cons (s113 k) mkC_nil)
theorem s106 (k : Nat) : SoundFn Try.prog 106 (F106 (f106 k)) :=
  have hC := c106_ok k
  fnR_sound hC ttOk (draw_ok hC ttOk mixed) Try.func106 (c0 := bd Try.f106) rfl (entry Try.func106 rfl (by decide)) noH_ok rfl (fun x _ h => (e106 k x).trans h)
/-! f68 fathom/vec.Check (R) -/
noncomputable def a68 : Shape := ⟨[.ptr 0, .d (.slice i64)], [.box [.d (.slice T_Gate), .mp 1], .map T_Gate i64]⟩
noncomputable def o68 : List Shape := [⟨[.d i64], []⟩]
abbrev R68 : Type := ((Int × Unit) × Unit)
abbrev T68 : Type := (List Int) → (List D_Gate) → (List (D_Gate × Int)) → Option R68
noncomputable def u68 (f : T68) : (a68).C → Option (OutC o68) := fun (x : ((Unit × (List Int) × Unit) × (((List D_Gate) × Unit × Unit) × (List (D_Gate × Int)) × Unit))) => f x.1.2.1 x.2.1.1 x.2.2.1
noncomputable def F68 (f : T68) : Fun := ⟨true, runR a68 o68 (u68 f)⟩
noncomputable def f68 (k : Nat) : T68 := fun a1 o0 o1 =>
  cond (decide ((a1.length : Int) < 1))
    (some ((1, ()), ()))
    (cond (decide ((a1.length : Int) > 16))
      (some ((1, ()), ()))
      ((f106 k a1 o0 o1).bind fun y1 =>
      cond y1.1.1
        (some ((1, ()), ()))
        (some ((0, ()), ()))))
noncomputable def C68 (k : Nat) : Nat → Fun := mkC [(106, (F106 (f106 k)))]
theorem e68 (k : Nat) (x : (a68).C) : bodyR (C68 k) tt noH Try.f68 a68 o68 x = u68 (f68 k) x := by kernel_rfl
theorem c68_ok (k : Nat) : ∀ f, SoundFn Try.prog f (C68 k f) := (mkC_cons (s106 k) mkC_nil)
theorem s68 (k : Nat) : SoundFn Try.prog 68 (F68 (f68 k)) :=
  have hC := c68_ok k
  fnR_sound hC ttOk (draw_ok hC ttOk mixed) Try.func68 (c0 := bd Try.f68) rfl (entry Try.func68 rfl (by decide)) noH_ok rfl (fun x _ h => (e68 k x).trans h)
/-! f95 fathom/vec.pair (R) -/
noncomputable def a95 : Shape := ⟨[.ptr 0, .d (.slice i64), .d (.slice i64)], [.box [.d (.slice T_Gate), .mp 1], .map T_Gate i64]⟩
noncomputable def o95 : List Shape := [⟨[.d .bool], []⟩]
abbrev R95 : Type := ((Bool × Unit) × Unit)
abbrev T95 : Type := (List Int) → (List Int) → (List D_Gate) → (List (D_Gate × Int)) → Option R95
noncomputable def u95 (f : T95) : (a95).C → Option (OutC o95) := fun (x : ((Unit × (List Int) × (List Int) × Unit) × (((List D_Gate) × Unit × Unit) × (List (D_Gate × Int)) × Unit))) => f x.1.2.1 x.1.2.2.1 x.2.1.1 x.2.2.1
noncomputable def F95 (f : T95) : Fun := ⟨true, runR a95 o95 (u95 f)⟩
noncomputable def f95 (k : Nat) : T95 := fun a1 b2 o0 o1 =>
  cond ((a1.length : Int) == (b2.length : Int))
    ((f68 k a1 o0 o1).bind fun y1 =>
    cond (y1.1.1 == 0)
      ((f68 k b2 o0 o1).bind fun y2 =>
      some (((y2.1.1 == 0), ()), ()))
      (some ((false, ()), ())))
    (some ((false, ()), ()))
noncomputable def C95 (k : Nat) : Nat → Fun := mkC [(68, (F68 (f68 k)))]
theorem e95 (k : Nat) (x : (a95).C) : bodyR (C95 k) tt noH Try.f95 a95 o95 x = u95 (f95 k) x := by kernel_rfl
theorem c95_ok (k : Nat) : ∀ f, SoundFn Try.prog f (C95 k f) := (mkC_cons (s68 k) mkC_nil)
theorem s95 (k : Nat) : SoundFn Try.prog 95 (F95 (f95 k)) :=
  have hC := c95_ok k
  fnR_sound hC ttOk (draw_ok hC ttOk mixed) Try.func95 (c0 := bd Try.f95) rfl (entry Try.func95 rfl (by decide)) noH_ok rfl (fun x _ h => (e95 k x).trans h)
/-! f96 fathom/vec.sum (W) -/
noncomputable def a96 : Shape := ⟨[.ptr 0, .d (.slice i64), .d (.slice i64), .d i64], [.box [.own T_Gate, .mp 1], .map T_Gate i64]⟩
noncomputable def o96 : List Shape := [⟨[.own i64, .d i64], [.box [.own T_Gate, .mp 1], .map T_Gate i64]⟩]
abbrev R96 : Type := (((List Int) × Int × Unit) × (((List D_Gate) × Unit × Unit) × (List (D_Gate × Int)) × Unit))
abbrev T96 : Type := (List Int) → (List Int) → Int → (List D_Gate) → (List (D_Gate × Int)) → Option R96
noncomputable def u96 (f : T96) : (a96).C → Option (OutC o96) := fun (x : ((Unit × (List Int) × (List Int) × Int × Unit) × (((List D_Gate) × Unit × Unit) × (List (D_Gate × Int)) × Unit))) => f x.1.2.1 x.1.2.2.1 x.1.2.2.2.1 x.2.1.1 x.2.2.1
noncomputable def F96 (f : T96) : Fun := ⟨false, runW a96 o96 (u96 f)⟩
noncomputable def pa96_58 : Shape := ⟨[.ptr 0, .d (.slice i64), .d (.slice i64), .d i64, .own i64, .d i64, .d i64], [.box [.own T_Gate, .mp 1], .map T_Gate i64]⟩
noncomputable def pw96_58 : List Vm.Way := [⟨.exit 0, [3, 10], ⟨[.d i64, .own i64], [.box [.own T_Gate, .mp 1], .map T_Gate i64]⟩⟩]
abbrev R96_58 : Type := ((Int × (List Int) × Unit) × (((List D_Gate) × Unit × Unit) × (List (D_Gate × Int)) × Unit))
abbrev T96_58 : Type := (List Int) → (List Int) → Int → (List Int) → Int → Int → (List D_Gate) → (List (D_Gate × Int)) → Option R96_58
noncomputable def u96_58 (f : T96_58) : (pa96_58).C → Option (WayC pw96_58) := fun (x : ((Unit × (List Int) × (List Int) × Int × (List Int) × Int × Int × Unit) × (((List D_Gate) × Unit × Unit) × (List (D_Gate × Int)) × Unit))) => f x.1.2.1 x.1.2.2.1 x.1.2.2.2.1 x.1.2.2.2.2.1 x.1.2.2.2.2.2.1 x.1.2.2.2.2.2.2.1 x.2.1.1 x.2.2.1
noncomputable def b96_58 (k : Nat) (rec : T96_58) : T96_58 := fun a1 b2 c3 out10 t14 t15 o0 o1 =>
  cond (decide (t15 < t14))
    (ix a1 t15 fun e1 =>
    ix b2 t15 fun e2 =>
    (f27 k e1 e2 o0 o1).bind fun y3 =>
    (f27 k y3.1.1 c3 y3.2.1.1 y3.2.2.1).bind fun y4 =>
    gd (decide ((out10.length + 1) * 8 ≤ room)) <|
    ix a1 t15 fun e5 =>
    ix b2 t15 fun e6 =>
    (f19 k e5 e6 y4.2.1.1 y4.2.2.1).bind fun y7 =>
    (f19 k y3.1.1 c3 y7.2.1.1 y7.2.2.1).bind fun y8 =>
    (f26 k y7.1.1 y8.1.1 y8.2.1.1 y8.2.2.1).bind fun y9 =>
    (rec a1 b2 y9.1.1 (out10 ++ ([y4.1.1] : List Int)) t14 (w64 (t15 + 1)) y9.2.1.1 y9.2.2.1).bind fun y10 =>
    some ((y10.1.1, y10.1.2.1, ()), ((y10.2.1.1, (), ()), y10.2.2.1, ())))
    (some ((c3, out10, ()), ((o0, (), ()), o1, ())))
noncomputable def l96_58 (k : Nat) : Nat → T96_58
  | 0 => fun _ _ _ _ _ _ _ _ => none
  | j + 1 => b96_58 k (l96_58 k j)
noncomputable def f96 (k : Nat) : T96 := fun a1 b2 c3 o0 o1 =>
  (l96_58 k k a1 b2 c3 [] (a1.length : Int) 0 o0 o1).bind fun y1 =>
  some ((y1.1.2.1, y1.1.1, ()), ((y1.2.1.1, (), ()), y1.2.2.1, ()))
noncomputable def C96 (k : Nat) : Nat → Fun := mkC [(19, (F19 (f19 k))), (26, (F26 (f26 k))), (27, (F27 (f27 k)))]
noncomputable def H96_58 (k : Nat) : Nat → Option Cut := addH noH 58 ⟨runCut (wrC (bodyOf (codeAt 58 (bd Try.f96) 58))) 54 [0, 1, 2, 3, 10, 14, 15] pa96_58 pw96_58 (u96_58 (l96_58 k k))⟩
theorem e96_58 (k : Nat) (rec : T96_58) (x : (pa96_58).C) : roundF (C96 k) tt noH (bodyOf (codeAt 58 (bd Try.f96) 58)) 116 54 [0, 1, 2, 3, 10, 14, 15] pa96_58 pw96_58 (u96_58 rec) x = u96_58 (b96_58 k rec) x := by kernel_rfl
theorem e96 (k : Nat) (x : (a96).C) : bodyW (C96 k) tt (H96_58 k) Try.f96 a96 o96 x = u96 (f96 k) x := by kernel_rfl
theorem c96_ok (k : Nat) : ∀ f, SoundFn Try.prog f (C96 k f) := (mkC_cons (s19 k) (mkC_cons (s26 k) (mkC_cons (s27 k) mkC_nil)))
theorem h96_58_ok (k : Nat) : ∀ p S, H96_58 k p = some S → ∀ c, At (bd Try.f96) p c → CutOk Try.prog c S :=
  have hC := c96_ok k
  addLoop hC ttOk (draw_ok hC ttOk mixed) noH_ok (by kernel_rfl) (F := fun j => u96_58 (l96_58 k j)) (fun _ => rfl) (fun j x _ h => (e96_58 k (l96_58 k j) x).trans h) k
theorem s96 (k : Nat) : SoundFn Try.prog 96 (F96 (f96 k)) :=
  have hC := c96_ok k
  fnW_sound hC ttOk (draw_ok hC ttOk mixed) Try.func96 (c0 := bd Try.f96) rfl (entry Try.func96 rfl (by decide)) (h96_58_ok k) (fun x _ h => (e96 k x).trans h)
/-! f46 fathom/vec.Add (W) -/
noncomputable def a46 : Shape := ⟨[.ptr 0, .d (.slice i64), .d (.slice i64)], [.box [.own T_Gate, .mp 1], .map T_Gate i64]⟩
noncomputable def o46 : List Shape := [⟨[.nils], [.box [.own T_Gate, .mp 1], .map T_Gate i64]⟩, ⟨[.own i64], [.box [.own T_Gate, .mp 1], .map T_Gate i64]⟩]
abbrev R46 : Type := (((Unit × Unit) × (((List D_Gate) × Unit × Unit) × (List (D_Gate × Int)) × Unit)) ⊕ (((List Int) × Unit) × (((List D_Gate) × Unit × Unit) × (List (D_Gate × Int)) × Unit)))
abbrev T46 : Type := (List Int) → (List Int) → (List D_Gate) → (List (D_Gate × Int)) → Option R46
noncomputable def u46 (f : T46) : (a46).C → Option (OutC o46) := fun (x : ((Unit × (List Int) × (List Int) × Unit) × (((List D_Gate) × Unit × Unit) × (List (D_Gate × Int)) × Unit))) => f x.1.2.1 x.1.2.2.1 x.2.1.1 x.2.2.1
noncomputable def F46 (f : T46) : Fun := ⟨false, runW a46 o46 (u46 f)⟩
noncomputable def f46 (k : Nat) : T46 := fun a1 b2 o0 o1 =>
  (f95 k a1 b2 o0 o1).bind fun y1 =>
  cond (!y1.1.1)
    (some (.inl (((), ()), ((o0, (), ()), o1, ()))))
    ((f96 k a1 b2 0 o0 o1).bind fun y2 =>
    (f92 k y2.1.1).bind fun y3 =>
    match y3 with
    | .inl y3_0 =>
      some (.inl (((), ()), ((y2.2.1.1, (), ()), y2.2.2.1, ())))
    | .inr y3_1 =>
      some (.inr ((y3_1.1.1, ()), ((y2.2.1.1, (), ()), y2.2.2.1, ()))))
noncomputable def C46 (k : Nat) : Nat → Fun := mkC [(1000092, ownF), (92, (F92 (f92 k))), (95, (F95 (f95 k))), (96, (F96 (f96 k)))]
theorem e46 (k : Nat) (x : (a46).C) : bodyW (C46 k) tt noH Try.f46 a46 o46 x = u46 (f46 k) x := by kernel_rfl
theorem c46_ok (k : Nat) : ∀ f, SoundFn Try.prog f (C46 k f) := (mkC_cons ownF_ok (mkC_cons (s92 k) (mkC_cons (s95 k) (mkC_cons (s96 k) mkC_nil))))
theorem s46 (k : Nat) : SoundFn Try.prog 46 (F46 (f46 k)) :=
  have hC := c46_ok k
  fnW_sound hC ttOk (draw_ok hC ttOk mixed) Try.func46 (c0 := bd Try.f46) rfl (entry Try.func46 rfl (by decide)) noH_ok (fun x _ h => (e46 k x).trans h)
/-! f93 fathom/fathomref01.Ints (R) -/
noncomputable def a93 : Shape := ⟨[.d (.slice i64), .d (.slice i64)], []⟩
noncomputable def o93 : List Shape := [⟨[.d .bool], []⟩]
abbrev R93 : Type := ((Bool × Unit) × Unit)
abbrev T93 : Type := (List Int) → (List Int) → Option R93
noncomputable def u93 (f : T93) : (a93).C → Option (OutC o93) := fun (x : (((List Int) × (List Int) × Unit) × Unit)) => f x.1.1 x.1.2.1
noncomputable def F93 (f : T93) : Fun := ⟨true, runR a93 o93 (u93 f)⟩
noncomputable def pa93_58 : Shape := ⟨[.d (.slice i64), .d (.slice i64), .d i64], []⟩
noncomputable def pw93_58 : List Vm.Way := [⟨.exit 0, [], ⟨[], []⟩⟩, ⟨.ret, [4], ⟨[.d .bool], []⟩⟩]
abbrev R93_58 : Type := ((Unit × Unit) ⊕ ((Bool × Unit) × Unit))
abbrev T93_58 : Type := (List Int) → (List Int) → Int → Option R93_58
noncomputable def u93_58 (f : T93_58) : (pa93_58).C → Option (WayC pw93_58) := fun (x : (((List Int) × (List Int) × Int × Unit) × Unit)) => f x.1.1 x.1.2.1 x.1.2.2.1
noncomputable def b93_58 (k : Nat) (rec : T93_58) : T93_58 := fun a0 b1 i5 =>
  cond (decide (i5 < (a0.length : Int)))
    (ix a0 i5 fun e1 =>
    ix b1 i5 fun e2 =>
    cond (e1 != e2)
      (some (.inr ((false, ()), ())))
      ((rec a0 b1 (w64 (i5 + 1))).bind fun y3 =>
      match y3 with
      | .inl y3_0 =>
        some (.inl ((), ()))
      | .inr y3_1 =>
        some (.inr ((y3_1.1.1, ()), ()))))
    (some (.inl ((), ())))
noncomputable def l93_58 (k : Nat) : Nat → T93_58
  | 0 => fun _ _ _ => none
  | j + 1 => b93_58 k (l93_58 k j)
noncomputable def f93 (k : Nat) : T93 := fun a0 b1 =>
  cond ((a0.length : Int) != (b1.length : Int))
    (some ((false, ()), ()))
    ((l93_58 k k a0 b1 0).bind fun y1 =>
    match y1 with
    | .inl y1_0 =>
      some ((true, ()), ())
    | .inr y1_1 =>
      some ((y1_1.1.1, ()), ()))
noncomputable def C93 (k : Nat) : Nat → Fun := mkC []
noncomputable def H93_58 (k : Nat) : Nat → Option Cut := addH noH 58 ⟨runCut (wrC (bodyOf (codeAt 58 (bd Try.f93) 58))) 26 [0, 1, 5] pa93_58 pw93_58 (u93_58 (l93_58 k k))⟩
theorem e93_58 (k : Nat) (rec : T93_58) (x : (pa93_58).C) : roundF (C93 k) tt noH (bodyOf (codeAt 58 (bd Try.f93) 58)) 116 26 [0, 1, 5] pa93_58 pw93_58 (u93_58 rec) x = u93_58 (b93_58 k rec) x := by kernel_rfl
theorem e93 (k : Nat) (x : (a93).C) : bodyR (C93 k) tt (H93_58 k) Try.f93 a93 o93 x = u93 (f93 k) x := by kernel_rfl
theorem c93_ok (k : Nat) : ∀ f, SoundFn Try.prog f (C93 k f) := mkC_nil
theorem h93_58_ok (k : Nat) : ∀ p S, H93_58 k p = some S → ∀ c, At (bd Try.f93) p c → CutOk Try.prog c S :=
  have hC := c93_ok k
  addLoop hC ttOk (draw_ok hC ttOk mixed) noH_ok (by kernel_rfl) (F := fun j => u93_58 (l93_58 k j)) (fun _ => rfl) (fun j x _ h => (e93_58 k (l93_58 k j) x).trans h) k
theorem s93 (k : Nat) : SoundFn Try.prog 93 (F93 (f93 k)) :=
  have hC := c93_ok k
  fnR_sound hC ttOk (draw_ok hC ttOk mixed) Try.func93 (c0 := bd Try.f93) rfl (entry Try.func93 rfl (by decide)) (h93_58_ok k) rfl (fun x _ h => (e93 k x).trans h)
/-! f40 fathom/fathomlaw16.awake (R) -/
noncomputable def a40 : Shape := ⟨[], []⟩
noncomputable def o40 : List Shape := [⟨[.d .bool], []⟩]
abbrev R40 : Type := ((Bool × Unit) × Unit)
abbrev T40 : Type := Unit → Option R40
noncomputable def u40 (f : T40) : (a40).C → Option (OutC o40) := fun (x : (Unit × Unit)) => f ()
noncomputable def F40 (f : T40) : Fun := ⟨true, runR a40 o40 (u40 f)⟩
noncomputable def f40 (k : Nat) : T40 := fun _ =>
  (f38 k ()).bind fun y1 =>
  (f37 k 3 3).bind fun y2 =>
  (f37 k 6 3).bind fun y3 =>
  (f46 k y2.1.1 y3.1.1 y1.2.1.1 y1.2.2.1).bind fun y4 =>
  match y4 with
  | .inl y4_0 =>
    (f93 k [] [1, 0, 0]).bind fun y5 =>
    some ((y5.1.1, ()), ())
  | .inr y4_1 =>
    (f93 k y4_1.1.1 [1, 0, 0]).bind fun y6 =>
    some ((y6.1.1, ()), ())
noncomputable def C40 (k : Nat) : Nat → Fun := mkC [(37, (F37 (f37 k))), (38, (F38 (f38 k))), (46, (F46 (f46 k))), (93, (F93 (f93 k)))]
theorem e40 (k : Nat) (x : (a40).C) : bodyR (C40 k) tt noH Try.f40 a40 o40 x = u40 (f40 k) x := by kernel_rfl
theorem c40_ok (k : Nat) : ∀ f, SoundFn Try.prog f (C40 k f) := (mkC_cons (s37 k) (mkC_cons (s38 k) (mkC_cons (s46 k) (mkC_cons (s93 k) mkC_nil))))
theorem s40 (k : Nat) : SoundFn Try.prog 40 (F40 (f40 k)) :=
  have hC := c40_ok k
  fnR_sound hC ttOk (draw_ok hC ttOk mixed) Try.func40 (c0 := bd Try.f40) rfl (entry Try.func40 rfl (by decide)) noH_ok rfl (fun x _ h => (e40 k x).trans h)
/-! f43 fathom/vec.Number (R) -/
noncomputable def a43 : Shape := ⟨[.d (.slice .bool), .d (.slice i64)], []⟩
noncomputable def o43 : List Shape := [⟨[.d i64], []⟩]
abbrev R43 : Type := ((Int × Unit) × Unit)
abbrev T43 : Type := (List Bool) → (List Int) → Option R43
noncomputable def u43 (f : T43) : (a43).C → Option (OutC o43) := fun (x : (((List Bool) × (List Int) × Unit) × Unit)) => f x.1.1 x.1.2.1
noncomputable def F43 (f : T43) : Fun := ⟨true, runR a43 o43 (u43 f)⟩
noncomputable def pa43_122 : Shape := ⟨[.d (.slice .bool), .d i64, .d (.slice i64), .d i64, .d i64], []⟩
noncomputable def pw43_122 : List Vm.Way := [⟨.exit 0, [5], ⟨[.d i64], []⟩⟩]
abbrev R43_122 : Type := ((Int × Unit) × Unit)
abbrev T43_122 : Type := (List Bool) → Int → (List Int) → Int → Int → Option R43_122
noncomputable def u43_122 (f : T43_122) : (pa43_122).C → Option (WayC pw43_122) := fun (x : (((List Bool) × Int × (List Int) × Int × Int × Unit) × Unit)) => f x.1.1 x.1.2.1 x.1.2.2.1 x.1.2.2.2.1 x.1.2.2.2.2.1
noncomputable def b43_122 (k : Nat) (rec : T43_122) : T43_122 := fun v0 n5 t11 t12 t13 =>
  cond (decide (t13 < t12))
    (ix t11 t13 fun e1 =>
    (f34 k v0 e1).bind fun y2 =>
    cond y2.1.1
      (cond (decide (t13 < 0))
        (none)
        ((rec v0 (ibits .or .i64 n5 (w64 (1 * 2 ^ (min t13.toNat 64)))) t11 t12 (w64 (t13 + 1))).bind fun y3 =>
        some ((y3.1.1, ()), ())))
      ((rec v0 n5 t11 t12 (w64 (t13 + 1))).bind fun y4 =>
      some ((y4.1.1, ()), ())))
    (some ((n5, ()), ()))
noncomputable def l43_122 (k : Nat) : Nat → T43_122
  | 0 => fun _ _ _ _ _ => none
  | j + 1 => b43_122 k (l43_122 k j)
noncomputable def f43 (k : Nat) : T43 := fun v0 a1 =>
  cond (decide ((a1.length : Int) > 16))
    (some ((0, ()), ()))
    ((l43_122 k k v0 0 a1 (a1.length : Int) 0).bind fun y1 =>
    some ((y1.1.1, ()), ()))
noncomputable def C43 (k : Nat) : Nat → Fun := mkC [(34, (F34 (f34 k)))]
noncomputable def H43_122 (k : Nat) : Nat → Option Cut := addH noH 122 ⟨runCut (wrC (bodyOf (codeAt 122 (bd Try.f43) 122))) 27 [0, 5, 11, 12, 13] pa43_122 pw43_122 (u43_122 (l43_122 k k))⟩
theorem e43_122 (k : Nat) (rec : T43_122) (x : (pa43_122).C) : roundF (C43 k) tt noH (bodyOf (codeAt 122 (bd Try.f43) 122)) 244 27 [0, 5, 11, 12, 13] pa43_122 pw43_122 (u43_122 rec) x = u43_122 (b43_122 k rec) x := by kernel_rfl
theorem e43 (k : Nat) (x : (a43).C) : bodyR (C43 k) tt (H43_122 k) Try.f43 a43 o43 x = u43 (f43 k) x := by kernel_rfl
theorem c43_ok (k : Nat) : ∀ f, SoundFn Try.prog f (C43 k f) := (mkC_cons (s34 k) mkC_nil)
theorem h43_122_ok (k : Nat) : ∀ p S, H43_122 k p = some S → ∀ c, At (bd Try.f43) p c → CutOk Try.prog c S :=
  have hC := c43_ok k
  addLoop hC ttOk (draw_ok hC ttOk mixed) noH_ok (by kernel_rfl) (F := fun j => u43_122 (l43_122 k j)) (fun _ => rfl) (fun j x _ h => (e43_122 k (l43_122 k j) x).trans h) k
theorem s43 (k : Nat) : SoundFn Try.prog 43 (F43 (f43 k)) :=
  have hC := c43_ok k
  fnR_sound hC ttOk (draw_ok hC ttOk mixed) Try.func43 (c0 := bd Try.f43) rfl (entry Try.func43 rfl (by decide)) (h43_122_ok k) rfl (fun x _ h => (e43 k x).trans h)
/-! f55 fathom/fathomref16.Power (R) -/
noncomputable def a55 : Shape := ⟨[.d i64], []⟩
noncomputable def o55 : List Shape := [⟨[.d i64], []⟩]
abbrev R55 : Type := ((Int × Unit) × Unit)
abbrev T55 : Type := Int → Option R55
noncomputable def u55 (f : T55) : (a55).C → Option (OutC o55) := fun (x : ((Int × Unit) × Unit)) => f x.1.1
noncomputable def F55 (f : T55) : Fun := ⟨true, runR a55 o55 (u55 f)⟩
noncomputable def f55 (k : Nat) : T55 := fun w0 =>
  cond (decide (w0 < 0))
    (none)
    (some (((w64 (1 * 2 ^ (min w0.toNat 64))), ()), ()))
noncomputable def C55 (k : Nat) : Nat → Fun := mkC []
theorem e55 (k : Nat) (x : (a55).C) : bodyR (C55 k) tt noH Try.f55 a55 o55 x = u55 (f55 k) x := by kernel_rfl
theorem c55_ok (k : Nat) : ∀ f, SoundFn Try.prog f (C55 k f) := mkC_nil
theorem s55 (k : Nat) : SoundFn Try.prog 55 (F55 (f55 k)) :=
  have hC := c55_ok k
  fnR_sound hC ttOk (draw_ok hC ttOk mixed) Try.func55 (c0 := bd Try.f55) rfl (entry Try.func55 rfl (by decide)) noH_ok rfl (fun x _ h => (e55 k x).trans h)
/-! f42 fathom/fathomref16.Mod (R) -/
noncomputable def a42 : Shape := ⟨[.d i64, .d i64], []⟩
noncomputable def o42 : List Shape := [⟨[.d i64], []⟩]
abbrev R42 : Type := ((Int × Unit) × Unit)
abbrev T42 : Type := Int → Int → Option R42
noncomputable def u42 (f : T42) : (a42).C → Option (OutC o42) := fun (x : ((Int × Int × Unit) × Unit)) => f x.1.1 x.1.2.1
noncomputable def F42 (f : T42) : Fun := ⟨true, runR a42 o42 (u42 f)⟩
noncomputable def f42 (k : Nat) : T42 := fun n0 w1 =>
  (f55 k w1).bind fun y1 =>
  cond (decide (y1.1.1 = 0))
    (none)
    (cond (decide ((Int.tmod n0 y1.1.1) < 0))
      ((f55 k w1).bind fun y2 =>
      some (((w64 ((Int.tmod n0 y1.1.1) + y2.1.1)), ()), ()))
      (some (((Int.tmod n0 y1.1.1), ()), ())))
noncomputable def C42 (k : Nat) : Nat → Fun := mkC [(55, (F55 (f55 k)))]
theorem e42 (k : Nat) (x : (a42).C) : bodyR (C42 k) tt noH Try.f42 a42 o42 x = u42 (f42 k) x := by kernel_rfl
theorem c42_ok (k : Nat) : ∀ f, SoundFn Try.prog f (C42 k f) := (mkC_cons (s55 k) mkC_nil)
theorem s42 (k : Nat) : SoundFn Try.prog 42 (F42 (f42 k)) :=
  have hC := c42_ok k
  fnR_sound hC ttOk (draw_ok hC ttOk mixed) Try.func42 (c0 := bd Try.f42) rfl (entry Try.func42 rfl (by decide)) noH_ok rfl (fun x _ h => (e42 k x).trans h)
/-! f41 fathom/fathomref16.Bit (R) -/
noncomputable def a41 : Shape := ⟨[.d i64, .d i64], []⟩
noncomputable def o41 : List Shape := [⟨[.d i64], []⟩]
abbrev R41 : Type := ((Int × Unit) × Unit)
abbrev T41 : Type := Int → Int → Option R41
noncomputable def u41 (f : T41) : (a41).C → Option (OutC o41) := fun (x : ((Int × Int × Unit) × Unit)) => f x.1.1 x.1.2.1
noncomputable def F41 (f : T41) : Fun := ⟨true, runR a41 o41 (u41 f)⟩
noncomputable def pa41_26 : Shape := ⟨[.d i64, .d i64, .d i64], []⟩
noncomputable def pw41_26 : List Vm.Way := [⟨.exit 0, [0], ⟨[.d i64], []⟩⟩]
abbrev R41_26 : Type := ((Int × Unit) × Unit)
abbrev T41_26 : Type := Int → Int → Int → Option R41_26
noncomputable def u41_26 (f : T41_26) : (pa41_26).C → Option (WayC pw41_26) := fun (x : ((Int × Int × Int × Unit) × Unit)) => f x.1.1 x.1.2.1 x.1.2.2.1
noncomputable def b41_26 (k : Nat) (rec : T41_26) : T41_26 := fun n0 i1 k5 =>
  cond (decide (k5 < i1))
    ((rec (w64 (Int.tdiv n0 2)) i1 (w64 (k5 + 1))).bind fun y1 =>
    some ((y1.1.1, ()), ()))
    (some ((n0, ()), ()))
noncomputable def l41_26 (k : Nat) : Nat → T41_26
  | 0 => fun _ _ _ => none
  | j + 1 => b41_26 k (l41_26 k j)
noncomputable def f41 (k : Nat) : T41 := fun n0 i1 =>
  (l41_26 k k n0 i1 0).bind fun y1 =>
  some (((Int.tmod y1.1.1 2), ()), ())
noncomputable def C41 (k : Nat) : Nat → Fun := mkC []
noncomputable def H41_26 (k : Nat) : Nat → Option Cut := addH noH 26 ⟨runCut (wrC (bodyOf (codeAt 26 (bd Try.f41) 26))) 15 [0, 1, 5] pa41_26 pw41_26 (u41_26 (l41_26 k k))⟩
theorem e41_26 (k : Nat) (rec : T41_26) (x : (pa41_26).C) : roundF (C41 k) tt noH (bodyOf (codeAt 26 (bd Try.f41) 26)) 52 15 [0, 1, 5] pa41_26 pw41_26 (u41_26 rec) x = u41_26 (b41_26 k rec) x := by kernel_rfl
theorem e41 (k : Nat) (x : (a41).C) : bodyR (C41 k) tt (H41_26 k) Try.f41 a41 o41 x = u41 (f41 k) x := by kernel_rfl
theorem c41_ok (k : Nat) : ∀ f, SoundFn Try.prog f (C41 k f) := mkC_nil
theorem h41_26_ok (k : Nat) : ∀ p S, H41_26 k p = some S → ∀ c, At (bd Try.f41) p c → CutOk Try.prog c S :=
  have hC := c41_ok k
  addLoop hC ttOk (draw_ok hC ttOk mixed) noH_ok (by kernel_rfl) (F := fun j => u41_26 (l41_26 k j)) (fun _ => rfl) (fun j x _ h => (e41_26 k (l41_26 k j) x).trans h) k
theorem s41 (k : Nat) : SoundFn Try.prog 41 (F41 (f41 k)) :=
  have hC := c41_ok k
  fnR_sound hC ttOk (draw_ok hC ttOk mixed) Try.func41 (c0 := bd Try.f41) rfl (entry Try.func41 rfl (by decide)) (h41_26_ok k) rfl (fun x _ h => (e41 k x).trans h)
/-! f8 fathom/fathomlaw16.VecConsts (R) -/
noncomputable def a8 : Shape := ⟨[.d i64, .d i64], []⟩
noncomputable def o8 : List Shape := [⟨[.d .bool], []⟩]
abbrev R8 : Type := ((Bool × Unit) × Unit)
abbrev T8 : Type := Int → Int → Option R8
noncomputable def u8 (f : T8) : (a8).C → Option (OutC o8) := fun (x : ((Int × Int × Unit) × Unit)) => f x.1.1 x.1.2.1
noncomputable def F8 (f : T8) : Fun := ⟨true, runR a8 o8 (u8 f)⟩
noncomputable def pa8_1018 : Shape := ⟨[.d i64, .d i64, .d (.slice i64), .own i64, .d i64], []⟩
noncomputable def pw8_1018 : List Vm.Way := [⟨.exit 0, [], ⟨[], []⟩⟩, ⟨.ret, [4], ⟨[.d .bool], []⟩⟩]
abbrev R8_1018 : Type := ((Unit × Unit) ⊕ ((Bool × Unit) × Unit))
abbrev T8_1018 : Type := Int → Int → (List Int) → (List Int) → Int → Option R8_1018
noncomputable def u8_1018 (f : T8_1018) : (pa8_1018).C → Option (WayC pw8_1018) := fun (x : ((Int × Int × (List Int) × (List Int) × Int × Unit) × Unit)) => f x.1.1 x.1.2.1 x.1.2.2.1 x.1.2.2.2.1 x.1.2.2.2.2.1
noncomputable def b8_1018 (k : Nat) (rec : T8_1018) : T8_1018 := fun n0 w1 c5 i7 k8 =>
  cond (decide (k8 < w1))
    (ix c5 k8 fun e1 =>
    (f42 k n0 w1).bind fun y2 =>
    (f41 k y2.1.1 k8).bind fun y3 =>
    cond (e1 != y3.1.1)
      (some (.inr ((false, ()), ())))
      (ix i7 k8 fun e4 =>
      cond (e4 != (w64 ((w64 (2 * k8)) + 2)))
        (some (.inr ((false, ()), ())))
        ((rec n0 w1 c5 i7 (w64 (k8 + 1))).bind fun y5 =>
        match y5 with
        | .inl y5_0 =>
          some (.inl ((), ()))
        | .inr y5_1 =>
          some (.inr ((y5_1.1.1, ()), ())))))
    (some (.inl ((), ())))
noncomputable def l8_1018 (k : Nat) : Nat → T8_1018
  | 0 => fun _ _ _ _ _ => none
  | j + 1 => b8_1018 k (l8_1018 k j)
noncomputable def f8 (k : Nat) : T8 := fun n0 w1 =>
  (f37 k n0 w1).bind fun y1 =>
  (f38 k ()).bind fun y2 =>
  (f39 k w1 y2.2.1.1 y2.2.2.1).bind fun y3 =>
  cond (decide (w1 < 1))
    (cond ((y1.1.1.length : Int) == 0)
      (cond ((y3.1.1.length : Int) == 0)
        ((f40 k ()).bind fun y4 =>
        some ((y4.1.1, ()), ()))
        (some ((false, ()), ())))
      (some ((false, ()), ())))
    (cond (decide (w1 > 16))
      (cond ((y1.1.1.length : Int) == 0)
        (cond ((y3.1.1.length : Int) == 0)
          ((f40 k ()).bind fun y5 =>
          some ((y5.1.1, ()), ()))
          (some ((false, ()), ())))
        (some ((false, ()), ())))
      (cond ((y1.1.1.length : Int) != w1)
        (some ((false, ()), ()))
        (cond ((y3.1.1.length : Int) != w1)
          (some ((false, ()), ()))
          ((f20 k y3.2.1.1 y3.2.2.1).bind fun y6 =>
          cond (y6.1.1 != w1)
            (some ((false, ()), ()))
            ((l8_1018 k k n0 w1 y1.1.1 y3.1.1 0).bind fun y7 =>
            match y7 with
            | .inl y7_0 =>
              (f43 k [] y1.1.1).bind fun y8 =>
              (f42 k n0 w1).bind fun y9 =>
              cond (y8.1.1 == y9.1.1)
                ((f40 k ()).bind fun y10 =>
                some ((y10.1.1, ()), ()))
                (some ((false, ()), ()))
            | .inr y7_1 =>
              some ((y7_1.1.1, ()), ()))))))
noncomputable def C8 (k : Nat) : Nat → Fun := mkC [(20, (F20 (f20 k))), (37, (F37 (f37 k))), (38, (F38 (f38 k))), (39, (F39 (f39 k))), (40, (F40 (f40 k))), (41, (F41 (f41 k))), (42, (F42 (f42 k))), (43, (F43 (f43 k)))]
noncomputable def H8_1018 (k : Nat) : Nat → Option Cut := addH noH 1018 ⟨runCut (wrC (bodyOf (codeAt 1018 (bd Try.f8) 1018))) 83 [0, 1, 5, 7, 8] pa8_1018 pw8_1018 (u8_1018 (l8_1018 k k))⟩
theorem e8_1018 (k : Nat) (rec : T8_1018) (x : (pa8_1018).C) : roundF (C8 k) tt noH (bodyOf (codeAt 1018 (bd Try.f8) 1018)) 2036 83 [0, 1, 5, 7, 8] pa8_1018 pw8_1018 (u8_1018 rec) x = u8_1018 (b8_1018 k rec) x := by kernel_rfl
theorem e8 (k : Nat) (x : (a8).C) : bodyR (C8 k) tt (H8_1018 k) Try.f8 a8 o8 x = u8 (f8 k) x := by kernel_rfl
theorem c8_ok (k : Nat) : ∀ f, SoundFn Try.prog f (C8 k f) := (mkC_cons (s20 k) (mkC_cons (s37 k) (mkC_cons (s38 k) (mkC_cons (s39 k) (mkC_cons (s40 k) (mkC_cons (s41 k) (mkC_cons (s42 k) (mkC_cons (s43 k) mkC_nil))))))))
theorem h8_1018_ok (k : Nat) : ∀ p S, H8_1018 k p = some S → ∀ c, At (bd Try.f8) p c → CutOk Try.prog c S :=
  have hC := c8_ok k
  addLoop hC ttOk (draw_ok hC ttOk mixed) noH_ok (by kernel_rfl) (F := fun j => u8_1018 (l8_1018 k j)) (fun _ => rfl) (fun j x _ h => (e8_1018 k (l8_1018 k j) x).trans h) k
theorem s8 (k : Nat) : SoundFn Try.prog 8 (F8 (f8 k)) :=
  have hC := c8_ok k
  fnR_sound hC ttOk (draw_ok hC ttOk mixed) Try.func8 (c0 := bd Try.f8) rfl (entry Try.func8 rfl (by decide)) (h8_1018_ok k) rfl (fun x _ h => (e8 k x).trans h)
/-! f94 fathom/fathomlaw16.word (W) -/
noncomputable def a94 : Shape := ⟨[.ptr 0, .d i64, .d i64, .d (.int .u32), .d (.slice .bool)], [.box [.own T_Gate, .mp 1], .map T_Gate i64]⟩
noncomputable def o94 : List Shape := [⟨[.own i64, .d (.slice .bool)], [.box [.own T_Gate, .mp 1], .map T_Gate i64]⟩]
abbrev R94 : Type := (((List Int) × (List Bool) × Unit) × (((List D_Gate) × Unit × Unit) × (List (D_Gate × Int)) × Unit))
abbrev T94 : Type := Int → Int → Int → (List Bool) → (List D_Gate) → (List (D_Gate × Int)) → Option R94
noncomputable def u94 (f : T94) : (a94).C → Option (OutC o94) := fun (x : ((Unit × Int × Int × Int × (List Bool) × Unit) × (((List D_Gate) × Unit × Unit) × (List (D_Gate × Int)) × Unit))) => f x.1.2.1 x.1.2.2.1 x.1.2.2.2.1 x.1.2.2.2.2.1 x.2.1.1 x.2.2.1
noncomputable def F94 (f : T94) : Fun := ⟨false, runW a94 o94 (u94 f)⟩
noncomputable def pa94_58 : Shape := ⟨[.ptr 0, .d i64, .d i64, .d (.int .u32), .d (.slice .bool), .own i64, .d i64], [.box [.own T_Gate, .mp 1], .map T_Gate i64]⟩
noncomputable def pw94_58 : List Vm.Way := [⟨.exit 0, [4, 12], ⟨[.d (.slice .bool), .own i64], [.box [.own T_Gate, .mp 1], .map T_Gate i64]⟩⟩]
abbrev R94_58 : Type := (((List Bool) × (List Int) × Unit) × (((List D_Gate) × Unit × Unit) × (List (D_Gate × Int)) × Unit))
abbrev T94_58 : Type := Int → Int → Int → (List Bool) → (List Int) → Int → (List D_Gate) → (List (D_Gate × Int)) → Option R94_58
noncomputable def u94_58 (f : T94_58) : (pa94_58).C → Option (WayC pw94_58) := fun (x : ((Unit × Int × Int × Int × (List Bool) × (List Int) × Int × Unit) × (((List D_Gate) × Unit × Unit) × (List (D_Gate × Int)) × Unit))) => f x.1.2.1 x.1.2.2.1 x.1.2.2.2.1 x.1.2.2.2.2.1 x.1.2.2.2.2.2.1 x.1.2.2.2.2.2.2.1 x.2.1.1 x.2.2.1
noncomputable def b94_58 (k : Nat) (rec : T94_58) : T94_58 := fun n1 w2 fixed3 ins4 out12 i13 o0 o1 =>
  cond (decide (i13 < w2))
    ((f41 k n1 i13).bind fun y1 =>
    cond (decide ((IntKind.u64.wrap (i13)) < 0))
      (none)
      (let v2 := Int.tmod (Int.fdiv fixed3 (2 ^ (min (IntKind.u64.wrap (i13)).toNat 32))) 2
      cond (v2 == 1)
        (gd (decide ((out12.length + 1) * 8 ≤ room)) <|
        (rec n1 w2 fixed3 ins4 (out12 ++ ([y1.1.1] : List Int)) (w64 (i13 + 1)) o0 o1).bind fun y3 =>
        some ((y3.1.1, y3.1.2.1, ()), ((y3.2.1.1, (), ()), y3.2.2.1, ())))
        ((f25 k o0 o1).bind fun y4 =>
        gd (decide ((out12.length + 1) * 8 ≤ room)) <|
        gd (decide ((0 + ins4.length) * 1 ≤ room)) <|
        gd (decide (((([] : List Bool) ++ ins4).length + 1) * 1 ≤ room)) <|
        (rec n1 w2 fixed3 ((([] : List Bool) ++ ins4) ++ ([(y1.1.1 == 1)] : List Bool)) (out12 ++ ([y4.1.1] : List Int)) (w64 (i13 + 1)) y4.2.1.1 y4.2.2.1).bind fun y5 =>
        some ((y5.1.1, y5.1.2.1, ()), ((y5.2.1.1, (), ()), y5.2.2.1, ())))))
    (some ((ins4, out12, ()), ((o0, (), ()), o1, ())))
noncomputable def l94_58 (k : Nat) : Nat → T94_58
  | 0 => fun _ _ _ _ _ _ _ _ => none
  | j + 1 => b94_58 k (l94_58 k j)
noncomputable def f94 (k : Nat) : T94 := fun n1 w2 fixed3 ins4 o0 o1 =>
  (l94_58 k k n1 w2 fixed3 ins4 [] 0 o0 o1).bind fun y1 =>
  some ((y1.1.2.1, y1.1.1, ()), ((y1.2.1.1, (), ()), y1.2.2.1, ()))
noncomputable def C94 (k : Nat) : Nat → Fun := mkC [(25, (F25 (f25 k))), (41, (F41 (f41 k)))]
noncomputable def H94_58 (k : Nat) : Nat → Option Cut := addH noH 58 ⟨runCut (wrC (bodyOf (codeAt 58 (bd Try.f94) 58))) 48 [0, 1, 2, 3, 4, 12, 13] pa94_58 pw94_58 (u94_58 (l94_58 k k))⟩
theorem e94_58 (k : Nat) (rec : T94_58) (x : (pa94_58).C) : roundF (C94 k) tt noH (bodyOf (codeAt 58 (bd Try.f94) 58)) 116 48 [0, 1, 2, 3, 4, 12, 13] pa94_58 pw94_58 (u94_58 rec) x = u94_58 (b94_58 k rec) x := by kernel_rfl
theorem e94 (k : Nat) (x : (a94).C) : bodyW (C94 k) tt (H94_58 k) Try.f94 a94 o94 x = u94 (f94 k) x := by kernel_rfl
theorem c94_ok (k : Nat) : ∀ f, SoundFn Try.prog f (C94 k f) := (mkC_cons (s25 k) (mkC_cons (s41 k) mkC_nil))
theorem h94_58_ok (k : Nat) : ∀ p S, H94_58 k p = some S → ∀ c, At (bd Try.f94) p c → CutOk Try.prog c S :=
  have hC := c94_ok k
  addLoop hC ttOk (draw_ok hC ttOk mixed) noH_ok (by kernel_rfl) (F := fun j => u94_58 (l94_58 k j)) (fun _ => rfl) (fun j x _ h => (e94_58 k (l94_58 k j) x).trans h) k
theorem s94 (k : Nat) : SoundFn Try.prog 94 (F94 (f94 k)) :=
  have hC := c94_ok k
  fnW_sound hC ttOk (draw_ok hC ttOk mixed) Try.func94 (c0 := bd Try.f94) rfl (entry Try.func94 rfl (by decide)) (h94_58_ok k) (fun x _ h => (e94 k x).trans h)
/-! f44 fathom/fathomlaw16.words (W) -/
noncomputable def a44 : Shape := ⟨[.d T_Two, .d i64], []⟩
noncomputable def o44 : List Shape := [⟨[.ptr 0, .own i64, .own i64, .d (.slice .bool)], [.box [.own T_Gate, .mp 1], .map T_Gate i64]⟩]
abbrev R44 : Type := ((Unit × (List Int) × (List Int) × (List Bool) × Unit) × (((List D_Gate) × Unit × Unit) × (List (D_Gate × Int)) × Unit))
abbrev T44 : Type := D_Two → Int → Option R44
noncomputable def u44 (f : T44) : (a44).C → Option (OutC o44) := fun (x : ((D_Two × Int × Unit) × Unit)) => f x.1.1 x.1.2.1
noncomputable def F44 (f : T44) : Fun := ⟨false, runW a44 o44 (u44 f)⟩
noncomputable def f44 (k : Nat) : T44 := fun t0 w1 =>
  (f38 k ()).bind fun y1 =>
  (f42 k (w64 (t0.1)) w1).bind fun y2 =>
  (f94 k y2.1.1 w1 t0.2.2.1 [] y1.2.1.1 y1.2.2.1).bind fun y3 =>
  (f42 k (w64 (t0.2.1)) w1).bind fun y4 =>
  (f94 k y4.1.1 w1 (Int.fdiv t0.2.2.1 (2 ^ 16)) y3.1.2.1 y3.2.1.1 y3.2.2.1).bind fun y5 =>
  some (((), y3.1.1, y5.1.1, y5.1.2.1, ()), ((y5.2.1.1, (), ()), y5.2.2.1, ()))
noncomputable def C44 (k : Nat) : Nat → Fun := mkC [(38, (F38 (f38 k))), (42, (F42 (f42 k))), (94, (F94 (f94 k)))]
theorem e44 (k : Nat) (x : (a44).C) : bodyW (C44 k) tt noH Try.f44 a44 o44 x = u44 (f44 k) x := by kernel_rfl
theorem c44_ok (k : Nat) : ∀ f, SoundFn Try.prog f (C44 k f) := (mkC_cons (s38 k) (mkC_cons (s42 k) (mkC_cons (s94 k) mkC_nil)))
theorem s44 (k : Nat) : SoundFn Try.prog 44 (F44 (f44 k)) :=
  have hC := c44_ok k
  fnW_sound hC ttOk (draw_ok hC ttOk mixed) Try.func44 (c0 := bd Try.f44) rfl (entry Try.func44 rfl (by decide)) noH_ok (fun x _ h => (e44 k x).trans h)
/-! f105 fathom/vec.Ite$1 (W) -/
noncomputable def a105 : Shape := ⟨[.d i64, .d i64, .ptr 0, .ptr 3], [.box [.ptr 1], .box [.own T_Gate, .mp 2], .map T_Gate i64, .box [.d i64]]⟩
noncomputable def o105 : List Shape := [⟨[.d i64], [.box [.ptr 1], .box [.own T_Gate, .mp 2], .map T_Gate i64, .box [.d i64]]⟩]
abbrev R105 : Type := ((Int × Unit) × ((Unit × Unit) × ((List D_Gate) × Unit × Unit) × (List (D_Gate × Int)) × (Int × Unit) × Unit))
abbrev T105 : Type := Int → Int → (List D_Gate) → (List (D_Gate × Int)) → Int → Option R105
noncomputable def u105 (f : T105) : (a105).C → Option (OutC o105) := fun (x : ((Int × Int × Unit × Unit × Unit) × ((Unit × Unit) × ((List D_Gate) × Unit × Unit) × (List (D_Gate × Int)) × (Int × Unit) × Unit))) => f x.1.1 x.1.2.1 x.2.2.1.1 x.2.2.2.1 x.2.2.2.2.1.1
noncomputable def F105 (f : T105) : Fun := ⟨false, runW a105 o105 (u105 f)⟩
noncomputable def f105 (k : Nat) : T105 := fun a0 b1 o1 o2 o3 =>
  (f28 k o3 a0 b1 o1 o2).bind fun y1 =>
  some ((y1.1.1, ()), (((), ()), (y1.2.1.1, (), ()), y1.2.2.1, (o3, ()), ()))
noncomputable def C105 (k : Nat) : Nat → Fun := mkC [(28, (F28 (f28 k)))]
theorem e105 (k : Nat) (x : (a105).C) : bodyW (C105 k) tt noH Try.f105 a105 o105 x = u105 (f105 k) x := by kernel_rfl
theorem c105_ok (k : Nat) : ∀ f, SoundFn Try.prog f (C105 k f) := (mkC_cons (s28 k) mkC_nil)
theorem s105 (k : Nat) : SoundFn Try.prog 105 (F105 (f105 k)) :=
  have hC := c105_ok k
  fnW_sound hC ttOk (draw_ok hC ttOk mixed) Try.func105 (c0 := bd Try.f105) rfl (entry Try.func105 rfl (by decide)) noH_ok (fun x _ h => (e105 k x).trans h)
/-! f97 fathom/vec.each (W) -/
noncomputable def a97 : Shape := ⟨[.ptr 0, .d (.slice i64), .d (.slice i64), .fn 105 [2, 3]], [.box [.own T_Gate, .mp 1], .map T_Gate i64, .box [.ptr 0], .box [.d i64]]⟩
noncomputable def o97 : List Shape := [⟨[.own i64], [.box [.own T_Gate, .mp 1], .map T_Gate i64, .box [.ptr 0], .box [.d i64]]⟩]
abbrev R97 : Type := (((List Int) × Unit) × (((List D_Gate) × Unit × Unit) × (List (D_Gate × Int)) × (Unit × Unit) × (Int × Unit) × Unit))
abbrev T97 : Type := (List Int) → (List Int) → (List D_Gate) → (List (D_Gate × Int)) → Int → Option R97
noncomputable def u97 (f : T97) : (a97).C → Option (OutC o97) := fun (x : ((Unit × (List Int) × (List Int) × Unit × Unit) × (((List D_Gate) × Unit × Unit) × (List (D_Gate × Int)) × (Unit × Unit) × (Int × Unit) × Unit))) => f x.1.2.1 x.1.2.2.1 x.2.1.1 x.2.2.1 x.2.2.2.2.1.1
noncomputable def F97 (f : T97) : Fun := ⟨false, runW a97 o97 (u97 f)⟩
noncomputable def pa97_122 : Shape := ⟨[.d (.slice i64), .d (.slice i64), .fn 105 [0, 3], .own i64, .d i64, .d i64], [.box [.ptr 1], .box [.own T_Gate, .mp 2], .map T_Gate i64, .box [.d i64]]⟩
noncomputable def pw97_122 : List Vm.Way := [⟨.exit 0, [9], ⟨[.own i64], [.box [.ptr 1], .box [.own T_Gate, .mp 2], .map T_Gate i64, .box [.d i64]]⟩⟩]
abbrev R97_122 : Type := (((List Int) × Unit) × ((Unit × Unit) × ((List D_Gate) × Unit × Unit) × (List (D_Gate × Int)) × (Int × Unit) × Unit))
abbrev T97_122 : Type := (List Int) → (List Int) → (List Int) → Int → Int → (List D_Gate) → (List (D_Gate × Int)) → Int → Option R97_122
noncomputable def u97_122 (f : T97_122) : (pa97_122).C → Option (WayC pw97_122) := fun (x : (((List Int) × (List Int) × Unit × (List Int) × Int × Int × Unit) × ((Unit × Unit) × ((List D_Gate) × Unit × Unit) × (List (D_Gate × Int)) × (Int × Unit) × Unit))) => f x.1.1 x.1.2.1 x.1.2.2.2.1 x.1.2.2.2.2.1 x.1.2.2.2.2.2.1 x.2.2.1.1 x.2.2.2.1 x.2.2.2.2.1.1
noncomputable def b97_122 (k : Nat) (rec : T97_122) : T97_122 := fun a1 b2 out9 t17 t18 o1 o2 o3 =>
  cond (decide (t18 < t17))
    (ix a1 t18 fun e1 =>
    ix b2 t18 fun e2 =>
    (f105 k e1 e2 o1 o2 o3).bind fun y3 =>
    gd (decide ((out9.length + 1) * 8 ≤ room)) <|
    (rec a1 b2 (out9 ++ ([y3.1.1] : List Int)) t17 (w64 (t18 + 1)) y3.2.2.1.1 y3.2.2.2.1 y3.2.2.2.2.1.1).bind fun y4 =>
    some ((y4.1.1, ()), (((), ()), (y4.2.2.1.1, (), ()), y4.2.2.2.1, (y4.2.2.2.2.1.1, ()), ())))
    (some ((out9, ()), (((), ()), (o1, (), ()), o2, (o3, ()), ())))
noncomputable def l97_122 (k : Nat) : Nat → T97_122
  | 0 => fun _ _ _ _ _ _ _ _ => none
  | j + 1 => b97_122 k (l97_122 k j)
noncomputable def f97 (k : Nat) : T97 := fun a1 b2 o0 o1 o3 =>
  (f95 k a1 b2 o0 o1).bind fun y1 =>
  cond (!y1.1.1)
    (some (([], ()), ((o0, (), ()), o1, ((), ()), (o3, ()), ())))
    ((l97_122 k k a1 b2 [] (a1.length : Int) 0 o0 o1 o3).bind fun y2 =>
    (f92 k y2.1.1).bind fun y3 =>
    match y3 with
    | .inl y3_0 =>
      some (([], ()), ((y2.2.2.1.1, (), ()), y2.2.2.2.1, ((), ()), (y2.2.2.2.2.1.1, ()), ()))
    | .inr y3_1 =>
      some ((y3_1.1.1, ()), ((y2.2.2.1.1, (), ()), y2.2.2.2.1, ((), ()), (y2.2.2.2.2.1.1, ()), ())))
noncomputable def C97 (k : Nat) : Nat → Fun := mkC [(1000092, ownF), (92, (F92 (f92 k))), (95, (F95 (f95 k))), (105, (F105 (f105 k)))]
noncomputable def H97_122 (k : Nat) : Nat → Option Cut := addH noH 122 ⟨runCut (wrC (bodyOf (codeAt 122 (bd Try.f97) 122))) 37 [1, 2, 3, 9, 17, 18] pa97_122 pw97_122 (u97_122 (l97_122 k k))⟩
theorem e97_122 (k : Nat) (rec : T97_122) (x : (pa97_122).C) : roundF (C97 k) tt noH (bodyOf (codeAt 122 (bd Try.f97) 122)) 244 37 [1, 2, 3, 9, 17, 18] pa97_122 pw97_122 (u97_122 rec) x = u97_122 (b97_122 k rec) x := by kernel_rfl
theorem e97 (k : Nat) (x : (a97).C) : bodyW (C97 k) tt (H97_122 k) Try.f97 a97 o97 x = u97 (f97 k) x := by kernel_rfl
theorem c97_ok (k : Nat) : ∀ f, SoundFn Try.prog f (C97 k f) := (mkC_cons ownF_ok (mkC_cons (s92 k) (mkC_cons (s95 k) (mkC_cons (s105 k) mkC_nil))))
theorem h97_122_ok (k : Nat) : ∀ p S, H97_122 k p = some S → ∀ c, At (bd Try.f97) p c → CutOk Try.prog c S :=
  have hC := c97_ok k
  addLoop hC ttOk (draw_ok hC ttOk mixed) noH_ok (by kernel_rfl) (F := fun j => u97_122 (l97_122 k j)) (fun _ => rfl) (fun j x _ h => (e97_122 k (l97_122 k j) x).trans h) k
theorem s97 (k : Nat) : SoundFn Try.prog 97 (F97 (f97 k)) :=
  have hC := c97_ok k
  fnW_sound hC ttOk (draw_ok hC ttOk mixed) Try.func97 (c0 := bd Try.f97) rfl (entry Try.func97 rfl (by decide)) (h97_122_ok k) (fun x _ h => (e97 k x).trans h)
/-! f63 fathom/vec.Ite (W) -/
noncomputable def a63 : Shape := ⟨[.ptr 0, .d i64, .d (.slice i64), .d (.slice i64)], [.box [.own T_Gate, .mp 1], .map T_Gate i64]⟩
noncomputable def o63 : List Shape := [⟨[.own i64], [.box [.own T_Gate, .mp 1], .map T_Gate i64]⟩]
abbrev R63 : Type := (((List Int) × Unit) × (((List D_Gate) × Unit × Unit) × (List (D_Gate × Int)) × Unit))
abbrev T63 : Type := Int → (List Int) → (List Int) → (List D_Gate) → (List (D_Gate × Int)) → Option R63
noncomputable def u63 (f : T63) : (a63).C → Option (OutC o63) := fun (x : ((Unit × Int × (List Int) × (List Int) × Unit) × (((List D_Gate) × Unit × Unit) × (List (D_Gate × Int)) × Unit))) => f x.1.2.1 x.1.2.2.1 x.1.2.2.2.1 x.2.1.1 x.2.2.1
noncomputable def F63 (f : T63) : Fun := ⟨false, runW a63 o63 (u63 f)⟩
noncomputable def f63 (k : Nat) : T63 := fun c1 a2 b3 o0 o1 =>
  (f24 k c1 o0 o1).bind fun y1 =>
  cond (!y1.1.1)
    (some (([], ()), ((o0, (), ()), o1, ())))
    ((f97 k a2 b3 o0 o1 c1).bind fun y2 =>
    some ((y2.1.1, ()), ((y2.2.1.1, (), ()), y2.2.2.1, ())))
noncomputable def C63 (k : Nat) : Nat → Fun := mkC [(24, (F24 (f24 k))), (97, (F97 (f97 k)))]
theorem e63 (k : Nat) (x : (a63).C) : bodyW (C63 k) tt noH Try.f63 a63 o63 x = u63 (f63 k) x := by kernel_rfl
theorem c63_ok (k : Nat) : ∀ f, SoundFn Try.prog f (C63 k f) := (mkC_cons (s24 k) (mkC_cons (s97 k) mkC_nil))
theorem s63 (k : Nat) : SoundFn Try.prog 63 (F63 (f63 k)) :=
  have hC := c63_ok k
  fnW_sound hC ttOk (draw_ok hC ttOk mixed) Try.func63 (c0 := bd Try.f63) rfl (entry Try.func63 rfl (by decide)) noH_ok (fun x _ h => (e63 k x).trans h)
/-! f97v2 fathom/vec.each (W) -/
noncomputable def a97v2 : Shape := ⟨[.ptr 0, .d (.slice i64), .d (.slice i64), .bfn 27 [0]], [.box [.own T_Gate, .mp 1], .map T_Gate i64]⟩
noncomputable def o97v2 : List Shape := [⟨[.own i64], [.box [.own T_Gate, .mp 1], .map T_Gate i64]⟩]
abbrev R97v2 : Type := (((List Int) × Unit) × (((List D_Gate) × Unit × Unit) × (List (D_Gate × Int)) × Unit))
abbrev T97v2 : Type := (List Int) → (List Int) → (List D_Gate) → (List (D_Gate × Int)) → Option R97v2
noncomputable def u97v2 (f : T97v2) : (a97v2).C → Option (OutC o97v2) := fun (x : ((Unit × (List Int) × (List Int) × Unit × Unit) × (((List D_Gate) × Unit × Unit) × (List (D_Gate × Int)) × Unit))) => f x.1.2.1 x.1.2.2.1 x.2.1.1 x.2.2.1
noncomputable def F97v2 (f : T97v2) : Fun := ⟨false, runW a97v2 o97v2 (u97v2 f)⟩
noncomputable def pa97v2_122 : Shape := ⟨[.d (.slice i64), .d (.slice i64), .bfn 27 [0], .own i64, .d i64, .d i64], [.box [.own T_Gate, .mp 1], .map T_Gate i64]⟩
noncomputable def pw97v2_122 : List Vm.Way := [⟨.exit 0, [9], ⟨[.own i64], [.box [.own T_Gate, .mp 1], .map T_Gate i64]⟩⟩]
abbrev R97v2_122 : Type := (((List Int) × Unit) × (((List D_Gate) × Unit × Unit) × (List (D_Gate × Int)) × Unit))
abbrev T97v2_122 : Type := (List Int) → (List Int) → (List Int) → Int → Int → (List D_Gate) → (List (D_Gate × Int)) → Option R97v2_122
noncomputable def u97v2_122 (f : T97v2_122) : (pa97v2_122).C → Option (WayC pw97v2_122) := fun (x : (((List Int) × (List Int) × Unit × (List Int) × Int × Int × Unit) × (((List D_Gate) × Unit × Unit) × (List (D_Gate × Int)) × Unit))) => f x.1.1 x.1.2.1 x.1.2.2.2.1 x.1.2.2.2.2.1 x.1.2.2.2.2.2.1 x.2.1.1 x.2.2.1
noncomputable def b97v2_122 (k : Nat) (rec : T97v2_122) : T97v2_122 := fun a1 b2 out9 t17 t18 o0 o1 =>
  cond (decide (t18 < t17))
    (ix a1 t18 fun e1 =>
    ix b2 t18 fun e2 =>
    (f27 k e1 e2 o0 o1).bind fun y3 =>
    gd (decide ((out9.length + 1) * 8 ≤ room)) <|
    (rec a1 b2 (out9 ++ ([y3.1.1] : List Int)) t17 (w64 (t18 + 1)) y3.2.1.1 y3.2.2.1).bind fun y4 =>
    some ((y4.1.1, ()), ((y4.2.1.1, (), ()), y4.2.2.1, ())))
    (some ((out9, ()), ((o0, (), ()), o1, ())))
noncomputable def l97v2_122 (k : Nat) : Nat → T97v2_122
  | 0 => fun _ _ _ _ _ _ _ => none
  | j + 1 => b97v2_122 k (l97v2_122 k j)
noncomputable def f97v2 (k : Nat) : T97v2 := fun a1 b2 o0 o1 =>
  (f95 k a1 b2 o0 o1).bind fun y1 =>
  cond (!y1.1.1)
    (some (([], ()), ((o0, (), ()), o1, ())))
    ((l97v2_122 k k a1 b2 [] (a1.length : Int) 0 o0 o1).bind fun y2 =>
    (f92 k y2.1.1).bind fun y3 =>
    match y3 with
    | .inl y3_0 =>
      some (([], ()), ((y2.2.1.1, (), ()), y2.2.2.1, ()))
    | .inr y3_1 =>
      some ((y3_1.1.1, ()), ((y2.2.1.1, (), ()), y2.2.2.1, ())))
noncomputable def C97v2 (k : Nat) : Nat → Fun := mkC [(27, (F27 (f27 k))), (1000092, ownF), (92, (F92 (f92 k))), (95, (F95 (f95 k)))]
noncomputable def H97v2_122 (k : Nat) : Nat → Option Cut := addH noH 122 ⟨runCut (wrC (bodyOf (codeAt 122 (bd Try.f97) 122))) 37 [1, 2, 3, 9, 17, 18] pa97v2_122 pw97v2_122 (u97v2_122 (l97v2_122 k k))⟩
theorem e97v2_122 (k : Nat) (rec : T97v2_122) (x : (pa97v2_122).C) : roundF (C97v2 k) tt noH (bodyOf (codeAt 122 (bd Try.f97) 122)) 244 37 [1, 2, 3, 9, 17, 18] pa97v2_122 pw97v2_122 (u97v2_122 rec) x = u97v2_122 (b97v2_122 k rec) x := by kernel_rfl
theorem e97v2 (k : Nat) (x : (a97v2).C) : bodyW (C97v2 k) tt (H97v2_122 k) Try.f97 a97v2 o97v2 x = u97v2 (f97v2 k) x := by kernel_rfl
theorem c97v2_ok (k : Nat) : ∀ f, SoundFn Try.prog f (C97v2 k f) := (mkC_cons (s27 k) (mkC_cons ownF_ok (mkC_cons (s92 k) (mkC_cons (s95 k) mkC_nil))))
theorem h97v2_122_ok (k : Nat) : ∀ p S, H97v2_122 k p = some S → ∀ c, At (bd Try.f97) p c → CutOk Try.prog c S :=
  have hC := c97v2_ok k
  addLoop hC ttOk (draw_ok hC ttOk mixed) noH_ok (by kernel_rfl) (F := fun j => u97v2_122 (l97v2_122 k j)) (fun _ => rfl) (fun j x _ h => (e97v2_122 k (l97v2_122 k j) x).trans h) k
theorem s97v2 (k : Nat) : SoundFn Try.prog 97 (F97v2 (f97v2 k)) :=
  have hC := c97v2_ok k
  fnW_sound hC ttOk (draw_ok hC ttOk mixed) Try.func97 (c0 := bd Try.f97) rfl (entry Try.func97 rfl (by decide)) (h97v2_122_ok k) (fun x _ h => (e97v2 k x).trans h)
/-! f53 fathom/vec.Xor (W) -/
noncomputable def a53 : Shape := ⟨[.ptr 0, .d (.slice i64), .d (.slice i64)], [.box [.own T_Gate, .mp 1], .map T_Gate i64]⟩
noncomputable def o53 : List Shape := [⟨[.own i64], [.box [.own T_Gate, .mp 1], .map T_Gate i64]⟩]
abbrev R53 : Type := (((List Int) × Unit) × (((List D_Gate) × Unit × Unit) × (List (D_Gate × Int)) × Unit))
abbrev T53 : Type := (List Int) → (List Int) → (List D_Gate) → (List (D_Gate × Int)) → Option R53
noncomputable def u53 (f : T53) : (a53).C → Option (OutC o53) := fun (x : ((Unit × (List Int) × (List Int) × Unit) × (((List D_Gate) × Unit × Unit) × (List (D_Gate × Int)) × Unit))) => f x.1.2.1 x.1.2.2.1 x.2.1.1 x.2.2.1
noncomputable def F53 (f : T53) : Fun := ⟨false, runW a53 o53 (u53 f)⟩
noncomputable def f53 (k : Nat) : T53 := fun a1 b2 o0 o1 =>
  (f97v2 k a1 b2 o0 o1).bind fun y1 =>
  some ((y1.1.1, ()), ((y1.2.1.1, (), ()), y1.2.2.1, ()))
noncomputable def C53 (k : Nat) : Nat → Fun := mkC [(97, (F97v2 (f97v2 k)))]
theorem e53 (k : Nat) (x : (a53).C) : bodyW (C53 k) tt noH Try.f53 a53 o53 x = u53 (f53 k) x := by kernel_rfl
theorem c53_ok (k : Nat) : ∀ f, SoundFn Try.prog f (C53 k f) := (mkC_cons (s97v2 k) mkC_nil)
theorem s53 (k : Nat) : SoundFn Try.prog 53 (F53 (f53 k)) :=
  have hC := c53_ok k
  fnW_sound hC ttOk (draw_ok hC ttOk mixed) Try.func53 (c0 := bd Try.f53) rfl (entry Try.func53 rfl (by decide)) noH_ok (fun x _ h => (e53 k x).trans h)
/-! f98 fathom/vec.Not$1 (R) -/
noncomputable def a98 : Shape := ⟨[.d i64, .d i64], []⟩
noncomputable def o98 : List Shape := [⟨[.d i64], []⟩]
abbrev R98 : Type := ((Int × Unit) × Unit)
abbrev T98 : Type := Int → Int → Option R98
noncomputable def u98 (f : T98) : (a98).C → Option (OutC o98) := fun (x : ((Int × Int × Unit) × Unit)) => f x.1.1 x.1.2.1
noncomputable def F98 (f : T98) : Fun := ⟨true, runR a98 o98 (u98 f)⟩
noncomputable def f98 (k : Nat) : T98 := fun a0 x1 =>
  some (((ibits .xor .i64 a0 1), ()), ())
noncomputable def C98 (k : Nat) : Nat → Fun := mkC []
theorem e98 (k : Nat) (x : (a98).C) : bodyR (C98 k) tt noH Try.f98 a98 o98 x = u98 (f98 k) x := by kernel_rfl
theorem c98_ok (k : Nat) : ∀ f, SoundFn Try.prog f (C98 k f) := mkC_nil
theorem s98 (k : Nat) : SoundFn Try.prog 98 (F98 (f98 k)) :=
  have hC := c98_ok k
  fnR_sound hC ttOk (draw_ok hC ttOk mixed) Try.func98 (c0 := bd Try.f98) rfl (entry Try.func98 rfl (by decide)) noH_ok rfl (fun x _ h => (e98 k x).trans h)
/-! f97v3 fathom/vec.each (W) -/
noncomputable def a97v3 : Shape := ⟨[.ptr 0, .d (.slice i64), .d (.slice i64), .fn 98 []], [.lk (.box [.d (.slice T_Gate), .mp 1]), .lk (.map T_Gate i64)]⟩
noncomputable def o97v3 : List Shape := [⟨[.own i64], [.any, .any]⟩]
abbrev R97v3 : Type := (((List Int) × Unit) × (Unit × Unit × Unit))
abbrev T97v3 : Type := (List Int) → (List Int) → (List D_Gate) → (List (D_Gate × Int)) → Option R97v3
noncomputable def u97v3 (f : T97v3) : (a97v3).C → Option (OutC o97v3) := fun (x : ((Unit × (List Int) × (List Int) × Unit × Unit) × (((List D_Gate) × Unit × Unit) × (List (D_Gate × Int)) × Unit))) => f x.1.2.1 x.1.2.2.1 x.2.1.1 x.2.2.1
noncomputable def F97v3 (f : T97v3) : Fun := ⟨false, runW a97v3 o97v3 (u97v3 f)⟩
noncomputable def pa97v3_122 : Shape := ⟨[.d (.slice i64), .d (.slice i64), .fn 98 [], .own i64, .d i64, .d i64], []⟩
noncomputable def pw97v3_122 : List Vm.Way := [⟨.exit 0, [9], ⟨[.own i64], []⟩⟩]
abbrev R97v3_122 : Type := (((List Int) × Unit) × Unit)
abbrev T97v3_122 : Type := (List Int) → (List Int) → (List Int) → Int → Int → Option R97v3_122
noncomputable def u97v3_122 (f : T97v3_122) : (pa97v3_122).C → Option (WayC pw97v3_122) := fun (x : (((List Int) × (List Int) × Unit × (List Int) × Int × Int × Unit) × Unit)) => f x.1.1 x.1.2.1 x.1.2.2.2.1 x.1.2.2.2.2.1 x.1.2.2.2.2.2.1
noncomputable def b97v3_122 (k : Nat) (rec : T97v3_122) : T97v3_122 := fun a1 b2 out9 t17 t18 =>
  cond (decide (t18 < t17))
    (ix a1 t18 fun e1 =>
    ix b2 t18 fun e2 =>
    (f98 k e1 e2).bind fun y3 =>
    gd (decide ((out9.length + 1) * 8 ≤ room)) <|
    (rec a1 b2 (out9 ++ ([y3.1.1] : List Int)) t17 (w64 (t18 + 1))).bind fun y4 =>
    some ((y4.1.1, ()), ()))
    (some ((out9, ()), ()))
noncomputable def l97v3_122 (k : Nat) : Nat → T97v3_122
  | 0 => fun _ _ _ _ _ => none
  | j + 1 => b97v3_122 k (l97v3_122 k j)
noncomputable def f97v3 (k : Nat) : T97v3 := fun a1 b2 o0 o1 =>
  (f95 k a1 b2 o0 o1).bind fun y1 =>
  cond (!y1.1.1)
    (some (([], ()), ((), (), ())))
    ((l97v3_122 k k a1 b2 [] (a1.length : Int) 0).bind fun y2 =>
    (f92 k y2.1.1).bind fun y3 =>
    match y3 with
    | .inl y3_0 =>
      some (([], ()), ((), (), ()))
    | .inr y3_1 =>
      some ((y3_1.1.1, ()), ((), (), ())))
noncomputable def C97v3 (k : Nat) : Nat → Fun := mkC [(1000092, ownF), (92, (F92 (f92 k))), (95, (F95 (f95 k))), (98, (F98 (f98 k)))]
noncomputable def H97v3_122 (k : Nat) : Nat → Option Cut := addH noH 122 ⟨runCut (wrC (bodyOf (codeAt 122 (bd Try.f97) 122))) 37 [1, 2, 3, 9, 17, 18] pa97v3_122 pw97v3_122 (u97v3_122 (l97v3_122 k k))⟩
theorem e97v3_122 (k : Nat) (rec : T97v3_122) (x : (pa97v3_122).C) : roundF (C97v3 k) tt noH (bodyOf (codeAt 122 (bd Try.f97) 122)) 244 37 [1, 2, 3, 9, 17, 18] pa97v3_122 pw97v3_122 (u97v3_122 rec) x = u97v3_122 (b97v3_122 k rec) x := by kernel_rfl
theorem e97v3 (k : Nat) (x : (a97v3).C) : bodyW (C97v3 k) tt (H97v3_122 k) Try.f97 a97v3 o97v3 x = u97v3 (f97v3 k) x := by kernel_rfl
theorem c97v3_ok (k : Nat) : ∀ f, SoundFn Try.prog f (C97v3 k f) := (mkC_cons ownF_ok (mkC_cons (s92 k) (mkC_cons (s95 k) (mkC_cons (s98 k) mkC_nil))))
theorem h97v3_122_ok (k : Nat) : ∀ p S, H97v3_122 k p = some S → ∀ c, At (bd Try.f97) p c → CutOk Try.prog c S :=
  have hC := c97v3_ok k
  addLoop hC ttOk (draw_ok hC ttOk mixed) noH_ok (by kernel_rfl) (F := fun j => u97v3_122 (l97v3_122 k j)) (fun _ => rfl) (fun j x _ h => (e97v3_122 k (l97v3_122 k j) x).trans h) k
theorem s97v3 (k : Nat) : SoundFn Try.prog 97 (F97v3 (f97v3 k)) :=
  have hC := c97v3_ok k
  fnW_sound hC ttOk (draw_ok hC ttOk mixed) Try.func97 (c0 := bd Try.f97) rfl (entry Try.func97 rfl (by decide)) (h97v3_122_ok k) (fun x _ h => (e97v3 k x).trans h)
/-! f54 fathom/vec.Not (R) -/
noncomputable def a54 : Shape := ⟨[.ptr 0, .d (.slice i64)], [.box [.d (.slice T_Gate), .mp 1], .map T_Gate i64]⟩
noncomputable def o54 : List Shape := [⟨[.d (.slice i64)], []⟩]
abbrev R54 : Type := (((List Int) × Unit) × Unit)
abbrev T54 : Type := (List Int) → (List D_Gate) → (List (D_Gate × Int)) → Option R54
noncomputable def u54 (f : T54) : (a54).C → Option (OutC o54) := fun (x : ((Unit × (List Int) × Unit) × (((List D_Gate) × Unit × Unit) × (List (D_Gate × Int)) × Unit))) => f x.1.2.1 x.2.1.1 x.2.2.1
noncomputable def F54 (f : T54) : Fun := ⟨true, runR a54 o54 (u54 f)⟩
noncomputable def f54 (k : Nat) : T54 := fun a1 o0 o1 =>
  (f97v3 k a1 a1 o0 o1).bind fun y1 =>
  some ((y1.1.1, ()), ())
noncomputable def C54 (k : Nat) : Nat → Fun := mkC [(97, (F97v3 (f97v3 k)))]
theorem e54 (k : Nat) (x : (a54).C) : bodyR (C54 k) tt noH Try.f54 a54 o54 x = u54 (f54 k) x := by kernel_rfl
theorem c54_ok (k : Nat) : ∀ f, SoundFn Try.prog f (C54 k f) := (mkC_cons (s97v3 k) mkC_nil)
theorem s54 (k : Nat) : SoundFn Try.prog 54 (F54 (f54 k)) :=
  have hC := c54_ok k
  fnR_sound hC ttOk (draw_ok hC ttOk mixed) Try.func54 (c0 := bd Try.f54) rfl (entry Try.func54 rfl (by decide)) noH_ok rfl (fun x _ h => (e54 k x).trans h)
/-! f64 fathom/vec.Eq (W) -/
noncomputable def a64 : Shape := ⟨[.ptr 0, .d (.slice i64), .d (.slice i64)], [.box [.own T_Gate, .mp 1], .map T_Gate i64]⟩
noncomputable def o64 : List Shape := [⟨[.d i64], [.box [.own T_Gate, .mp 1], .map T_Gate i64]⟩]
abbrev R64 : Type := ((Int × Unit) × (((List D_Gate) × Unit × Unit) × (List (D_Gate × Int)) × Unit))
abbrev T64 : Type := (List Int) → (List Int) → (List D_Gate) → (List (D_Gate × Int)) → Option R64
noncomputable def u64 (f : T64) : (a64).C → Option (OutC o64) := fun (x : ((Unit × (List Int) × (List Int) × Unit) × (((List D_Gate) × Unit × Unit) × (List (D_Gate × Int)) × Unit))) => f x.1.2.1 x.1.2.2.1 x.2.1.1 x.2.2.1
noncomputable def F64 (f : T64) : Fun := ⟨false, runW a64 o64 (u64 f)⟩
noncomputable def f64 (k : Nat) : T64 := fun a1 b2 o0 o1 =>
  (f53 k a1 b2 o0 o1).bind fun y1 =>
  cond y1.1.1.isEmpty
    (none)
    ((f54 k y1.1.1 y1.2.1.1 y1.2.2.1).bind fun y2 =>
    (f29 k y2.1.1 y1.2.1.1 y1.2.2.1).bind fun y3 =>
    some ((y3.1.1, ()), ((y3.2.1.1, (), ()), y3.2.2.1, ())))
noncomputable def C64 (k : Nat) : Nat → Fun := mkC [(29, (F29 (f29 k))), (53, (F53 (f53 k))), (54, (F54 (f54 k)))]
theorem e64 (k : Nat) (x : (a64).C) : bodyW (C64 k) tt noH Try.f64 a64 o64 x = u64 (f64 k) x := by kernel_rfl
theorem c64_ok (k : Nat) : ∀ f, SoundFn Try.prog f (C64 k f) := (mkC_cons (s29 k) (mkC_cons (s53 k) (mkC_cons (s54 k) mkC_nil)))
theorem s64 (k : Nat) : SoundFn Try.prog 64 (F64 (f64 k)) :=
  have hC := c64_ok k
  fnW_sound hC ttOk (draw_ok hC ttOk mixed) Try.func64 (c0 := bd Try.f64) rfl (entry Try.func64 rfl (by decide)) noH_ok (fun x _ h => (e64 k x).trans h)
/-! f104 fathom/vec.turned (R) -/
noncomputable def a104 : Shape := ⟨[.d (.slice i64)], []⟩
noncomputable def o104 : List Shape := [⟨[.d (.slice i64)], []⟩]
abbrev R104 : Type := (((List Int) × Unit) × Unit)
abbrev T104 : Type := (List Int) → Option R104
noncomputable def u104 (f : T104) : (a104).C → Option (OutC o104) := fun (x : (((List Int) × Unit) × Unit)) => f x.1.1
noncomputable def F104 (f : T104) : Fun := ⟨true, runR a104 o104 (u104 f)⟩
noncomputable def pa104_58 : Shape := ⟨[.own i64, .d (.slice i64), .d i64, .d i64], []⟩
noncomputable def pw104_58 : List Vm.Way := [⟨.exit 0, [3], ⟨[.own i64], []⟩⟩]
abbrev R104_58 : Type := (((List Int) × Unit) × Unit)
abbrev T104_58 : Type := (List Int) → (List Int) → Int → Int → Option R104_58
noncomputable def u104_58 (f : T104_58) : (pa104_58).C → Option (WayC pw104_58) := fun (x : (((List Int) × (List Int) × Int × Int × Unit) × Unit)) => f x.1.1 x.1.2.1 x.1.2.2.1 x.1.2.2.2.1
noncomputable def b104_58 (k : Nat) (rec : T104_58) : T104_58 := fun out3 t6 t7 t8 =>
  cond (decide (t8 < t7))
    (ix t6 t8 fun e1 =>
    gd (decide ((out3.length + 1) * 8 ≤ room)) <|
    (rec (out3 ++ ([(ibits .xor .i64 e1 1)] : List Int)) t6 t7 (w64 (t8 + 1))).bind fun y2 =>
    some ((y2.1.1, ()), ()))
    (some ((out3, ()), ()))
noncomputable def l104_58 (k : Nat) : Nat → T104_58
  | 0 => fun _ _ _ _ => none
  | j + 1 => b104_58 k (l104_58 k j)
noncomputable def f104 (k : Nat) : T104 := fun a0 =>
  (l104_58 k k [] a0 (a0.length : Int) 0).bind fun y1 =>
  some ((y1.1.1, ()), ())
noncomputable def C104 (k : Nat) : Nat → Fun := mkC []
noncomputable def H104_58 (k : Nat) : Nat → Option Cut := addH noH 58 ⟨runCut (wrC (bodyOf (codeAt 58 (bd Try.f104) 58))) 19 [3, 6, 7, 8] pa104_58 pw104_58 (u104_58 (l104_58 k k))⟩
theorem e104_58 (k : Nat) (rec : T104_58) (x : (pa104_58).C) : roundF (C104 k) tt noH (bodyOf (codeAt 58 (bd Try.f104) 58)) 116 19 [3, 6, 7, 8] pa104_58 pw104_58 (u104_58 rec) x = u104_58 (b104_58 k rec) x := by kernel_rfl
theorem e104 (k : Nat) (x : (a104).C) : bodyR (C104 k) tt (H104_58 k) Try.f104 a104 o104 x = u104 (f104 k) x := by kernel_rfl
theorem c104_ok (k : Nat) : ∀ f, SoundFn Try.prog f (C104 k f) := mkC_nil
theorem h104_58_ok (k : Nat) : ∀ p S, H104_58 k p = some S → ∀ c, At (bd Try.f104) p c → CutOk Try.prog c S :=
  have hC := c104_ok k
  addLoop hC ttOk (draw_ok hC ttOk mixed) noH_ok (by kernel_rfl) (F := fun j => u104_58 (l104_58 k j)) (fun _ => rfl) (fun j x _ h => (e104_58 k (l104_58 k j) x).trans h) k
theorem s104 (k : Nat) : SoundFn Try.prog 104 (F104 (f104 k)) :=
  have hC := c104_ok k
  fnR_sound hC ttOk (draw_ok hC ttOk mixed) Try.func104 (c0 := bd Try.f104) rfl (entry Try.func104 rfl (by decide)) (h104_58_ok k) rfl (fun x _ h => (e104 k x).trans h)
/-! f103 fathom/vec.less (W) -/
noncomputable def a103 : Shape := ⟨[.ptr 0, .d (.slice i64), .d (.slice i64)], [.box [.own T_Gate, .mp 1], .map T_Gate i64]⟩
noncomputable def o103 : List Shape := [⟨[.d i64], [.box [.own T_Gate, .mp 1], .map T_Gate i64]⟩]
abbrev R103 : Type := ((Int × Unit) × (((List D_Gate) × Unit × Unit) × (List (D_Gate × Int)) × Unit))
abbrev T103 : Type := (List Int) → (List Int) → (List D_Gate) → (List (D_Gate × Int)) → Option R103
noncomputable def u103 (f : T103) : (a103).C → Option (OutC o103) := fun (x : ((Unit × (List Int) × (List Int) × Unit) × (((List D_Gate) × Unit × Unit) × (List (D_Gate × Int)) × Unit))) => f x.1.2.1 x.1.2.2.1 x.2.1.1 x.2.2.1
noncomputable def F103 (f : T103) : Fun := ⟨false, runW a103 o103 (u103 f)⟩
noncomputable def f103 (k : Nat) : T103 := fun a1 b2 o0 o1 =>
  (f104 k b2).bind fun y1 =>
  (f96 k a1 y1.1.1 1 o0 o1).bind fun y2 =>
  cond (y2.1.2.1 == (-1))
    (some (((-1), ()), ((y2.2.1.1, (), ()), y2.2.2.1, ())))
    (some (((ibits .xor .i64 y2.1.2.1 1), ()), ((y2.2.1.1, (), ()), y2.2.2.1, ())))
noncomputable def C103 (k : Nat) : Nat → Fun := mkC [(96, (F96 (f96 k))), (104, (F104 (f104 k)))]
theorem e103 (k : Nat) (x : (a103).C) : bodyW (C103 k) tt noH Try.f103 a103 o103 x = u103 (f103 k) x := by kernel_rfl
theorem c103_ok (k : Nat) : ∀ f, SoundFn Try.prog f (C103 k f) := (mkC_cons (s96 k) (mkC_cons (s104 k) mkC_nil))
theorem s103 (k : Nat) : SoundFn Try.prog 103 (F103 (f103 k)) :=
  have hC := c103_ok k
  fnW_sound hC ttOk (draw_ok hC ttOk mixed) Try.func103 (c0 := bd Try.f103) rfl (entry Try.func103 rfl (by decide)) noH_ok (fun x _ h => (e103 k x).trans h)
/-! f65 fathom/vec.Less (W) -/
noncomputable def a65 : Shape := ⟨[.ptr 0, .d (.slice i64), .d (.slice i64)], [.box [.own T_Gate, .mp 1], .map T_Gate i64]⟩
noncomputable def o65 : List Shape := [⟨[.d i64], [.box [.own T_Gate, .mp 1], .map T_Gate i64]⟩]
abbrev R65 : Type := ((Int × Unit) × (((List D_Gate) × Unit × Unit) × (List (D_Gate × Int)) × Unit))
abbrev T65 : Type := (List Int) → (List Int) → (List D_Gate) → (List (D_Gate × Int)) → Option R65
noncomputable def u65 (f : T65) : (a65).C → Option (OutC o65) := fun (x : ((Unit × (List Int) × (List Int) × Unit) × (((List D_Gate) × Unit × Unit) × (List (D_Gate × Int)) × Unit))) => f x.1.2.1 x.1.2.2.1 x.2.1.1 x.2.2.1
noncomputable def F65 (f : T65) : Fun := ⟨false, runW a65 o65 (u65 f)⟩
noncomputable def f65 (k : Nat) : T65 := fun a1 b2 o0 o1 =>
  (f95 k a1 b2 o0 o1).bind fun y1 =>
  cond (!y1.1.1)
    (some (((-1), ()), ((o0, (), ()), o1, ())))
    ((f103 k a1 b2 o0 o1).bind fun y2 =>
    some ((y2.1.1, ()), ((y2.2.1.1, (), ()), y2.2.2.1, ())))
noncomputable def C65 (k : Nat) : Nat → Fun := mkC [(95, (F95 (f95 k))), (103, (F103 (f103 k)))]
theorem e65 (k : Nat) (x : (a65).C) : bodyW (C65 k) tt noH Try.f65 a65 o65 x = u65 (f65 k) x := by kernel_rfl
theorem c65_ok (k : Nat) : ∀ f, SoundFn Try.prog f (C65 k f) := (mkC_cons (s95 k) (mkC_cons (s103 k) mkC_nil))
theorem s65 (k : Nat) : SoundFn Try.prog 65 (F65 (f65 k)) :=
  have hC := c65_ok k
  fnW_sound hC ttOk (draw_ok hC ttOk mixed) Try.func65 (c0 := bd Try.f65) rfl (entry Try.func65 rfl (by decide)) noH_ok (fun x _ h => (e65 k x).trans h)
/-! f66 fathom/vec.Any (W) -/
noncomputable def a66 : Shape := ⟨[.ptr 0, .d (.slice i64)], [.box [.own T_Gate, .mp 1], .map T_Gate i64]⟩
noncomputable def o66 : List Shape := [⟨[.d i64], [.box [.own T_Gate, .mp 1], .map T_Gate i64]⟩]
abbrev R66 : Type := ((Int × Unit) × (((List D_Gate) × Unit × Unit) × (List (D_Gate × Int)) × Unit))
abbrev T66 : Type := (List Int) → (List D_Gate) → (List (D_Gate × Int)) → Option R66
noncomputable def u66 (f : T66) : (a66).C → Option (OutC o66) := fun (x : ((Unit × (List Int) × Unit) × (((List D_Gate) × Unit × Unit) × (List (D_Gate × Int)) × Unit))) => f x.1.2.1 x.2.1.1 x.2.2.1
noncomputable def F66 (f : T66) : Fun := ⟨false, runW a66 o66 (u66 f)⟩
noncomputable def f66 (k : Nat) : T66 := fun a1 o0 o1 =>
  (f68 k a1 o0 o1).bind fun y1 =>
  cond (y1.1.1 != 0)
    (some (((-1), ()), ((o0, (), ()), o1, ())))
    ((f54 k a1 o0 o1).bind fun y2 =>
    (f29 k y2.1.1 o0 o1).bind fun y3 =>
    cond (y3.1.1 == (-1))
      (some (((-1), ()), ((y3.2.1.1, (), ()), y3.2.2.1, ())))
      (some (((ibits .xor .i64 y3.1.1 1), ()), ((y3.2.1.1, (), ()), y3.2.2.1, ()))))
noncomputable def C66 (k : Nat) : Nat → Fun := mkC [(29, (F29 (f29 k))), (54, (F54 (f54 k))), (68, (F68 (f68 k)))]
theorem e66 (k : Nat) (x : (a66).C) : bodyW (C66 k) tt noH Try.f66 a66 o66 x = u66 (f66 k) x := by kernel_rfl
theorem c66_ok (k : Nat) : ∀ f, SoundFn Try.prog f (C66 k f) := (mkC_cons (s29 k) (mkC_cons (s54 k) (mkC_cons (s68 k) mkC_nil)))
theorem s66 (k : Nat) : SoundFn Try.prog 66 (F66 (f66 k)) :=
  have hC := c66_ok k
  fnW_sound hC ttOk (draw_ok hC ttOk mixed) Try.func66 (c0 := bd Try.f66) rfl (entry Try.func66 rfl (by decide)) noH_ok (fun x _ h => (e66 k x).trans h)
/-! f45 fathom/fathomlaw16.is (R) -/
noncomputable def a45 : Shape := ⟨[.ptr 0, .d (.slice .bool), .d (.slice i64), .d i64, .d i64], [.box [.d (.slice T_Gate), .mp 1], .map T_Gate i64]⟩
noncomputable def o45 : List Shape := [⟨[.d .bool], []⟩]
abbrev R45 : Type := ((Bool × Unit) × Unit)
abbrev T45 : Type := (List Bool) → (List Int) → Int → Int → (List D_Gate) → (List (D_Gate × Int)) → Option R45
noncomputable def u45 (f : T45) : (a45).C → Option (OutC o45) := fun (x : ((Unit × (List Bool) × (List Int) × Int × Int × Unit) × (((List D_Gate) × Unit × Unit) × (List (D_Gate × Int)) × Unit))) => f x.1.2.1 x.1.2.2.1 x.1.2.2.2.1 x.1.2.2.2.2.1 x.2.1.1 x.2.2.1
noncomputable def F45 (f : T45) : Fun := ⟨true, runR a45 o45 (u45 f)⟩
noncomputable def f45 (k : Nat) : T45 := fun ins1 a2 w3 n4 o0 o1 =>
  cond ((a2.length : Int) == w3)
    ((f68 k a2 o0 o1).bind fun y1 =>
    cond (y1.1.1 == 0)
      ((f23 k o0 o1).bind fun y2 =>
      (f31 k y2.1.1 ins1).bind fun y3 =>
      (f43 k y3.1.1 a2).bind fun y4 =>
      some (((y4.1.1 == n4), ()), ()))
      (some ((false, ()), ())))
    (some ((false, ()), ()))
noncomputable def C45 (k : Nat) : Nat → Fun := mkC [(23, (F23 (f23 k))), (31, (F31 (f31 k))), (43, (F43 (f43 k))), (68, (F68 (f68 k)))]
theorem e45 (k : Nat) (x : (a45).C) : bodyR (C45 k) tt noH Try.f45 a45 o45 x = u45 (f45 k) x := by kernel_rfl
theorem c45_ok (k : Nat) : ∀ f, SoundFn Try.prog f (C45 k f) := (mkC_cons (s23 k) (mkC_cons (s31 k) (mkC_cons (s43 k) (mkC_cons (s68 k) mkC_nil))))
theorem s45 (k : Nat) : SoundFn Try.prog 45 (F45 (f45 k)) :=
  have hC := c45_ok k
  fnR_sound hC ttOk (draw_ok hC ttOk mixed) Try.func45 (c0 := bd Try.f45) rfl (entry Try.func45 rfl (by decide)) noH_ok rfl (fun x _ h => (e45 k x).trans h)
/-! f12 fathom/fathomlaw16.VecAsks (R) -/
noncomputable def a12 : Shape := ⟨[.d T_Two, .d (.int .u8), .d .bool], []⟩
noncomputable def o12 : List Shape := [⟨[.d .bool], []⟩]
abbrev R12 : Type := ((Bool × Unit) × Unit)
abbrev T12 : Type := D_Two → Int → Bool → Option R12
noncomputable def u12 (f : T12) : (a12).C → Option (OutC o12) := fun (x : ((D_Two × Int × Bool × Unit) × Unit)) => f x.1.1 x.1.2.1 x.1.2.2.1
noncomputable def F12 (f : T12) : Fun := ⟨true, runR a12 o12 (u12 f)⟩
noncomputable def pa12_16378 : Shape := ⟨[.own i64, .own .bool, .d (.slice .bool), .d i64], []⟩
noncomputable def pw12_16378 : List Vm.Way := [⟨.exit 0, [], ⟨[], []⟩⟩, ⟨.ret, [6], ⟨[.d .bool], []⟩⟩]
abbrev R12_16378 : Type := ((Unit × Unit) ⊕ ((Bool × Unit) × Unit))
abbrev T12_16378 : Type := (List Int) → (List Bool) → (List Bool) → Int → Option R12_16378
noncomputable def u12_16378 (f : T12_16378) : (pa12_16378).C → Option (WayC pw12_16378) := fun (x : (((List Int) × (List Bool) × (List Bool) × Int × Unit) × Unit)) => f x.1.1 x.1.2.1 x.1.2.2.1 x.1.2.2.2.1
noncomputable def b12_16378 (k : Nat) (rec : T12_16378) : T12_16378 := fun told16 want17 v18 j19 =>
  cond (decide (j19 < (want17.length : Int)))
    (ix told16 j19 fun e1 =>
    cond (decide (e1 < 0))
      (some (.inr ((false, ()), ())))
      (ix told16 j19 fun e2 =>
      (f34 k v18 e2).bind fun y3 =>
      ix want17 j19 fun e4 =>
      cond (!(y3.1.1 == e4))
        (some (.inr ((false, ()), ())))
        ((rec told16 want17 v18 (w64 (j19 + 1))).bind fun y5 =>
        match y5 with
        | .inl y5_0 =>
          some (.inl ((), ()))
        | .inr y5_1 =>
          some (.inr ((y5_1.1.1, ()), ())))))
    (some (.inl ((), ())))
noncomputable def l12_16378 (k : Nat) : Nat → T12_16378
  | 0 => fun _ _ _ _ => none
  | j + 1 => b12_16378 k (l12_16378 k j)
noncomputable def f12 (k : Nat) : T12 := fun t0 width1 c2 =>
  (f44 k t0 (w64 (1 + (w64 ((Int.tmod width1 8)))))).bind fun y1 =>
  (f42 k (w64 (t0.1)) (w64 (1 + (w64 ((Int.tmod width1 8)))))).bind fun y2 =>
  (f42 k (w64 (t0.2.1)) (w64 (1 + (w64 ((Int.tmod width1 8)))))).bind fun y3 =>
  (f25 k y1.2.1.1 y1.2.2.1).bind fun y4 =>
  gd (decide ((0 + y1.1.2.2.2.1.length) * 1 ≤ room)) <|
  gd (decide (((([] : List Bool) ++ y1.1.2.2.2.1).length + 1) * 1 ≤ room)) <|
  (f63 k y4.1.1 y1.1.2.1 y1.1.2.2.1 y4.2.1.1 y4.2.2.1).bind fun y5 =>
  (f64 k y1.1.2.1 y1.1.2.2.1 y5.2.1.1 y5.2.2.1).bind fun y6 =>
  (f65 k y1.1.2.1 y1.1.2.2.1 y6.2.1.1 y6.2.2.1).bind fun y7 =>
  (f66 k y1.1.2.1 y7.2.1.1 y7.2.2.1).bind fun y8 =>
  (f23 k y8.2.1.1 y8.2.2.1).bind fun y9 =>
  (f31 k y9.1.1 ((([] : List Bool) ++ y1.1.2.2.2.1) ++ ([c2] : List Bool))).bind fun y10 =>
  (l12_16378 k k [y6.1.1, y7.1.1, y8.1.1] [(y2.1.1 == y3.1.1), (decide (y2.1.1 < y3.1.1)), (y2.1.1 != 0)] y10.1.1 0).bind fun y11 =>
  match y11 with
  | .inl y11_0 =>
    cond c2
      ((f45 k ((([] : List Bool) ++ y1.1.2.2.2.1) ++ ([c2] : List Bool)) y5.1.1 (w64 (1 + (w64 ((Int.tmod width1 8))))) y2.1.1 y8.2.1.1 y8.2.2.1).bind fun y12 =>
      cond y12.1.1
        ((f40 k ()).bind fun y13 =>
        some ((y13.1.1, ()), ()))
        (some ((false, ()), ())))
      ((f45 k ((([] : List Bool) ++ y1.1.2.2.2.1) ++ ([c2] : List Bool)) y5.1.1 (w64 (1 + (w64 ((Int.tmod width1 8))))) y3.1.1 y8.2.1.1 y8.2.2.1).bind fun y14 =>
      cond y14.1.1
        ((f40 k ()).bind fun y15 =>
        some ((y15.1.1, ()), ()))
        (some ((false, ()), ())))
  | .inr y11_1 =>
    some ((y11_1.1.1, ()), ())
noncomputable def C12 (k : Nat) : Nat → Fun := mkC [(23, (F23 (f23 k))), (25, (F25 (f25 k))), (31, (F31 (f31 k))), (34, (F34 (f34 k))), (40, (F40 (f40 k))), (42, (F42 (f42 k))), (44, (F44 (f44 k))), (45, (F45 (f45 k))), (63, (F63 (f63 k))), (64, (F64 (f64 k))), (65, (F65 (f65 k))), (66, (F66 (f66 k)))]
noncomputable def H12_16378 (k : Nat) : Nat → Option Cut := addH noH 16378 ⟨runCut (wrC (bodyOf (codeAt 16378 (bd Try.f12) 16378))) 117 [16, 17, 18, 19] pa12_16378 pw12_16378 (u12_16378 (l12_16378 k k))⟩
theorem e12_16378 (k : Nat) (rec : T12_16378) (x : (pa12_16378).C) : roundF (C12 k) tt noH (bodyOf (codeAt 16378 (bd Try.f12) 16378)) 32756 117 [16, 17, 18, 19] pa12_16378 pw12_16378 (u12_16378 rec) x = u12_16378 (b12_16378 k rec) x := by kernel_rfl
theorem e12 (k : Nat) (x : (a12).C) : bodyR (C12 k) tt (H12_16378 k) Try.f12 a12 o12 x = u12 (f12 k) x := by kernel_rfl
theorem c12_ok (k : Nat) : ∀ f, SoundFn Try.prog f (C12 k f) := (mkC_cons (s23 k) (mkC_cons (s25 k) (mkC_cons (s31 k) (mkC_cons (s34 k) (mkC_cons (s40 k) (mkC_cons (s42 k) (mkC_cons (s44 k) (mkC_cons (s45 k) (mkC_cons (s63 k) (mkC_cons (s64 k) (mkC_cons (s65 k) (mkC_cons (s66 k) mkC_nil))))))))))))
theorem h12_16378_ok (k : Nat) : ∀ p S, H12_16378 k p = some S → ∀ c, At (bd Try.f12) p c → CutOk Try.prog c S :=
  have hC := c12_ok k
  addLoop hC ttOk (draw_ok hC ttOk mixed) noH_ok (by kernel_rfl) (F := fun j => u12_16378 (l12_16378 k j)) (fun _ => rfl) (fun j x _ h => (e12_16378 k (l12_16378 k j) x).trans h) k
theorem s12 (k : Nat) : SoundFn Try.prog 12 (F12 (f12 k)) :=
  have hC := c12_ok k
  fnR_sound hC ttOk (draw_ok hC ttOk mixed) Try.func12 (c0 := bd Try.f12) rfl (entry Try.func12 rfl (by decide)) (h12_16378_ok k) rfl (fun x _ h => (e12 k x).trans h)
/-! f115 math/bits.Len64 (R) -/
noncomputable def a115 : Shape := ⟨[.d (.int .u64)], []⟩
noncomputable def o115 : List Shape := [⟨[.d i64], []⟩]
abbrev R115 : Type := ((Int × Unit) × Unit)
abbrev T115 : Type := Int → Option R115
noncomputable def u115 (f : T115) : (a115).C → Option (OutC o115) := fun (x : ((Int × Unit) × Unit)) => f x.1.1
noncomputable def F115 (f : T115) : Fun := ⟨true, runR a115 o115 (u115 f)⟩
noncomputable def pa115_60 : Shape := ⟨[.d (.int .u64)], []⟩
noncomputable def pw115_60 : List Vm.Way := [⟨.normal, [14], ⟨[.d .bool], []⟩⟩]
abbrev R115_60 : Type := ((Bool × Unit) × Unit)
abbrev T115_60 : Type := Int → Option R115_60
noncomputable def u115_60 (f : T115_60) : (pa115_60).C → Option (WayC pw115_60) := fun (x : ((Int × Unit) × Unit)) => f x.1.1
noncomputable def l115_60 (k : Nat) : T115_60 := fun x0 =>
  some (((decide (x0 ≥ 256)), ()), ())
noncomputable def pa115_14 : Shape := ⟨[.d (.int .u64), .d i64], []⟩
noncomputable def pw115_14 : List Vm.Way := [⟨.normal, [0, 2], ⟨[.d (.int .u64), .d i64], []⟩⟩]
abbrev R115_14 : Type := ((Int × Int × Unit) × Unit)
abbrev T115_14 : Type := Int → Int → Option R115_14
noncomputable def u115_14 (f : T115_14) : (pa115_14).C → Option (WayC pw115_14) := fun (x : ((Int × Int × Unit) × Unit)) => f x.1.1 x.1.2.1
noncomputable def l115_14 (k : Nat) : T115_14 := fun x0 n2 =>
  cond (decide (x0 ≥ 65536))
    (some (((Int.fdiv x0 (2 ^ 16)), (w64 (n2 + 16)), ()), ()))
    (some ((x0, n2, ()), ()))
noncomputable def f115 (k : Nat) : T115 := fun x0 =>
  cond (decide (x0 ≥ 4294967296))
    ((l115_14 k (Int.fdiv x0 (2 ^ 32)) 32).bind fun y1 =>
    (l115_60 k y1.1.1).bind fun y2 =>
    cond y2.1.1
      (ixs s_0 (IntKind.u8.wrap ((Int.fdiv y1.1.1 (2 ^ 8)))) fun c3 =>
      some (((w64 ((w64 (y1.1.2.1 + 8)) + (w64 (c3)))), ()), ()))
      (ixs s_0 (IntKind.u8.wrap (y1.1.1)) fun c4 =>
      some (((w64 (y1.1.2.1 + (w64 (c4)))), ()), ())))
    ((l115_14 k x0 0).bind fun y5 =>
    (l115_60 k y5.1.1).bind fun y6 =>
    cond y6.1.1
      (ixs s_0 (IntKind.u8.wrap ((Int.fdiv y5.1.1 (2 ^ 8)))) fun c7 =>
      some (((w64 ((w64 (y5.1.2.1 + 8)) + (w64 (c7)))), ()), ()))
      (ixs s_0 (IntKind.u8.wrap (y5.1.1)) fun c8 =>
      some (((w64 (y5.1.2.1 + (w64 (c8)))), ()), ())))
noncomputable def C115 (k : Nat) : Nat → Fun := mkC []
noncomputable def H115_60 (k : Nat) : Nat → Option Cut := addH noH 60 ⟨runCut (wrC (codeAt 60 (bd Try.f115) 60)) 25 [0] pa115_60 pw115_60 (u115_60 (l115_60 k))⟩
theorem e115_60 (k : Nat) (x : (pa115_60).C) : pieceF (C115 k) tt noH (codeAt 60 (bd Try.f115) 60) 60 25 [0] pa115_60 pw115_60 x = u115_60 (l115_60 k) x := by kernel_rfl
noncomputable def H115_14 (k : Nat) : Nat → Option Cut := addH (H115_60 k) 14 ⟨runCut (wrC (codeAt 14 (bd Try.f115) 14)) 25 [0, 2] pa115_14 pw115_14 (u115_14 (l115_14 k))⟩
theorem e115_14 (k : Nat) (x : (pa115_14).C) : pieceF (C115 k) tt (H115_60 k) (codeAt 14 (bd Try.f115) 14) 14 25 [0, 2] pa115_14 pw115_14 x = u115_14 (l115_14 k) x := by kernel_rfl
theorem e115 (k : Nat) (x : (a115).C) : bodyR (C115 k) tt (H115_14 k) Try.f115 a115 o115 x = u115 (f115 k) x := by kernel_rfl
theorem c115_ok (k : Nat) : ∀ f, SoundFn Try.prog f (C115 k f) := mkC_nil
theorem h115_60_ok (k : Nat) : ∀ p S, H115_60 k p = some S → ∀ c, At (bd Try.f115) p c → CutOk Try.prog c S :=
  have hC := c115_ok k
  addPiece hC ttOk (draw_ok hC ttOk mixed) noH_ok (fun x _ h => (e115_60 k x).trans h)
theorem h115_14_ok (k : Nat) : ∀ p S, H115_14 k p = some S → ∀ c, At (bd Try.f115) p c → CutOk Try.prog c S :=
  have hC := c115_ok k
  addPiece hC ttOk (draw_ok hC ttOk mixed) (h115_60_ok k) (fun x _ h => (e115_14 k x).trans h)
theorem s115 (k : Nat) : SoundFn Try.prog 115 (F115 (f115 k)) :=
  have hC := c115_ok k
  fnR_sound hC ttOk (draw_ok hC ttOk mixed) Try.func115 (c0 := bd Try.f115) rfl (entry Try.func115 rfl (by decide)) (h115_14_ok k) rfl (fun x _ h => (e115 k x).trans h)
/-! f108 math/bits.Len (R) -/
noncomputable def a108 : Shape := ⟨[.d (.int .u64)], []⟩
noncomputable def o108 : List Shape := [⟨[.d i64], []⟩]
abbrev R108 : Type := ((Int × Unit) × Unit)
abbrev T108 : Type := Int → Option R108
noncomputable def u108 (f : T108) : (a108).C → Option (OutC o108) := fun (x : ((Int × Unit) × Unit)) => f x.1.1
noncomputable def F108 (f : T108) : Fun := ⟨true, runR a108 o108 (u108 f)⟩
noncomputable def f108 (k : Nat) : T108 := fun x0 =>
  (f115 k x0).bind fun y1 =>
  some ((y1.1.1, ()), ())
noncomputable def C108 (k : Nat) : Nat → Fun := mkC [(115, (F115 (f115 k)))]
theorem e108 (k : Nat) (x : (a108).C) : bodyR (C108 k) tt noH Try.f108 a108 o108 x = u108 (f108 k) x := by kernel_rfl
theorem c108_ok (k : Nat) : ∀ f, SoundFn Try.prog f (C108 k f) := (mkC_cons (s115 k) mkC_nil)
theorem s108 (k : Nat) : SoundFn Try.prog 108 (F108 (f108 k)) :=
  have hC := c108_ok k
  fnR_sound hC ttOk (draw_ok hC ttOk mixed) Try.func108 (c0 := bd Try.f108) rfl (entry Try.func108 rfl (by decide)) noH_ok rfl (fun x _ h => (e108 k x).trans h)
/-! f69 fathom/card.Enough (R) -/
noncomputable def a69 : Shape := ⟨[.d i64], []⟩
noncomputable def o69 : List Shape := [⟨[.d i64], []⟩]
abbrev R69 : Type := ((Int × Unit) × Unit)
abbrev T69 : Type := Int → Option R69
noncomputable def u69 (f : T69) : (a69).C → Option (OutC o69) := fun (x : ((Int × Unit) × Unit)) => f x.1.1
noncomputable def F69 (f : T69) : Fun := ⟨true, runR a69 o69 (u69 f)⟩
noncomputable def f69 (k : Nat) : T69 := fun n0 =>
  cond (decide (n0 < 0))
    (some ((0, ()), ()))
    (cond (decide (n0 > 65535))
      (some ((0, ()), ()))
      ((f108 k (IntKind.u64.wrap (n0))).bind fun y1 =>
      some (((minmax true 1 y1.1.1), ()), ())))
noncomputable def C69 (k : Nat) : Nat → Fun := mkC [(108, (F108 (f108 k)))]
theorem e69 (k : Nat) (x : (a69).C) : bodyR (C69 k) tt noH Try.f69 a69 o69 x = u69 (f69 k) x := by kernel_rfl
theorem c69_ok (k : Nat) : ∀ f, SoundFn Try.prog f (C69 k f) := (mkC_cons (s108 k) mkC_nil)
theorem s69 (k : Nat) : SoundFn Try.prog 69 (F69 (f69 k)) :=
  have hC := c69_ok k
  fnR_sound hC ttOk (draw_ok hC ttOk mixed) Try.func69 (c0 := bd Try.f69) rfl (entry Try.func69 rfl (by decide)) noH_ok rfl (fun x _ h => (e69 k x).trans h)
/-! f70 fathom/fathomref17.Enough (R) -/
noncomputable def a70 : Shape := ⟨[.d i64], []⟩
noncomputable def o70 : List Shape := [⟨[.d i64], []⟩]
abbrev R70 : Type := ((Int × Unit) × Unit)
abbrev T70 : Type := Int → Option R70
noncomputable def u70 (f : T70) : (a70).C → Option (OutC o70) := fun (x : ((Int × Unit) × Unit)) => f x.1.1
noncomputable def F70 (f : T70) : Fun := ⟨true, runR a70 o70 (u70 f)⟩
noncomputable def pa70_60 : Shape := ⟨[.d i64, .d i64], []⟩
noncomputable def pw70_60 : List Vm.Way := [⟨.exit 0, [3], ⟨[.d i64], []⟩⟩]
abbrev R70_60 : Type := ((Int × Unit) × Unit)
abbrev T70_60 : Type := Int → Int → Option R70_60
noncomputable def u70_60 (f : T70_60) : (pa70_60).C → Option (WayC pw70_60) := fun (x : ((Int × Int × Unit) × Unit)) => f x.1.1 x.1.2.1
noncomputable def b70_60 (k : Nat) (rec : T70_60) : T70_60 := fun n0 w3 =>
  cond (decide (w3 < 0))
    (none)
    (cond (decide ((w64 (1 * 2 ^ (min w3.toNat 64))) ≤ n0))
      ((rec n0 (w64 (w3 + 1))).bind fun y1 =>
      some ((y1.1.1, ()), ()))
      (some ((w3, ()), ())))
noncomputable def l70_60 (k : Nat) : Nat → T70_60
  | 0 => fun _ _ => none
  | j + 1 => b70_60 k (l70_60 k j)
noncomputable def f70 (k : Nat) : T70 := fun n0 =>
  cond (decide (n0 < 0))
    (some ((0, ()), ()))
    (cond (decide (n0 > 65535))
      (some ((0, ()), ()))
      ((l70_60 k k n0 1).bind fun y1 =>
      some ((y1.1.1, ()), ())))
noncomputable def C70 (k : Nat) : Nat → Fun := mkC []
noncomputable def H70_60 (k : Nat) : Nat → Option Cut := addH noH 60 ⟨runCut (wrC (bodyOf (codeAt 60 (bd Try.f70) 60))) 17 [0, 3] pa70_60 pw70_60 (u70_60 (l70_60 k k))⟩
theorem e70_60 (k : Nat) (rec : T70_60) (x : (pa70_60).C) : roundF (C70 k) tt noH (bodyOf (codeAt 60 (bd Try.f70) 60)) 120 17 [0, 3] pa70_60 pw70_60 (u70_60 rec) x = u70_60 (b70_60 k rec) x := by kernel_rfl
theorem e70 (k : Nat) (x : (a70).C) : bodyR (C70 k) tt (H70_60 k) Try.f70 a70 o70 x = u70 (f70 k) x := by kernel_rfl
theorem c70_ok (k : Nat) : ∀ f, SoundFn Try.prog f (C70 k f) := mkC_nil
theorem h70_60_ok (k : Nat) : ∀ p S, H70_60 k p = some S → ∀ c, At (bd Try.f70) p c → CutOk Try.prog c S :=
  have hC := c70_ok k
  addLoop hC ttOk (draw_ok hC ttOk mixed) noH_ok (by kernel_rfl) (F := fun j => u70_60 (l70_60 k j)) (fun _ => rfl) (fun j x _ h => (e70_60 k (l70_60 k j) x).trans h) k
theorem s70 (k : Nat) : SoundFn Try.prog 70 (F70 (f70 k)) :=
  have hC := c70_ok k
  fnR_sound hC ttOk (draw_ok hC ttOk mixed) Try.func70 (c0 := bd Try.f70) rfl (entry Try.func70 rfl (by decide)) (h70_60_ok k) rfl (fun x _ h => (e70 k x).trans h)
/-! f116 fathom/card.may$1 (R) -/
noncomputable def a116 : Shape := ⟨[.d i64, .ptr 0], [.box [.ptr 1], .box [.d (.slice T_Gate), .mp 2], .map T_Gate i64]⟩
noncomputable def o116 : List Shape := [⟨[.d .bool], []⟩]
abbrev R116 : Type := ((Bool × Unit) × Unit)
abbrev T116 : Type := Int → (List D_Gate) → (List (D_Gate × Int)) → Option R116
noncomputable def u116 (f : T116) : (a116).C → Option (OutC o116) := fun (x : ((Int × Unit × Unit) × ((Unit × Unit) × ((List D_Gate) × Unit × Unit) × (List (D_Gate × Int)) × Unit))) => f x.1.1 x.2.2.1.1 x.2.2.2.1
noncomputable def F116 (f : T116) : Fun := ⟨true, runR a116 o116 (u116 f)⟩
noncomputable def f116 (k : Nat) : T116 := fun a0 o1 o2 =>
  (f24 k a0 o1 o2).bind fun y1 =>
  some (((!y1.1.1), ()), ())
noncomputable def C116 (k : Nat) : Nat → Fun := mkC [(24, (F24 (f24 k)))]
theorem e116 (k : Nat) (x : (a116).C) : bodyR (C116 k) tt noH Try.f116 a116 o116 x = u116 (f116 k) x := by kernel_rfl
theorem c116_ok (k : Nat) : ∀ f, SoundFn Try.prog f (C116 k f) := (mkC_cons (s24 k) mkC_nil)
theorem s116 (k : Nat) : SoundFn Try.prog 116 (F116 (f116 k)) :=
  have hC := c116_ok k
  fnR_sound hC ttOk (draw_ok hC ttOk mixed) Try.func116 (c0 := bd Try.f116) rfl (entry Try.func116 rfl (by decide)) noH_ok rfl (fun x _ h => (e116 k x).trans h)
/-! f113v2 slices.IndexFunc[[]int,int] (R) -/
noncomputable def a113v2 : Shape := ⟨[.d (.slice i64), .fn 116 [0]], [.box [.ptr 1], .box [.d (.slice T_Gate), .mp 2], .map T_Gate i64]⟩
noncomputable def o113v2 : List Shape := [⟨[.d i64], []⟩]
abbrev R113v2 : Type := ((Int × Unit) × Unit)
abbrev T113v2 : Type := (List Int) → (List D_Gate) → (List (D_Gate × Int)) → Option R113v2
noncomputable def u113v2 (f : T113v2) : (a113v2).C → Option (OutC o113v2) := fun (x : (((List Int) × Unit × Unit) × ((Unit × Unit) × ((List D_Gate) × Unit × Unit) × (List (D_Gate × Int)) × Unit))) => f x.1.1 x.2.2.1.1 x.2.2.2.1
noncomputable def F113v2 (f : T113v2) : Fun := ⟨true, runR a113v2 o113v2 (u113v2 f)⟩
noncomputable def pa113v2_26 : Shape := ⟨[.d (.slice i64), .fn 116 [0], .d i64, .d i64], [.lk (.box [.ptr 1]), .lk (.box [.d (.slice T_Gate), .mp 2]), .lk (.map T_Gate i64)]⟩
noncomputable def pw113v2_26 : List Vm.Way := [⟨.exit 0, [], ⟨[], [.any, .any, .any]⟩⟩, ⟨.ret, [4], ⟨[.d i64], [.any, .any, .any]⟩⟩]
abbrev R113v2_26 : Type := ((Unit × (Unit × Unit × Unit × Unit)) ⊕ ((Int × Unit) × (Unit × Unit × Unit × Unit)))
abbrev T113v2_26 : Type := (List Int) → Int → Int → (List D_Gate) → (List (D_Gate × Int)) → Option R113v2_26
noncomputable def u113v2_26 (f : T113v2_26) : (pa113v2_26).C → Option (WayC pw113v2_26) := fun (x : (((List Int) × Unit × Int × Int × Unit) × ((Unit × Unit) × ((List D_Gate) × Unit × Unit) × (List (D_Gate × Int)) × Unit))) => f x.1.1 x.1.2.2.1 x.1.2.2.2.1 x.2.2.1.1 x.2.2.2.1
noncomputable def b113v2_26 (k : Nat) (rec : T113v2_26) : T113v2_26 := fun s0 t7 t8 o1 o2 =>
  cond (decide (t8 < t7))
    (ix s0 t8 fun e1 =>
    (f116 k e1 o1 o2).bind fun y2 =>
    cond y2.1.1
      (some (.inr ((t8, ()), ((), (), (), ()))))
      ((rec s0 t7 (w64 (t8 + 1)) o1 o2).bind fun y3 =>
      match y3 with
      | .inl y3_0 =>
        some (.inl ((), ((), (), (), ())))
      | .inr y3_1 =>
        some (.inr ((y3_1.1.1, ()), ((), (), (), ())))))
    (some (.inl ((), ((), (), (), ()))))
noncomputable def l113v2_26 (k : Nat) : Nat → T113v2_26
  | 0 => fun _ _ _ _ _ => none
  | j + 1 => b113v2_26 k (l113v2_26 k j)
noncomputable def f113v2 (k : Nat) : T113v2 := fun s0 o1 o2 =>
  (l113v2_26 k k s0 (s0.length : Int) 0 o1 o2).bind fun y1 =>
  match y1 with
  | .inl y1_0 =>
    some (((-1), ()), ())
  | .inr y1_1 =>
    some ((y1_1.1.1, ()), ())
noncomputable def C113v2 (k : Nat) : Nat → Fun := mkC [(116, (F116 (f116 k)))]
noncomputable def H113v2_26 (k : Nat) : Nat → Option Cut := addH noH 26 ⟨runCut (wrC (bodyOf (codeAt 26 (bd Try.f113) 26))) 19 [0, 1, 7, 8] pa113v2_26 pw113v2_26 (u113v2_26 (l113v2_26 k k))⟩
theorem e113v2_26 (k : Nat) (rec : T113v2_26) (x : (pa113v2_26).C) : roundF (C113v2 k) tt noH (bodyOf (codeAt 26 (bd Try.f113) 26)) 52 19 [0, 1, 7, 8] pa113v2_26 pw113v2_26 (u113v2_26 rec) x = u113v2_26 (b113v2_26 k rec) x := by kernel_rfl
theorem e113v2 (k : Nat) (x : (a113v2).C) : bodyR (C113v2 k) tt (H113v2_26 k) Try.f113 a113v2 o113v2 x = u113v2 (f113v2 k) x := by kernel_rfl
theorem c113v2_ok (k : Nat) : ∀ f, SoundFn Try.prog f (C113v2 k f) := (mkC_cons (s116 k) mkC_nil)
theorem h113v2_26_ok (k : Nat) : ∀ p S, H113v2_26 k p = some S → ∀ c, At (bd Try.f113) p c → CutOk Try.prog c S :=
  have hC := c113v2_ok k
  addLoop hC ttOk (draw_ok hC ttOk mixed) noH_ok (by kernel_rfl) (F := fun j => u113v2_26 (l113v2_26 k j)) (fun _ => rfl) (fun j x _ h => (e113v2_26 k (l113v2_26 k j) x).trans h) k
theorem s113v2 (k : Nat) : SoundFn Try.prog 113 (F113v2 (f113v2 k)) :=
  have hC := c113v2_ok k
  fnR_sound hC ttOk (draw_ok hC ttOk mixed) Try.func113 (c0 := bd Try.f113) rfl (entry Try.func113 rfl (by decide)) (h113v2_26_ok k) rfl (fun x _ h => (e113v2 k x).trans h)
/-! f106v2 slices.ContainsFunc[[]int,int] (R) -/
noncomputable def a106v2 : Shape := ⟨[.d (.slice i64), .fn 116 [0]], [.box [.ptr 1], .box [.d (.slice T_Gate), .mp 2], .map T_Gate i64]⟩
noncomputable def o106v2 : List Shape := [⟨[.d .bool], []⟩]
abbrev R106v2 : Type := ((Bool × Unit) × Unit)
abbrev T106v2 : Type := (List Int) → (List D_Gate) → (List (D_Gate × Int)) → Option R106v2
noncomputable def u106v2 (f : T106v2) : (a106v2).C → Option (OutC o106v2) := fun (x : (((List Int) × Unit × Unit) × ((Unit × Unit) × ((List D_Gate) × Unit × Unit) × (List (D_Gate × Int)) × Unit))) => f x.1.1 x.2.2.1.1 x.2.2.2.1
noncomputable def F106v2 (f : T106v2) : Fun := ⟨true, runR a106v2 o106v2 (u106v2 f)⟩
noncomputable def f106v2 (k : Nat) : T106v2 := fun s0 o1 o2 =>
  (f113v2 k s0 o1 o2).bind fun y1 =>
  some (((decide (y1.1.1 ≥ 0)), ()), ())
noncomputable def C106v2 (k : Nat) : Nat → Fun := mkC [(113, (F113v2 (f113v2 k)))]
theorem e106v2 (k : Nat) (x : (a106v2).C) : bodyR (C106v2 k) tt noH Try.f106 a106v2 o106v2 x = u106v2 (f106v2 k) x := by kernel_rfl
theorem c106v2_ok (k : Nat) : ∀ f, SoundFn Try.prog f (C106v2 k f) := (mkC_cons (s113v2 k) mkC_nil)
theorem s106v2 (k : Nat) : SoundFn Try.prog 106 (F106v2 (f106v2 k)) :=
  have hC := c106v2_ok k
  fnR_sound hC ttOk (draw_ok hC ttOk mixed) Try.func106 (c0 := bd Try.f106) rfl (entry Try.func106 rfl (by decide)) noH_ok rfl (fun x _ h => (e106v2 k x).trans h)
end Go.Proofs.Ytgljnnokifggkaa.M
