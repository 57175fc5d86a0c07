/-
PRINTED BY vmp.py: the functions of a law, each as a Lean function, and that it is what the code computes.
-/
import Derived.Test.YtgljnnokifggkaaVm42
import Derived.Test.YtgljnnokifggkaaProg
import Derived.Test.YtgljnnokifggkaaChecked
import Derived.KernelRfl
set_option linter.unusedVariables false
set_option maxRecDepth 100000
namespace Go.Proofs.Ytgljnnokifggkaa.M
open Go Go.Proofs Go.Proofs.Ytgljnnokifggkaa.Vm
abbrev T_errorAddressString : Ty := (.pair .str (.pair (.int .u64) .unit))
abbrev D_errorAddressString : Type := (ByteArray × Int × Unit)
abbrev T_Gate : Ty := (.pair i64 (.pair i64 .unit))
abbrev D_Gate : Type := (Int × Int × Unit)
abbrev T_Asked : Ty := (.pair (.slice i64) (.pair i64 .unit))
abbrev D_Asked : Type := ((List Int) × Int × Unit)
abbrev T_Two : Ty := (.pair (.int .u16) (.pair (.int .u16) (.pair (.int .u32) .unit)))
abbrev D_Two : Type := (Int × Int × Int × Unit)
abbrev T_boundsError : Ty := (.pair i64 (.pair i64 (.pair .bool (.pair (.int .u8) .unit))))
abbrev D_boundsError : Type := (Int × Int × Bool × Int × Unit)
abbrev T_Act : Ty := (.pair i64 (.pair i64 (.pair i64 (.pair i64 .unit))))
abbrev D_Act : Type := (Int × Int × Int × Int × Unit)
def s_0 : ByteArray := ByteArray.mk #[0, 1, 2, 2, 3, 3, 3, 3, 4, 4, 4, 4, 4, 4, 4, 4, 5, 5, 5, 5, 5, 5, 5, 5, 5, 5, 5, 5, 5, 5, 5, 5, 6, 6, 6, 6, 6, 6, 6, 6, 6, 6, 6, 6, 6, 6, 6, 6, 6, 6, 6, 6, 6, 6, 6, 6, 6, 6, 6, 6, 6, 6, 6, 6, 7, 7, 7, 7, 7, 7, 7, 7, 7, 7, 7, 7, 7, 7, 7, 7, 7, 7, 7, 7, 7, 7, 7, 7, 7, 7, 7, 7, 7, 7, 7, 7, 7, 7, 7, 7, 7, 7, 7, 7, 7, 7, 7, 7, 7, 7, 7, 7, 7, 7, 7, 7, 7, 7, 7, 7, 7, 7, 7, 7, 7, 7, 7, 7, 8, 8, 8, 8, 8, 8, 8, 8, 8, 8, 8, 8, 8, 8, 8, 8, 8, 8, 8, 8, 8, 8, 8, 8, 8, 8, 8, 8, 8, 8, 8, 8, 8, 8, 8, 8, 8, 8, 8, 8, 8, 8, 8, 8, 8, 8, 8, 8, 8, 8, 8, 8, 8, 8, 8, 8, 8, 8, 8, 8, 8, 8, 8, 8, 8, 8, 8, 8, 8, 8, 8, 8, 8, 8, 8, 8, 8, 8, 8, 8, 8, 8, 8, 8, 8, 8, 8, 8, 8, 8, 8, 8, 8, 8, 8, 8, 8, 8, 8, 8, 8, 8, 8, 8, 8, 8, 8, 8, 8, 8, 8, 8, 8, 8, 8, 8, 8, 8, 8, 8, 8, 8, 8, 8, 8, 8, 8, 8]
def tl : List (Nat × TI) := [(3, .dat i64 0), (4, .dat .bool 0), (5, .dat (.int .u8) 0), (9, .dat .str 0), (23, .ref 0), (24, .dat (.slice T_Gate) 16), (28, .dat T_Gate 0), (38, .map T_Gate i64), (40, .mix 2 [(0, 24), (1, 38)]), (43, .dat (.slice i64) 8), (45, .dat (.slice .bool) 1), (63, .dat (.int .u16) 0), (64, .dat (.int .u32) 0), (66, .dat T_Two 0), (86, .dat (.slice (.slice i64)) 24), (92, .dat T_Asked 0), (110, .dat (.int .u64) 0), (125, .dat (.int .u64) 0)]
def tt := mkT tl
theorem ttOk : TtOk Try.prog tt := mkT_ok (by kernel_rfl)
theorem mixed : Try.prog.follows .mixedOrders = true := by kernel_rfl
/-! f38 fathom/aig.New (W) -/
noncomputable def a38 : Shape := ⟨[], []⟩
noncomputable def o38 : List Shape := [⟨[.ptr 0], [.box [.own T_Gate, .mp 1], .map T_Gate i64]⟩]
abbrev R38 : Type := ((Unit × Unit) × (((List D_Gate) × Unit × Unit) × (List (D_Gate × Int)) × Unit))
abbrev T38 : Type := Unit → Option R38
noncomputable def u38 (f : T38) : (a38).C → Option (OutC o38) := fun (x : (Unit × Unit)) => f ()
noncomputable def F38 (f : T38) : Fun := ⟨false, runW a38 o38 (u38 f)⟩
noncomputable def f38 (k : Nat) : T38 := fun _ =>
  some (((), ()), (([], (), ()), [], ()))
noncomputable def C38 (k : Nat) : Nat → Fun := mkC []
theorem c38_ok (k : Nat) : ∀ f, SoundFn Try.prog f (C38 k f) := mkC_nil
theorem e38 (k : Nat) (x : (a38).C) : bodyW (C38 k) tt noH Try.f38 a38 o38 x = u38 (f38 k) x := by kernel_rfl
theorem s38 (k : Nat) : SoundFn Try.prog 38 (F38 (f38 k)) :=
  have hC := c38_ok k
  fnW_sound hC ttOk (draw_ok hC ttOk mixed) Try.func38 (c0 := bd Try.f38) rfl (entry Try.func38 rfl (by decide)) noH_ok (fun x _ h => (e38 k x).trans h)
/-! f55 fathom/fathomref16.Power (R) -/
noncomputable def a55 : Shape := ⟨[.d i64], []⟩
noncomputable def o55 : List Shape := [⟨[.d i64], []⟩]
abbrev R55 : Type := ((Int × Unit) × Unit)
abbrev T55 : Type := Int → Option R55
noncomputable def u55 (f : T55) : (a55).C → Option (OutC o55) := fun (x : ((Int × Unit) × Unit)) => f x.1.1
noncomputable def F55 (f : T55) : Fun := ⟨true, runR a55 o55 (u55 f)⟩
noncomputable def f55 (k : Nat) : T55 := fun w0 =>
  cond (decide (w0 < 0))
    (none)
    (some (((w64 (1 * 2 ^ (min w0.toNat 64))), ()), ()))
noncomputable def C55 (k : Nat) : Nat → Fun := mkC []
theorem c55_ok (k : Nat) : ∀ f, SoundFn Try.prog f (C55 k f) := mkC_nil
theorem e55 (k : Nat) (x : (a55).C) : bodyR (C55 k) tt noH Try.f55 a55 o55 x = u55 (f55 k) x := by kernel_rfl
theorem s55 (k : Nat) : SoundFn Try.prog 55 (F55 (f55 k)) :=
  have hC := c55_ok k
  fnR_sound hC ttOk (draw_ok hC ttOk mixed) Try.func55 (c0 := bd Try.f55) rfl (entry Try.func55 rfl (by decide)) noH_ok rfl (fun x _ h => (e55 k x).trans h)
/-! f42 fathom/fathomref16.Mod (R) -/
noncomputable def a42 : Shape := ⟨[.d i64, .d i64], []⟩
noncomputable def o42 : List Shape := [⟨[.d i64], []⟩]
abbrev R42 : Type := ((Int × Unit) × Unit)
abbrev T42 : Type := Int → Int → Option R42
noncomputable def u42 (f : T42) : (a42).C → Option (OutC o42) := fun (x : ((Int × Int × Unit) × Unit)) => f x.1.1 x.1.2.1
noncomputable def F42 (f : T42) : Fun := ⟨true, runR a42 o42 (u42 f)⟩
noncomputable def f42 (k : Nat) : T42 := fun n0 w1 =>
  (f55 k w1).bind fun y1 =>
  cond (decide (y1.1.1 = 0))
    (none)
    (cond (decide ((Int.tmod n0 y1.1.1) < 0))
      ((f55 k w1).bind fun y2 =>
      some (((w64 ((Int.tmod n0 y1.1.1) + y2.1.1)), ()), ()))
      (some (((Int.tmod n0 y1.1.1), ()), ())))
noncomputable def C42 (k : Nat) : Nat → Fun := mkC [(55, (F55 (f55 k)))]
theorem c42_ok (k : Nat) : ∀ f, SoundFn Try.prog f (C42 k f) := (mkC_cons (s55 k) mkC_nil)
theorem e42 (k : Nat) (x : (a42).C) : bodyR (C42 k) tt noH Try.f42 a42 o42 x = u42 (f42 k) x := by kernel_rfl
theorem s42 (k : Nat) : SoundFn Try.prog 42 (F42 (f42 k)) :=
  have hC := c42_ok k
  fnR_sound hC ttOk (draw_ok hC ttOk mixed) Try.func42 (c0 := bd Try.f42) rfl (entry Try.func42 rfl (by decide)) noH_ok rfl (fun x _ h => (e42 k x).trans h)
/-! f41 fathom/fathomref16.Bit (R) -/
noncomputable def a41 : Shape := ⟨[.d i64, .d i64], []⟩
noncomputable def o41 : List Shape := [⟨[.d i64], []⟩]
abbrev R41 : Type := ((Int × Unit) × Unit)
abbrev T41 : Type := Int → Int → Option R41
noncomputable def u41 (f : T41) : (a41).C → Option (OutC o41) := fun (x : ((Int × Int × Unit) × Unit)) => f x.1.1 x.1.2.1
noncomputable def F41 (f : T41) : Fun := ⟨true, runR a41 o41 (u41 f)⟩
noncomputable def pa41_26 : Shape := ⟨[.d i64, .d i64, .d i64], []⟩
noncomputable def pw41_26 : List Vm.Way := [⟨.exit 0, [0], ⟨[.d i64], []⟩⟩]
abbrev R41_26 : Type := ((Int × Unit) × Unit)
abbrev T41_26 : Type := Int → Int → Int → Option R41_26
noncomputable def u41_26 (f : T41_26) : (pa41_26).C → Option (WayC pw41_26) := fun (x : ((Int × Int × Int × Unit) × Unit)) => f x.1.1 x.1.2.1 x.1.2.2.1
noncomputable def b41_26 (k : Nat) (rec : T41_26) : T41_26 := fun n0 i1 k5 =>
  cond (decide (k5 < i1))
    ((rec (w64 (Int.tdiv n0 2)) i1 (w64 (k5 + 1))).bind fun y1 =>
    some ((y1.1.1, ()), ()))
    (some ((n0, ()), ()))
noncomputable def l41_26 (k : Nat) : Nat → T41_26
  | 0 => fun _ _ _ => none
  | j + 1 => b41_26 k (l41_26 k j)
noncomputable def f41 (k : Nat) : T41 := fun n0 i1 =>
  (l41_26 k k n0 i1 0).bind fun y1 =>
  some (((Int.tmod y1.1.1 2), ()), ())
noncomputable def C41 (k : Nat) : Nat → Fun := mkC []
theorem c41_ok (k : Nat) : ∀ f, SoundFn Try.prog f (C41 k f) := mkC_nil
noncomputable def H41_26 (k : Nat) : Nat → Option Cut := addH noH 26 ⟨runCut (wrC (bodyOf (codeAt 26 (bd Try.f41) 26))) 15 [0, 1, 5] pa41_26 pw41_26 (u41_26 (l41_26 k k))⟩
theorem e41_26 (k : Nat) (rec : T41_26) (x : (pa41_26).C) : roundF (C41 k) tt noH (bodyOf (codeAt 26 (bd Try.f41) 26)) 52 15 [0, 1, 5] pa41_26 pw41_26 (u41_26 rec) x = u41_26 (b41_26 k rec) x := by kernel_rfl
theorem h41_26_ok (k : Nat) : ∀ p S, H41_26 k p = some S → ∀ c, At (bd Try.f41) p c → CutOk Try.prog c S :=
  have hC := c41_ok k
  addLoop hC ttOk (draw_ok hC ttOk mixed) noH_ok (by kernel_rfl) (F := fun j => u41_26 (l41_26 k j)) (fun _ => rfl) (fun j x _ h => (e41_26 k (l41_26 k j) x).trans h) k
theorem e41 (k : Nat) (x : (a41).C) : bodyR (C41 k) tt (H41_26 k) Try.f41 a41 o41 x = u41 (f41 k) x := by kernel_rfl
theorem s41 (k : Nat) : SoundFn Try.prog 41 (F41 (f41 k)) :=
  have hC := c41_ok k
  fnR_sound hC ttOk (draw_ok hC ttOk mixed) Try.func41 (c0 := bd Try.f41) rfl (entry Try.func41 rfl (by decide)) (h41_26_ok k) rfl (fun x _ h => (e41 k x).trans h)
/-! f88 fathom/aig.input (R) -/
noncomputable def a88 : Shape := ⟨[], []⟩
noncomputable def o88 : List Shape := [⟨[.d T_Gate], []⟩]
abbrev R88 : Type := ((D_Gate × Unit) × Unit)
abbrev T88 : Type := Unit → Option R88
noncomputable def u88 (f : T88) : (a88).C → Option (OutC o88) := fun (x : (Unit × Unit)) => f ()
noncomputable def F88 (f : T88) : Fun := ⟨true, runR a88 o88 (u88 f)⟩
noncomputable def f88 (k : Nat) : T88 := fun _ =>
  some ((((-1), (-1), ()), ()), ())
noncomputable def C88 (k : Nat) : Nat → Fun := mkC []
theorem c88_ok (k : Nat) : ∀ f, SoundFn Try.prog f (C88 k f) := mkC_nil
theorem e88 (k : Nat) (x : (a88).C) : bodyR (C88 k) tt noH Try.f88 a88 o88 x = u88 (f88 k) x := by kernel_rfl
theorem s88 (k : Nat) : SoundFn Try.prog 88 (F88 (f88 k)) :=
  have hC := c88_ok k
  fnR_sound hC ttOk (draw_ok hC ttOk mixed) Try.func88 (c0 := bd Try.f88) rfl (entry Try.func88 rfl (by decide)) noH_ok rfl (fun x _ h => (e88 k x).trans h)
/-! f86 (*fathom/aig.Aig).add (W) -/
noncomputable def a86 : Shape := ⟨[.ptr 0, .d T_Gate], [.box [.own T_Gate, .mp 1], .map T_Gate i64]⟩
noncomputable def o86 : List Shape := [⟨[.d i64], [.box [.own T_Gate, .mp 1], .map T_Gate i64]⟩]
abbrev R86 : Type := ((Int × Unit) × (((List D_Gate) × Unit × Unit) × (List (D_Gate × Int)) × Unit))
abbrev T86 : Type := D_Gate → (List D_Gate) → (List (D_Gate × Int)) → Option R86
noncomputable def u86 (f : T86) : (a86).C → Option (OutC o86) := fun (x : ((Unit × D_Gate × Unit) × (((List D_Gate) × Unit × Unit) × (List (D_Gate × Int)) × Unit))) => f x.1.2.1 x.2.1.1 x.2.2.1
noncomputable def F86 (f : T86) : Fun := ⟨false, runW a86 o86 (u86 f)⟩
noncomputable def f86 (k : Nat) : T86 := fun n1 o0 o1 =>
  cond (decide ((o0.length : Int) ≥ 1048576))
    (some (((-1), ()), ((o0, (), ()), o1, ())))
    (gd (decide ((o0.length + 1) * 16 ≤ room)) <|
    some (((w64 (2 * ((o0 ++ ([n1] : List D_Gate)).length : Int))), ()), (((o0 ++ ([n1] : List D_Gate)), (), ()), o1, ())))
noncomputable def C86 (k : Nat) : Nat → Fun := mkC []
theorem c86_ok (k : Nat) : ∀ f, SoundFn Try.prog f (C86 k f) := mkC_nil
theorem e86 (k : Nat) (x : (a86).C) : bodyW (C86 k) tt noH Try.f86 a86 o86 x = u86 (f86 k) x := by kernel_rfl
theorem s86 (k : Nat) : SoundFn Try.prog 86 (F86 (f86 k)) :=
  have hC := c86_ok k
  fnW_sound hC ttOk (draw_ok hC ttOk mixed) Try.func86 (c0 := bd Try.f86) rfl (entry Try.func86 rfl (by decide)) noH_ok (fun x _ h => (e86 k x).trans h)
/-! f25 (*fathom/aig.Aig).In (W) -/
noncomputable def a25 : Shape := ⟨[.ptr 0], [.box [.own T_Gate, .mp 1], .map T_Gate i64]⟩
noncomputable def o25 : List Shape := [⟨[.d i64], [.box [.own T_Gate, .mp 1], .map T_Gate i64]⟩]
abbrev R25 : Type := ((Int × Unit) × (((List D_Gate) × Unit × Unit) × (List (D_Gate × Int)) × Unit))
abbrev T25 : Type := (List D_Gate) → (List (D_Gate × Int)) → Option R25
noncomputable def u25 (f : T25) : (a25).C → Option (OutC o25) := fun (x : ((Unit × Unit) × (((List D_Gate) × Unit × Unit) × (List (D_Gate × Int)) × Unit))) => f x.2.1.1 x.2.2.1
noncomputable def F25 (f : T25) : Fun := ⟨false, runW a25 o25 (u25 f)⟩
noncomputable def f25 (k : Nat) : T25 := fun o0 o1 =>
  (f88 k ()).bind fun y1 =>
  (f86 k y1.1.1 o0 o1).bind fun y2 =>
  some ((y2.1.1, ()), ((y2.2.1.1, (), ()), y2.2.2.1, ()))
noncomputable def C25 (k : Nat) : Nat → Fun := mkC [(86, (F86 (f86 k))), (88, (F88 (f88 k)))]
theorem c25_ok (k : Nat) : ∀ f, SoundFn Try.prog f (C25 k f) := (mkC_cons (s86 k) (mkC_cons (s88 k) mkC_nil))
theorem e25 (k : Nat) (x : (a25).C) : bodyW (C25 k) tt noH Try.f25 a25 o25 x = u25 (f25 k) x := by kernel_rfl
theorem s25 (k : Nat) : SoundFn Try.prog 25 (F25 (f25 k)) :=
  have hC := c25_ok k
  fnW_sound hC ttOk (draw_ok hC ttOk mixed) Try.func25 (c0 := bd Try.f25) rfl (entry Try.func25 rfl (by decide)) noH_ok (fun x _ h => (e25 k x).trans h)
/-! f94 fathom/fathomlaw16.word (W) -/
noncomputable def a94 : Shape := ⟨[.ptr 0, .d i64, .d i64, .d (.int .u32), .d (.slice .bool)], [.box [.own T_Gate, .mp 1], .map T_Gate i64]⟩
noncomputable def o94 : List Shape := [⟨[.own i64, .d (.slice .bool)], [.box [.own T_Gate, .mp 1], .map T_Gate i64]⟩]
abbrev R94 : Type := (((List Int) × (List Bool) × Unit) × (((List D_Gate) × Unit × Unit) × (List (D_Gate × Int)) × Unit))
abbrev T94 : Type := Int → Int → Int → (List Bool) → (List D_Gate) → (List (D_Gate × Int)) → Option R94
noncomputable def u94 (f : T94) : (a94).C → Option (OutC o94) := fun (x : ((Unit × Int × Int × Int × (List Bool) × Unit) × (((List D_Gate) × Unit × Unit) × (List (D_Gate × Int)) × Unit))) => f x.1.2.1 x.1.2.2.1 x.1.2.2.2.1 x.1.2.2.2.2.1 x.2.1.1 x.2.2.1
noncomputable def F94 (f : T94) : Fun := ⟨false, runW a94 o94 (u94 f)⟩
noncomputable def pa94_58 : Shape := ⟨[.ptr 0, .d i64, .d i64, .d (.int .u32), .d (.slice .bool), .own i64, .d i64], [.box [.own T_Gate, .mp 1], .map T_Gate i64]⟩
noncomputable def pw94_58 : List Vm.Way := [⟨.exit 0, [4, 12], ⟨[.d (.slice .bool), .own i64], [.box [.own T_Gate, .mp 1], .map T_Gate i64]⟩⟩]
abbrev R94_58 : Type := (((List Bool) × (List Int) × Unit) × (((List D_Gate) × Unit × Unit) × (List (D_Gate × Int)) × Unit))
abbrev T94_58 : Type := Int → Int → Int → (List Bool) → (List Int) → Int → (List D_Gate) → (List (D_Gate × Int)) → Option R94_58
noncomputable def u94_58 (f : T94_58) : (pa94_58).C → Option (WayC pw94_58) := fun (x : ((Unit × Int × Int × Int × (List Bool) × (List Int) × Int × Unit) × (((List D_Gate) × Unit × Unit) × (List (D_Gate × Int)) × Unit))) => f x.1.2.1 x.1.2.2.1 x.1.2.2.2.1 x.1.2.2.2.2.1 x.1.2.2.2.2.2.1 x.1.2.2.2.2.2.2.1 x.2.1.1 x.2.2.1
noncomputable def b94_58 (k : Nat) (rec : T94_58) : T94_58 := fun n1 w2 fixed3 ins4 out12 i13 o0 o1 =>
  cond (decide (i13 < w2))
    ((f41 k n1 i13).bind fun y1 =>
    cond (decide ((IntKind.u64.wrap (i13)) < 0))
      (none)
      (let v2 := Int.tmod (Int.fdiv fixed3 (2 ^ (min (IntKind.u64.wrap (i13)).toNat 32))) 2
      cond (v2 == 1)
        (gd (decide ((out12.length + 1) * 8 ≤ room)) <|
        (rec n1 w2 fixed3 ins4 (out12 ++ ([y1.1.1] : List Int)) (w64 (i13 + 1)) o0 o1).bind fun y3 =>
        some ((y3.1.1, y3.1.2.1, ()), ((y3.2.1.1, (), ()), y3.2.2.1, ())))
        ((f25 k o0 o1).bind fun y4 =>
        gd (decide ((out12.length + 1) * 8 ≤ room)) <|
        gd (decide ((0 + ins4.length) * 1 ≤ room)) <|
        gd (decide (((([] : List Bool) ++ ins4).length + 1) * 1 ≤ room)) <|
        (rec n1 w2 fixed3 ((([] : List Bool) ++ ins4) ++ ([(y1.1.1 == 1)] : List Bool)) (out12 ++ ([y4.1.1] : List Int)) (w64 (i13 + 1)) y4.2.1.1 y4.2.2.1).bind fun y5 =>
        some ((y5.1.1, y5.1.2.1, ()), ((y5.2.1.1, (), ()), y5.2.2.1, ())))))
    (some ((ins4, out12, ()), ((o0, (), ()), o1, ())))
noncomputable def l94_58 (k : Nat) : Nat → T94_58
  | 0 => fun _ _ _ _ _ _ _ _ => none
  | j + 1 => b94_58 k (l94_58 k j)
noncomputable def f94 (k : Nat) : T94 := fun n1 w2 fixed3 ins4 o0 o1 =>
  (l94_58 k k n1 w2 fixed3 ins4 [] 0 o0 o1).bind fun y1 =>
  some ((y1.1.2.1, y1.1.1, ()), ((y1.2.1.1, (), ()), y1.2.2.1, ()))
noncomputable def C94 (k : Nat) : Nat → Fun := mkC [(25, (F25 (f25 k))), (41, (F41 (f41 k)))]
theorem c94_ok (k : Nat) : ∀ f, SoundFn Try.prog f (C94 k f) := (mkC_cons (s25 k) (mkC_cons (s41 k) mkC_nil))
noncomputable def H94_58 (k : Nat) : Nat → Option Cut := addH noH 58 ⟨runCut (wrC (bodyOf (codeAt 58 (bd Try.f94) 58))) 48 [0, 1, 2, 3, 4, 12, 13] pa94_58 pw94_58 (u94_58 (l94_58 k k))⟩
theorem e94_58 (k : Nat) (rec : T94_58) (x : (pa94_58).C) : roundF (C94 k) tt noH (bodyOf (codeAt 58 (bd Try.f94) 58)) 116 48 [0, 1, 2, 3, 4, 12, 13] pa94_58 pw94_58 (u94_58 rec) x = u94_58 (b94_58 k rec) x := by kernel_rfl
theorem h94_58_ok (k : Nat) : ∀ p S, H94_58 k p = some S → ∀ c, At (bd Try.f94) p c → CutOk Try.prog c S :=
  have hC := c94_ok k
  addLoop hC ttOk (draw_ok hC ttOk mixed) noH_ok (by kernel_rfl) (F := fun j => u94_58 (l94_58 k j)) (fun _ => rfl) (fun j x _ h => (e94_58 k (l94_58 k j) x).trans h) k
theorem e94 (k : Nat) (x : (a94).C) : bodyW (C94 k) tt (H94_58 k) Try.f94 a94 o94 x = u94 (f94 k) x := by kernel_rfl
theorem s94 (k : Nat) : SoundFn Try.prog 94 (F94 (f94 k)) :=
  have hC := c94_ok k
  fnW_sound hC ttOk (draw_ok hC ttOk mixed) Try.func94 (c0 := bd Try.f94) rfl (entry Try.func94 rfl (by decide)) (h94_58_ok k) (fun x _ h => (e94 k x).trans h)
/-! f44 fathom/fathomlaw16.words (W) -/
noncomputable def a44 : Shape := ⟨[.d T_Two, .d i64], []⟩
noncomputable def o44 : List Shape := [⟨[.ptr 0, .own i64, .own i64, .d (.slice .bool)], [.box [.own T_Gate, .mp 1], .map T_Gate i64]⟩]
abbrev R44 : Type := ((Unit × (List Int) × (List Int) × (List Bool) × Unit) × (((List D_Gate) × Unit × Unit) × (List (D_Gate × Int)) × Unit))
abbrev T44 : Type := D_Two → Int → Option R44
noncomputable def u44 (f : T44) : (a44).C → Option (OutC o44) := fun (x : ((D_Two × Int × Unit) × Unit)) => f x.1.1 x.1.2.1
noncomputable def F44 (f : T44) : Fun := ⟨false, runW a44 o44 (u44 f)⟩
noncomputable def f44 (k : Nat) : T44 := fun t0 w1 =>
  (f38 k ()).bind fun y1 =>
  (f42 k (w64 (t0.1)) w1).bind fun y2 =>
  (f94 k y2.1.1 w1 t0.2.2.1 [] y1.2.1.1 y1.2.2.1).bind fun y3 =>
  (f42 k (w64 (t0.2.1)) w1).bind fun y4 =>
  (f94 k y4.1.1 w1 (Int.fdiv t0.2.2.1 (2 ^ 16)) y3.1.2.1 y3.2.1.1 y3.2.2.1).bind fun y5 =>
  some (((), y3.1.1, y5.1.1, y5.1.2.1, ()), ((y5.2.1.1, (), ()), y5.2.2.1, ()))
noncomputable def C44 (k : Nat) : Nat → Fun := mkC [(38, (F38 (f38 k))), (42, (F42 (f42 k))), (94, (F94 (f94 k)))]
theorem c44_ok (k : Nat) : ∀ f, SoundFn Try.prog f (C44 k f) := (mkC_cons (s38 k) (mkC_cons (s42 k) (mkC_cons (s94 k) mkC_nil)))
theorem e44 (k : Nat) (x : (a44).C) : bodyW (C44 k) tt noH Try.f44 a44 o44 x = u44 (f44 k) x := by kernel_rfl
theorem s44 (k : Nat) : SoundFn Try.prog 44 (F44 (f44 k)) :=
  have hC := c44_ok k
  fnW_sound hC ttOk (draw_ok hC ttOk mixed) Try.func44 (c0 := bd Try.f44) rfl (entry Try.func44 rfl (by decide)) noH_ok (fun x _ h => (e44 k x).trans h)
/-! f24 (*fathom/aig.Aig).Is (R) -/
noncomputable def a24 : Shape := ⟨[.ptr 0, .d i64], [.box [.d (.slice T_Gate), .mp 1], .map T_Gate i64]⟩
noncomputable def o24 : List Shape := [⟨[.d .bool], []⟩]
abbrev R24 : Type := ((Bool × Unit) × Unit)
abbrev T24 : Type := Int → (List D_Gate) → (List (D_Gate × Int)) → Option R24
noncomputable def u24 (f : T24) : (a24).C → Option (OutC o24) := fun (x : ((Unit × Int × Unit) × (((List D_Gate) × Unit × Unit) × (List (D_Gate × Int)) × Unit))) => f x.1.2.1 x.2.1.1 x.2.2.1
noncomputable def F24 (f : T24) : Fun := ⟨true, runR a24 o24 (u24 f)⟩
noncomputable def f24 (k : Nat) : T24 := fun l1 o0 o1 =>
  cond (decide (l1 ≥ 0))
    (some (((decide (l1 ≤ (w64 ((w64 (2 * (o0.length : Int))) + 1)))), ()), ()))
    (some ((false, ()), ()))
noncomputable def C24 (k : Nat) : Nat → Fun := mkC []
theorem c24_ok (k : Nat) : ∀ f, SoundFn Try.prog f (C24 k f) := mkC_nil
theorem e24 (k : Nat) (x : (a24).C) : bodyR (C24 k) tt noH Try.f24 a24 o24 x = u24 (f24 k) x := by kernel_rfl
theorem s24 (k : Nat) : SoundFn Try.prog 24 (F24 (f24 k)) :=
  have hC := c24_ok k
  fnR_sound hC ttOk (draw_ok hC ttOk mixed) Try.func24 (c0 := bd Try.f24) rfl (entry Try.func24 rfl (by decide)) noH_ok rfl (fun x _ h => (e24 k x).trans h)
/-! f107 fathom/vec.Check$1 (R) -/
noncomputable def a107 : Shape := ⟨[.d i64, .ptr 0], [.box [.ptr 1], .box [.d (.slice T_Gate), .mp 2], .map T_Gate i64]⟩
noncomputable def o107 : List Shape := [⟨[.d .bool], []⟩]
abbrev R107 : Type := ((Bool × Unit) × Unit)
abbrev T107 : Type := Int → (List D_Gate) → (List (D_Gate × Int)) → Option R107
noncomputable def u107 (f : T107) : (a107).C → Option (OutC o107) := fun (x : ((Int × Unit × Unit) × ((Unit × Unit) × ((List D_Gate) × Unit × Unit) × (List (D_Gate × Int)) × Unit))) => f x.1.1 x.2.2.1.1 x.2.2.2.1
noncomputable def F107 (f : T107) : Fun := ⟨true, runR a107 o107 (u107 f)⟩
noncomputable def f107 (k : Nat) : T107 := fun l0 o1 o2 =>
  (f24 k l0 o1 o2).bind fun y1 =>
  some (((!y1.1.1), ()), ())
noncomputable def C107 (k : Nat) : Nat → Fun := mkC [(24, (F24 (f24 k)))]
theorem c107_ok (k : Nat) : ∀ f, SoundFn Try.prog f (C107 k f) := (mkC_cons (s24 k) mkC_nil)
theorem e107 (k : Nat) (x : (a107).C) : bodyR (C107 k) tt noH Try.f107 a107 o107 x = u107 (f107 k) x := by kernel_rfl
theorem s107 (k : Nat) : SoundFn Try.prog 107 (F107 (f107 k)) :=
  have hC := c107_ok k
  fnR_sound hC ttOk (draw_ok hC ttOk mixed) Try.func107 (c0 := bd Try.f107) rfl (entry Try.func107 rfl (by decide)) noH_ok rfl (fun x _ h => (e107 k x).trans h)
/-! f113 slices.IndexFunc[[]int,int] (R) -/
noncomputable def a113 : Shape := ⟨[.d (.slice i64), .fn 107 [0]], [.box [.ptr 1], .box [.d (.slice T_Gate), .mp 2], .map T_Gate i64]⟩
noncomputable def o113 : List Shape := [⟨[.d i64], []⟩]
abbrev R113 : Type := ((Int × Unit) × Unit)
abbrev T113 : Type := (List Int) → (List D_Gate) → (List (D_Gate × Int)) → Option R113
noncomputable def u113 (f : T113) : (a113).C → Option (OutC o113) := fun (x : (((List Int) × Unit × Unit) × ((Unit × Unit) × ((List D_Gate) × Unit × Unit) × (List (D_Gate × Int)) × Unit))) => f x.1.1 x.2.2.1.1 x.2.2.2.1
noncomputable def F113 (f : T113) : Fun := ⟨true, runR a113 o113 (u113 f)⟩
noncomputable def pa113_26 : Shape := ⟨[.d (.slice i64), .fn 107 [0], .d i64, .d i64], [.lk (.box [.ptr 1]), .lk (.box [.d (.slice T_Gate), .mp 2]), .lk (.map T_Gate i64)]⟩
noncomputable def pw113_26 : List Vm.Way := [⟨.exit 0, [], ⟨[], [.any, .any, .any]⟩⟩, ⟨.ret, [4], ⟨[.d i64], [.any, .any, .any]⟩⟩]
abbrev R113_26 : Type := ((Unit × (Unit × Unit × Unit × Unit)) ⊕ ((Int × Unit) × (Unit × Unit × Unit × Unit)))
abbrev T113_26 : Type := (List Int) → Int → Int → (List D_Gate) → (List (D_Gate × Int)) → Option R113_26
noncomputable def u113_26 (f : T113_26) : (pa113_26).C → Option (WayC pw113_26) := fun (x : (((List Int) × Unit × Int × Int × Unit) × ((Unit × Unit) × ((List D_Gate) × Unit × Unit) × (List (D_Gate × Int)) × Unit))) => f x.1.1 x.1.2.2.1 x.1.2.2.2.1 x.2.2.1.1 x.2.2.2.1
noncomputable def b113_26 (k : Nat) (rec : T113_26) : T113_26 := fun s0 t7 t8 o1 o2 =>
  cond (decide (t8 < t7))
    (ix s0 t8 fun e1 =>
    (f107 k e1 o1 o2).bind fun y2 =>
    cond y2.1.1
      (some (.inr ((t8, ()), ((), (), (), ()))))
      ((rec s0 t7 (w64 (t8 + 1)) o1 o2).bind fun y3 =>
      match y3 with
      | .inl y3_0 =>
        some (.inl ((), ((), (), (), ())))
      | .inr y3_1 =>
        some (.inr ((y3_1.1.1, ()), ((), (), (), ())))))
    (some (.inl ((), ((), (), (), ()))))
noncomputable def l113_26 (k : Nat) : Nat → T113_26
  | 0 => fun _ _ _ _ _ => none
  | j + 1 => b113_26 k (l113_26 k j)
noncomputable def f113 (k : Nat) : T113 := fun s0 o1 o2 =>
  (l113_26 k k s0 (s0.length : Int) 0 o1 o2).bind fun y1 =>
  match y1 with
  | .inl y1_0 =>
    some (((-1), ()), ())
  | .inr y1_1 =>
    some ((y1_1.1.1, ()), ())
noncomputable def C113 (k : Nat) : Nat → Fun := mkC [(107, (F107 (f107 k)))]
theorem c113_ok (k : Nat) : ∀ f, SoundFn Try.prog f (C113 k f) := (mkC_cons (s107 k) mkC_nil)
noncomputable def H113_26 (k : Nat) : Nat → Option Cut := addH noH 26 ⟨runCut (wrC (bodyOf (codeAt 26 (bd Try.f113) 26))) 19 [0, 1, 7, 8] pa113_26 pw113_26 (u113_26 (l113_26 k k))⟩
theorem e113_26 (k : Nat) (rec : T113_26) (x : (pa113_26).C) : roundF (C113 k) tt noH (bodyOf (codeAt 26 (bd Try.f113) 26)) 52 19 [0, 1, 7, 8] pa113_26 pw113_26 (u113_26 rec) x = u113_26 (b113_26 k rec) x := by kernel_rfl
theorem h113_26_ok (k : Nat) : ∀ p S, H113_26 k p = some S → ∀ c, At (bd Try.f113) p c → CutOk Try.prog c S :=
  have hC := c113_ok k
  addLoop hC ttOk (draw_ok hC ttOk mixed) noH_ok (by kernel_rfl) (F := fun j => u113_26 (l113_26 k j)) (fun _ => rfl) (fun j x _ h => (e113_26 k (l113_26 k j) x).trans h) k
theorem e113 (k : Nat) (x : (a113).C) : bodyR (C113 k) tt (H113_26 k) Try.f113 a113 o113 x = u113 (f113 k) x := by kernel_rfl
theorem s113 (k : Nat) : SoundFn Try.prog 113 (F113 (f113 k)) :=
  have hC := c113_ok k
  fnR_sound hC ttOk (draw_ok hC ttOk mixed) Try.func113 (c0 := bd Try.f113) rfl (entry Try.func113 rfl (by decide)) (h113_26_ok k) rfl (fun x _ h => (e113 k x).trans h)
/-! f106 slices.ContainsFunc[[]int,int] (R) -/
noncomputable def a106 : Shape := ⟨[.d (.slice i64), .fn 107 [0]], [.box [.ptr 1], .box [.d (.slice T_Gate), .mp 2], .map T_Gate i64]⟩
noncomputable def o106 : List Shape := [⟨[.d .bool], []⟩]
abbrev R106 : Type := ((Bool × Unit) × Unit)
abbrev T106 : Type := (List Int) → (List D_Gate) → (List (D_Gate × Int)) → Option R106
noncomputable def u106 (f : T106) : (a106).C → Option (OutC o106) := fun (x : (((List Int) × Unit × Unit) × ((Unit × Unit) × ((List D_Gate) × Unit × Unit) × (List (D_Gate × Int)) × Unit))) => f x.1.1 x.2.2.1.1 x.2.2.2.1
noncomputable def F106 (f : T106) : Fun := ⟨true, runR a106 o106 (u106 f)⟩
noncomputable def f106 (k : Nat) : T106 := fun s0 o1 o2 =>
  (f113 k s0 o1 o2).bind fun y1 =>
  some (((decide (y1.1.1 ≥ 0)), ()), ())
noncomputable def C106 (k : Nat) : Nat → Fun := mkC [(113, (F113 (f113 k)))]
theorem c106_ok (k : Nat) : ∀ f, SoundFn Try.prog f (C106 k f) := (mkC_cons (s113 k) mkC_nil)
theorem e106 (k : Nat) (x : (a106).C) : bodyR (C106 k) tt noH Try.f106 a106 o106 x = u106 (f106 k) x := by kernel_rfl
theorem s106 (k : Nat) : SoundFn Try.prog 106 (F106 (f106 k)) :=
  have hC := c106_ok k
  fnR_sound hC ttOk (draw_ok hC ttOk mixed) Try.func106 (c0 := bd Try.f106) rfl (entry Try.func106 rfl (by decide)) noH_ok rfl (fun x _ h => (e106 k x).trans h)
/-! f68 fathom/vec.Check (R) -/
noncomputable def a68 : Shape := ⟨[.ptr 0, .d (.slice i64)], [.box [.d (.slice T_Gate), .mp 1], .map T_Gate i64]⟩
noncomputable def o68 : List Shape := [⟨[.d i64], []⟩]
abbrev R68 : Type := ((Int × Unit) × Unit)
abbrev T68 : Type := (List Int) → (List D_Gate) → (List (D_Gate × Int)) → Option R68
noncomputable def u68 (f : T68) : (a68).C → Option (OutC o68) := fun (x : ((Unit × (List Int) × Unit) × (((List D_Gate) × Unit × Unit) × (List (D_Gate × Int)) × Unit))) => f x.1.2.1 x.2.1.1 x.2.2.1
noncomputable def F68 (f : T68) : Fun := ⟨true, runR a68 o68 (u68 f)⟩
noncomputable def f68 (k : Nat) : T68 := fun a1 o0 o1 =>
  cond (decide ((a1.length : Int) < 1))
    (some ((1, ()), ()))
    (cond (decide ((a1.length : Int) > 16))
      (some ((1, ()), ()))
      ((f106 k a1 o0 o1).bind fun y1 =>
      cond y1.1.1
        (some ((1, ()), ()))
        (some ((0, ()), ()))))
noncomputable def C68 (k : Nat) : Nat → Fun := mkC [(106, (F106 (f106 k)))]
theorem c68_ok (k : Nat) : ∀ f, SoundFn Try.prog f (C68 k f) := (mkC_cons (s106 k) mkC_nil)
theorem e68 (k : Nat) (x : (a68).C) : bodyR (C68 k) tt noH Try.f68 a68 o68 x = u68 (f68 k) x := by kernel_rfl
theorem s68 (k : Nat) : SoundFn Try.prog 68 (F68 (f68 k)) :=
  have hC := c68_ok k
  fnR_sound hC ttOk (draw_ok hC ttOk mixed) Try.func68 (c0 := bd Try.f68) rfl (entry Try.func68 rfl (by decide)) noH_ok rfl (fun x _ h => (e68 k x).trans h)
/-! f95 fathom/vec.pair (R) -/
noncomputable def a95 : Shape := ⟨[.ptr 0, .d (.slice i64), .d (.slice i64)], [.box [.d (.slice T_Gate), .mp 1], .map T_Gate i64]⟩
noncomputable def o95 : List Shape := [⟨[.d .bool], []⟩]
abbrev R95 : Type := ((Bool × Unit) × Unit)
abbrev T95 : Type := (List Int) → (List Int) → (List D_Gate) → (List (D_Gate × Int)) → Option R95
noncomputable def u95 (f : T95) : (a95).C → Option (OutC o95) := fun (x : ((Unit × (List Int) × (List Int) × Unit) × (((List D_Gate) × Unit × Unit) × (List (D_Gate × Int)) × Unit))) => f x.1.2.1 x.1.2.2.1 x.2.1.1 x.2.2.1
noncomputable def F95 (f : T95) : Fun := ⟨true, runR a95 o95 (u95 f)⟩
noncomputable def f95 (k : Nat) : T95 := fun a1 b2 o0 o1 =>
  cond ((a1.length : Int) == (b2.length : Int))
    ((f68 k a1 o0 o1).bind fun y1 =>
    cond (y1.1.1 == 0)
      ((f68 k b2 o0 o1).bind fun y2 =>
      some (((y2.1.1 == 0), ()), ()))
      (some ((false, ()), ())))
    (some ((false, ()), ()))
noncomputable def C95 (k : Nat) : Nat → Fun := mkC [(68, (F68 (f68 k)))]
theorem c95_ok (k : Nat) : ∀ f, SoundFn Try.prog f (C95 k f) := (mkC_cons (s68 k) mkC_nil)
theorem e95 (k : Nat) (x : (a95).C) : bodyR (C95 k) tt noH Try.f95 a95 o95 x = u95 (f95 k) x := by kernel_rfl
theorem s95 (k : Nat) : SoundFn Try.prog 95 (F95 (f95 k)) :=
  have hC := c95_ok k
  fnR_sound hC ttOk (draw_ok hC ttOk mixed) Try.func95 (c0 := bd Try.f95) rfl (entry Try.func95 rfl (by decide)) noH_ok rfl (fun x _ h => (e95 k x).trans h)
/-! f118 slices.Index[[]int,int] (R) -/
noncomputable def a118 : Shape := ⟨[.d (.slice i64), .d i64], []⟩
noncomputable def o118 : List Shape := [⟨[.d i64], []⟩]
abbrev R118 : Type := ((Int × Unit) × Unit)
abbrev T118 : Type := (List Int) → Int → Option R118
noncomputable def u118 (f : T118) : (a118).C → Option (OutC o118) := fun (x : (((List Int) × Int × Unit) × Unit)) => f x.1.1 x.1.2.1
noncomputable def F118 (f : T118) : Fun := ⟨true, runR a118 o118 (u118 f)⟩
noncomputable def pa118_26 : Shape := ⟨[.d (.slice i64), .d i64, .d i64, .d i64], []⟩
noncomputable def pw118_26 : List Vm.Way := [⟨.exit 0, [], ⟨[], []⟩⟩, ⟨.ret, [4], ⟨[.d i64], []⟩⟩]
abbrev R118_26 : Type := ((Unit × Unit) ⊕ ((Int × Unit) × Unit))
abbrev T118_26 : Type := (List Int) → Int → Int → Int → Option R118_26
noncomputable def u118_26 (f : T118_26) : (pa118_26).C → Option (WayC pw118_26) := fun (x : (((List Int) × Int × Int × Int × Unit) × Unit)) => f x.1.1 x.1.2.1 x.1.2.2.1 x.1.2.2.2.1
noncomputable def b118_26 (k : Nat) (rec : T118_26) : T118_26 := fun s0 v1 t7 t8 =>
  cond (decide (t8 < t7))
    (ix s0 t8 fun e1 =>
    cond (v1 == e1)
      (some (.inr ((t8, ()), ())))
      ((rec s0 v1 t7 (w64 (t8 + 1))).bind fun y2 =>
      match y2 with
      | .inl y2_0 =>
        some (.inl ((), ()))
      | .inr y2_1 =>
        some (.inr ((y2_1.1.1, ()), ()))))
    (some (.inl ((), ())))
noncomputable def l118_26 (k : Nat) : Nat → T118_26
  | 0 => fun _ _ _ _ => none
  | j + 1 => b118_26 k (l118_26 k j)
noncomputable def f118 (k : Nat) : T118 := fun s0 v1 =>
  (l118_26 k k s0 v1 (s0.length : Int) 0).bind fun y1 =>
  match y1 with
  | .inl y1_0 =>
    some (((-1), ()), ())
  | .inr y1_1 =>
    some ((y1_1.1.1, ()), ())
noncomputable def C118 (k : Nat) : Nat → Fun := mkC []
theorem c118_ok (k : Nat) : ∀ f, SoundFn Try.prog f (C118 k f) := mkC_nil
noncomputable def H118_26 (k : Nat) : Nat → Option Cut := addH noH 26 ⟨runCut (wrC (bodyOf (codeAt 26 (bd Try.f118) 26))) 19 [0, 1, 7, 8] pa118_26 pw118_26 (u118_26 (l118_26 k k))⟩
theorem e118_26 (k : Nat) (rec : T118_26) (x : (pa118_26).C) : roundF (C118 k) tt noH (bodyOf (codeAt 26 (bd Try.f118) 26)) 52 19 [0, 1, 7, 8] pa118_26 pw118_26 (u118_26 rec) x = u118_26 (b118_26 k rec) x := by kernel_rfl
theorem h118_26_ok (k : Nat) : ∀ p S, H118_26 k p = some S → ∀ c, At (bd Try.f118) p c → CutOk Try.prog c S :=
  have hC := c118_ok k
  addLoop hC ttOk (draw_ok hC ttOk mixed) noH_ok (by kernel_rfl) (F := fun j => u118_26 (l118_26 k j)) (fun _ => rfl) (fun j x _ h => (e118_26 k (l118_26 k j) x).trans h) k
theorem e118 (k : Nat) (x : (a118).C) : bodyR (C118 k) tt (H118_26 k) Try.f118 a118 o118 x = u118 (f118 k) x := by kernel_rfl
theorem s118 (k : Nat) : SoundFn Try.prog 118 (F118 (f118 k)) :=
  have hC := c118_ok k
  fnR_sound hC ttOk (draw_ok hC ttOk mixed) Try.func118 (c0 := bd Try.f118) rfl (entry Try.func118 rfl (by decide)) (h118_26_ok k) rfl (fun x _ h => (e118 k x).trans h)
/-! f112 slices.Contains[[]int,int] (R) -/
noncomputable def a112 : Shape := ⟨[.d (.slice i64), .d i64], []⟩
noncomputable def o112 : List Shape := [⟨[.d .bool], []⟩]
abbrev R112 : Type := ((Bool × Unit) × Unit)
abbrev T112 : Type := (List Int) → Int → Option R112
noncomputable def u112 (f : T112) : (a112).C → Option (OutC o112) := fun (x : (((List Int) × Int × Unit) × Unit)) => f x.1.1 x.1.2.1
noncomputable def F112 (f : T112) : Fun := ⟨true, runR a112 o112 (u112 f)⟩
noncomputable def f112 (k : Nat) : T112 := fun s0 v1 =>
  (f118 k s0 v1).bind fun y1 =>
  some (((decide (y1.1.1 ≥ 0)), ()), ())
noncomputable def C112 (k : Nat) : Nat → Fun := mkC [(118, (F118 (f118 k)))]
theorem c112_ok (k : Nat) : ∀ f, SoundFn Try.prog f (C112 k f) := (mkC_cons (s118 k) mkC_nil)
theorem e112 (k : Nat) (x : (a112).C) : bodyR (C112 k) tt noH Try.f112 a112 o112 x = u112 (f112 k) x := by kernel_rfl
theorem s112 (k : Nat) : SoundFn Try.prog 112 (F112 (f112 k)) :=
  have hC := c112_ok k
  fnR_sound hC ttOk (draw_ok hC ttOk mixed) Try.func112 (c0 := bd Try.f112) rfl (entry Try.func112 rfl (by decide)) noH_ok rfl (fun x _ h => (e112 k x).trans h)
/-! f92 fathom/vec.whole (W) -/
noncomputable def a92 : Shape := ⟨[.own i64], []⟩
noncomputable def o92 : List Shape := [⟨[.nils], []⟩, ⟨[.own i64], []⟩]
abbrev R92 : Type := (((Unit × Unit) × Unit) ⊕ (((List Int) × Unit) × Unit))
abbrev T92 : Type := (List Int) → Option R92
noncomputable def u92 (f : T92) : (a92).C → Option (OutC o92) := fun (x : (((List Int) × Unit) × Unit)) => f x.1.1
noncomputable def F92 (f : T92) : Fun := ⟨false, runW a92 o92 (u92 f)⟩
noncomputable def f92 (k : Nat) : T92 := fun a0 =>
  (f112 k a0 (-1)).bind fun y1 =>
  cond y1.1.1
    (some (.inl (((), ()), ())))
    (some (.inr ((a0, ()), ())))
noncomputable def C92 (k : Nat) : Nat → Fun := mkC [(112, (F112 (f112 k)))]
theorem c92_ok (k : Nat) : ∀ f, SoundFn Try.prog f (C92 k f) := (mkC_cons (s112 k) mkC_nil)
theorem e92 (k : Nat) (x : (a92).C) : bodyW (C92 k) tt noH Try.f92 a92 o92 x = u92 (f92 k) x := by kernel_rfl
theorem s92 (k : Nat) : SoundFn Try.prog 92 (F92 (f92 k)) :=
  have hC := c92_ok k
  fnW_sound hC ttOk (draw_ok hC ttOk mixed) Try.func92 (c0 := bd Try.f92) rfl (entry Try.func92 rfl (by decide)) noH_ok (fun x _ h => (e92 k x).trans h)
/-! f111 (*fathom/aig.Aig).kids (R) -/
noncomputable def a111 : Shape := ⟨[.ptr 0, .d i64], [.box [.d (.slice T_Gate), .mp 1], .map T_Gate i64]⟩
noncomputable def o111 : List Shape := [⟨[.d i64, .d i64, .d .bool], []⟩]
abbrev R111 : Type := ((Int × Int × Bool × Unit) × Unit)
abbrev T111 : Type := Int → (List D_Gate) → (List (D_Gate × Int)) → Option R111
noncomputable def u111 (f : T111) : (a111).C → Option (OutC o111) := fun (x : ((Unit × Int × Unit) × (((List D_Gate) × Unit × Unit) × (List (D_Gate × Int)) × Unit))) => f x.1.2.1 x.2.1.1 x.2.2.1
noncomputable def F111 (f : T111) : Fun := ⟨true, runR a111 o111 (u111 f)⟩
noncomputable def f111 (k : Nat) : T111 := fun l1 o0 o1 =>
  cond (decide (l1 < 2))
    (some ((0, 0, false, ()), ()))
    (ix o0 (w64 ((w64 (Int.tdiv l1 2)) - 1)) fun e1 =>
    (f88 k ()).bind fun y2 =>
    some ((e1.1, e1.2.1, (!(beqD T_Gate e1 y2.1.1)), ()), ()))
noncomputable def C111 (k : Nat) : Nat → Fun := mkC [(88, (F88 (f88 k)))]
theorem c111_ok (k : Nat) : ∀ f, SoundFn Try.prog f (C111 k f) := (mkC_cons (s88 k) mkC_nil)
theorem e111 (k : Nat) (x : (a111).C) : bodyR (C111 k) tt noH Try.f111 a111 o111 x = u111 (f111 k) x := by kernel_rfl
theorem s111 (k : Nat) : SoundFn Try.prog 111 (F111 (f111 k)) :=
  have hC := c111_ok k
  fnR_sound hC ttOk (draw_ok hC ttOk mixed) Try.func111 (c0 := bd Try.f111) rfl (entry Try.func111 rfl (by decide)) noH_ok rfl (fun x _ h => (e111 k x).trans h)
/-! f84 (*fathom/aig.Aig).plain (R) -/
noncomputable def a84 : Shape := ⟨[.ptr 0, .d i64, .d i64], [.box [.d (.slice T_Gate), .mp 1], .map T_Gate i64]⟩
noncomputable def o84 : List Shape := [⟨[.d i64, .d .bool], []⟩]
abbrev R84 : Type := ((Int × Bool × Unit) × Unit)
abbrev T84 : Type := Int → Int → (List D_Gate) → (List (D_Gate × Int)) → Option R84
noncomputable def u84 (f : T84) : (a84).C → Option (OutC o84) := fun (x : ((Unit × Int × Int × Unit) × (((List D_Gate) × Unit × Unit) × (List (D_Gate × Int)) × Unit))) => f x.1.2.1 x.1.2.2.1 x.2.1.1 x.2.2.1
noncomputable def F84 (f : T84) : Fun := ⟨true, runR a84 o84 (u84 f)⟩
noncomputable def f84 (k : Nat) : T84 := fun a1 b2 o0 o1 =>
  (f111 k b2 o0 o1).bind fun y1 =>
  cond (!y1.1.2.2.1)
    (some ((0, false, ()), ()))
    (cond ((Int.tmod b2 2) == 1)
      (some ((0, false, ()), ()))
      (cond (a1 == y1.1.1)
        (some ((b2, true, ()), ()))
        (cond (a1 == y1.1.2.1)
          (some ((b2, true, ()), ()))
          (cond ((ibits .xor .i64 a1 1) == y1.1.1)
            (some ((0, true, ()), ()))
            (cond ((ibits .xor .i64 a1 1) == y1.1.2.1)
              (some ((0, true, ()), ()))
              (some ((0, false, ()), ())))))))
noncomputable def C84 (k : Nat) : Nat → Fun := mkC [(111, (F111 (f111 k)))]
theorem c84_ok (k : Nat) : ∀ f, SoundFn Try.prog f (C84 k f) := (mkC_cons (s111 k) mkC_nil)
theorem e84 (k : Nat) (x : (a84).C) : bodyR (C84 k) tt noH Try.f84 a84 o84 x = u84 (f84 k) x := by kernel_rfl
theorem s84 (k : Nat) : SoundFn Try.prog 84 (F84 (f84 k)) :=
  have hC := c84_ok k
  fnR_sound hC ttOk (draw_ok hC ttOk mixed) Try.func84 (c0 := bd Try.f84) rfl (entry Try.func84 rfl (by decide)) noH_ok rfl (fun x _ h => (e84 k x).trans h)
/-! f19 (*fathom/aig.Aig).And (W) -/
noncomputable def a19 : Shape := ⟨[.ptr 0, .d i64, .d i64], [.box [.own T_Gate, .mp 1], .map T_Gate i64]⟩
noncomputable def o19 : List Shape := [⟨[.d i64], [.box [.own T_Gate, .mp 1], .map T_Gate i64]⟩]
abbrev R19 : Type := ((Int × Unit) × (((List D_Gate) × Unit × Unit) × (List (D_Gate × Int)) × Unit))
abbrev T19 : Type := Int → Int → (List D_Gate) → (List (D_Gate × Int)) → Option R19
noncomputable def u19 (f : T19) : (a19).C → Option (OutC o19) := fun (x : ((Unit × Int × Int × Unit) × (((List D_Gate) × Unit × Unit) × (List (D_Gate × Int)) × Unit))) => f x.1.2.1 x.1.2.2.1 x.2.1.1 x.2.2.1
noncomputable def F19 (f : T19) : Fun := ⟨false, runW a19 o19 (u19 f)⟩
/-! f85 (*fathom/aig.Aig).turned (W) -/
noncomputable def a85 : Shape := ⟨[.ptr 0, .d i64, .d i64], [.box [.own T_Gate, .mp 1], .map T_Gate i64]⟩
noncomputable def o85 : List Shape := [⟨[.d i64, .d .bool], [.box [.own T_Gate, .mp 1], .map T_Gate i64]⟩]
abbrev R85 : Type := ((Int × Bool × Unit) × (((List D_Gate) × Unit × Unit) × (List (D_Gate × Int)) × Unit))
abbrev T85 : Type := Int → Int → (List D_Gate) → (List (D_Gate × Int)) → Option R85
noncomputable def u85 (f : T85) : (a85).C → Option (OutC o85) := fun (x : ((Unit × Int × Int × Unit) × (((List D_Gate) × Unit × Unit) × (List (D_Gate × Int)) × Unit))) => f x.1.2.1 x.1.2.2.1 x.2.1.1 x.2.2.1
noncomputable def F85 (f : T85) : Fun := ⟨false, runW a85 o85 (u85 f)⟩
noncomputable def b19 (k : Nat) (r19 : T19) (r85 : T85) : T19 := fun a1 b2 o0 o1 =>
  (f24 k a1 o0 o1).bind fun y1 =>
  cond (!y1.1.1)
    (some (((-1), ()), ((o0, (), ()), o1, ())))
    ((f24 k b2 o0 o1).bind fun y2 =>
    cond (!y2.1.1)
      (some (((-1), ()), ((o0, (), ()), o1, ())))
      (cond ((minmax false a1 b2) == 0)
        (some ((0, ()), ((o0, (), ()), o1, ())))
        (cond ((ibits .xor .i64 (minmax false a1 b2) 1) == (minmax true a1 b2))
          (some ((0, ()), ((o0, (), ()), o1, ())))
          (cond ((minmax false a1 b2) == 1)
            (some (((minmax true a1 b2), ()), ((o0, (), ()), o1, ())))
            (cond ((minmax false a1 b2) == (minmax true a1 b2))
              (some (((minmax true a1 b2), ()), ((o0, (), ()), o1, ())))
              ((f84 k (minmax false a1 b2) (minmax true a1 b2) o0 o1).bind fun y3 =>
              cond y3.1.2.1
                (some ((y3.1.1, ()), ((o0, (), ()), o1, ())))
                ((f84 k (minmax true a1 b2) (minmax false a1 b2) o0 o1).bind fun y4 =>
                cond y4.1.2.1
                  (some ((y4.1.1, ()), ((o0, (), ()), o1, ())))
                  ((r85 (minmax false a1 b2) (minmax true a1 b2) o0 o1).bind fun y5 =>
                  cond y5.1.2.1
                    (some ((y5.1.1, ()), ((y5.2.1.1, (), ()), y5.2.2.1, ())))
                    ((r85 (minmax true a1 b2) (minmax false a1 b2) y5.2.1.1 y5.2.2.1).bind fun y6 =>
                    cond y6.1.2.1
                      (some ((y6.1.1, ()), ((y6.2.1.1, (), ()), y6.2.2.1, ())))
                      (let v7 := mget T_Gate ((minmax false a1 b2), (minmax true a1 b2), ()) y6.2.2.1
                      cond v7.isSome
                        (some (((v7.getD 0), ()), ((y6.2.1.1, (), ()), y6.2.2.1, ())))
                        ((f86 k ((minmax false a1 b2), (minmax true a1 b2), ()) y6.2.1.1 y6.2.2.1).bind fun y8 =>
                        cond (y8.1.1 != (-1))
                          (some ((y8.1.1, ()), ((y8.2.1.1, (), ()), (mput T_Gate ((minmax false a1 b2), (minmax true a1 b2), ()) y8.1.1 y8.2.2.1), ())))
                          (some ((y8.1.1, ()), ((y8.2.1.1, (), ()), y8.2.2.1, ()))))))))))))))
noncomputable def b85 (k : Nat) (r19 : T19) (r85 : T85) : T85 := fun a1 b2 o0 o1 =>
  (f111 k b2 o0 o1).bind fun y1 =>
  cond (!y1.1.2.2.1)
    (some ((0, false, ()), ((o0, (), ()), o1, ())))
    (cond ((Int.tmod b2 2) == 0)
      (some ((0, false, ()), ((o0, (), ()), o1, ())))
      (cond ((ibits .xor .i64 a1 1) == y1.1.1)
        (some ((a1, true, ()), ((o0, (), ()), o1, ())))
        (cond ((ibits .xor .i64 a1 1) == y1.1.2.1)
          (some ((a1, true, ()), ((o0, (), ()), o1, ())))
          (cond (a1 == y1.1.1)
            ((r19 a1 (ibits .xor .i64 y1.1.2.1 1) o0 o1).bind fun y2 =>
            some ((y2.1.1, true, ()), ((y2.2.1.1, (), ()), y2.2.2.1, ())))
            (cond (a1 == y1.1.2.1)
              ((r19 a1 (ibits .xor .i64 y1.1.1 1) o0 o1).bind fun y3 =>
              some ((y3.1.1, true, ()), ((y3.2.1.1, (), ()), y3.2.2.1, ())))
              (some ((0, false, ()), ((o0, (), ()), o1, ()))))))))
noncomputable def S19 : Nat → T19 × T85
  | 0 => (fun _ _ _ _ => none, fun _ _ _ _ => none)
  | k + 1 => (b19 k (S19 k).1 (S19 k).2, b85 k (S19 k).1 (S19 k).2)
noncomputable def f19 (k : Nat) : T19 := (S19 k).1
noncomputable def f85 (k : Nat) : T85 := (S19 k).2
theorem f19_succ (k : Nat) : f19 (k + 1) = b19 k (f19 k) (f85 k) := rfl
theorem f85_succ (k : Nat) : f85 (k + 1) = b85 k (f19 k) (f85 k) := rfl
noncomputable def C19 (k : Nat) (r19 : T19) (r85 : T85) : Nat → Fun := mkC [(24, (F24 (f24 k))), (84, (F84 (f84 k))), (85, (F85 r85)), (86, (F86 (f86 k)))]
theorem c19_ok (k : Nat) (r19 : T19) (r85 : T85) (h19 : SoundFn Try.prog 19 (F19 r19)) (h85 : SoundFn Try.prog 85 (F85 r85)) : ∀ f, SoundFn Try.prog f (C19 k r19 r85 f) := (mkC_cons (s24 k) (mkC_cons (s84 k) (mkC_cons h85 (mkC_cons (s86 k) mkC_nil))))
theorem e19 (k : Nat) (r19 : T19) (r85 : T85) (x : (a19).C) : bodyW (C19 k r19 r85) tt noH Try.f19 a19 o19 x = u19 (b19 k r19 r85) x := by kernel_rfl
theorem q19 (k : Nat) (r19 : T19) (r85 : T85) (h19 : SoundFn Try.prog 19 (F19 r19)) (h85 : SoundFn Try.prog 85 (F85 r85)) : SoundFn Try.prog 19 (F19 (b19 k r19 r85)) :=
  have hC := c19_ok k r19 r85 h19 h85
  fnW_sound hC ttOk (draw_ok hC ttOk mixed) Try.func19 (c0 := bd Try.f19) rfl (entry Try.func19 rfl (by decide)) noH_ok (fun x _ h => (e19 k r19 r85 x).trans h)
noncomputable def C85 (k : Nat) (r19 : T19) (r85 : T85) : Nat → Fun := mkC [(19, (F19 r19)), (111, (F111 (f111 k)))]
theorem c85_ok (k : Nat) (r19 : T19) (r85 : T85) (h19 : SoundFn Try.prog 19 (F19 r19)) (h85 : SoundFn Try.prog 85 (F85 r85)) : ∀ f, SoundFn Try.prog f (C85 k r19 r85 f) := (mkC_cons h19 (mkC_cons (s111 k) mkC_nil))
theorem e85 (k : Nat) (r19 : T19) (r85 : T85) (x : (a85).C) : bodyW (C85 k r19 r85) tt noH Try.f85 a85 o85 x = u85 (b85 k r19 r85) x := by kernel_rfl
theorem q85 (k : Nat) (r19 : T19) (r85 : T85) (h19 : SoundFn Try.prog 19 (F19 r19)) (h85 : SoundFn Try.prog 85 (F85 r85)) : SoundFn Try.prog 85 (F85 (b85 k r19 r85)) :=
  have hC := c85_ok k r19 r85 h19 h85
  fnW_sound hC ttOk (draw_ok hC ttOk mixed) Try.func85 (c0 := bd Try.f85) rfl (entry Try.func85 rfl (by decide)) noH_ok (fun x _ h => (e85 k r19 r85 x).trans h)
theorem sAll19 : ∀ k : Nat, SoundFn Try.prog 19 (F19 (f19 k)) ∧ SoundFn Try.prog 85 (F85 (f85 k))
  | 0 => ⟨noneW_ok (by intro x; rfl), noneW_ok (by intro x; rfl)⟩
  | k + 1 =>
    have ih := sAll19 k
    ⟨q19 k (f19 k) (f85 k) ih.1 ih.2, q85 k (f19 k) (f85 k) ih.1 ih.2⟩
theorem s19 (k : Nat) : SoundFn Try.prog 19 (F19 (f19 k)) := (sAll19 k).1
theorem s85 (k : Nat) : SoundFn Try.prog 85 (F85 (f85 k)) := (sAll19 k).2
/-! f89 fathom/aig.not (R) -/
noncomputable def a89 : Shape := ⟨[.d i64], []⟩
noncomputable def o89 : List Shape := [⟨[.d i64], []⟩]
abbrev R89 : Type := ((Int × Unit) × Unit)
abbrev T89 : Type := Int → Option R89
noncomputable def u89 (f : T89) : (a89).C → Option (OutC o89) := fun (x : ((Int × Unit) × Unit)) => f x.1.1
noncomputable def F89 (f : T89) : Fun := ⟨true, runR a89 o89 (u89 f)⟩
noncomputable def f89 (k : Nat) : T89 := fun l0 =>
  cond (decide (l0 < 0))
    (some (((-1), ()), ()))
    (some (((ibits .xor .i64 l0 1), ()), ()))
noncomputable def C89 (k : Nat) : Nat → Fun := mkC []
theorem c89_ok (k : Nat) : ∀ f, SoundFn Try.prog f (C89 k f) := mkC_nil
theorem e89 (k : Nat) (x : (a89).C) : bodyR (C89 k) tt noH Try.f89 a89 o89 x = u89 (f89 k) x := by kernel_rfl
theorem s89 (k : Nat) : SoundFn Try.prog 89 (F89 (f89 k)) :=
  have hC := c89_ok k
  fnR_sound hC ttOk (draw_ok hC ttOk mixed) Try.func89 (c0 := bd Try.f89) rfl (entry Try.func89 rfl (by decide)) noH_ok rfl (fun x _ h => (e89 k x).trans h)
/-! f26 (*fathom/aig.Aig).Or (W) -/
noncomputable def a26 : Shape := ⟨[.ptr 0, .d i64, .d i64], [.box [.own T_Gate, .mp 1], .map T_Gate i64]⟩
noncomputable def o26 : List Shape := [⟨[.d i64], [.box [.own T_Gate, .mp 1], .map T_Gate i64]⟩]
abbrev R26 : Type := ((Int × Unit) × (((List D_Gate) × Unit × Unit) × (List (D_Gate × Int)) × Unit))
abbrev T26 : Type := Int → Int → (List D_Gate) → (List (D_Gate × Int)) → Option R26
noncomputable def u26 (f : T26) : (a26).C → Option (OutC o26) := fun (x : ((Unit × Int × Int × Unit) × (((List D_Gate) × Unit × Unit) × (List (D_Gate × Int)) × Unit))) => f x.1.2.1 x.1.2.2.1 x.2.1.1 x.2.2.1
noncomputable def F26 (f : T26) : Fun := ⟨false, runW a26 o26 (u26 f)⟩
noncomputable def f26 (k : Nat) : T26 := fun a1 b2 o0 o1 =>
  (f89 k a1).bind fun y1 =>
  (f89 k b2).bind fun y2 =>
  (f19 k y1.1.1 y2.1.1 o0 o1).bind fun y3 =>
  (f89 k y3.1.1).bind fun y4 =>
  some ((y4.1.1, ()), ((y3.2.1.1, (), ()), y3.2.2.1, ()))
noncomputable def C26 (k : Nat) : Nat → Fun := mkC [(19, (F19 (f19 k))), (89, (F89 (f89 k)))]
theorem c26_ok (k : Nat) : ∀ f, SoundFn Try.prog f (C26 k f) := (mkC_cons (s19 k) (mkC_cons (s89 k) mkC_nil))
theorem e26 (k : Nat) (x : (a26).C) : bodyW (C26 k) tt noH Try.f26 a26 o26 x = u26 (f26 k) x := by kernel_rfl
theorem s26 (k : Nat) : SoundFn Try.prog 26 (F26 (f26 k)) :=
  have hC := c26_ok k
  fnW_sound hC ttOk (draw_ok hC ttOk mixed) Try.func26 (c0 := bd Try.f26) rfl (entry Try.func26 rfl (by decide)) noH_ok (fun x _ h => (e26 k x).trans h)
/-! f28 (*fathom/aig.Aig).Ite (W) -/
noncomputable def a28 : Shape := ⟨[.ptr 0, .d i64, .d i64, .d i64], [.box [.own T_Gate, .mp 1], .map T_Gate i64]⟩
noncomputable def o28 : List Shape := [⟨[.d i64], [.box [.own T_Gate, .mp 1], .map T_Gate i64]⟩]
abbrev R28 : Type := ((Int × Unit) × (((List D_Gate) × Unit × Unit) × (List (D_Gate × Int)) × Unit))
abbrev T28 : Type := Int → Int → Int → (List D_Gate) → (List (D_Gate × Int)) → Option R28
noncomputable def u28 (f : T28) : (a28).C → Option (OutC o28) := fun (x : ((Unit × Int × Int × Int × Unit) × (((List D_Gate) × Unit × Unit) × (List (D_Gate × Int)) × Unit))) => f x.1.2.1 x.1.2.2.1 x.1.2.2.2.1 x.2.1.1 x.2.2.1
noncomputable def F28 (f : T28) : Fun := ⟨false, runW a28 o28 (u28 f)⟩
noncomputable def f28 (k : Nat) : T28 := fun c1 a2 b3 o0 o1 =>
  (f19 k c1 a2 o0 o1).bind fun y1 =>
  (f89 k c1).bind fun y2 =>
  (f19 k y2.1.1 b3 y1.2.1.1 y1.2.2.1).bind fun y3 =>
  (f26 k y1.1.1 y3.1.1 y3.2.1.1 y3.2.2.1).bind fun y4 =>
  some ((y4.1.1, ()), ((y4.2.1.1, (), ()), y4.2.2.1, ()))
noncomputable def C28 (k : Nat) : Nat → Fun := mkC [(19, (F19 (f19 k))), (26, (F26 (f26 k))), (89, (F89 (f89 k)))]
theorem c28_ok (k : Nat) : ∀ f, SoundFn Try.prog f (C28 k f) := (mkC_cons (s19 k) (mkC_cons (s26 k) (mkC_cons (s89 k) mkC_nil)))
theorem e28 (k : Nat) (x : (a28).C) : bodyW (C28 k) tt noH Try.f28 a28 o28 x = u28 (f28 k) x := by kernel_rfl
theorem s28 (k : Nat) : SoundFn Try.prog 28 (F28 (f28 k)) :=
  have hC := c28_ok k
  fnW_sound hC ttOk (draw_ok hC ttOk mixed) Try.func28 (c0 := bd Try.f28) rfl (entry Try.func28 rfl (by decide)) noH_ok (fun x _ h => (e28 k x).trans h)
/-! f105 fathom/vec.Ite$1 (W) -/
noncomputable def a105 : Shape := ⟨[.d i64, .d i64, .ptr 0, .ptr 3], [.box [.ptr 1], .box [.own T_Gate, .mp 2], .map T_Gate i64, .box [.d i64]]⟩
noncomputable def o105 : List Shape := [⟨[.d i64], [.box [.ptr 1], .box [.own T_Gate, .mp 2], .map T_Gate i64, .box [.d i64]]⟩]
abbrev R105 : Type := ((Int × Unit) × ((Unit × Unit) × ((List D_Gate) × Unit × Unit) × (List (D_Gate × Int)) × (Int × Unit) × Unit))
abbrev T105 : Type := Int → Int → (List D_Gate) → (List (D_Gate × Int)) → Int → Option R105
noncomputable def u105 (f : T105) : (a105).C → Option (OutC o105) := fun (x : ((Int × Int × Unit × Unit × Unit) × ((Unit × Unit) × ((List D_Gate) × Unit × Unit) × (List (D_Gate × Int)) × (Int × Unit) × Unit))) => f x.1.1 x.1.2.1 x.2.2.1.1 x.2.2.2.1 x.2.2.2.2.1.1
noncomputable def F105 (f : T105) : Fun := ⟨false, runW a105 o105 (u105 f)⟩
noncomputable def f105 (k : Nat) : T105 := fun a0 b1 o1 o2 o3 =>
  (f28 k o3 a0 b1 o1 o2).bind fun y1 =>
  some ((y1.1.1, ()), (((), ()), (y1.2.1.1, (), ()), y1.2.2.1, (o3, ()), ()))
noncomputable def C105 (k : Nat) : Nat → Fun := mkC [(28, (F28 (f28 k)))]
theorem c105_ok (k : Nat) : ∀ f, SoundFn Try.prog f (C105 k f) := (mkC_cons (s28 k) mkC_nil)
theorem e105 (k : Nat) (x : (a105).C) : bodyW (C105 k) tt noH Try.f105 a105 o105 x = u105 (f105 k) x := by kernel_rfl
theorem s105 (k : Nat) : SoundFn Try.prog 105 (F105 (f105 k)) :=
  have hC := c105_ok k
  fnW_sound hC ttOk (draw_ok hC ttOk mixed) Try.func105 (c0 := bd Try.f105) rfl (entry Try.func105 rfl (by decide)) noH_ok (fun x _ h => (e105 k x).trans h)
/-! f97 fathom/vec.each (W) -/
noncomputable def a97 : Shape := ⟨[.ptr 0, .d (.slice i64), .d (.slice i64), .fn 105 [2, 3]], [.box [.own T_Gate, .mp 1], .map T_Gate i64, .box [.ptr 0], .box [.d i64]]⟩
noncomputable def o97 : List Shape := [⟨[.own i64], [.box [.own T_Gate, .mp 1], .map T_Gate i64, .box [.ptr 0], .box [.d i64]]⟩]
abbrev R97 : Type := (((List Int) × Unit) × (((List D_Gate) × Unit × Unit) × (List (D_Gate × Int)) × (Unit × Unit) × (Int × Unit) × Unit))
abbrev T97 : Type := (List Int) → (List Int) → (List D_Gate) → (List (D_Gate × Int)) → Int → Option R97
noncomputable def u97 (f : T97) : (a97).C → Option (OutC o97) := fun (x : ((Unit × (List Int) × (List Int) × Unit × Unit) × (((List D_Gate) × Unit × Unit) × (List (D_Gate × Int)) × (Unit × Unit) × (Int × Unit) × Unit))) => f x.1.2.1 x.1.2.2.1 x.2.1.1 x.2.2.1 x.2.2.2.2.1.1
noncomputable def F97 (f : T97) : Fun := ⟨false, runW a97 o97 (u97 f)⟩
noncomputable def pa97_122 : Shape := ⟨[.d (.slice i64), .d (.slice i64), .fn 105 [0, 3], .own i64, .d i64, .d i64], [.box [.ptr 1], .box [.own T_Gate, .mp 2], .map T_Gate i64, .box [.d i64]]⟩
noncomputable def pw97_122 : List Vm.Way := [⟨.exit 0, [9], ⟨[.own i64], [.box [.ptr 1], .box [.own T_Gate, .mp 2], .map T_Gate i64, .box [.d i64]]⟩⟩]
abbrev R97_122 : Type := (((List Int) × Unit) × ((Unit × Unit) × ((List D_Gate) × Unit × Unit) × (List (D_Gate × Int)) × (Int × Unit) × Unit))
abbrev T97_122 : Type := (List Int) → (List Int) → (List Int) → Int → Int → (List D_Gate) → (List (D_Gate × Int)) → Int → Option R97_122
noncomputable def u97_122 (f : T97_122) : (pa97_122).C → Option (WayC pw97_122) := fun (x : (((List Int) × (List Int) × Unit × (List Int) × Int × Int × Unit) × ((Unit × Unit) × ((List D_Gate) × Unit × Unit) × (List (D_Gate × Int)) × (Int × Unit) × Unit))) => f x.1.1 x.1.2.1 x.1.2.2.2.1 x.1.2.2.2.2.1 x.1.2.2.2.2.2.1 x.2.2.1.1 x.2.2.2.1 x.2.2.2.2.1.1
noncomputable def b97_122 (k : Nat) (rec : T97_122) : T97_122 := fun a1 b2 out9 t17 t18 o1 o2 o3 =>
  cond (decide (t18 < t17))
    (ix a1 t18 fun e1 =>
    ix b2 t18 fun e2 =>
    (f105 k e1 e2 o1 o2 o3).bind fun y3 =>
    gd (decide ((out9.length + 1) * 8 ≤ room)) <|
    (rec a1 b2 (out9 ++ ([y3.1.1] : List Int)) t17 (w64 (t18 + 1)) y3.2.2.1.1 y3.2.2.2.1 y3.2.2.2.2.1.1).bind fun y4 =>
    some ((y4.1.1, ()), (((), ()), (y4.2.2.1.1, (), ()), y4.2.2.2.1, (y4.2.2.2.2.1.1, ()), ())))
    (some ((out9, ()), (((), ()), (o1, (), ()), o2, (o3, ()), ())))
noncomputable def l97_122 (k : Nat) : Nat → T97_122
  | 0 => fun _ _ _ _ _ _ _ _ => none
  | j + 1 => b97_122 k (l97_122 k j)
noncomputable def f97 (k : Nat) : T97 := fun a1 b2 o0 o1 o3 =>
  (f95 k a1 b2 o0 o1).bind fun y1 =>
  cond (!y1.1.1)
    (some (([], ()), ((o0, (), ()), o1, ((), ()), (o3, ()), ())))
    ((l97_122 k k a1 b2 [] (a1.length : Int) 0 o0 o1 o3).bind fun y2 =>
    (f92 k y2.1.1).bind fun y3 =>
    match y3 with
    | .inl y3_0 =>
      some (([], ()), ((y2.2.2.1.1, (), ()), y2.2.2.2.1, ((), ()), (y2.2.2.2.2.1.1, ()), ()))
    | .inr y3_1 =>
      some ((y3_1.1.1, ()), ((y2.2.2.1.1, (), ()), y2.2.2.2.1, ((), ()), (y2.2.2.2.2.1.1, ()), ())))
noncomputable def C97 (k : Nat) : Nat → Fun := mkC [(1000092, ownF), (92, (F92 (f92 k))), (95, (F95 (f95 k))), (105, (F105 (f105 k)))]
theorem c97_ok (k : Nat) : ∀ f, SoundFn Try.prog f (C97 k f) := (mkC_cons ownF_ok (mkC_cons (s92 k) (mkC_cons (s95 k) (mkC_cons (s105 k) mkC_nil))))
noncomputable def H97_122 (k : Nat) : Nat → Option Cut := addH noH 122 ⟨runCut (wrC (bodyOf (codeAt 122 (bd Try.f97) 122))) 37 [1, 2, 3, 9, 17, 18] pa97_122 pw97_122 (u97_122 (l97_122 k k))⟩
theorem e97_122 (k : Nat) (rec : T97_122) (x : (pa97_122).C) : roundF (C97 k) tt noH (bodyOf (codeAt 122 (bd Try.f97) 122)) 244 37 [1, 2, 3, 9, 17, 18] pa97_122 pw97_122 (u97_122 rec) x = u97_122 (b97_122 k rec) x := by kernel_rfl
theorem h97_122_ok (k : Nat) : ∀ p S, H97_122 k p = some S → ∀ c, At (bd Try.f97) p c → CutOk Try.prog c S :=
  have hC := c97_ok k
  addLoop hC ttOk (draw_ok hC ttOk mixed) noH_ok (by kernel_rfl) (F := fun j => u97_122 (l97_122 k j)) (fun _ => rfl) (fun j x _ h => (e97_122 k (l97_122 k j) x).trans h) k
theorem e97 (k : Nat) (x : (a97).C) : bodyW (C97 k) tt (H97_122 k) Try.f97 a97 o97 x = u97 (f97 k) x := by kernel_rfl
theorem s97 (k : Nat) : SoundFn Try.prog 97 (F97 (f97 k)) :=
  have hC := c97_ok k
  fnW_sound hC ttOk (draw_ok hC ttOk mixed) Try.func97 (c0 := bd Try.f97) rfl (entry Try.func97 rfl (by decide)) (h97_122_ok k) (fun x _ h => (e97 k x).trans h)
/-! f63 fathom/vec.Ite (W) -/
noncomputable def a63 : Shape := ⟨[.ptr 0, .d i64, .d (.slice i64), .d (.slice i64)], [.box [.own T_Gate, .mp 1], .map T_Gate i64]⟩
noncomputable def o63 : List Shape := [⟨[.own i64], [.box [.own T_Gate, .mp 1], .map T_Gate i64]⟩]
abbrev R63 : Type := (((List Int) × Unit) × (((List D_Gate) × Unit × Unit) × (List (D_Gate × Int)) × Unit))
abbrev T63 : Type := Int → (List Int) → (List Int) → (List D_Gate) → (List (D_Gate × Int)) → Option R63
noncomputable def u63 (f : T63) : (a63).C → Option (OutC o63) := fun (x : ((Unit × Int × (List Int) × (List Int) × Unit) × (((List D_Gate) × Unit × Unit) × (List (D_Gate × Int)) × Unit))) => f x.1.2.1 x.1.2.2.1 x.1.2.2.2.1 x.2.1.1 x.2.2.1
noncomputable def F63 (f : T63) : Fun := ⟨false, runW a63 o63 (u63 f)⟩
noncomputable def f63 (k : Nat) : T63 := fun c1 a2 b3 o0 o1 =>
  (f24 k c1 o0 o1).bind fun y1 =>
  cond (!y1.1.1)
    (some (([], ()), ((o0, (), ()), o1, ())))
    ((f97 k a2 b3 o0 o1 c1).bind fun y2 =>
    some ((y2.1.1, ()), ((y2.2.1.1, (), ()), y2.2.2.1, ())))
noncomputable def C63 (k : Nat) : Nat → Fun := mkC [(24, (F24 (f24 k))), (97, (F97 (f97 k)))]
theorem c63_ok (k : Nat) : ∀ f, SoundFn Try.prog f (C63 k f) := (mkC_cons (s24 k) (mkC_cons (s97 k) mkC_nil))
theorem e63 (k : Nat) (x : (a63).C) : bodyW (C63 k) tt noH Try.f63 a63 o63 x = u63 (f63 k) x := by kernel_rfl
theorem s63 (k : Nat) : SoundFn Try.prog 63 (F63 (f63 k)) :=
  have hC := c63_ok k
  fnW_sound hC ttOk (draw_ok hC ttOk mixed) Try.func63 (c0 := bd Try.f63) rfl (entry Try.func63 rfl (by decide)) noH_ok (fun x _ h => (e63 k x).trans h)
/-! f27 (*fathom/aig.Aig).Xor (W) -/
noncomputable def a27 : Shape := ⟨[.ptr 0, .d i64, .d i64], [.box [.own T_Gate, .mp 1], .map T_Gate i64]⟩
noncomputable def o27 : List Shape := [⟨[.d i64], [.box [.own T_Gate, .mp 1], .map T_Gate i64]⟩]
abbrev R27 : Type := ((Int × Unit) × (((List D_Gate) × Unit × Unit) × (List (D_Gate × Int)) × Unit))
abbrev T27 : Type := Int → Int → (List D_Gate) → (List (D_Gate × Int)) → Option R27
noncomputable def u27 (f : T27) : (a27).C → Option (OutC o27) := fun (x : ((Unit × Int × Int × Unit) × (((List D_Gate) × Unit × Unit) × (List (D_Gate × Int)) × Unit))) => f x.1.2.1 x.1.2.2.1 x.2.1.1 x.2.2.1
noncomputable def F27 (f : T27) : Fun := ⟨false, runW a27 o27 (u27 f)⟩
noncomputable def f27 (k : Nat) : T27 := fun a1 b2 o0 o1 =>
  (f89 k b2).bind fun y1 =>
  (f19 k a1 y1.1.1 o0 o1).bind fun y2 =>
  (f89 k a1).bind fun y3 =>
  (f19 k y3.1.1 b2 y2.2.1.1 y2.2.2.1).bind fun y4 =>
  (f26 k y2.1.1 y4.1.1 y4.2.1.1 y4.2.2.1).bind fun y5 =>
  some ((y5.1.1, ()), ((y5.2.1.1, (), ()), y5.2.2.1, ()))
noncomputable def C27 (k : Nat) : Nat → Fun := mkC [(19, (F19 (f19 k))), (26, (F26 (f26 k))), (89, (F89 (f89 k)))]
theorem c27_ok (k : Nat) : ∀ f, SoundFn Try.prog f (C27 k f) := (mkC_cons (s19 k) (mkC_cons (s26 k) (mkC_cons (s89 k) mkC_nil)))
theorem e27 (k : Nat) (x : (a27).C) : bodyW (C27 k) tt noH Try.f27 a27 o27 x = u27 (f27 k) x := by kernel_rfl
theorem s27 (k : Nat) : SoundFn Try.prog 27 (F27 (f27 k)) :=
  have hC := c27_ok k
  fnW_sound hC ttOk (draw_ok hC ttOk mixed) Try.func27 (c0 := bd Try.f27) rfl (entry Try.func27 rfl (by decide)) noH_ok (fun x _ h => (e27 k x).trans h)
/-! f97v2 fathom/vec.each (W) -/
noncomputable def a97v2 : Shape := ⟨[.ptr 0, .d (.slice i64), .d (.slice i64), .bfn 27 [0]], [.box [.own T_Gate, .mp 1], .map T_Gate i64]⟩
noncomputable def o97v2 : List Shape := [⟨[.own i64], [.box [.own T_Gate, .mp 1], .map T_Gate i64]⟩]
abbrev R97v2 : Type := (((List Int) × Unit) × (((List D_Gate) × Unit × Unit) × (List (D_Gate × Int)) × Unit))
abbrev T97v2 : Type := (List Int) → (List Int) → (List D_Gate) → (List (D_Gate × Int)) → Option R97v2
noncomputable def u97v2 (f : T97v2) : (a97v2).C → Option (OutC o97v2) := fun (x : ((Unit × (List Int) × (List Int) × Unit × Unit) × (((List D_Gate) × Unit × Unit) × (List (D_Gate × Int)) × Unit))) => f x.1.2.1 x.1.2.2.1 x.2.1.1 x.2.2.1
noncomputable def F97v2 (f : T97v2) : Fun := ⟨false, runW a97v2 o97v2 (u97v2 f)⟩
noncomputable def pa97v2_122 : Shape := ⟨[.d (.slice i64), .d (.slice i64), .bfn 27 [0], .own i64, .d i64, .d i64], [.box [.own T_Gate, .mp 1], .map T_Gate i64]⟩
noncomputable def pw97v2_122 : List Vm.Way := [⟨.exit 0, [9], ⟨[.own i64], [.box [.own T_Gate, .mp 1], .map T_Gate i64]⟩⟩]
abbrev R97v2_122 : Type := (((List Int) × Unit) × (((List D_Gate) × Unit × Unit) × (List (D_Gate × Int)) × Unit))
abbrev T97v2_122 : Type := (List Int) → (List Int) → (List Int) → Int → Int → (List D_Gate) → (List (D_Gate × Int)) → Option R97v2_122
noncomputable def u97v2_122 (f : T97v2_122) : (pa97v2_122).C → Option (WayC pw97v2_122) := fun (x : (((List Int) × (List Int) × Unit × (List Int) × Int × Int × Unit) × (((List D_Gate) × Unit × Unit) × (List (D_Gate × Int)) × Unit))) => f x.1.1 x.1.2.1 x.1.2.2.2.1 x.1.2.2.2.2.1 x.1.2.2.2.2.2.1 x.2.1.1 x.2.2.1
noncomputable def b97v2_122 (k : Nat) (rec : T97v2_122) : T97v2_122 := fun a1 b2 out9 t17 t18 o0 o1 =>
  cond (decide (t18 < t17))
    (ix a1 t18 fun e1 =>
    ix b2 t18 fun e2 =>
    (f27 k e1 e2 o0 o1).bind fun y3 =>
    gd (decide ((out9.length + 1) * 8 ≤ room)) <|
    (rec a1 b2 (out9 ++ ([y3.1.1] : List Int)) t17 (w64 (t18 + 1)) y3.2.1.1 y3.2.2.1).bind fun y4 =>
    some ((y4.1.1, ()), ((y4.2.1.1, (), ()), y4.2.2.1, ())))
    (some ((out9, ()), ((o0, (), ()), o1, ())))
noncomputable def l97v2_122 (k : Nat) : Nat → T97v2_122
  | 0 => fun _ _ _ _ _ _ _ => none
  | j + 1 => b97v2_122 k (l97v2_122 k j)
noncomputable def f97v2 (k : Nat) : T97v2 := fun a1 b2 o0 o1 =>
  (f95 k a1 b2 o0 o1).bind fun y1 =>
  cond (!y1.1.1)
    (some (([], ()), ((o0, (), ()), o1, ())))
    ((l97v2_122 k k a1 b2 [] (a1.length : Int) 0 o0 o1).bind fun y2 =>
    (f92 k y2.1.1).bind fun y3 =>
    match y3 with
    | .inl y3_0 =>
      some (([], ()), ((y2.2.1.1, (), ()), y2.2.2.1, ()))
    | .inr y3_1 =>
      some ((y3_1.1.1, ()), ((y2.2.1.1, (), ()), y2.2.2.1, ())))
noncomputable def C97v2 (k : Nat) : Nat → Fun := mkC [(27, (F27 (f27 k))), (1000092, ownF), (92, (F92 (f92 k))), (95, (F95 (f95 k)))]
theorem c97v2_ok (k : Nat) : ∀ f, SoundFn Try.prog f (C97v2 k f) := (mkC_cons (s27 k) (mkC_cons ownF_ok (mkC_cons (s92 k) (mkC_cons (s95 k) mkC_nil))))
noncomputable def H97v2_122 (k : Nat) : Nat → Option Cut := addH noH 122 ⟨runCut (wrC (bodyOf (codeAt 122 (bd Try.f97) 122))) 37 [1, 2, 3, 9, 17, 18] pa97v2_122 pw97v2_122 (u97v2_122 (l97v2_122 k k))⟩
theorem e97v2_122 (k : Nat) (rec : T97v2_122) (x : (pa97v2_122).C) : roundF (C97v2 k) tt noH (bodyOf (codeAt 122 (bd Try.f97) 122)) 244 37 [1, 2, 3, 9, 17, 18] pa97v2_122 pw97v2_122 (u97v2_122 rec) x = u97v2_122 (b97v2_122 k rec) x := by kernel_rfl
theorem h97v2_122_ok (k : Nat) : ∀ p S, H97v2_122 k p = some S → ∀ c, At (bd Try.f97) p c → CutOk Try.prog c S :=
  have hC := c97v2_ok k
  addLoop hC ttOk (draw_ok hC ttOk mixed) noH_ok (by kernel_rfl) (F := fun j => u97v2_122 (l97v2_122 k j)) (fun _ => rfl) (fun j x _ h => (e97v2_122 k (l97v2_122 k j) x).trans h) k
theorem e97v2 (k : Nat) (x : (a97v2).C) : bodyW (C97v2 k) tt (H97v2_122 k) Try.f97 a97v2 o97v2 x = u97v2 (f97v2 k) x := by kernel_rfl
theorem s97v2 (k : Nat) : SoundFn Try.prog 97 (F97v2 (f97v2 k)) :=
  have hC := c97v2_ok k
  fnW_sound hC ttOk (draw_ok hC ttOk mixed) Try.func97 (c0 := bd Try.f97) rfl (entry Try.func97 rfl (by decide)) (h97v2_122_ok k) (fun x _ h => (e97v2 k x).trans h)
/-! f53 fathom/vec.Xor (W) -/
noncomputable def a53 : Shape := ⟨[.ptr 0, .d (.slice i64), .d (.slice i64)], [.box [.own T_Gate, .mp 1], .map T_Gate i64]⟩
noncomputable def o53 : List Shape := [⟨[.own i64], [.box [.own T_Gate, .mp 1], .map T_Gate i64]⟩]
abbrev R53 : Type := (((List Int) × Unit) × (((List D_Gate) × Unit × Unit) × (List (D_Gate × Int)) × Unit))
abbrev T53 : Type := (List Int) → (List Int) → (List D_Gate) → (List (D_Gate × Int)) → Option R53
noncomputable def u53 (f : T53) : (a53).C → Option (OutC o53) := fun (x : ((Unit × (List Int) × (List Int) × Unit) × (((List D_Gate) × Unit × Unit) × (List (D_Gate × Int)) × Unit))) => f x.1.2.1 x.1.2.2.1 x.2.1.1 x.2.2.1
noncomputable def F53 (f : T53) : Fun := ⟨false, runW a53 o53 (u53 f)⟩
noncomputable def f53 (k : Nat) : T53 := fun a1 b2 o0 o1 =>
  (f97v2 k a1 b2 o0 o1).bind fun y1 =>
  some ((y1.1.1, ()), ((y1.2.1.1, (), ()), y1.2.2.1, ()))
noncomputable def C53 (k : Nat) : Nat → Fun := mkC [(97, (F97v2 (f97v2 k)))]
theorem c53_ok (k : Nat) : ∀ f, SoundFn Try.prog f (C53 k f) := (mkC_cons (s97v2 k) mkC_nil)
theorem e53 (k : Nat) (x : (a53).C) : bodyW (C53 k) tt noH Try.f53 a53 o53 x = u53 (f53 k) x := by kernel_rfl
theorem s53 (k : Nat) : SoundFn Try.prog 53 (F53 (f53 k)) :=
  have hC := c53_ok k
  fnW_sound hC ttOk (draw_ok hC ttOk mixed) Try.func53 (c0 := bd Try.f53) rfl (entry Try.func53 rfl (by decide)) noH_ok (fun x _ h => (e53 k x).trans h)
/-! f98 fathom/vec.Not$1 (R) -/
noncomputable def a98 : Shape := ⟨[.d i64, .d i64], []⟩
noncomputable def o98 : List Shape := [⟨[.d i64], []⟩]
abbrev R98 : Type := ((Int × Unit) × Unit)
abbrev T98 : Type := Int → Int → Option R98
noncomputable def u98 (f : T98) : (a98).C → Option (OutC o98) := fun (x : ((Int × Int × Unit) × Unit)) => f x.1.1 x.1.2.1
noncomputable def F98 (f : T98) : Fun := ⟨true, runR a98 o98 (u98 f)⟩
noncomputable def f98 (k : Nat) : T98 := fun a0 x1 =>
  some (((ibits .xor .i64 a0 1), ()), ())
noncomputable def C98 (k : Nat) : Nat → Fun := mkC []
theorem c98_ok (k : Nat) : ∀ f, SoundFn Try.prog f (C98 k f) := mkC_nil
theorem e98 (k : Nat) (x : (a98).C) : bodyR (C98 k) tt noH Try.f98 a98 o98 x = u98 (f98 k) x := by kernel_rfl
theorem s98 (k : Nat) : SoundFn Try.prog 98 (F98 (f98 k)) :=
  have hC := c98_ok k
  fnR_sound hC ttOk (draw_ok hC ttOk mixed) Try.func98 (c0 := bd Try.f98) rfl (entry Try.func98 rfl (by decide)) noH_ok rfl (fun x _ h => (e98 k x).trans h)
/-! f97v3 fathom/vec.each (W) -/
noncomputable def a97v3 : Shape := ⟨[.ptr 0, .d (.slice i64), .d (.slice i64), .fn 98 []], [.lk (.box [.d (.slice T_Gate), .mp 1]), .lk (.map T_Gate i64)]⟩
noncomputable def o97v3 : List Shape := [⟨[.own i64], [.any, .any]⟩]
abbrev R97v3 : Type := (((List Int) × Unit) × (Unit × Unit × Unit))
abbrev T97v3 : Type := (List Int) → (List Int) → (List D_Gate) → (List (D_Gate × Int)) → Option R97v3
noncomputable def u97v3 (f : T97v3) : (a97v3).C → Option (OutC o97v3) := fun (x : ((Unit × (List Int) × (List Int) × Unit × Unit) × (((List D_Gate) × Unit × Unit) × (List (D_Gate × Int)) × Unit))) => f x.1.2.1 x.1.2.2.1 x.2.1.1 x.2.2.1
noncomputable def F97v3 (f : T97v3) : Fun := ⟨false, runW a97v3 o97v3 (u97v3 f)⟩
noncomputable def pa97v3_122 : Shape := ⟨[.d (.slice i64), .d (.slice i64), .fn 98 [], .own i64, .d i64, .d i64], []⟩
noncomputable def pw97v3_122 : List Vm.Way := [⟨.exit 0, [9], ⟨[.own i64], []⟩⟩]
abbrev R97v3_122 : Type := (((List Int) × Unit) × Unit)
abbrev T97v3_122 : Type := (List Int) → (List Int) → (List Int) → Int → Int → Option R97v3_122
noncomputable def u97v3_122 (f : T97v3_122) : (pa97v3_122).C → Option (WayC pw97v3_122) := fun (x : (((List Int) × (List Int) × Unit × (List Int) × Int × Int × Unit) × Unit)) => f x.1.1 x.1.2.1 x.1.2.2.2.1 x.1.2.2.2.2.1 x.1.2.2.2.2.2.1
noncomputable def b97v3_122 (k : Nat) (rec : T97v3_122) : T97v3_122 := fun a1 b2 out9 t17 t18 =>
  cond (decide (t18 < t17))
    (ix a1 t18 fun e1 =>
    ix b2 t18 fun e2 =>
    (f98 k e1 e2).bind fun y3 =>
    gd (decide ((out9.length + 1) * 8 ≤ room)) <|
    (rec a1 b2 (out9 ++ ([y3.1.1] : List Int)) t17 (w64 (t18 + 1))).bind fun y4 =>
    some ((y4.1.1, ()), ()))
    (some ((out9, ()), ()))
noncomputable def l97v3_122 (k : Nat) : Nat → T97v3_122
  | 0 => fun _ _ _ _ _ => none
  | j + 1 => b97v3_122 k (l97v3_122 k j)
noncomputable def f97v3 (k : Nat) : T97v3 := fun a1 b2 o0 o1 =>
  (f95 k a1 b2 o0 o1).bind fun y1 =>
  cond (!y1.1.1)
    (some (([], ()), ((), (), ())))
    ((l97v3_122 k k a1 b2 [] (a1.length : Int) 0).bind fun y2 =>
    (f92 k y2.1.1).bind fun y3 =>
    match y3 with
    | .inl y3_0 =>
      some (([], ()), ((), (), ()))
    | .inr y3_1 =>
      some ((y3_1.1.1, ()), ((), (), ())))
noncomputable def C97v3 (k : Nat) : Nat → Fun := mkC [(1000092, ownF), (92, (F92 (f92 k))), (95, (F95 (f95 k))), (98, (F98 (f98 k)))]
theorem c97v3_ok (k : Nat) : ∀ f, SoundFn Try.prog f (C97v3 k f) := (mkC_cons ownF_ok (mkC_cons (s92 k) (mkC_cons (s95 k) (mkC_cons (s98 k) mkC_nil))))
noncomputable def H97v3_122 (k : Nat) : Nat → Option Cut := addH noH 122 ⟨runCut (wrC (bodyOf (codeAt 122 (bd Try.f97) 122))) 37 [1, 2, 3, 9, 17, 18] pa97v3_122 pw97v3_122 (u97v3_122 (l97v3_122 k k))⟩
theorem e97v3_122 (k : Nat) (rec : T97v3_122) (x : (pa97v3_122).C) : roundF (C97v3 k) tt noH (bodyOf (codeAt 122 (bd Try.f97) 122)) 244 37 [1, 2, 3, 9, 17, 18] pa97v3_122 pw97v3_122 (u97v3_122 rec) x = u97v3_122 (b97v3_122 k rec) x := by kernel_rfl
theorem h97v3_122_ok (k : Nat) : ∀ p S, H97v3_122 k p = some S → ∀ c, At (bd Try.f97) p c → CutOk Try.prog c S :=
  have hC := c97v3_ok k
  addLoop hC ttOk (draw_ok hC ttOk mixed) noH_ok (by kernel_rfl) (F := fun j => u97v3_122 (l97v3_122 k j)) (fun _ => rfl) (fun j x _ h => (e97v3_122 k (l97v3_122 k j) x).trans h) k
theorem e97v3 (k : Nat) (x : (a97v3).C) : bodyW (C97v3 k) tt (H97v3_122 k) Try.f97 a97v3 o97v3 x = u97v3 (f97v3 k) x := by kernel_rfl
theorem s97v3 (k : Nat) : SoundFn Try.prog 97 (F97v3 (f97v3 k)) :=
  have hC := c97v3_ok k
  fnW_sound hC ttOk (draw_ok hC ttOk mixed) Try.func97 (c0 := bd Try.f97) rfl (entry Try.func97 rfl (by decide)) (h97v3_122_ok k) (fun x _ h => (e97v3 k x).trans h)
/-! f54 fathom/vec.Not (R) -/
noncomputable def a54 : Shape := ⟨[.ptr 0, .d (.slice i64)], [.box [.d (.slice T_Gate), .mp 1], .map T_Gate i64]⟩
noncomputable def o54 : List Shape := [⟨[.d (.slice i64)], []⟩]
abbrev R54 : Type := (((List Int) × Unit) × Unit)
abbrev T54 : Type := (List Int) → (List D_Gate) → (List (D_Gate × Int)) → Option R54
noncomputable def u54 (f : T54) : (a54).C → Option (OutC o54) := fun (x : ((Unit × (List Int) × Unit) × (((List D_Gate) × Unit × Unit) × (List (D_Gate × Int)) × Unit))) => f x.1.2.1 x.2.1.1 x.2.2.1
noncomputable def F54 (f : T54) : Fun := ⟨true, runR a54 o54 (u54 f)⟩
noncomputable def f54 (k : Nat) : T54 := fun a1 o0 o1 =>
  (f97v3 k a1 a1 o0 o1).bind fun y1 =>
  some ((y1.1.1, ()), ())
noncomputable def C54 (k : Nat) : Nat → Fun := mkC [(97, (F97v3 (f97v3 k)))]
theorem c54_ok (k : Nat) : ∀ f, SoundFn Try.prog f (C54 k f) := (mkC_cons (s97v3 k) mkC_nil)
theorem e54 (k : Nat) (x : (a54).C) : bodyR (C54 k) tt noH Try.f54 a54 o54 x = u54 (f54 k) x := by kernel_rfl
theorem s54 (k : Nat) : SoundFn Try.prog 54 (F54 (f54 k)) :=
  have hC := c54_ok k
  fnR_sound hC ttOk (draw_ok hC ttOk mixed) Try.func54 (c0 := bd Try.f54) rfl (entry Try.func54 rfl (by decide)) noH_ok rfl (fun x _ h => (e54 k x).trans h)
/-! f29 (*fathom/aig.Aig).All (W) -/
noncomputable def a29 : Shape := ⟨[.ptr 0, .d (.slice i64)], [.box [.own T_Gate, .mp 1], .map T_Gate i64]⟩
noncomputable def o29 : List Shape := [⟨[.d i64], [.box [.own T_Gate, .mp 1], .map T_Gate i64]⟩]
abbrev R29 : Type := ((Int × Unit) × (((List D_Gate) × Unit × Unit) × (List (D_Gate × Int)) × Unit))
abbrev T29 : Type := (List Int) → (List D_Gate) → (List (D_Gate × Int)) → Option R29
noncomputable def u29 (f : T29) : (a29).C → Option (OutC o29) := fun (x : ((Unit × (List Int) × Unit) × (((List D_Gate) × Unit × Unit) × (List (D_Gate × Int)) × Unit))) => f x.1.2.1 x.2.1.1 x.2.2.1
noncomputable def F29 (f : T29) : Fun := ⟨false, runW a29 o29 (u29 f)⟩
noncomputable def pa29_122 : Shape := ⟨[.ptr 0, .d i64, .d (.slice i64), .d i64, .d i64], [.box [.own T_Gate, .mp 1], .map T_Gate i64]⟩
noncomputable def pw29_122 : List Vm.Way := [⟨.exit 0, [5], ⟨[.d i64], [.box [.own T_Gate, .mp 1], .map T_Gate i64]⟩⟩]
abbrev R29_122 : Type := ((Int × Unit) × (((List D_Gate) × Unit × Unit) × (List (D_Gate × Int)) × Unit))
abbrev T29_122 : Type := Int → (List Int) → Int → Int → (List D_Gate) → (List (D_Gate × Int)) → Option R29_122
noncomputable def u29_122 (f : T29_122) : (pa29_122).C → Option (WayC pw29_122) := fun (x : ((Unit × Int × (List Int) × Int × Int × Unit) × (((List D_Gate) × Unit × Unit) × (List (D_Gate × Int)) × Unit))) => f x.1.2.1 x.1.2.2.1 x.1.2.2.2.1 x.1.2.2.2.2.1 x.2.1.1 x.2.2.1
noncomputable def b29_122 (k : Nat) (rec : T29_122) : T29_122 := fun out5 t17 t18 t19 o0 o1 =>
  cond (decide (t19 < t18))
    (ix t17 t19 fun e1 =>
    (f19 k out5 e1 o0 o1).bind fun y2 =>
    (rec y2.1.1 t17 t18 (w64 (t19 + 1)) y2.2.1.1 y2.2.2.1).bind fun y3 =>
    some ((y3.1.1, ()), ((y3.2.1.1, (), ()), y3.2.2.1, ())))
    (some ((out5, ()), ((o0, (), ()), o1, ())))
noncomputable def l29_122 (k : Nat) : Nat → T29_122
  | 0 => fun _ _ _ _ _ _ => none
  | j + 1 => b29_122 k (l29_122 k j)
noncomputable def f29 (k : Nat) : T29 := fun l1 o0 o1 =>
  (l29_122 k k 1 l1 (l1.length : Int) 0 o0 o1).bind fun y1 =>
  some ((y1.1.1, ()), ((y1.2.1.1, (), ()), y1.2.2.1, ()))
noncomputable def C29 (k : Nat) : Nat → Fun := mkC [(19, (F19 (f19 k)))]
theorem c29_ok (k : Nat) : ∀ f, SoundFn Try.prog f (C29 k f) := (mkC_cons (s19 k) mkC_nil)
noncomputable def H29_122 (k : Nat) : Nat → Option Cut := addH noH 122 ⟨runCut (wrC (bodyOf (codeAt 122 (bd Try.f29) 122))) 29 [0, 5, 17, 18, 19] pa29_122 pw29_122 (u29_122 (l29_122 k k))⟩
theorem e29_122 (k : Nat) (rec : T29_122) (x : (pa29_122).C) : roundF (C29 k) tt noH (bodyOf (codeAt 122 (bd Try.f29) 122)) 244 29 [0, 5, 17, 18, 19] pa29_122 pw29_122 (u29_122 rec) x = u29_122 (b29_122 k rec) x := by kernel_rfl
theorem h29_122_ok (k : Nat) : ∀ p S, H29_122 k p = some S → ∀ c, At (bd Try.f29) p c → CutOk Try.prog c S :=
  have hC := c29_ok k
  addLoop hC ttOk (draw_ok hC ttOk mixed) noH_ok (by kernel_rfl) (F := fun j => u29_122 (l29_122 k j)) (fun _ => rfl) (fun j x _ h => (e29_122 k (l29_122 k j) x).trans h) k
theorem e29 (k : Nat) (x : (a29).C) : bodyW (C29 k) tt (H29_122 k) Try.f29 a29 o29 x = u29 (f29 k) x := by kernel_rfl
theorem s29 (k : Nat) : SoundFn Try.prog 29 (F29 (f29 k)) :=
  have hC := c29_ok k
  fnW_sound hC ttOk (draw_ok hC ttOk mixed) Try.func29 (c0 := bd Try.f29) rfl (entry Try.func29 rfl (by decide)) (h29_122_ok k) (fun x _ h => (e29 k x).trans h)
/-! f64 fathom/vec.Eq (W) -/
noncomputable def a64 : Shape := ⟨[.ptr 0, .d (.slice i64), .d (.slice i64)], [.box [.own T_Gate, .mp 1], .map T_Gate i64]⟩
noncomputable def o64 : List Shape := [⟨[.d i64], [.box [.own T_Gate, .mp 1], .map T_Gate i64]⟩]
abbrev R64 : Type := ((Int × Unit) × (((List D_Gate) × Unit × Unit) × (List (D_Gate × Int)) × Unit))
abbrev T64 : Type := (List Int) → (List Int) → (List D_Gate) → (List (D_Gate × Int)) → Option R64
noncomputable def u64 (f : T64) : (a64).C → Option (OutC o64) := fun (x : ((Unit × (List Int) × (List Int) × Unit) × (((List D_Gate) × Unit × Unit) × (List (D_Gate × Int)) × Unit))) => f x.1.2.1 x.1.2.2.1 x.2.1.1 x.2.2.1
noncomputable def F64 (f : T64) : Fun := ⟨false, runW a64 o64 (u64 f)⟩
noncomputable def f64 (k : Nat) : T64 := fun a1 b2 o0 o1 =>
  (f53 k a1 b2 o0 o1).bind fun y1 =>
  cond y1.1.1.isEmpty
    (none)
    ((f54 k y1.1.1 y1.2.1.1 y1.2.2.1).bind fun y2 =>
    (f29 k y2.1.1 y1.2.1.1 y1.2.2.1).bind fun y3 =>
    some ((y3.1.1, ()), ((y3.2.1.1, (), ()), y3.2.2.1, ())))
noncomputable def C64 (k : Nat) : Nat → Fun := mkC [(29, (F29 (f29 k))), (53, (F53 (f53 k))), (54, (F54 (f54 k)))]
theorem c64_ok (k : Nat) : ∀ f, SoundFn Try.prog f (C64 k f) := (mkC_cons (s29 k) (mkC_cons (s53 k) (mkC_cons (s54 k) mkC_nil)))
theorem e64 (k : Nat) (x : (a64).C) : bodyW (C64 k) tt noH Try.f64 a64 o64 x = u64 (f64 k) x := by kernel_rfl
theorem s64 (k : Nat) : SoundFn Try.prog 64 (F64 (f64 k)) :=
  have hC := c64_ok k
  fnW_sound hC ttOk (draw_ok hC ttOk mixed) Try.func64 (c0 := bd Try.f64) rfl (entry Try.func64 rfl (by decide)) noH_ok (fun x _ h => (e64 k x).trans h)
/-! f104 fathom/vec.turned (R) -/
noncomputable def a104 : Shape := ⟨[.d (.slice i64)], []⟩
noncomputable def o104 : List Shape := [⟨[.d (.slice i64)], []⟩]
abbrev R104 : Type := (((List Int) × Unit) × Unit)
abbrev T104 : Type := (List Int) → Option R104
noncomputable def u104 (f : T104) : (a104).C → Option (OutC o104) := fun (x : (((List Int) × Unit) × Unit)) => f x.1.1
noncomputable def F104 (f : T104) : Fun := ⟨true, runR a104 o104 (u104 f)⟩
noncomputable def pa104_58 : Shape := ⟨[.own i64, .d (.slice i64), .d i64, .d i64], []⟩
noncomputable def pw104_58 : List Vm.Way := [⟨.exit 0, [3], ⟨[.own i64], []⟩⟩]
abbrev R104_58 : Type := (((List Int) × Unit) × Unit)
abbrev T104_58 : Type := (List Int) → (List Int) → Int → Int → Option R104_58
noncomputable def u104_58 (f : T104_58) : (pa104_58).C → Option (WayC pw104_58) := fun (x : (((List Int) × (List Int) × Int × Int × Unit) × Unit)) => f x.1.1 x.1.2.1 x.1.2.2.1 x.1.2.2.2.1
noncomputable def b104_58 (k : Nat) (rec : T104_58) : T104_58 := fun out3 t6 t7 t8 =>
  cond (decide (t8 < t7))
    (ix t6 t8 fun e1 =>
    gd (decide ((out3.length + 1) * 8 ≤ room)) <|
    (rec (out3 ++ ([(ibits .xor .i64 e1 1)] : List Int)) t6 t7 (w64 (t8 + 1))).bind fun y2 =>
    some ((y2.1.1, ()), ()))
    (some ((out3, ()), ()))
noncomputable def l104_58 (k : Nat) : Nat → T104_58
  | 0 => fun _ _ _ _ => none
  | j + 1 => b104_58 k (l104_58 k j)
noncomputable def f104 (k : Nat) : T104 := fun a0 =>
  (l104_58 k k [] a0 (a0.length : Int) 0).bind fun y1 =>
  some ((y1.1.1, ()), ())
noncomputable def C104 (k : Nat) : Nat → Fun := mkC []
theorem c104_ok (k : Nat) : ∀ f, SoundFn Try.prog f (C104 k f) := mkC_nil
noncomputable def H104_58 (k : Nat) : Nat → Option Cut := addH noH 58 ⟨runCut (wrC (bodyOf (codeAt 58 (bd Try.f104) 58))) 19 [3, 6, 7, 8] pa104_58 pw104_58 (u104_58 (l104_58 k k))⟩
theorem e104_58 (k : Nat) (rec : T104_58) (x : (pa104_58).C) : roundF (C104 k) tt noH (bodyOf (codeAt 58 (bd Try.f104) 58)) 116 19 [3, 6, 7, 8] pa104_58 pw104_58 (u104_58 rec) x = u104_58 (b104_58 k rec) x := by kernel_rfl
theorem h104_58_ok (k : Nat) : ∀ p S, H104_58 k p = some S → ∀ c, At (bd Try.f104) p c → CutOk Try.prog c S :=
  have hC := c104_ok k
  addLoop hC ttOk (draw_ok hC ttOk mixed) noH_ok (by kernel_rfl) (F := fun j => u104_58 (l104_58 k j)) (fun _ => rfl) (fun j x _ h => (e104_58 k (l104_58 k j) x).trans h) k
theorem e104 (k : Nat) (x : (a104).C) : bodyR (C104 k) tt (H104_58 k) Try.f104 a104 o104 x = u104 (f104 k) x := by kernel_rfl
theorem s104 (k : Nat) : SoundFn Try.prog 104 (F104 (f104 k)) :=
  have hC := c104_ok k
  fnR_sound hC ttOk (draw_ok hC ttOk mixed) Try.func104 (c0 := bd Try.f104) rfl (entry Try.func104 rfl (by decide)) (h104_58_ok k) rfl (fun x _ h => (e104 k x).trans h)
/-! f96 fathom/vec.sum (W) -/
noncomputable def a96 : Shape := ⟨[.ptr 0, .d (.slice i64), .d (.slice i64), .d i64], [.box [.own T_Gate, .mp 1], .map T_Gate i64]⟩
noncomputable def o96 : List Shape := [⟨[.own i64, .d i64], [.box [.own T_Gate, .mp 1], .map T_Gate i64]⟩]
abbrev R96 : Type := (((List Int) × Int × Unit) × (((List D_Gate) × Unit × Unit) × (List (D_Gate × Int)) × Unit))
abbrev T96 : Type := (List Int) → (List Int) → Int → (List D_Gate) → (List (D_Gate × Int)) → Option R96
noncomputable def u96 (f : T96) : (a96).C → Option (OutC o96) := fun (x : ((Unit × (List Int) × (List Int) × Int × Unit) × (((List D_Gate) × Unit × Unit) × (List (D_Gate × Int)) × Unit))) => f x.1.2.1 x.1.2.2.1 x.1.2.2.2.1 x.2.1.1 x.2.2.1
noncomputable def F96 (f : T96) : Fun := ⟨false, runW a96 o96 (u96 f)⟩
noncomputable def pa96_58 : Shape := ⟨[.ptr 0, .d (.slice i64), .d (.slice i64), .d i64, .own i64, .d i64, .d i64], [.box [.own T_Gate, .mp 1], .map T_Gate i64]⟩
noncomputable def pw96_58 : List Vm.Way := [⟨.exit 0, [3, 10], ⟨[.d i64, .own i64], [.box [.own T_Gate, .mp 1], .map T_Gate i64]⟩⟩]
abbrev R96_58 : Type := ((Int × (List Int) × Unit) × (((List D_Gate) × Unit × Unit) × (List (D_Gate × Int)) × Unit))
abbrev T96_58 : Type := (List Int) → (List Int) → Int → (List Int) → Int → Int → (List D_Gate) → (List (D_Gate × Int)) → Option R96_58
noncomputable def u96_58 (f : T96_58) : (pa96_58).C → Option (WayC pw96_58) := fun (x : ((Unit × (List Int) × (List Int) × Int × (List Int) × Int × Int × Unit) × (((List D_Gate) × Unit × Unit) × (List (D_Gate × Int)) × Unit))) => f x.1.2.1 x.1.2.2.1 x.1.2.2.2.1 x.1.2.2.2.2.1 x.1.2.2.2.2.2.1 x.1.2.2.2.2.2.2.1 x.2.1.1 x.2.2.1
noncomputable def b96_58 (k : Nat) (rec : T96_58) : T96_58 := fun a1 b2 c3 out10 t14 t15 o0 o1 =>
  cond (decide (t15 < t14))
    (ix a1 t15 fun e1 =>
    ix b2 t15 fun e2 =>
    (f27 k e1 e2 o0 o1).bind fun y3 =>
    (f27 k y3.1.1 c3 y3.2.1.1 y3.2.2.1).bind fun y4 =>
    gd (decide ((out10.length + 1) * 8 ≤ room)) <|
    ix a1 t15 fun e5 =>
    ix b2 t15 fun e6 =>
    (f19 k e5 e6 y4.2.1.1 y4.2.2.1).bind fun y7 =>
    (f19 k y3.1.1 c3 y7.2.1.1 y7.2.2.1).bind fun y8 =>
    (f26 k y7.1.1 y8.1.1 y8.2.1.1 y8.2.2.1).bind fun y9 =>
    (rec a1 b2 y9.1.1 (out10 ++ ([y4.1.1] : List Int)) t14 (w64 (t15 + 1)) y9.2.1.1 y9.2.2.1).bind fun y10 =>
    some ((y10.1.1, y10.1.2.1, ()), ((y10.2.1.1, (), ()), y10.2.2.1, ())))
    (some ((c3, out10, ()), ((o0, (), ()), o1, ())))
noncomputable def l96_58 (k : Nat) : Nat → T96_58
  | 0 => fun _ _ _ _ _ _ _ _ => none
  | j + 1 => b96_58 k (l96_58 k j)
noncomputable def f96 (k : Nat) : T96 := fun a1 b2 c3 o0 o1 =>
  (l96_58 k k a1 b2 c3 [] (a1.length : Int) 0 o0 o1).bind fun y1 =>
  some ((y1.1.2.1, y1.1.1, ()), ((y1.2.1.1, (), ()), y1.2.2.1, ()))
noncomputable def C96 (k : Nat) : Nat → Fun := mkC [(19, (F19 (f19 k))), (26, (F26 (f26 k))), (27, (F27 (f27 k)))]
theorem c96_ok (k : Nat) : ∀ f, SoundFn Try.prog f (C96 k f) := (mkC_cons (s19 k) (mkC_cons (s26 k) (mkC_cons (s27 k) mkC_nil)))
noncomputable def H96_58 (k : Nat) : Nat → Option Cut := addH noH 58 ⟨runCut (wrC (bodyOf (codeAt 58 (bd Try.f96) 58))) 54 [0, 1, 2, 3, 10, 14, 15] pa96_58 pw96_58 (u96_58 (l96_58 k k))⟩
theorem e96_58 (k : Nat) (rec : T96_58) (x : (pa96_58).C) : roundF (C96 k) tt noH (bodyOf (codeAt 58 (bd Try.f96) 58)) 116 54 [0, 1, 2, 3, 10, 14, 15] pa96_58 pw96_58 (u96_58 rec) x = u96_58 (b96_58 k rec) x := by kernel_rfl
theorem h96_58_ok (k : Nat) : ∀ p S, H96_58 k p = some S → ∀ c, At (bd Try.f96) p c → CutOk Try.prog c S :=
  have hC := c96_ok k
  addLoop hC ttOk (draw_ok hC ttOk mixed) noH_ok (by kernel_rfl) (F := fun j => u96_58 (l96_58 k j)) (fun _ => rfl) (fun j x _ h => (e96_58 k (l96_58 k j) x).trans h) k
theorem e96 (k : Nat) (x : (a96).C) : bodyW (C96 k) tt (H96_58 k) Try.f96 a96 o96 x = u96 (f96 k) x := by kernel_rfl
theorem s96 (k : Nat) : SoundFn Try.prog 96 (F96 (f96 k)) :=
  have hC := c96_ok k
  fnW_sound hC ttOk (draw_ok hC ttOk mixed) Try.func96 (c0 := bd Try.f96) rfl (entry Try.func96 rfl (by decide)) (h96_58_ok k) (fun x _ h => (e96 k x).trans h)
/-! f103 fathom/vec.less (W) -/
noncomputable def a103 : Shape := ⟨[.ptr 0, .d (.slice i64), .d (.slice i64)], [.box [.own T_Gate, .mp 1], .map T_Gate i64]⟩
noncomputable def o103 : List Shape := [⟨[.d i64], [.box [.own T_Gate, .mp 1], .map T_Gate i64]⟩]
abbrev R103 : Type := ((Int × Unit) × (((List D_Gate) × Unit × Unit) × (List (D_Gate × Int)) × Unit))
abbrev T103 : Type := (List Int) → (List Int) → (List D_Gate) → (List (D_Gate × Int)) → Option R103
noncomputable def u103 (f : T103) : (a103).C → Option (OutC o103) := fun (x : ((Unit × (List Int) × (List Int) × Unit) × (((List D_Gate) × Unit × Unit) × (List (D_Gate × Int)) × Unit))) => f x.1.2.1 x.1.2.2.1 x.2.1.1 x.2.2.1
noncomputable def F103 (f : T103) : Fun := ⟨false, runW a103 o103 (u103 f)⟩
noncomputable def f103 (k : Nat) : T103 := fun a1 b2 o0 o1 =>
  (f104 k b2).bind fun y1 =>
  (f96 k a1 y1.1.1 1 o0 o1).bind fun y2 =>
  cond (y2.1.2.1 == (-1))
    (some (((-1), ()), ((y2.2.1.1, (), ()), y2.2.2.1, ())))
    (some (((ibits .xor .i64 y2.1.2.1 1), ()), ((y2.2.1.1, (), ()), y2.2.2.1, ())))
noncomputable def C103 (k : Nat) : Nat → Fun := mkC [(96, (F96 (f96 k))), (104, (F104 (f104 k)))]
theorem c103_ok (k : Nat) : ∀ f, SoundFn Try.prog f (C103 k f) := (mkC_cons (s96 k) (mkC_cons (s104 k) mkC_nil))
theorem e103 (k : Nat) (x : (a103).C) : bodyW (C103 k) tt noH Try.f103 a103 o103 x = u103 (f103 k) x := by kernel_rfl
theorem s103 (k : Nat) : SoundFn Try.prog 103 (F103 (f103 k)) :=
  have hC := c103_ok k
  fnW_sound hC ttOk (draw_ok hC ttOk mixed) Try.func103 (c0 := bd Try.f103) rfl (entry Try.func103 rfl (by decide)) noH_ok (fun x _ h => (e103 k x).trans h)
/-! f65 fathom/vec.Less (W) -/
noncomputable def a65 : Shape := ⟨[.ptr 0, .d (.slice i64), .d (.slice i64)], [.box [.own T_Gate, .mp 1], .map T_Gate i64]⟩
noncomputable def o65 : List Shape := [⟨[.d i64], [.box [.own T_Gate, .mp 1], .map T_Gate i64]⟩]
abbrev R65 : Type := ((Int × Unit) × (((List D_Gate) × Unit × Unit) × (List (D_Gate × Int)) × Unit))
abbrev T65 : Type := (List Int) → (List Int) → (List D_Gate) → (List (D_Gate × Int)) → Option R65
noncomputable def u65 (f : T65) : (a65).C → Option (OutC o65) := fun (x : ((Unit × (List Int) × (List Int) × Unit) × (((List D_Gate) × Unit × Unit) × (List (D_Gate × Int)) × Unit))) => f x.1.2.1 x.1.2.2.1 x.2.1.1 x.2.2.1
noncomputable def F65 (f : T65) : Fun := ⟨false, runW a65 o65 (u65 f)⟩
noncomputable def f65 (k : Nat) : T65 := fun a1 b2 o0 o1 =>
  (f95 k a1 b2 o0 o1).bind fun y1 =>
  cond (!y1.1.1)
    (some (((-1), ()), ((o0, (), ()), o1, ())))
    ((f103 k a1 b2 o0 o1).bind fun y2 =>
    some ((y2.1.1, ()), ((y2.2.1.1, (), ()), y2.2.2.1, ())))
noncomputable def C65 (k : Nat) : Nat → Fun := mkC [(95, (F95 (f95 k))), (103, (F103 (f103 k)))]
theorem c65_ok (k : Nat) : ∀ f, SoundFn Try.prog f (C65 k f) := (mkC_cons (s95 k) (mkC_cons (s103 k) mkC_nil))
theorem e65 (k : Nat) (x : (a65).C) : bodyW (C65 k) tt noH Try.f65 a65 o65 x = u65 (f65 k) x := by kernel_rfl
theorem s65 (k : Nat) : SoundFn Try.prog 65 (F65 (f65 k)) :=
  have hC := c65_ok k
  fnW_sound hC ttOk (draw_ok hC ttOk mixed) Try.func65 (c0 := bd Try.f65) rfl (entry Try.func65 rfl (by decide)) noH_ok (fun x _ h => (e65 k x).trans h)
/-! f66 fathom/vec.Any (W) -/
noncomputable def a66 : Shape := ⟨[.ptr 0, .d (.slice i64)], [.box [.own T_Gate, .mp 1], .map T_Gate i64]⟩
noncomputable def o66 : List Shape := [⟨[.d i64], [.box [.own T_Gate, .mp 1], .map T_Gate i64]⟩]
abbrev R66 : Type := ((Int × Unit) × (((List D_Gate) × Unit × Unit) × (List (D_Gate × Int)) × Unit))
abbrev T66 : Type := (List Int) → (List D_Gate) → (List (D_Gate × Int)) → Option R66
noncomputable def u66 (f : T66) : (a66).C → Option (OutC o66) := fun (x : ((Unit × (List Int) × Unit) × (((List D_Gate) × Unit × Unit) × (List (D_Gate × Int)) × Unit))) => f x.1.2.1 x.2.1.1 x.2.2.1
noncomputable def F66 (f : T66) : Fun := ⟨false, runW a66 o66 (u66 f)⟩
noncomputable def f66 (k : Nat) : T66 := fun a1 o0 o1 =>
  (f68 k a1 o0 o1).bind fun y1 =>
  cond (y1.1.1 != 0)
    (some (((-1), ()), ((o0, (), ()), o1, ())))
    ((f54 k a1 o0 o1).bind fun y2 =>
    (f29 k y2.1.1 o0 o1).bind fun y3 =>
    cond (y3.1.1 == (-1))
      (some (((-1), ()), ((y3.2.1.1, (), ()), y3.2.2.1, ())))
      (some (((ibits .xor .i64 y3.1.1 1), ()), ((y3.2.1.1, (), ()), y3.2.2.1, ()))))
noncomputable def C66 (k : Nat) : Nat → Fun := mkC [(29, (F29 (f29 k))), (54, (F54 (f54 k))), (68, (F68 (f68 k)))]
theorem c66_ok (k : Nat) : ∀ f, SoundFn Try.prog f (C66 k f) := (mkC_cons (s29 k) (mkC_cons (s54 k) (mkC_cons (s68 k) mkC_nil)))
theorem e66 (k : Nat) (x : (a66).C) : bodyW (C66 k) tt noH Try.f66 a66 o66 x = u66 (f66 k) x := by kernel_rfl
theorem s66 (k : Nat) : SoundFn Try.prog 66 (F66 (f66 k)) :=
  have hC := c66_ok k
  fnW_sound hC ttOk (draw_ok hC ttOk mixed) Try.func66 (c0 := bd Try.f66) rfl (entry Try.func66 rfl (by decide)) noH_ok (fun x _ h => (e66 k x).trans h)
/-! f87v2 slices.Clone[[]fathom/api.Gate,fathom/api.Gate] (W) -/
noncomputable def a87v2 : Shape := ⟨[.nils], []⟩
noncomputable def o87v2 : List Shape := [⟨[.own T_Gate], []⟩]
abbrev R87v2 : Type := (((List D_Gate) × Unit) × Unit)
abbrev T87v2 : Type := Unit → Option R87v2
noncomputable def u87v2 (f : T87v2) : (a87v2).C → Option (OutC o87v2) := fun (x : ((Unit × Unit) × Unit)) => f ()
noncomputable def F87v2 (f : T87v2) : Fun := ⟨false, runW a87v2 o87v2 (u87v2 f)⟩
noncomputable def f87v2 (k : Nat) : T87v2 := fun _ =>
  some (([], ()), ())
noncomputable def C87v2 (k : Nat) : Nat → Fun := mkC []
theorem c87v2_ok (k : Nat) : ∀ f, SoundFn Try.prog f (C87v2 k f) := mkC_nil
theorem e87v2 (k : Nat) (x : (a87v2).C) : bodyW (C87v2 k) tt noH Try.f87 a87v2 o87v2 x = u87v2 (f87v2 k) x := by kernel_rfl
theorem s87v2 (k : Nat) : SoundFn Try.prog 87 (F87v2 (f87v2 k)) :=
  have hC := c87v2_ok k
  fnW_sound hC ttOk (draw_ok hC ttOk mixed) Try.func87 (c0 := bd Try.f87) rfl (entry Try.func87 rfl (by decide)) noH_ok (fun x _ h => (e87v2 k x).trans h)
/-! f87v3 slices.Clone[[]fathom/api.Gate,fathom/api.Gate] (W) -/
noncomputable def a87v3 : Shape := ⟨[.nn T_Gate], []⟩
noncomputable def o87v3 : List Shape := [⟨[.own T_Gate], []⟩]
abbrev R87v3 : Type := (((List D_Gate) × Unit) × Unit)
abbrev T87v3 : Type := (List D_Gate) → Option R87v3
noncomputable def u87v3 (f : T87v3) : (a87v3).C → Option (OutC o87v3) := fun (x : (((List D_Gate) × Unit) × Unit)) => f x.1.1
noncomputable def F87v3 (f : T87v3) : Fun := ⟨false, runW a87v3 o87v3 (u87v3 f)⟩
noncomputable def f87v3 (k : Nat) : T87v3 := fun s0 =>
  gd (decide ((0 + s0.length) * 16 ≤ room)) <|
  some (((([] : List D_Gate) ++ s0), ()), ())
noncomputable def C87v3 (k : Nat) : Nat → Fun := mkC []
theorem c87v3_ok (k : Nat) : ∀ f, SoundFn Try.prog f (C87v3 k f) := mkC_nil
theorem e87v3 (k : Nat) (x : (a87v3).C) : bodyW (C87v3 k) tt noH Try.f87 a87v3 o87v3 x = u87v3 (f87v3 k) x := by kernel_rfl
theorem s87v3 (k : Nat) : SoundFn Try.prog 87 (F87v3 (f87v3 k)) :=
  have hC := c87v3_ok k
  fnW_sound hC ttOk (draw_ok hC ttOk mixed) Try.func87 (c0 := bd Try.f87) rfl (entry Try.func87 rfl (by decide)) noH_ok (fun x _ h => (e87v3 k x).trans h)
/-! f87 slices.Clone[[]fathom/api.Gate,fathom/api.Gate] (W) -/
noncomputable def a87 : Shape := ⟨[.d (.slice T_Gate)], []⟩
noncomputable def o87 : List Shape := [⟨[.own T_Gate], []⟩]
abbrev R87 : Type := (((List D_Gate) × Unit) × Unit)
abbrev T87 : Type := (List D_Gate) → Option R87
noncomputable def u87 (f : T87) : (a87).C → Option (OutC o87) := fun (x : (((List D_Gate) × Unit) × Unit)) => f x.1.1
noncomputable def F87 (f : T87) : Fun := ⟨false, runW a87 o87 (u87 f)⟩
noncomputable def f87 (k : Nat) : T87 := fun s0 => f87v3 k s0
theorem s87 (k : Nat) : SoundFn Try.prog 87 (F87 (f87 k)) := splitW (s87v2 k) (s87v3 k) (fun xs y h => ⟨h, fun e => by subst e; exact (show u87v2 (f87v2 k) (((), ()), ()) = u87v3 (f87v3 k) (([], ()), ()) from by kernel_rfl).trans h⟩)
/-! f23 (*fathom/aig.Aig).Nodes (R) -/
noncomputable def a23 : Shape := ⟨[.ptr 0], [.box [.d (.slice T_Gate), .mp 1], .map T_Gate i64]⟩
noncomputable def o23 : List Shape := [⟨[.d (.slice T_Gate)], []⟩]
abbrev R23 : Type := (((List D_Gate) × Unit) × Unit)
abbrev T23 : Type := (List D_Gate) → (List (D_Gate × Int)) → Option R23
noncomputable def u23 (f : T23) : (a23).C → Option (OutC o23) := fun (x : ((Unit × Unit) × (((List D_Gate) × Unit × Unit) × (List (D_Gate × Int)) × Unit))) => f x.2.1.1 x.2.2.1
noncomputable def F23 (f : T23) : Fun := ⟨true, runR a23 o23 (u23 f)⟩
noncomputable def f23 (k : Nat) : T23 := fun o0 o1 =>
  (f87 k o0).bind fun y1 =>
  some ((y1.1.1, ()), ())
noncomputable def C23 (k : Nat) : Nat → Fun := mkC [(87, (F87 (f87 k)))]
theorem c23_ok (k : Nat) : ∀ f, SoundFn Try.prog f (C23 k f) := (mkC_cons (s87 k) mkC_nil)
theorem e23 (k : Nat) (x : (a23).C) : bodyR (C23 k) tt noH Try.f23 a23 o23 x = u23 (f23 k) x := by kernel_rfl
theorem s23 (k : Nat) : SoundFn Try.prog 23 (F23 (f23 k)) :=
  have hC := c23_ok k
  fnR_sound hC ttOk (draw_ok hC ttOk mixed) Try.func23 (c0 := bd Try.f23) rfl (entry Try.func23 rfl (by decide)) noH_ok rfl (fun x _ h => (e23 k x).trans h)
/-! f33 fathom/aig.Check (R) -/
noncomputable def a33 : Shape := ⟨[.d (.slice T_Gate)], []⟩
noncomputable def o33 : List Shape := [⟨[.d i64], []⟩]
abbrev R33 : Type := ((Int × Unit) × Unit)
abbrev T33 : Type := (List D_Gate) → Option R33
noncomputable def u33 (f : T33) : (a33).C → Option (OutC o33) := fun (x : (((List D_Gate) × Unit) × Unit)) => f x.1.1
noncomputable def F33 (f : T33) : Fun := ⟨true, runR a33 o33 (u33 f)⟩
noncomputable def pa33_58 : Shape := ⟨[.d (.slice T_Gate), .d i64, .d i64], []⟩
noncomputable def pw33_58 : List Vm.Way := [⟨.exit 0, [], ⟨[], []⟩⟩, ⟨.ret, [2], ⟨[.d i64], []⟩⟩]
abbrev R33_58 : Type := ((Unit × Unit) ⊕ ((Int × Unit) × Unit))
abbrev T33_58 : Type := (List D_Gate) → Int → Int → Option R33_58
noncomputable def u33_58 (f : T33_58) : (pa33_58).C → Option (WayC pw33_58) := fun (x : (((List D_Gate) × Int × Int × Unit) × Unit)) => f x.1.1 x.1.2.1 x.1.2.2.1
noncomputable def b33_58 (k : Nat) (rec : T33_58) : T33_58 := fun t8 t9 t10 =>
  cond (decide (t10 < t9))
    (ix t8 t10 fun e1 =>
    (f88 k ()).bind fun y2 =>
    cond (!(beqD T_Gate e1 y2.1.1))
      (cond (decide (e1.1 < 0))
        (some (.inr ((1, ()), ())))
        (cond (decide (e1.2.1 < 0))
          (some (.inr ((1, ()), ())))
          (cond (decide (e1.1 > (w64 ((w64 (2 * t10)) + 1))))
            (some (.inr ((1, ()), ())))
            (cond (decide (e1.2.1 > (w64 ((w64 (2 * t10)) + 1))))
              (some (.inr ((1, ()), ())))
              ((rec t8 t9 (w64 (t10 + 1))).bind fun y3 =>
              match y3 with
              | .inl y3_0 =>
                some (.inl ((), ()))
              | .inr y3_1 =>
                some (.inr ((y3_1.1.1, ()), ())))))))
      ((rec t8 t9 (w64 (t10 + 1))).bind fun y4 =>
      match y4 with
      | .inl y4_0 =>
        some (.inl ((), ()))
      | .inr y4_1 =>
        some (.inr ((y4_1.1.1, ()), ()))))
    (some (.inl ((), ())))
noncomputable def l33_58 (k : Nat) : Nat → T33_58
  | 0 => fun _ _ _ => none
  | j + 1 => b33_58 k (l33_58 k j)
noncomputable def f33 (k : Nat) : T33 := fun g0 =>
  cond (decide ((g0.length : Int) > 1048576))
    (some ((1, ()), ()))
    ((l33_58 k k g0 (g0.length : Int) 0).bind fun y1 =>
    match y1 with
    | .inl y1_0 =>
      some ((0, ()), ())
    | .inr y1_1 =>
      some ((y1_1.1.1, ()), ()))
noncomputable def C33 (k : Nat) : Nat → Fun := mkC [(88, (F88 (f88 k)))]
theorem c33_ok (k : Nat) : ∀ f, SoundFn Try.prog f (C33 k f) := (mkC_cons (s88 k) mkC_nil)
noncomputable def H33_58 (k : Nat) : Nat → Option Cut := addH noH 58 ⟨runCut (wrC (bodyOf (codeAt 58 (bd Try.f33) 58))) 45 [8, 9, 10] pa33_58 pw33_58 (u33_58 (l33_58 k k))⟩
theorem e33_58 (k : Nat) (rec : T33_58) (x : (pa33_58).C) : roundF (C33 k) tt noH (bodyOf (codeAt 58 (bd Try.f33) 58)) 116 45 [8, 9, 10] pa33_58 pw33_58 (u33_58 rec) x = u33_58 (b33_58 k rec) x := by kernel_rfl
theorem h33_58_ok (k : Nat) : ∀ p S, H33_58 k p = some S → ∀ c, At (bd Try.f33) p c → CutOk Try.prog c S :=
  have hC := c33_ok k
  addLoop hC ttOk (draw_ok hC ttOk mixed) noH_ok (by kernel_rfl) (F := fun j => u33_58 (l33_58 k j)) (fun _ => rfl) (fun j x _ h => (e33_58 k (l33_58 k j) x).trans h) k
theorem e33 (k : Nat) (x : (a33).C) : bodyR (C33 k) tt (H33_58 k) Try.f33 a33 o33 x = u33 (f33 k) x := by kernel_rfl
theorem s33 (k : Nat) : SoundFn Try.prog 33 (F33 (f33 k)) :=
  have hC := c33_ok k
  fnR_sound hC ttOk (draw_ok hC ttOk mixed) Try.func33 (c0 := bd Try.f33) rfl (entry Try.func33 rfl (by decide)) (h33_58_ok k) rfl (fun x _ h => (e33 k x).trans h)
/-! f34 fathom/aig.Value (R) -/
noncomputable def a34 : Shape := ⟨[.d (.slice .bool), .d i64], []⟩
noncomputable def o34 : List Shape := [⟨[.d .bool], []⟩]
abbrev R34 : Type := ((Bool × Unit) × Unit)
abbrev T34 : Type := (List Bool) → Int → Option R34
noncomputable def u34 (f : T34) : (a34).C → Option (OutC o34) := fun (x : (((List Bool) × Int × Unit) × Unit)) => f x.1.1 x.1.2.1
noncomputable def F34 (f : T34) : Fun := ⟨true, runR a34 o34 (u34 f)⟩
noncomputable def f34 (k : Nat) : T34 := fun v0 l1 =>
  cond (decide (l1 < 0))
    (some ((false, ()), ()))
    (cond (decide ((w64 (Int.tdiv l1 2)) > (v0.length : Int)))
      (some ((false, ()), ()))
      (cond (decide (l1 < 2))
        (some (((l1 == 1), ()), ()))
        (ix v0 (w64 ((w64 (Int.tdiv l1 2)) - 1)) fun e1 =>
        some (((!(e1 == ((Int.tmod l1 2) == 1))), ()), ()))))
noncomputable def C34 (k : Nat) : Nat → Fun := mkC []
theorem c34_ok (k : Nat) : ∀ f, SoundFn Try.prog f (C34 k f) := mkC_nil
theorem e34 (k : Nat) (x : (a34).C) : bodyR (C34 k) tt noH Try.f34 a34 o34 x = u34 (f34 k) x := by kernel_rfl
theorem s34 (k : Nat) : SoundFn Try.prog 34 (F34 (f34 k)) :=
  have hC := c34_ok k
  fnR_sound hC ttOk (draw_ok hC ttOk mixed) Try.func34 (c0 := bd Try.f34) rfl (entry Try.func34 rfl (by decide)) noH_ok rfl (fun x _ h => (e34 k x).trans h)
/-! f31 fathom/aig.Eval (R) -/
noncomputable def a31 : Shape := ⟨[.d (.slice T_Gate), .d (.slice .bool)], []⟩
noncomputable def o31 : List Shape := [⟨[.d (.slice .bool)], []⟩]
abbrev R31 : Type := (((List Bool) × Unit) × Unit)
abbrev T31 : Type := (List D_Gate) → (List Bool) → Option R31
noncomputable def u31 (f : T31) : (a31).C → Option (OutC o31) := fun (x : (((List D_Gate) × (List Bool) × Unit) × Unit)) => f x.1.1 x.1.2.1
noncomputable def F31 (f : T31) : Fun := ⟨true, runR a31 o31 (u31 f)⟩
noncomputable def pa31_250 : Shape := ⟨[.d (.slice .bool), .own .bool, .d i64, .d (.slice T_Gate), .d i64, .d i64], []⟩
noncomputable def pw31_250 : List Vm.Way := [⟨.exit 0, [5], ⟨[.own .bool], []⟩⟩]
abbrev R31_250 : Type := (((List Bool) × Unit) × Unit)
abbrev T31_250 : Type := (List Bool) → (List Bool) → Int → (List D_Gate) → Int → Int → Option R31_250
noncomputable def u31_250 (f : T31_250) : (pa31_250).C → Option (WayC pw31_250) := fun (x : (((List Bool) × (List Bool) × Int × (List D_Gate) × Int × Int × Unit) × Unit)) => f x.1.1 x.1.2.1 x.1.2.2.1 x.1.2.2.2.1 x.1.2.2.2.2.1 x.1.2.2.2.2.2.1
noncomputable def b31_250 (k : Nat) (rec : T31_250) : T31_250 := fun ins1 v5 k6 t12 t13 t14 =>
  cond (decide (t14 < t13))
    (ix t12 t14 fun e1 =>
    (f88 k ()).bind fun y2 =>
    cond (beqD T_Gate e1 y2.1.1)
      (cond (decide (k6 < (ins1.length : Int)))
        (ix ins1 k6 fun e3 =>
        gd (decide ((v5.length + 1) * 1 ≤ room)) <|
        (rec ins1 (v5 ++ ([e3] : List Bool)) (w64 (k6 + 1)) t12 t13 (w64 (t14 + 1))).bind fun y4 =>
        some ((y4.1.1, ()), ()))
        (gd (decide ((v5.length + 1) * 1 ≤ room)) <|
        (rec ins1 (v5 ++ ([false] : List Bool)) (w64 (k6 + 1)) t12 t13 (w64 (t14 + 1))).bind fun y5 =>
        some ((y5.1.1, ()), ())))
      ((f34 k v5 e1.1).bind fun y6 =>
      cond y6.1.1
        ((f34 k v5 e1.2.1).bind fun y7 =>
        gd (decide ((v5.length + 1) * 1 ≤ room)) <|
        (rec ins1 (v5 ++ ([y7.1.1] : List Bool)) k6 t12 t13 (w64 (t14 + 1))).bind fun y8 =>
        some ((y8.1.1, ()), ()))
        (gd (decide ((v5.length + 1) * 1 ≤ room)) <|
        (rec ins1 (v5 ++ ([false] : List Bool)) k6 t12 t13 (w64 (t14 + 1))).bind fun y9 =>
        some ((y9.1.1, ()), ()))))
    (some ((v5, ()), ()))
noncomputable def l31_250 (k : Nat) : Nat → T31_250
  | 0 => fun _ _ _ _ _ _ => none
  | j + 1 => b31_250 k (l31_250 k j)
noncomputable def f31 (k : Nat) : T31 := fun g0 ins1 =>
  (f33 k g0).bind fun y1 =>
  cond (y1.1.1 != 0)
    (some (([], ()), ()))
    ((l31_250 k k ins1 [] 0 g0 (g0.length : Int) 0).bind fun y2 =>
    some ((y2.1.1, ()), ()))
noncomputable def C31 (k : Nat) : Nat → Fun := mkC [(33, (F33 (f33 k))), (34, (F34 (f34 k))), (88, (F88 (f88 k)))]
theorem c31_ok (k : Nat) : ∀ f, SoundFn Try.prog f (C31 k f) := (mkC_cons (s33 k) (mkC_cons (s34 k) (mkC_cons (s88 k) mkC_nil)))
noncomputable def H31_250 (k : Nat) : Nat → Option Cut := addH noH 250 ⟨runCut (wrC (bodyOf (codeAt 250 (bd Try.f31) 250))) 51 [1, 5, 6, 12, 13, 14] pa31_250 pw31_250 (u31_250 (l31_250 k k))⟩
theorem e31_250 (k : Nat) (rec : T31_250) (x : (pa31_250).C) : roundF (C31 k) tt noH (bodyOf (codeAt 250 (bd Try.f31) 250)) 500 51 [1, 5, 6, 12, 13, 14] pa31_250 pw31_250 (u31_250 rec) x = u31_250 (b31_250 k rec) x := by kernel_rfl
theorem h31_250_ok (k : Nat) : ∀ p S, H31_250 k p = some S → ∀ c, At (bd Try.f31) p c → CutOk Try.prog c S :=
  have hC := c31_ok k
  addLoop hC ttOk (draw_ok hC ttOk mixed) noH_ok (by kernel_rfl) (F := fun j => u31_250 (l31_250 k j)) (fun _ => rfl) (fun j x _ h => (e31_250 k (l31_250 k j) x).trans h) k
theorem e31 (k : Nat) (x : (a31).C) : bodyR (C31 k) tt (H31_250 k) Try.f31 a31 o31 x = u31 (f31 k) x := by kernel_rfl
theorem s31 (k : Nat) : SoundFn Try.prog 31 (F31 (f31 k)) :=
  have hC := c31_ok k
  fnR_sound hC ttOk (draw_ok hC ttOk mixed) Try.func31 (c0 := bd Try.f31) rfl (entry Try.func31 rfl (by decide)) (h31_250_ok k) rfl (fun x _ h => (e31 k x).trans h)
/-! f43 fathom/vec.Number (R) -/
noncomputable def a43 : Shape := ⟨[.d (.slice .bool), .d (.slice i64)], []⟩
noncomputable def o43 : List Shape := [⟨[.d i64], []⟩]
abbrev R43 : Type := ((Int × Unit) × Unit)
abbrev T43 : Type := (List Bool) → (List Int) → Option R43
noncomputable def u43 (f : T43) : (a43).C → Option (OutC o43) := fun (x : (((List Bool) × (List Int) × Unit) × Unit)) => f x.1.1 x.1.2.1
noncomputable def F43 (f : T43) : Fun := ⟨true, runR a43 o43 (u43 f)⟩
noncomputable def pa43_122 : Shape := ⟨[.d (.slice .bool), .d i64, .d (.slice i64), .d i64, .d i64], []⟩
noncomputable def pw43_122 : List Vm.Way := [⟨.exit 0, [5], ⟨[.d i64], []⟩⟩]
abbrev R43_122 : Type := ((Int × Unit) × Unit)
abbrev T43_122 : Type := (List Bool) → Int → (List Int) → Int → Int → Option R43_122
noncomputable def u43_122 (f : T43_122) : (pa43_122).C → Option (WayC pw43_122) := fun (x : (((List Bool) × Int × (List Int) × Int × Int × Unit) × Unit)) => f x.1.1 x.1.2.1 x.1.2.2.1 x.1.2.2.2.1 x.1.2.2.2.2.1
noncomputable def b43_122 (k : Nat) (rec : T43_122) : T43_122 := fun v0 n5 t11 t12 t13 =>
  cond (decide (t13 < t12))
    (ix t11 t13 fun e1 =>
    (f34 k v0 e1).bind fun y2 =>
    cond y2.1.1
      (cond (decide (t13 < 0))
        (none)
        ((rec v0 (ibits .or .i64 n5 (w64 (1 * 2 ^ (min t13.toNat 64)))) t11 t12 (w64 (t13 + 1))).bind fun y3 =>
        some ((y3.1.1, ()), ())))
      ((rec v0 n5 t11 t12 (w64 (t13 + 1))).bind fun y4 =>
      some ((y4.1.1, ()), ())))
    (some ((n5, ()), ()))
noncomputable def l43_122 (k : Nat) : Nat → T43_122
  | 0 => fun _ _ _ _ _ => none
  | j + 1 => b43_122 k (l43_122 k j)
noncomputable def f43 (k : Nat) : T43 := fun v0 a1 =>
  cond (decide ((a1.length : Int) > 16))
    (some ((0, ()), ()))
    ((l43_122 k k v0 0 a1 (a1.length : Int) 0).bind fun y1 =>
    some ((y1.1.1, ()), ()))
noncomputable def C43 (k : Nat) : Nat → Fun := mkC [(34, (F34 (f34 k)))]
theorem c43_ok (k : Nat) : ∀ f, SoundFn Try.prog f (C43 k f) := (mkC_cons (s34 k) mkC_nil)
noncomputable def H43_122 (k : Nat) : Nat → Option Cut := addH noH 122 ⟨runCut (wrC (bodyOf (codeAt 122 (bd Try.f43) 122))) 27 [0, 5, 11, 12, 13] pa43_122 pw43_122 (u43_122 (l43_122 k k))⟩
theorem e43_122 (k : Nat) (rec : T43_122) (x : (pa43_122).C) : roundF (C43 k) tt noH (bodyOf (codeAt 122 (bd Try.f43) 122)) 244 27 [0, 5, 11, 12, 13] pa43_122 pw43_122 (u43_122 rec) x = u43_122 (b43_122 k rec) x := by kernel_rfl
theorem h43_122_ok (k : Nat) : ∀ p S, H43_122 k p = some S → ∀ c, At (bd Try.f43) p c → CutOk Try.prog c S :=
  have hC := c43_ok k
  addLoop hC ttOk (draw_ok hC ttOk mixed) noH_ok (by kernel_rfl) (F := fun j => u43_122 (l43_122 k j)) (fun _ => rfl) (fun j x _ h => (e43_122 k (l43_122 k j) x).trans h) k
theorem e43 (k : Nat) (x : (a43).C) : bodyR (C43 k) tt (H43_122 k) Try.f43 a43 o43 x = u43 (f43 k) x := by kernel_rfl
theorem s43 (k : Nat) : SoundFn Try.prog 43 (F43 (f43 k)) :=
  have hC := c43_ok k
  fnR_sound hC ttOk (draw_ok hC ttOk mixed) Try.func43 (c0 := bd Try.f43) rfl (entry Try.func43 rfl (by decide)) (h43_122_ok k) rfl (fun x _ h => (e43 k x).trans h)
/-! f45 fathom/fathomlaw16.is (R) -/
noncomputable def a45 : Shape := ⟨[.ptr 0, .d (.slice .bool), .d (.slice i64), .d i64, .d i64], [.box [.d (.slice T_Gate), .mp 1], .map T_Gate i64]⟩
noncomputable def o45 : List Shape := [⟨[.d .bool], []⟩]
abbrev R45 : Type := ((Bool × Unit) × Unit)
abbrev T45 : Type := (List Bool) → (List Int) → Int → Int → (List D_Gate) → (List (D_Gate × Int)) → Option R45
noncomputable def u45 (f : T45) : (a45).C → Option (OutC o45) := fun (x : ((Unit × (List Bool) × (List Int) × Int × Int × Unit) × (((List D_Gate) × Unit × Unit) × (List (D_Gate × Int)) × Unit))) => f x.1.2.1 x.1.2.2.1 x.1.2.2.2.1 x.1.2.2.2.2.1 x.2.1.1 x.2.2.1
noncomputable def F45 (f : T45) : Fun := ⟨true, runR a45 o45 (u45 f)⟩
noncomputable def f45 (k : Nat) : T45 := fun ins1 a2 w3 n4 o0 o1 =>
  cond ((a2.length : Int) == w3)
    ((f68 k a2 o0 o1).bind fun y1 =>
    cond (y1.1.1 == 0)
      ((f23 k o0 o1).bind fun y2 =>
      (f31 k y2.1.1 ins1).bind fun y3 =>
      (f43 k y3.1.1 a2).bind fun y4 =>
      some (((y4.1.1 == n4), ()), ()))
      (some ((false, ()), ())))
    (some ((false, ()), ()))
noncomputable def C45 (k : Nat) : Nat → Fun := mkC [(23, (F23 (f23 k))), (31, (F31 (f31 k))), (43, (F43 (f43 k))), (68, (F68 (f68 k)))]
theorem c45_ok (k : Nat) : ∀ f, SoundFn Try.prog f (C45 k f) := (mkC_cons (s23 k) (mkC_cons (s31 k) (mkC_cons (s43 k) (mkC_cons (s68 k) mkC_nil))))
theorem e45 (k : Nat) (x : (a45).C) : bodyR (C45 k) tt noH Try.f45 a45 o45 x = u45 (f45 k) x := by kernel_rfl
theorem s45 (k : Nat) : SoundFn Try.prog 45 (F45 (f45 k)) :=
  have hC := c45_ok k
  fnR_sound hC ttOk (draw_ok hC ttOk mixed) Try.func45 (c0 := bd Try.f45) rfl (entry Try.func45 rfl (by decide)) noH_ok rfl (fun x _ h => (e45 k x).trans h)
/-! f37 fathom/vec.Const (R) -/
noncomputable def a37 : Shape := ⟨[.d i64, .d i64], []⟩
noncomputable def o37 : List Shape := [⟨[.d (.slice i64)], []⟩]
abbrev R37 : Type := (((List Int) × Unit) × Unit)
abbrev T37 : Type := Int → Int → Option R37
noncomputable def u37 (f : T37) : (a37).C → Option (OutC o37) := fun (x : ((Int × Int × Unit) × Unit)) => f x.1.1 x.1.2.1
noncomputable def F37 (f : T37) : Fun := ⟨true, runR a37 o37 (u37 f)⟩
noncomputable def pa37_122 : Shape := ⟨[.d i64, .own i64, .d i64, .d i64], []⟩
noncomputable def pw37_122 : List Vm.Way := [⟨.exit 0, [5], ⟨[.own i64], []⟩⟩]
abbrev R37_122 : Type := (((List Int) × Unit) × Unit)
abbrev T37_122 : Type := Int → (List Int) → Int → Int → Option R37_122
noncomputable def u37_122 (f : T37_122) : (pa37_122).C → Option (WayC pw37_122) := fun (x : ((Int × (List Int) × Int × Int × Unit) × Unit)) => f x.1.1 x.1.2.1 x.1.2.2.1 x.1.2.2.2.1
noncomputable def b37_122 (k : Nat) (rec : T37_122) : T37_122 := fun n0 a5 t13 t14 =>
  cond (decide (t14 < t13))
    (cond (decide (t14 < 0))
      (none)
      (gd (decide ((a5.length + 1) * 8 ≤ room)) <|
      (rec n0 (a5 ++ ([(ibits .and .i64 (Int.fdiv n0 (2 ^ (min t14.toNat 64))) 1)] : List Int)) t13 (w64 (t14 + 1))).bind fun y1 =>
      some ((y1.1.1, ()), ())))
    (some ((a5, ()), ()))
noncomputable def l37_122 (k : Nat) : Nat → T37_122
  | 0 => fun _ _ _ _ => none
  | j + 1 => b37_122 k (l37_122 k j)
noncomputable def f37 (k : Nat) : T37 := fun n0 w1 =>
  cond (decide (w1 < 1))
    (some (([], ()), ()))
    (cond (decide (w1 > 16))
      (some (([], ()), ()))
      ((l37_122 k k n0 [] w1 0).bind fun y1 =>
      some ((y1.1.1, ()), ())))
noncomputable def C37 (k : Nat) : Nat → Fun := mkC []
theorem c37_ok (k : Nat) : ∀ f, SoundFn Try.prog f (C37 k f) := mkC_nil
noncomputable def H37_122 (k : Nat) : Nat → Option Cut := addH noH 122 ⟨runCut (wrC (bodyOf (codeAt 122 (bd Try.f37) 122))) 26 [0, 5, 13, 14] pa37_122 pw37_122 (u37_122 (l37_122 k k))⟩
theorem e37_122 (k : Nat) (rec : T37_122) (x : (pa37_122).C) : roundF (C37 k) tt noH (bodyOf (codeAt 122 (bd Try.f37) 122)) 244 26 [0, 5, 13, 14] pa37_122 pw37_122 (u37_122 rec) x = u37_122 (b37_122 k rec) x := by kernel_rfl
theorem h37_122_ok (k : Nat) : ∀ p S, H37_122 k p = some S → ∀ c, At (bd Try.f37) p c → CutOk Try.prog c S :=
  have hC := c37_ok k
  addLoop hC ttOk (draw_ok hC ttOk mixed) noH_ok (by kernel_rfl) (F := fun j => u37_122 (l37_122 k j)) (fun _ => rfl) (fun j x _ h => (e37_122 k (l37_122 k j) x).trans h) k
theorem e37 (k : Nat) (x : (a37).C) : bodyR (C37 k) tt (H37_122 k) Try.f37 a37 o37 x = u37 (f37 k) x := by kernel_rfl
theorem s37 (k : Nat) : SoundFn Try.prog 37 (F37 (f37 k)) :=
  have hC := c37_ok k
  fnR_sound hC ttOk (draw_ok hC ttOk mixed) Try.func37 (c0 := bd Try.f37) rfl (entry Try.func37 rfl (by decide)) (h37_122_ok k) rfl (fun x _ h => (e37 k x).trans h)
/-! f46 fathom/vec.Add (W) -/
noncomputable def a46 : Shape := ⟨[.ptr 0, .d (.slice i64), .d (.slice i64)], [.box [.own T_Gate, .mp 1], .map T_Gate i64]⟩
noncomputable def o46 : List Shape := [⟨[.nils], [.box [.own T_Gate, .mp 1], .map T_Gate i64]⟩, ⟨[.own i64], [.box [.own T_Gate, .mp 1], .map T_Gate i64]⟩]
abbrev R46 : Type := (((Unit × Unit) × (((List D_Gate) × Unit × Unit) × (List (D_Gate × Int)) × Unit)) ⊕ (((List Int) × Unit) × (((List D_Gate) × Unit × Unit) × (List (D_Gate × Int)) × Unit)))
abbrev T46 : Type := (List Int) → (List Int) → (List D_Gate) → (List (D_Gate × Int)) → Option R46
noncomputable def u46 (f : T46) : (a46).C → Option (OutC o46) := fun (x : ((Unit × (List Int) × (List Int) × Unit) × (((List D_Gate) × Unit × Unit) × (List (D_Gate × Int)) × Unit))) => f x.1.2.1 x.1.2.2.1 x.2.1.1 x.2.2.1
noncomputable def F46 (f : T46) : Fun := ⟨false, runW a46 o46 (u46 f)⟩
noncomputable def f46 (k : Nat) : T46 := fun a1 b2 o0 o1 =>
  (f95 k a1 b2 o0 o1).bind fun y1 =>
  cond (!y1.1.1)
    (some (.inl (((), ()), ((o0, (), ()), o1, ()))))
    ((f96 k a1 b2 0 o0 o1).bind fun y2 =>
    (f92 k y2.1.1).bind fun y3 =>
    match y3 with
    | .inl y3_0 =>
      some (.inl (((), ()), ((y2.2.1.1, (), ()), y2.2.2.1, ())))
    | .inr y3_1 =>
      some (.inr ((y3_1.1.1, ()), ((y2.2.1.1, (), ()), y2.2.2.1, ()))))
noncomputable def C46 (k : Nat) : Nat → Fun := mkC [(1000092, ownF), (92, (F92 (f92 k))), (95, (F95 (f95 k))), (96, (F96 (f96 k)))]
theorem c46_ok (k : Nat) : ∀ f, SoundFn Try.prog f (C46 k f) := (mkC_cons ownF_ok (mkC_cons (s92 k) (mkC_cons (s95 k) (mkC_cons (s96 k) mkC_nil))))
theorem e46 (k : Nat) (x : (a46).C) : bodyW (C46 k) tt noH Try.f46 a46 o46 x = u46 (f46 k) x := by kernel_rfl
theorem s46 (k : Nat) : SoundFn Try.prog 46 (F46 (f46 k)) :=
  have hC := c46_ok k
  fnW_sound hC ttOk (draw_ok hC ttOk mixed) Try.func46 (c0 := bd Try.f46) rfl (entry Try.func46 rfl (by decide)) noH_ok (fun x _ h => (e46 k x).trans h)
/-! f93 fathom/fathomref01.Ints (R) -/
noncomputable def a93 : Shape := ⟨[.d (.slice i64), .d (.slice i64)], []⟩
noncomputable def o93 : List Shape := [⟨[.d .bool], []⟩]
abbrev R93 : Type := ((Bool × Unit) × Unit)
abbrev T93 : Type := (List Int) → (List Int) → Option R93
noncomputable def u93 (f : T93) : (a93).C → Option (OutC o93) := fun (x : (((List Int) × (List Int) × Unit) × Unit)) => f x.1.1 x.1.2.1
noncomputable def F93 (f : T93) : Fun := ⟨true, runR a93 o93 (u93 f)⟩
noncomputable def pa93_58 : Shape := ⟨[.d (.slice i64), .d (.slice i64), .d i64], []⟩
noncomputable def pw93_58 : List Vm.Way := [⟨.exit 0, [], ⟨[], []⟩⟩, ⟨.ret, [4], ⟨[.d .bool], []⟩⟩]
abbrev R93_58 : Type := ((Unit × Unit) ⊕ ((Bool × Unit) × Unit))
abbrev T93_58 : Type := (List Int) → (List Int) → Int → Option R93_58
noncomputable def u93_58 (f : T93_58) : (pa93_58).C → Option (WayC pw93_58) := fun (x : (((List Int) × (List Int) × Int × Unit) × Unit)) => f x.1.1 x.1.2.1 x.1.2.2.1
noncomputable def b93_58 (k : Nat) (rec : T93_58) : T93_58 := fun a0 b1 i5 =>
  cond (decide (i5 < (a0.length : Int)))
    (ix a0 i5 fun e1 =>
    ix b1 i5 fun e2 =>
    cond (e1 != e2)
      (some (.inr ((false, ()), ())))
      ((rec a0 b1 (w64 (i5 + 1))).bind fun y3 =>
      match y3 with
      | .inl y3_0 =>
        some (.inl ((), ()))
      | .inr y3_1 =>
        some (.inr ((y3_1.1.1, ()), ()))))
    (some (.inl ((), ())))
noncomputable def l93_58 (k : Nat) : Nat → T93_58
  | 0 => fun _ _ _ => none
  | j + 1 => b93_58 k (l93_58 k j)
noncomputable def f93 (k : Nat) : T93 := fun a0 b1 =>
  cond ((a0.length : Int) != (b1.length : Int))
    (some ((false, ()), ()))
    ((l93_58 k k a0 b1 0).bind fun y1 =>
    match y1 with
    | .inl y1_0 =>
      some ((true, ()), ())
    | .inr y1_1 =>
      some ((y1_1.1.1, ()), ()))
noncomputable def C93 (k : Nat) : Nat → Fun := mkC []
theorem c93_ok (k : Nat) : ∀ f, SoundFn Try.prog f (C93 k f) := mkC_nil
noncomputable def H93_58 (k : Nat) : Nat → Option Cut := addH noH 58 ⟨runCut (wrC (bodyOf (codeAt 58 (bd Try.f93) 58))) 26 [0, 1, 5] pa93_58 pw93_58 (u93_58 (l93_58 k k))⟩
theorem e93_58 (k : Nat) (rec : T93_58) (x : (pa93_58).C) : roundF (C93 k) tt noH (bodyOf (codeAt 58 (bd Try.f93) 58)) 116 26 [0, 1, 5] pa93_58 pw93_58 (u93_58 rec) x = u93_58 (b93_58 k rec) x := by kernel_rfl
theorem h93_58_ok (k : Nat) : ∀ p S, H93_58 k p = some S → ∀ c, At (bd Try.f93) p c → CutOk Try.prog c S :=
  have hC := c93_ok k
  addLoop hC ttOk (draw_ok hC ttOk mixed) noH_ok (by kernel_rfl) (F := fun j => u93_58 (l93_58 k j)) (fun _ => rfl) (fun j x _ h => (e93_58 k (l93_58 k j) x).trans h) k
theorem e93 (k : Nat) (x : (a93).C) : bodyR (C93 k) tt (H93_58 k) Try.f93 a93 o93 x = u93 (f93 k) x := by kernel_rfl
theorem s93 (k : Nat) : SoundFn Try.prog 93 (F93 (f93 k)) :=
  have hC := c93_ok k
  fnR_sound hC ttOk (draw_ok hC ttOk mixed) Try.func93 (c0 := bd Try.f93) rfl (entry Try.func93 rfl (by decide)) (h93_58_ok k) rfl (fun x _ h => (e93 k x).trans h)
/-! f40 fathom/fathomlaw16.awake (R) -/
noncomputable def a40 : Shape := ⟨[], []⟩
noncomputable def o40 : List Shape := [⟨[.d .bool], []⟩]
abbrev R40 : Type := ((Bool × Unit) × Unit)
abbrev T40 : Type := Unit → Option R40
noncomputable def u40 (f : T40) : (a40).C → Option (OutC o40) := fun (x : (Unit × Unit)) => f ()
noncomputable def F40 (f : T40) : Fun := ⟨true, runR a40 o40 (u40 f)⟩
noncomputable def f40 (k : Nat) : T40 := fun _ =>
  (f38 k ()).bind fun y1 =>
  (f37 k 3 3).bind fun y2 =>
  (f37 k 6 3).bind fun y3 =>
  (f46 k y2.1.1 y3.1.1 y1.2.1.1 y1.2.2.1).bind fun y4 =>
  match y4 with
  | .inl y4_0 =>
    (f93 k [] [1, 0, 0]).bind fun y5 =>
    some ((y5.1.1, ()), ())
  | .inr y4_1 =>
    (f93 k y4_1.1.1 [1, 0, 0]).bind fun y6 =>
    some ((y6.1.1, ()), ())
noncomputable def C40 (k : Nat) : Nat → Fun := mkC [(37, (F37 (f37 k))), (38, (F38 (f38 k))), (46, (F46 (f46 k))), (93, (F93 (f93 k)))]
theorem c40_ok (k : Nat) : ∀ f, SoundFn Try.prog f (C40 k f) := (mkC_cons (s37 k) (mkC_cons (s38 k) (mkC_cons (s46 k) (mkC_cons (s93 k) mkC_nil))))
theorem e40 (k : Nat) (x : (a40).C) : bodyR (C40 k) tt noH Try.f40 a40 o40 x = u40 (f40 k) x := by kernel_rfl
theorem s40 (k : Nat) : SoundFn Try.prog 40 (F40 (f40 k)) :=
  have hC := c40_ok k
  fnR_sound hC ttOk (draw_ok hC ttOk mixed) Try.func40 (c0 := bd Try.f40) rfl (entry Try.func40 rfl (by decide)) noH_ok rfl (fun x _ h => (e40 k x).trans h)
/-! f12 fathom/fathomlaw16.VecAsks (R) -/
noncomputable def a12 : Shape := ⟨[.d T_Two, .d (.int .u8), .d .bool], []⟩
noncomputable def o12 : List Shape := [⟨[.d .bool], []⟩]
abbrev R12 : Type := ((Bool × Unit) × Unit)
abbrev T12 : Type := D_Two → Int → Bool → Option R12
noncomputable def u12 (f : T12) : (a12).C → Option (OutC o12) := fun (x : ((D_Two × Int × Bool × Unit) × Unit)) => f x.1.1 x.1.2.1 x.1.2.2.1
noncomputable def F12 (f : T12) : Fun := ⟨true, runR a12 o12 (u12 f)⟩
noncomputable def pa12_16378 : Shape := ⟨[.own i64, .own .bool, .d (.slice .bool), .d i64], []⟩
noncomputable def pw12_16378 : List Vm.Way := [⟨.exit 0, [], ⟨[], []⟩⟩, ⟨.ret, [6], ⟨[.d .bool], []⟩⟩]
abbrev R12_16378 : Type := ((Unit × Unit) ⊕ ((Bool × Unit) × Unit))
abbrev T12_16378 : Type := (List Int) → (List Bool) → (List Bool) → Int → Option R12_16378
noncomputable def u12_16378 (f : T12_16378) : (pa12_16378).C → Option (WayC pw12_16378) := fun (x : (((List Int) × (List Bool) × (List Bool) × Int × Unit) × Unit)) => f x.1.1 x.1.2.1 x.1.2.2.1 x.1.2.2.2.1
noncomputable def b12_16378 (k : Nat) (rec : T12_16378) : T12_16378 := fun told16 want17 v18 j19 =>
  cond (decide (j19 < (want17.length : Int)))
    (ix told16 j19 fun e1 =>
    cond (decide (e1 < 0))
      (some (.inr ((false, ()), ())))
      (ix told16 j19 fun e2 =>
      (f34 k v18 e2).bind fun y3 =>
      ix want17 j19 fun e4 =>
      cond (!(y3.1.1 == e4))
        (some (.inr ((false, ()), ())))
        ((rec told16 want17 v18 (w64 (j19 + 1))).bind fun y5 =>
        match y5 with
        | .inl y5_0 =>
          some (.inl ((), ()))
        | .inr y5_1 =>
          some (.inr ((y5_1.1.1, ()), ())))))
    (some (.inl ((), ())))
noncomputable def l12_16378 (k : Nat) : Nat → T12_16378
  | 0 => fun _ _ _ _ => none
  | j + 1 => b12_16378 k (l12_16378 k j)
noncomputable def f12 (k : Nat) : T12 := fun t0 width1 c2 =>
  (f44 k t0 (w64 (1 + (w64 ((Int.tmod width1 8)))))).bind fun y1 =>
  (f42 k (w64 (t0.1)) (w64 (1 + (w64 ((Int.tmod width1 8)))))).bind fun y2 =>
  (f42 k (w64 (t0.2.1)) (w64 (1 + (w64 ((Int.tmod width1 8)))))).bind fun y3 =>
  (f25 k y1.2.1.1 y1.2.2.1).bind fun y4 =>
  gd (decide ((0 + y1.1.2.2.2.1.length) * 1 ≤ room)) <|
  gd (decide (((([] : List Bool) ++ y1.1.2.2.2.1).length + 1) * 1 ≤ room)) <|
  (f63 k y4.1.1 y1.1.2.1 y1.1.2.2.1 y4.2.1.1 y4.2.2.1).bind fun y5 =>
  (f64 k y1.1.2.1 y1.1.2.2.1 y5.2.1.1 y5.2.2.1).bind fun y6 =>
  (f65 k y1.1.2.1 y1.1.2.2.1 y6.2.1.1 y6.2.2.1).bind fun y7 =>
  (f66 k y1.1.2.1 y7.2.1.1 y7.2.2.1).bind fun y8 =>
  (f23 k y8.2.1.1 y8.2.2.1).bind fun y9 =>
  (f31 k y9.1.1 ((([] : List Bool) ++ y1.1.2.2.2.1) ++ ([c2] : List Bool))).bind fun y10 =>
  (l12_16378 k k [y6.1.1, y7.1.1, y8.1.1] [(y2.1.1 == y3.1.1), (decide (y2.1.1 < y3.1.1)), (y2.1.1 != 0)] y10.1.1 0).bind fun y11 =>
  match y11 with
  | .inl y11_0 =>
    cond c2
      ((f45 k ((([] : List Bool) ++ y1.1.2.2.2.1) ++ ([c2] : List Bool)) y5.1.1 (w64 (1 + (w64 ((Int.tmod width1 8))))) y2.1.1 y8.2.1.1 y8.2.2.1).bind fun y12 =>
      cond y12.1.1
        ((f40 k ()).bind fun y13 =>
        some ((y13.1.1, ()), ()))
        (some ((false, ()), ())))
      ((f45 k ((([] : List Bool) ++ y1.1.2.2.2.1) ++ ([c2] : List Bool)) y5.1.1 (w64 (1 + (w64 ((Int.tmod width1 8))))) y3.1.1 y8.2.1.1 y8.2.2.1).bind fun y14 =>
      cond y14.1.1
        ((f40 k ()).bind fun y15 =>
        some ((y15.1.1, ()), ()))
        (some ((false, ()), ())))
  | .inr y11_1 =>
    some ((y11_1.1.1, ()), ())
noncomputable def C12 (k : Nat) : Nat → Fun := mkC [(23, (F23 (f23 k))), (25, (F25 (f25 k))), (31, (F31 (f31 k))), (34, (F34 (f34 k))), (40, (F40 (f40 k))), (42, (F42 (f42 k))), (44, (F44 (f44 k))), (45, (F45 (f45 k))), (63, (F63 (f63 k))), (64, (F64 (f64 k))), (65, (F65 (f65 k))), (66, (F66 (f66 k)))]
theorem c12_ok (k : Nat) : ∀ f, SoundFn Try.prog f (C12 k f) := (mkC_cons (s23 k) (mkC_cons (s25 k) (mkC_cons (s31 k) (mkC_cons (s34 k) (mkC_cons (s40 k) (mkC_cons (s42 k) (mkC_cons (s44 k) (mkC_cons (s45 k) (mkC_cons (s63 k) (mkC_cons (s64 k) (mkC_cons (s65 k) (mkC_cons (s66 k) mkC_nil))))))))))))
noncomputable def H12_16378 (k : Nat) : Nat → Option Cut := addH noH 16378 ⟨runCut (wrC (bodyOf (codeAt 16378 (bd Try.f12) 16378))) 117 [16, 17, 18, 19] pa12_16378 pw12_16378 (u12_16378 (l12_16378 k k))⟩
theorem e12_16378 (k : Nat) (rec : T12_16378) (x : (pa12_16378).C) : roundF (C12 k) tt noH (bodyOf (codeAt 16378 (bd Try.f12) 16378)) 32756 117 [16, 17, 18, 19] pa12_16378 pw12_16378 (u12_16378 rec) x = u12_16378 (b12_16378 k rec) x := by kernel_rfl
theorem h12_16378_ok (k : Nat) : ∀ p S, H12_16378 k p = some S → ∀ c, At (bd Try.f12) p c → CutOk Try.prog c S :=
  have hC := c12_ok k
  addLoop hC ttOk (draw_ok hC ttOk mixed) noH_ok (by kernel_rfl) (F := fun j => u12_16378 (l12_16378 k j)) (fun _ => rfl) (fun j x _ h => (e12_16378 k (l12_16378 k j) x).trans h) k
theorem e12 (k : Nat) (x : (a12).C) : bodyR (C12 k) tt (H12_16378 k) Try.f12 a12 o12 x = u12 (f12 k) x := by kernel_rfl
theorem s12 (k : Nat) : SoundFn Try.prog 12 (F12 (f12 k)) :=
  have hC := c12_ok k
  fnR_sound hC ttOk (draw_ok hC ttOk mixed) Try.func12 (c0 := bd Try.f12) rfl (entry Try.func12 rfl (by decide)) (h12_16378_ok k) rfl (fun x _ h => (e12 k x).trans h)
/-! f67 fathom/fathomref15.Is (R) -/
noncomputable def a67 : Shape := ⟨[.d (.slice T_Gate), .d i64], []⟩
noncomputable def o67 : List Shape := [⟨[.d .bool], []⟩]
abbrev R67 : Type := ((Bool × Unit) × Unit)
abbrev T67 : Type := (List D_Gate) → Int → Option R67
noncomputable def u67 (f : T67) : (a67).C → Option (OutC o67) := fun (x : (((List D_Gate) × Int × Unit) × Unit)) => f x.1.1 x.1.2.1
noncomputable def F67 (f : T67) : Fun := ⟨true, runR a67 o67 (u67 f)⟩
noncomputable def f67 (k : Nat) : T67 := fun g0 l1 =>
  cond (decide (l1 ≥ 0))
    (some (((decide (l1 ≤ (w64 ((w64 (2 * (g0.length : Int))) + 1)))), ()), ()))
    (some ((false, ()), ()))
noncomputable def C67 (k : Nat) : Nat → Fun := mkC []
theorem c67_ok (k : Nat) : ∀ f, SoundFn Try.prog f (C67 k f) := mkC_nil
theorem e67 (k : Nat) (x : (a67).C) : bodyR (C67 k) tt noH Try.f67 a67 o67 x = u67 (f67 k) x := by kernel_rfl
theorem s67 (k : Nat) : SoundFn Try.prog 67 (F67 (f67 k)) :=
  have hC := c67_ok k
  fnR_sound hC ttOk (draw_ok hC ttOk mixed) Try.func67 (c0 := bd Try.f67) rfl (entry Try.func67 rfl (by decide)) noH_ok rfl (fun x _ h => (e67 k x).trans h)
/-! f74 fathom/fathomref17.May (R) -/
noncomputable def a74 : Shape := ⟨[.d (.slice T_Gate), .d (.slice i64)], []⟩
noncomputable def o74 : List Shape := [⟨[.d .bool], []⟩]
abbrev R74 : Type := ((Bool × Unit) × Unit)
abbrev T74 : Type := (List D_Gate) → (List Int) → Option R74
noncomputable def u74 (f : T74) : (a74).C → Option (OutC o74) := fun (x : (((List D_Gate) × (List Int) × Unit) × Unit)) => f x.1.1 x.1.2.1
noncomputable def F74 (f : T74) : Fun := ⟨true, runR a74 o74 (u74 f)⟩
noncomputable def pa74_26 : Shape := ⟨[.d (.slice T_Gate), .d (.slice i64), .d i64], []⟩
noncomputable def pw74_26 : List Vm.Way := [⟨.exit 0, [], ⟨[], []⟩⟩, ⟨.ret, [4], ⟨[.d .bool], []⟩⟩]
abbrev R74_26 : Type := ((Unit × Unit) ⊕ ((Bool × Unit) × Unit))
abbrev T74_26 : Type := (List D_Gate) → (List Int) → Int → Option R74_26
noncomputable def u74_26 (f : T74_26) : (pa74_26).C → Option (WayC pw74_26) := fun (x : (((List D_Gate) × (List Int) × Int × Unit) × Unit)) => f x.1.1 x.1.2.1 x.1.2.2.1
noncomputable def b74_26 (k : Nat) (rec : T74_26) : T74_26 := fun g0 l1 i5 =>
  cond (decide (i5 < (l1.length : Int)))
    (ix l1 i5 fun e1 =>
    (f67 k g0 e1).bind fun y2 =>
    cond (!y2.1.1)
      (some (.inr ((false, ()), ())))
      ((rec g0 l1 (w64 (i5 + 1))).bind fun y3 =>
      match y3 with
      | .inl y3_0 =>
        some (.inl ((), ()))
      | .inr y3_1 =>
        some (.inr ((y3_1.1.1, ()), ()))))
    (some (.inl ((), ())))
noncomputable def l74_26 (k : Nat) : Nat → T74_26
  | 0 => fun _ _ _ => none
  | j + 1 => b74_26 k (l74_26 k j)
noncomputable def f74 (k : Nat) : T74 := fun g0 l1 =>
  (l74_26 k k g0 l1 0).bind fun y1 =>
  match y1 with
  | .inl y1_0 =>
    some (((decide ((l1.length : Int) ≤ 64)), ()), ())
  | .inr y1_1 =>
    some ((y1_1.1.1, ()), ())
noncomputable def C74 (k : Nat) : Nat → Fun := mkC [(67, (F67 (f67 k)))]
theorem c74_ok (k : Nat) : ∀ f, SoundFn Try.prog f (C74 k f) := (mkC_cons (s67 k) mkC_nil)
noncomputable def H74_26 (k : Nat) : Nat → Option Cut := addH noH 26 ⟨runCut (wrC (bodyOf (codeAt 26 (bd Try.f74) 26))) 22 [0, 1, 5] pa74_26 pw74_26 (u74_26 (l74_26 k k))⟩
theorem e74_26 (k : Nat) (rec : T74_26) (x : (pa74_26).C) : roundF (C74 k) tt noH (bodyOf (codeAt 26 (bd Try.f74) 26)) 52 22 [0, 1, 5] pa74_26 pw74_26 (u74_26 rec) x = u74_26 (b74_26 k rec) x := by kernel_rfl
theorem h74_26_ok (k : Nat) : ∀ p S, H74_26 k p = some S → ∀ c, At (bd Try.f74) p c → CutOk Try.prog c S :=
  have hC := c74_ok k
  addLoop hC ttOk (draw_ok hC ttOk mixed) noH_ok (by kernel_rfl) (F := fun j => u74_26 (l74_26 k j)) (fun _ => rfl) (fun j x _ h => (e74_26 k (l74_26 k j) x).trans h) k
theorem e74 (k : Nat) (x : (a74).C) : bodyR (C74 k) tt (H74_26 k) Try.f74 a74 o74 x = u74 (f74 k) x := by kernel_rfl
theorem s74 (k : Nat) : SoundFn Try.prog 74 (F74 (f74 k)) :=
  have hC := c74_ok k
  fnR_sound hC ttOk (draw_ok hC ttOk mixed) Try.func74 (c0 := bd Try.f74) rfl (entry Try.func74 rfl (by decide)) (h74_26_ok k) rfl (fun x _ h => (e74 k x).trans h)
/-! f116 fathom/card.may$1 (R) -/
noncomputable def a116 : Shape := ⟨[.d i64, .ptr 0], [.box [.ptr 1], .box [.d (.slice T_Gate), .mp 2], .map T_Gate i64]⟩
noncomputable def o116 : List Shape := [⟨[.d .bool], []⟩]
abbrev R116 : Type := ((Bool × Unit) × Unit)
abbrev T116 : Type := Int → (List D_Gate) → (List (D_Gate × Int)) → Option R116
noncomputable def u116 (f : T116) : (a116).C → Option (OutC o116) := fun (x : ((Int × Unit × Unit) × ((Unit × Unit) × ((List D_Gate) × Unit × Unit) × (List (D_Gate × Int)) × Unit))) => f x.1.1 x.2.2.1.1 x.2.2.2.1
noncomputable def F116 (f : T116) : Fun := ⟨true, runR a116 o116 (u116 f)⟩
noncomputable def f116 (k : Nat) : T116 := fun a0 o1 o2 =>
  (f24 k a0 o1 o2).bind fun y1 =>
  some (((!y1.1.1), ()), ())
noncomputable def C116 (k : Nat) : Nat → Fun := mkC [(24, (F24 (f24 k)))]
theorem c116_ok (k : Nat) : ∀ f, SoundFn Try.prog f (C116 k f) := (mkC_cons (s24 k) mkC_nil)
theorem e116 (k : Nat) (x : (a116).C) : bodyR (C116 k) tt noH Try.f116 a116 o116 x = u116 (f116 k) x := by kernel_rfl
theorem s116 (k : Nat) : SoundFn Try.prog 116 (F116 (f116 k)) :=
  have hC := c116_ok k
  fnR_sound hC ttOk (draw_ok hC ttOk mixed) Try.func116 (c0 := bd Try.f116) rfl (entry Try.func116 rfl (by decide)) noH_ok rfl (fun x _ h => (e116 k x).trans h)
/-! f113v2 slices.IndexFunc[[]int,int] (R) -/
noncomputable def a113v2 : Shape := ⟨[.d (.slice i64), .fn 116 [0]], [.box [.ptr 1], .box [.d (.slice T_Gate), .mp 2], .map T_Gate i64]⟩
noncomputable def o113v2 : List Shape := [⟨[.d i64], []⟩]
abbrev R113v2 : Type := ((Int × Unit) × Unit)
abbrev T113v2 : Type := (List Int) → (List D_Gate) → (List (D_Gate × Int)) → Option R113v2
noncomputable def u113v2 (f : T113v2) : (a113v2).C → Option (OutC o113v2) := fun (x : (((List Int) × Unit × Unit) × ((Unit × Unit) × ((List D_Gate) × Unit × Unit) × (List (D_Gate × Int)) × Unit))) => f x.1.1 x.2.2.1.1 x.2.2.2.1
noncomputable def F113v2 (f : T113v2) : Fun := ⟨true, runR a113v2 o113v2 (u113v2 f)⟩
noncomputable def pa113v2_26 : Shape := ⟨[.d (.slice i64), .fn 116 [0], .d i64, .d i64], [.lk (.box [.ptr 1]), .lk (.box [.d (.slice T_Gate), .mp 2]), .lk (.map T_Gate i64)]⟩
noncomputable def pw113v2_26 : List Vm.Way := [⟨.exit 0, [], ⟨[], [.any, .any, .any]⟩⟩, ⟨.ret, [4], ⟨[.d i64], [.any, .any, .any]⟩⟩]
abbrev R113v2_26 : Type := ((Unit × (Unit × Unit × Unit × Unit)) ⊕ ((Int × Unit) × (Unit × Unit × Unit × Unit)))
abbrev T113v2_26 : Type := (List Int) → Int → Int → (List D_Gate) → (List (D_Gate × Int)) → Option R113v2_26
noncomputable def u113v2_26 (f : T113v2_26) : (pa113v2_26).C → Option (WayC pw113v2_26) := fun (x : (((List Int) × Unit × Int × Int × Unit) × ((Unit × Unit) × ((List D_Gate) × Unit × Unit) × (List (D_Gate × Int)) × Unit))) => f x.1.1 x.1.2.2.1 x.1.2.2.2.1 x.2.2.1.1 x.2.2.2.1
noncomputable def b113v2_26 (k : Nat) (rec : T113v2_26) : T113v2_26 := fun s0 t7 t8 o1 o2 =>
  cond (decide (t8 < t7))
    (ix s0 t8 fun e1 =>
    (f116 k e1 o1 o2).bind fun y2 =>
    cond y2.1.1
      (some (.inr ((t8, ()), ((), (), (), ()))))
      ((rec s0 t7 (w64 (t8 + 1)) o1 o2).bind fun y3 =>
      match y3 with
      | .inl y3_0 =>
        some (.inl ((), ((), (), (), ())))
      | .inr y3_1 =>
        some (.inr ((y3_1.1.1, ()), ((), (), (), ())))))
    (some (.inl ((), ((), (), (), ()))))
noncomputable def l113v2_26 (k : Nat) : Nat → T113v2_26
  | 0 => fun _ _ _ _ _ => none
  | j + 1 => b113v2_26 k (l113v2_26 k j)
noncomputable def f113v2 (k : Nat) : T113v2 := fun s0 o1 o2 =>
  (l113v2_26 k k s0 (s0.length : Int) 0 o1 o2).bind fun y1 =>
  match y1 with
  | .inl y1_0 =>
    some (((-1), ()), ())
  | .inr y1_1 =>
    some ((y1_1.1.1, ()), ())
noncomputable def C113v2 (k : Nat) : Nat → Fun := mkC [(116, (F116 (f116 k)))]
theorem c113v2_ok (k : Nat) : ∀ f, SoundFn Try.prog f (C113v2 k f) := (mkC_cons (s116 k) mkC_nil)
noncomputable def H113v2_26 (k : Nat) : Nat → Option Cut := addH noH 26 ⟨runCut (wrC (bodyOf (codeAt 26 (bd Try.f113) 26))) 19 [0, 1, 7, 8] pa113v2_26 pw113v2_26 (u113v2_26 (l113v2_26 k k))⟩
theorem e113v2_26 (k : Nat) (rec : T113v2_26) (x : (pa113v2_26).C) : roundF (C113v2 k) tt noH (bodyOf (codeAt 26 (bd Try.f113) 26)) 52 19 [0, 1, 7, 8] pa113v2_26 pw113v2_26 (u113v2_26 rec) x = u113v2_26 (b113v2_26 k rec) x := by kernel_rfl
theorem h113v2_26_ok (k : Nat) : ∀ p S, H113v2_26 k p = some S → ∀ c, At (bd Try.f113) p c → CutOk Try.prog c S :=
  have hC := c113v2_ok k
  addLoop hC ttOk (draw_ok hC ttOk mixed) noH_ok (by kernel_rfl) (F := fun j => u113v2_26 (l113v2_26 k j)) (fun _ => rfl) (fun j x _ h => (e113v2_26 k (l113v2_26 k j) x).trans h) k
theorem e113v2 (k : Nat) (x : (a113v2).C) : bodyR (C113v2 k) tt (H113v2_26 k) Try.f113 a113v2 o113v2 x = u113v2 (f113v2 k) x := by kernel_rfl
theorem s113v2 (k : Nat) : SoundFn Try.prog 113 (F113v2 (f113v2 k)) :=
  have hC := c113v2_ok k
  fnR_sound hC ttOk (draw_ok hC ttOk mixed) Try.func113 (c0 := bd Try.f113) rfl (entry Try.func113 rfl (by decide)) (h113v2_26_ok k) rfl (fun x _ h => (e113v2 k x).trans h)
/-! f106v2 slices.ContainsFunc[[]int,int] (R) -/
noncomputable def a106v2 : Shape := ⟨[.d (.slice i64), .fn 116 [0]], [.box [.ptr 1], .box [.d (.slice T_Gate), .mp 2], .map T_Gate i64]⟩
noncomputable def o106v2 : List Shape := [⟨[.d .bool], []⟩]
abbrev R106v2 : Type := ((Bool × Unit) × Unit)
abbrev T106v2 : Type := (List Int) → (List D_Gate) → (List (D_Gate × Int)) → Option R106v2
noncomputable def u106v2 (f : T106v2) : (a106v2).C → Option (OutC o106v2) := fun (x : (((List Int) × Unit × Unit) × ((Unit × Unit) × ((List D_Gate) × Unit × Unit) × (List (D_Gate × Int)) × Unit))) => f x.1.1 x.2.2.1.1 x.2.2.2.1
noncomputable def F106v2 (f : T106v2) : Fun := ⟨true, runR a106v2 o106v2 (u106v2 f)⟩
noncomputable def f106v2 (k : Nat) : T106v2 := fun s0 o1 o2 =>
  (f113v2 k s0 o1 o2).bind fun y1 =>
  some (((decide (y1.1.1 ≥ 0)), ()), ())
noncomputable def C106v2 (k : Nat) : Nat → Fun := mkC [(113, (F113v2 (f113v2 k)))]
theorem c106v2_ok (k : Nat) : ∀ f, SoundFn Try.prog f (C106v2 k f) := (mkC_cons (s113v2 k) mkC_nil)
theorem e106v2 (k : Nat) (x : (a106v2).C) : bodyR (C106v2 k) tt noH Try.f106 a106v2 o106v2 x = u106v2 (f106v2 k) x := by kernel_rfl
theorem s106v2 (k : Nat) : SoundFn Try.prog 106 (F106v2 (f106v2 k)) :=
  have hC := c106v2_ok k
  fnR_sound hC ttOk (draw_ok hC ttOk mixed) Try.func106 (c0 := bd Try.f106) rfl (entry Try.func106 rfl (by decide)) noH_ok rfl (fun x _ h => (e106v2 k x).trans h)
/-! f109 fathom/card.may (R) -/
noncomputable def a109 : Shape := ⟨[.ptr 0, .d (.slice i64)], [.box [.d (.slice T_Gate), .mp 1], .map T_Gate i64]⟩
noncomputable def o109 : List Shape := [⟨[.d .bool], []⟩]
abbrev R109 : Type := ((Bool × Unit) × Unit)
abbrev T109 : Type := (List Int) → (List D_Gate) → (List (D_Gate × Int)) → Option R109
noncomputable def u109 (f : T109) : (a109).C → Option (OutC o109) := fun (x : ((Unit × (List Int) × Unit) × (((List D_Gate) × Unit × Unit) × (List (D_Gate × Int)) × Unit))) => f x.1.2.1 x.2.1.1 x.2.2.1
noncomputable def F109 (f : T109) : Fun := ⟨true, runR a109 o109 (u109 f)⟩
noncomputable def f109 (k : Nat) : T109 := fun l1 o0 o1 =>
  (f24 k 0 o0 o1).bind fun y1 =>
  cond y1.1.1
    (cond (decide ((l1.length : Int) ≤ 64))
      ((f106v2 k l1 o0 o1).bind fun y2 =>
      some (((!y2.1.1), ()), ()))
      (some ((false, ()), ())))
    (some ((false, ()), ()))
noncomputable def C109 (k : Nat) : Nat → Fun := mkC [(24, (F24 (f24 k))), (106, (F106v2 (f106v2 k)))]
theorem c109_ok (k : Nat) : ∀ f, SoundFn Try.prog f (C109 k f) := (mkC_cons (s24 k) (mkC_cons (s106v2 k) mkC_nil))
theorem e109 (k : Nat) (x : (a109).C) : bodyR (C109 k) tt noH Try.f109 a109 o109 x = u109 (f109 k) x := by kernel_rfl
theorem s109 (k : Nat) : SoundFn Try.prog 109 (F109 (f109 k)) :=
  have hC := c109_ok k
  fnR_sound hC ttOk (draw_ok hC ttOk mixed) Try.func109 (c0 := bd Try.f109) rfl (entry Try.func109 rfl (by decide)) noH_ok rfl (fun x _ h => (e109 k x).trans h)
/-! f115 math/bits.Len64 (R) -/
noncomputable def a115 : Shape := ⟨[.d (.int .u64)], []⟩
noncomputable def o115 : List Shape := [⟨[.d i64], []⟩]
abbrev R115 : Type := ((Int × Unit) × Unit)
abbrev T115 : Type := Int → Option R115
noncomputable def u115 (f : T115) : (a115).C → Option (OutC o115) := fun (x : ((Int × Unit) × Unit)) => f x.1.1
noncomputable def F115 (f : T115) : Fun := ⟨true, runR a115 o115 (u115 f)⟩
noncomputable def pa115_60 : Shape := ⟨[.d (.int .u64)], []⟩
noncomputable def pw115_60 : List Vm.Way := [⟨.normal, [14], ⟨[.d .bool], []⟩⟩]
abbrev R115_60 : Type := ((Bool × Unit) × Unit)
abbrev T115_60 : Type := Int → Option R115_60
noncomputable def u115_60 (f : T115_60) : (pa115_60).C → Option (WayC pw115_60) := fun (x : ((Int × Unit) × Unit)) => f x.1.1
noncomputable def l115_60 (k : Nat) : T115_60 := fun x0 =>
  some (((decide (x0 ≥ 256)), ()), ())
noncomputable def pa115_14 : Shape := ⟨[.d (.int .u64), .d i64], []⟩
noncomputable def pw115_14 : List Vm.Way := [⟨.normal, [0, 2], ⟨[.d (.int .u64), .d i64], []⟩⟩]
abbrev R115_14 : Type := ((Int × Int × Unit) × Unit)
abbrev T115_14 : Type := Int → Int → Option R115_14
noncomputable def u115_14 (f : T115_14) : (pa115_14).C → Option (WayC pw115_14) := fun (x : ((Int × Int × Unit) × Unit)) => f x.1.1 x.1.2.1
noncomputable def l115_14 (k : Nat) : T115_14 := fun x0 n2 =>
  cond (decide (x0 ≥ 65536))
    (some (((Int.fdiv x0 (2 ^ 16)), (w64 (n2 + 16)), ()), ()))
    (some ((x0, n2, ()), ()))
noncomputable def f115 (k : Nat) : T115 := fun x0 =>
  cond (decide (x0 ≥ 4294967296))
    ((l115_14 k (Int.fdiv x0 (2 ^ 32)) 32).bind fun y1 =>
    (l115_60 k y1.1.1).bind fun y2 =>
    cond y2.1.1
      (ixs s_0 (IntKind.u8.wrap ((Int.fdiv y1.1.1 (2 ^ 8)))) fun c3 =>
      some (((w64 ((w64 (y1.1.2.1 + 8)) + (w64 (c3)))), ()), ()))
      (ixs s_0 (IntKind.u8.wrap (y1.1.1)) fun c4 =>
      some (((w64 (y1.1.2.1 + (w64 (c4)))), ()), ())))
    ((l115_14 k x0 0).bind fun y5 =>
    (l115_60 k y5.1.1).bind fun y6 =>
    cond y6.1.1
      (ixs s_0 (IntKind.u8.wrap ((Int.fdiv y5.1.1 (2 ^ 8)))) fun c7 =>
      some (((w64 ((w64 (y5.1.2.1 + 8)) + (w64 (c7)))), ()), ()))
      (ixs s_0 (IntKind.u8.wrap (y5.1.1)) fun c8 =>
      some (((w64 (y5.1.2.1 + (w64 (c8)))), ()), ())))
noncomputable def C115 (k : Nat) : Nat → Fun := mkC []
theorem c115_ok (k : Nat) : ∀ f, SoundFn Try.prog f (C115 k f) := mkC_nil
noncomputable def H115_60 (k : Nat) : Nat → Option Cut := addH noH 60 ⟨runCut (wrC (codeAt 60 (bd Try.f115) 60)) 25 [0] pa115_60 pw115_60 (u115_60 (l115_60 k))⟩
theorem e115_60 (k : Nat) (x : (pa115_60).C) : pieceF (C115 k) tt noH (codeAt 60 (bd Try.f115) 60) 60 25 [0] pa115_60 pw115_60 x = u115_60 (l115_60 k) x := by kernel_rfl
theorem h115_60_ok (k : Nat) : ∀ p S, H115_60 k p = some S → ∀ c, At (bd Try.f115) p c → CutOk Try.prog c S :=
  have hC := c115_ok k
  addPiece hC ttOk (draw_ok hC ttOk mixed) noH_ok (fun x _ h => (e115_60 k x).trans h)
noncomputable def H115_14 (k : Nat) : Nat → Option Cut := addH (H115_60 k) 14 ⟨runCut (wrC (codeAt 14 (bd Try.f115) 14)) 25 [0, 2] pa115_14 pw115_14 (u115_14 (l115_14 k))⟩
theorem e115_14 (k : Nat) (x : (pa115_14).C) : pieceF (C115 k) tt (H115_60 k) (codeAt 14 (bd Try.f115) 14) 14 25 [0, 2] pa115_14 pw115_14 x = u115_14 (l115_14 k) x := by kernel_rfl
theorem h115_14_ok (k : Nat) : ∀ p S, H115_14 k p = some S → ∀ c, At (bd Try.f115) p c → CutOk Try.prog c S :=
  have hC := c115_ok k
  addPiece hC ttOk (draw_ok hC ttOk mixed) (h115_60_ok k) (fun x _ h => (e115_14 k x).trans h)
theorem e115 (k : Nat) (x : (a115).C) : bodyR (C115 k) tt (H115_14 k) Try.f115 a115 o115 x = u115 (f115 k) x := by kernel_rfl
theorem s115 (k : Nat) : SoundFn Try.prog 115 (F115 (f115 k)) :=
  have hC := c115_ok k
  fnR_sound hC ttOk (draw_ok hC ttOk mixed) Try.func115 (c0 := bd Try.f115) rfl (entry Try.func115 rfl (by decide)) (h115_14_ok k) rfl (fun x _ h => (e115 k x).trans h)
/-! f108 math/bits.Len (R) -/
noncomputable def a108 : Shape := ⟨[.d (.int .u64)], []⟩
noncomputable def o108 : List Shape := [⟨[.d i64], []⟩]
abbrev R108 : Type := ((Int × Unit) × Unit)
abbrev T108 : Type := Int → Option R108
noncomputable def u108 (f : T108) : (a108).C → Option (OutC o108) := fun (x : ((Int × Unit) × Unit)) => f x.1.1
noncomputable def F108 (f : T108) : Fun := ⟨true, runR a108 o108 (u108 f)⟩
noncomputable def f108 (k : Nat) : T108 := fun x0 =>
  (f115 k x0).bind fun y1 =>
  some ((y1.1.1, ()), ())
noncomputable def C108 (k : Nat) : Nat → Fun := mkC [(115, (F115 (f115 k)))]
theorem c108_ok (k : Nat) : ∀ f, SoundFn Try.prog f (C108 k f) := (mkC_cons (s115 k) mkC_nil)
theorem e108 (k : Nat) (x : (a108).C) : bodyR (C108 k) tt noH Try.f108 a108 o108 x = u108 (f108 k) x := by kernel_rfl
theorem s108 (k : Nat) : SoundFn Try.prog 108 (F108 (f108 k)) :=
  have hC := c108_ok k
  fnR_sound hC ttOk (draw_ok hC ttOk mixed) Try.func108 (c0 := bd Try.f108) rfl (entry Try.func108 rfl (by decide)) noH_ok rfl (fun x _ h => (e108 k x).trans h)
/-! f69 fathom/card.Enough (R) -/
noncomputable def a69 : Shape := ⟨[.d i64], []⟩
noncomputable def o69 : List Shape := [⟨[.d i64], []⟩]
abbrev R69 : Type := ((Int × Unit) × Unit)
abbrev T69 : Type := Int → Option R69
noncomputable def u69 (f : T69) : (a69).C → Option (OutC o69) := fun (x : ((Int × Unit) × Unit)) => f x.1.1
noncomputable def F69 (f : T69) : Fun := ⟨true, runR a69 o69 (u69 f)⟩
noncomputable def f69 (k : Nat) : T69 := fun n0 =>
  cond (decide (n0 < 0))
    (some ((0, ()), ()))
    (cond (decide (n0 > 65535))
      (some ((0, ()), ()))
      ((f108 k (IntKind.u64.wrap (n0))).bind fun y1 =>
      some (((minmax true 1 y1.1.1), ()), ())))
noncomputable def C69 (k : Nat) : Nat → Fun := mkC [(108, (F108 (f108 k)))]
theorem c69_ok (k : Nat) : ∀ f, SoundFn Try.prog f (C69 k f) := (mkC_cons (s108 k) mkC_nil)
theorem e69 (k : Nat) (x : (a69).C) : bodyR (C69 k) tt noH Try.f69 a69 o69 x = u69 (f69 k) x := by kernel_rfl
theorem s69 (k : Nat) : SoundFn Try.prog 69 (F69 (f69 k)) :=
  have hC := c69_ok k
  fnR_sound hC ttOk (draw_ok hC ttOk mixed) Try.func69 (c0 := bd Try.f69) rfl (entry Try.func69 rfl (by decide)) noH_ok rfl (fun x _ h => (e69 k x).trans h)
/-! f117 fathom/card.wide (W) -/
noncomputable def a117 : Shape := ⟨[.own i64, .d i64], []⟩
noncomputable def o117 : List Shape := [⟨[.own i64], []⟩]
abbrev R117 : Type := (((List Int) × Unit) × Unit)
abbrev T117 : Type := (List Int) → Int → Option R117
noncomputable def u117 (f : T117) : (a117).C → Option (OutC o117) := fun (x : (((List Int) × Int × Unit) × Unit)) => f x.1.1 x.1.2.1
noncomputable def F117 (f : T117) : Fun := ⟨false, runW a117 o117 (u117 f)⟩
noncomputable def pa117_12 : Shape := ⟨[.own i64, .d i64], []⟩
noncomputable def pw117_12 : List Vm.Way := [⟨.exit 0, [0], ⟨[.own i64], []⟩⟩]
abbrev R117_12 : Type := (((List Int) × Unit) × Unit)
abbrev T117_12 : Type := (List Int) → Int → Option R117_12
noncomputable def u117_12 (f : T117_12) : (pa117_12).C → Option (WayC pw117_12) := fun (x : (((List Int) × Int × Unit) × Unit)) => f x.1.1 x.1.2.1
noncomputable def b117_12 (k : Nat) (rec : T117_12) : T117_12 := fun a0 w1 =>
  cond (decide ((a0.length : Int) < w1))
    (gd (decide ((a0.length + 1) * 8 ≤ room)) <|
    (rec (a0 ++ ([0] : List Int)) w1).bind fun y1 =>
    some ((y1.1.1, ()), ()))
    (some ((a0, ()), ()))
noncomputable def l117_12 (k : Nat) : Nat → T117_12
  | 0 => fun _ _ => none
  | j + 1 => b117_12 k (l117_12 k j)
noncomputable def f117 (k : Nat) : T117 := fun a0 w1 =>
  (l117_12 k k a0 w1).bind fun y1 =>
  some ((y1.1.1, ()), ())
noncomputable def C117 (k : Nat) : Nat → Fun := mkC []
theorem c117_ok (k : Nat) : ∀ f, SoundFn Try.prog f (C117 k f) := mkC_nil
noncomputable def H117_12 (k : Nat) : Nat → Option Cut := addH noH 12 ⟨runCut (wrC (bodyOf (codeAt 12 (bd Try.f117) 12))) 13 [0, 1] pa117_12 pw117_12 (u117_12 (l117_12 k k))⟩
theorem e117_12 (k : Nat) (rec : T117_12) (x : (pa117_12).C) : roundF (C117 k) tt noH (bodyOf (codeAt 12 (bd Try.f117) 12)) 24 13 [0, 1] pa117_12 pw117_12 (u117_12 rec) x = u117_12 (b117_12 k rec) x := by kernel_rfl
theorem h117_12_ok (k : Nat) : ∀ p S, H117_12 k p = some S → ∀ c, At (bd Try.f117) p c → CutOk Try.prog c S :=
  have hC := c117_ok k
  addLoop hC ttOk (draw_ok hC ttOk mixed) noH_ok (by kernel_rfl) (F := fun j => u117_12 (l117_12 k j)) (fun _ => rfl) (fun j x _ h => (e117_12 k (l117_12 k j) x).trans h) k
theorem e117 (k : Nat) (x : (a117).C) : bodyW (C117 k) tt (H117_12 k) Try.f117 a117 o117 x = u117 (f117 k) x := by kernel_rfl
theorem s117 (k : Nat) : SoundFn Try.prog 117 (F117 (f117 k)) :=
  have hC := c117_ok k
  fnW_sound hC ttOk (draw_ok hC ttOk mixed) Try.func117 (c0 := bd Try.f117) rfl (entry Try.func117 rfl (by decide)) (h117_12_ok k) (fun x _ h => (e117 k x).trans h)
/-! f110 fathom/card.count (W) -/
noncomputable def a110 : Shape := ⟨[.ptr 0, .d (.slice i64)], [.box [.own T_Gate, .mp 1], .map T_Gate i64]⟩
noncomputable def o110 : List Shape := [⟨[.nils], [.box [.own T_Gate, .mp 1], .map T_Gate i64]⟩, ⟨[.own i64], [.box [.own T_Gate, .mp 1], .map T_Gate i64]⟩]
abbrev R110 : Type := (((Unit × Unit) × (((List D_Gate) × Unit × Unit) × (List (D_Gate × Int)) × Unit)) ⊕ (((List Int) × Unit) × (((List D_Gate) × Unit × Unit) × (List (D_Gate × Int)) × Unit)))
abbrev T110 : Type := (List Int) → (List D_Gate) → (List (D_Gate × Int)) → Option R110
noncomputable def u110 (f : T110) : (a110).C → Option (OutC o110) := fun (x : ((Unit × (List Int) × Unit) × (((List D_Gate) × Unit × Unit) × (List (D_Gate × Int)) × Unit))) => f x.1.2.1 x.2.1.1 x.2.2.1
noncomputable def F110 (f : T110) : Fun := ⟨false, runW a110 o110 (u110 f)⟩
noncomputable def b110 (k : Nat) (r110 : T110) : T110 := fun l1 o0 o1 =>
  cond ((l1.length : Int) == 0)
    (some (.inr (([0], ()), ((o0, (), ()), o1, ()))))
    (cond ((l1.length : Int) == 1)
      (ix l1 0 fun e1 =>
      some (.inr (([e1], ()), ((o0, (), ()), o1, ()))))
      ((f69 k (l1.length : Int)).bind fun y2 =>
      gd (decide (0 ≤ (w64 (Int.tdiv (l1.length : Int) 2)))) <|
      gd (decide ((w64 (Int.tdiv (l1.length : Int) 2)).toNat ≤ l1.length)) <|
      (r110 ((l1.take (w64 (Int.tdiv (l1.length : Int) 2)).toNat).drop 0) o0 o1).bind fun y3 =>
      match y3 with
      | .inl y3_0 =>
        gd (decide (0 ≤ (w64 (Int.tdiv (l1.length : Int) 2)))) <|
        gd (decide ((w64 (Int.tdiv (l1.length : Int) 2)).toNat ≤ l1.length)) <|
        (r110 (l1.drop (w64 (Int.tdiv (l1.length : Int) 2)).toNat) y3_0.2.1.1 y3_0.2.2.1).bind fun y4 =>
        match y4 with
        | .inl y4_0 =>
          some (.inl (((), ()), ((y4_0.2.1.1, (), ()), y4_0.2.2.1, ())))
        | .inr y4_1 =>
          some (.inl (((), ()), ((y4_1.2.1.1, (), ()), y4_1.2.2.1, ())))
      | .inr y3_1 =>
        gd (decide (0 ≤ (w64 (Int.tdiv (l1.length : Int) 2)))) <|
        gd (decide ((w64 (Int.tdiv (l1.length : Int) 2)).toNat ≤ l1.length)) <|
        (r110 (l1.drop (w64 (Int.tdiv (l1.length : Int) 2)).toNat) y3_1.2.1.1 y3_1.2.2.1).bind fun y5 =>
        match y5 with
        | .inl y5_0 =>
          cond y3_1.1.1.isEmpty
            (none)
            (some (.inl (((), ()), ((y5_0.2.1.1, (), ()), y5_0.2.2.1, ()))))
        | .inr y5_1 =>
          cond y3_1.1.1.isEmpty
            (none)
            (cond y5_1.1.1.isEmpty
              (none)
              ((f117 k y3_1.1.1 y2.1.1).bind fun y6 =>
              (f117 k y5_1.1.1 y2.1.1).bind fun y7 =>
              (f46 k y6.1.1 y7.1.1 y5_1.2.1.1 y5_1.2.2.1).bind fun y8 =>
              match y8 with
              | .inl y8_0 =>
                some (.inl (((), ()), ((y8_0.2.1.1, (), ()), y8_0.2.2.1, ())))
              | .inr y8_1 =>
                some (.inr ((y8_1.1.1, ()), ((y8_1.2.1.1, (), ()), y8_1.2.2.1, ())))))))
noncomputable def S110 : Nat → T110
  | 0 => (fun _ _ _ => none)
  | k + 1 => (b110 k (S110 k))
noncomputable def f110 (k : Nat) : T110 := (S110 k)
theorem f110_succ (k : Nat) : f110 (k + 1) = b110 k (f110 k) := rfl
noncomputable def C110 (k : Nat) (r110 : T110) : Nat → Fun := mkC [(46, (F46 (f46 k))), (69, (F69 (f69 k))), (110, (F110 r110)), (1000117, ownF), (117, (F117 (f117 k)))]
theorem c110_ok (k : Nat) (r110 : T110) (h110 : SoundFn Try.prog 110 (F110 r110)) : ∀ f, SoundFn Try.prog f (C110 k r110 f) := (mkC_cons (s46 k) (mkC_cons (s69 k) (mkC_cons h110 (mkC_cons ownF_ok (mkC_cons (s117 k) mkC_nil)))))
theorem e110 (k : Nat) (r110 : T110) (x : (a110).C) : bodyW (C110 k r110) tt noH Try.f110 a110 o110 x = u110 (b110 k r110) x := by kernel_rfl
theorem q110 (k : Nat) (r110 : T110) (h110 : SoundFn Try.prog 110 (F110 r110)) : SoundFn Try.prog 110 (F110 (b110 k r110)) :=
  have hC := c110_ok k r110 h110
  fnW_sound hC ttOk (draw_ok hC ttOk mixed) Try.func110 (c0 := bd Try.f110) rfl (entry Try.func110 rfl (by decide)) noH_ok (fun x _ h => (e110 k r110 x).trans h)
theorem sAll110 : ∀ k : Nat, SoundFn Try.prog 110 (F110 (f110 k))
  | 0 => noneW_ok (by intro x; rfl)
  | k + 1 =>
    have ih := sAll110 k
    q110 k (f110 k) ih
theorem s110 (k : Nat) : SoundFn Try.prog 110 (F110 (f110 k)) := (sAll110 k)
/-! f79 fathom/card.Count (W) -/
noncomputable def a79 : Shape := ⟨[.ptr 0, .d (.slice i64)], [.box [.own T_Gate, .mp 1], .map T_Gate i64]⟩
noncomputable def o79 : List Shape := [⟨[.nils], [.box [.own T_Gate, .mp 1], .map T_Gate i64]⟩, ⟨[.own i64], [.box [.own T_Gate, .mp 1], .map T_Gate i64]⟩]
abbrev R79 : Type := (((Unit × Unit) × (((List D_Gate) × Unit × Unit) × (List (D_Gate × Int)) × Unit)) ⊕ (((List Int) × Unit) × (((List D_Gate) × Unit × Unit) × (List (D_Gate × Int)) × Unit)))
abbrev T79 : Type := (List Int) → (List D_Gate) → (List (D_Gate × Int)) → Option R79
noncomputable def u79 (f : T79) : (a79).C → Option (OutC o79) := fun (x : ((Unit × (List Int) × Unit) × (((List D_Gate) × Unit × Unit) × (List (D_Gate × Int)) × Unit))) => f x.1.2.1 x.2.1.1 x.2.2.1
noncomputable def F79 (f : T79) : Fun := ⟨false, runW a79 o79 (u79 f)⟩
noncomputable def f79 (k : Nat) : T79 := fun l1 o0 o1 =>
  (f109 k l1 o0 o1).bind fun y1 =>
  cond (!y1.1.1)
    (some (.inl (((), ()), ((o0, (), ()), o1, ()))))
    ((f110 k l1 o0 o1).bind fun y2 =>
    match y2 with
    | .inl y2_0 =>
      some (.inl (((), ()), ((y2_0.2.1.1, (), ()), y2_0.2.2.1, ())))
    | .inr y2_1 =>
      some (.inr ((y2_1.1.1, ()), ((y2_1.2.1.1, (), ()), y2_1.2.2.1, ()))))
noncomputable def C79 (k : Nat) : Nat → Fun := mkC [(109, (F109 (f109 k))), (110, (F110 (f110 k)))]
theorem c79_ok (k : Nat) : ∀ f, SoundFn Try.prog f (C79 k f) := (mkC_cons (s109 k) (mkC_cons (s110 k) mkC_nil))
theorem e79 (k : Nat) (x : (a79).C) : bodyW (C79 k) tt noH Try.f79 a79 o79 x = u79 (f79 k) x := by kernel_rfl
theorem s79 (k : Nat) : SoundFn Try.prog 79 (F79 (f79 k)) :=
  have hC := c79_ok k
  fnW_sound hC ttOk (draw_ok hC ttOk mixed) Try.func79 (c0 := bd Try.f79) rfl (entry Try.func79 rfl (by decide)) noH_ok (fun x _ h => (e79 k x).trans h)
/-! f76 fathom/card.Least (W) -/
noncomputable def a76 : Shape := ⟨[.ptr 0, .d (.slice i64), .d i64], [.box [.own T_Gate, .mp 1], .map T_Gate i64]⟩
noncomputable def o76 : List Shape := [⟨[.d i64], [.box [.own T_Gate, .mp 1], .map T_Gate i64]⟩]
abbrev R76 : Type := ((Int × Unit) × (((List D_Gate) × Unit × Unit) × (List (D_Gate × Int)) × Unit))
abbrev T76 : Type := (List Int) → Int → (List D_Gate) → (List (D_Gate × Int)) → Option R76
noncomputable def u76 (f : T76) : (a76).C → Option (OutC o76) := fun (x : ((Unit × (List Int) × Int × Unit) × (((List D_Gate) × Unit × Unit) × (List (D_Gate × Int)) × Unit))) => f x.1.2.1 x.1.2.2.1 x.2.1.1 x.2.2.1
noncomputable def F76 (f : T76) : Fun := ⟨false, runW a76 o76 (u76 f)⟩
noncomputable def f76 (k : Nat) : T76 := fun l1 k2 o0 o1 =>
  (f79 k l1 o0 o1).bind fun y1 =>
  match y1 with
  | .inl y1_0 =>
    some (((-1), ()), ((y1_0.2.1.1, (), ()), y1_0.2.2.1, ()))
  | .inr y1_1 =>
    cond y1_1.1.1.isEmpty
      (none)
      (cond (decide (k2 ≤ 0))
        (some ((1, ()), ((y1_1.2.1.1, (), ()), y1_1.2.2.1, ())))
        (cond (decide (k2 > (l1.length : Int)))
          (some ((0, ()), ((y1_1.2.1.1, (), ()), y1_1.2.2.1, ())))
          ((f37 k k2 (y1_1.1.1.length : Int)).bind fun y2 =>
          (f65 k y1_1.1.1 y2.1.1 y1_1.2.1.1 y1_1.2.2.1).bind fun y3 =>
          cond (y3.1.1 == (-1))
            (some (((-1), ()), ((y3.2.1.1, (), ()), y3.2.2.1, ())))
            (some (((ibits .xor .i64 y3.1.1 1), ()), ((y3.2.1.1, (), ()), y3.2.2.1, ()))))))
noncomputable def C76 (k : Nat) : Nat → Fun := mkC [(37, (F37 (f37 k))), (65, (F65 (f65 k))), (79, (F79 (f79 k)))]
theorem c76_ok (k : Nat) : ∀ f, SoundFn Try.prog f (C76 k f) := (mkC_cons (s37 k) (mkC_cons (s65 k) (mkC_cons (s79 k) mkC_nil)))
theorem e76 (k : Nat) (x : (a76).C) : bodyW (C76 k) tt noH Try.f76 a76 o76 x = u76 (f76 k) x := by kernel_rfl
theorem s76 (k : Nat) : SoundFn Try.prog 76 (F76 (f76 k)) :=
  have hC := c76_ok k
  fnW_sound hC ttOk (draw_ok hC ttOk mixed) Try.func76 (c0 := bd Try.f76) rfl (entry Try.func76 rfl (by decide)) noH_ok (fun x _ h => (e76 k x).trans h)
/-! f77 fathom/card.Most (W) -/
noncomputable def a77 : Shape := ⟨[.ptr 0, .d (.slice i64), .d i64], [.box [.own T_Gate, .mp 1], .map T_Gate i64]⟩
noncomputable def o77 : List Shape := [⟨[.d i64], [.box [.own T_Gate, .mp 1], .map T_Gate i64]⟩]
abbrev R77 : Type := ((Int × Unit) × (((List D_Gate) × Unit × Unit) × (List (D_Gate × Int)) × Unit))
abbrev T77 : Type := (List Int) → Int → (List D_Gate) → (List (D_Gate × Int)) → Option R77
noncomputable def u77 (f : T77) : (a77).C → Option (OutC o77) := fun (x : ((Unit × (List Int) × Int × Unit) × (((List D_Gate) × Unit × Unit) × (List (D_Gate × Int)) × Unit))) => f x.1.2.1 x.1.2.2.1 x.2.1.1 x.2.2.1
noncomputable def F77 (f : T77) : Fun := ⟨false, runW a77 o77 (u77 f)⟩
noncomputable def f77 (k : Nat) : T77 := fun l1 k2 o0 o1 =>
  cond (decide (k2 ≥ (l1.length : Int)))
    ((f76 k l1 (w64 ((minmax true (l1.length : Int) (-1)) + 1)) o0 o1).bind fun y1 =>
    cond (y1.1.1 == (-1))
      (some (((-1), ()), ((y1.2.1.1, (), ()), y1.2.2.1, ())))
      (some (((ibits .xor .i64 y1.1.1 1), ()), ((y1.2.1.1, (), ()), y1.2.2.1, ()))))
    ((f76 k l1 (w64 ((minmax true k2 (-1)) + 1)) o0 o1).bind fun y2 =>
    cond (y2.1.1 == (-1))
      (some (((-1), ()), ((y2.2.1.1, (), ()), y2.2.2.1, ())))
      (some (((ibits .xor .i64 y2.1.1 1), ()), ((y2.2.1.1, (), ()), y2.2.2.1, ()))))
noncomputable def C77 (k : Nat) : Nat → Fun := mkC [(76, (F76 (f76 k)))]
theorem c77_ok (k : Nat) : ∀ f, SoundFn Try.prog f (C77 k f) := (mkC_cons (s76 k) mkC_nil)
theorem e77 (k : Nat) (x : (a77).C) : bodyW (C77 k) tt noH Try.f77 a77 o77 x = u77 (f77 k) x := by kernel_rfl
theorem s77 (k : Nat) : SoundFn Try.prog 77 (F77 (f77 k)) :=
  have hC := c77_ok k
  fnW_sound hC ttOk (draw_ok hC ttOk mixed) Try.func77 (c0 := bd Try.f77) rfl (entry Try.func77 rfl (by decide)) noH_ok (fun x _ h => (e77 k x).trans h)
/-! f78 fathom/card.Just (W) -/
noncomputable def a78 : Shape := ⟨[.ptr 0, .d (.slice i64), .d i64], [.box [.own T_Gate, .mp 1], .map T_Gate i64]⟩
noncomputable def o78 : List Shape := [⟨[.d i64], [.box [.own T_Gate, .mp 1], .map T_Gate i64]⟩]
abbrev R78 : Type := ((Int × Unit) × (((List D_Gate) × Unit × Unit) × (List (D_Gate × Int)) × Unit))
abbrev T78 : Type := (List Int) → Int → (List D_Gate) → (List (D_Gate × Int)) → Option R78
noncomputable def u78 (f : T78) : (a78).C → Option (OutC o78) := fun (x : ((Unit × (List Int) × Int × Unit) × (((List D_Gate) × Unit × Unit) × (List (D_Gate × Int)) × Unit))) => f x.1.2.1 x.1.2.2.1 x.2.1.1 x.2.2.1
noncomputable def F78 (f : T78) : Fun := ⟨false, runW a78 o78 (u78 f)⟩
noncomputable def f78 (k : Nat) : T78 := fun l1 k2 o0 o1 =>
  (f76 k l1 k2 o0 o1).bind fun y1 =>
  (f77 k l1 k2 y1.2.1.1 y1.2.2.1).bind fun y2 =>
  cond (y1.1.1 == (-1))
    (some (((-1), ()), ((y2.2.1.1, (), ()), y2.2.2.1, ())))
    (cond (y2.1.1 == (-1))
      (some (((-1), ()), ((y2.2.1.1, (), ()), y2.2.2.1, ())))
      ((f19 k y1.1.1 y2.1.1 y2.2.1.1 y2.2.2.1).bind fun y3 =>
      some ((y3.1.1, ()), ((y3.2.1.1, (), ()), y3.2.2.1, ()))))
noncomputable def C78 (k : Nat) : Nat → Fun := mkC [(19, (F19 (f19 k))), (76, (F76 (f76 k))), (77, (F77 (f77 k)))]
theorem c78_ok (k : Nat) : ∀ f, SoundFn Try.prog f (C78 k f) := (mkC_cons (s19 k) (mkC_cons (s76 k) (mkC_cons (s77 k) mkC_nil)))
theorem e78 (k : Nat) (x : (a78).C) : bodyW (C78 k) tt noH Try.f78 a78 o78 x = u78 (f78 k) x := by kernel_rfl
theorem s78 (k : Nat) : SoundFn Try.prog 78 (F78 (f78 k)) :=
  have hC := c78_ok k
  fnW_sound hC ttOk (draw_ok hC ttOk mixed) Try.func78 (c0 := bd Try.f78) rfl (entry Try.func78 rfl (by decide)) noH_ok (fun x _ h => (e78 k x).trans h)
/-! f71 fathom/fathomlaw17.awake (R) -/
noncomputable def a71 : Shape := ⟨[], []⟩
noncomputable def o71 : List Shape := [⟨[.d .bool], []⟩]
abbrev R71 : Type := ((Bool × Unit) × Unit)
abbrev T71 : Type := Unit → Option R71
noncomputable def u71 (f : T71) : (a71).C → Option (OutC o71) := fun (x : (Unit × Unit)) => f ()
noncomputable def F71 (f : T71) : Fun := ⟨true, runR a71 o71 (u71 f)⟩
noncomputable def f71 (k : Nat) : T71 := fun _ =>
  (f38 k ()).bind fun y1 =>
  (f79 k [1, 0, 1] y1.2.1.1 y1.2.2.1).bind fun y2 =>
  match y2 with
  | .inl y2_0 =>
    (f93 k [] [0, 1]).bind fun y3 =>
    cond y3.1.1
      ((f78 k [1, 0, 1] 2 y2_0.2.1.1 y2_0.2.2.1).bind fun y4 =>
      cond (y4.1.1 == 1)
        ((f77 k [] (-5) y4.2.1.1 y4.2.2.1).bind fun y5 =>
        some (((y5.1.1 == 0), ()), ()))
        (some ((false, ()), ())))
      (some ((false, ()), ()))
  | .inr y2_1 =>
    (f93 k y2_1.1.1 [0, 1]).bind fun y6 =>
    cond y6.1.1
      ((f78 k [1, 0, 1] 2 y2_1.2.1.1 y2_1.2.2.1).bind fun y7 =>
      cond (y7.1.1 == 1)
        ((f77 k [] (-5) y7.2.1.1 y7.2.2.1).bind fun y8 =>
        some (((y8.1.1 == 0), ()), ()))
        (some ((false, ()), ())))
      (some ((false, ()), ()))
noncomputable def C71 (k : Nat) : Nat → Fun := mkC [(38, (F38 (f38 k))), (77, (F77 (f77 k))), (78, (F78 (f78 k))), (79, (F79 (f79 k))), (93, (F93 (f93 k)))]
theorem c71_ok (k : Nat) : ∀ f, SoundFn Try.prog f (C71 k f) := (mkC_cons (s38 k) (mkC_cons (s77 k) (mkC_cons (s78 k) (mkC_cons (s79 k) (mkC_cons (s93 k) mkC_nil)))))
theorem e71 (k : Nat) (x : (a71).C) : bodyR (C71 k) tt noH Try.f71 a71 o71 x = u71 (f71 k) x := by kernel_rfl
theorem s71 (k : Nat) : SoundFn Try.prog 71 (F71 (f71 k)) :=
  have hC := c71_ok k
  fnR_sound hC ttOk (draw_ok hC ttOk mixed) Try.func71 (c0 := bd Try.f71) rfl (entry Try.func71 rfl (by decide)) noH_ok rfl (fun x _ h => (e71 k x).trans h)
/-! f35 fathom/fathomref15.True (R) -/
noncomputable def a35 : Shape := ⟨[.d (.slice T_Gate), .d (.slice .bool), .d i64], []⟩
noncomputable def o35 : List Shape := [⟨[.d .bool], []⟩]
abbrev R35 : Type := ((Bool × Unit) × Unit)
abbrev T35 : Type := (List D_Gate) → (List Bool) → Int → Option R35
noncomputable def u35 (f : T35) : (a35).C → Option (OutC o35) := fun (x : (((List D_Gate) × (List Bool) × Int × Unit) × Unit)) => f x.1.1 x.1.2.1 x.1.2.2.1
noncomputable def F35 (f : T35) : Fun := ⟨true, runR a35 o35 (u35 f)⟩
noncomputable def pa35_4026 : Shape := ⟨[.d (.slice T_Gate), .d i64, .d i64, .d i64], []⟩
noncomputable def pw35_4026 : List Vm.Way := [⟨.exit 0, [9], ⟨[.d i64], []⟩⟩]
abbrev R35_4026 : Type := ((Int × Unit) × Unit)
abbrev T35_4026 : Type := (List D_Gate) → Int → Int → Int → Option R35_4026
noncomputable def u35_4026 (f : T35_4026) : (pa35_4026).C → Option (WayC pw35_4026) := fun (x : (((List D_Gate) × Int × Int × Int × Unit) × Unit)) => f x.1.1 x.1.2.1 x.1.2.2.1 x.1.2.2.2.1
noncomputable def b35_4026 (k : Nat) (r35 : T35) (rec : T35_4026) : T35_4026 := fun g0 l2 k9 i10 =>
  cond (decide (i10 < (w64 ((w64 (Int.tdiv l2 2)) - 1))))
    (ix g0 i10 fun e1 =>
    cond (decide (e1.1 < 0))
      ((rec g0 l2 (w64 (k9 + 1)) (w64 (i10 + 1))).bind fun y2 =>
      some ((y2.1.1, ()), ()))
      ((rec g0 l2 k9 (w64 (i10 + 1))).bind fun y3 =>
      some ((y3.1.1, ()), ())))
    (some ((k9, ()), ()))
noncomputable def l35_4026 (k : Nat) (r35 : T35) : Nat → T35_4026
  | 0 => fun _ _ _ _ => none
  | j + 1 => b35_4026 k r35 (l35_4026 k r35 j)
noncomputable def b35 (k : Nat) (r35 : T35) : T35 := fun g0 ins1 l2 =>
  cond (decide (l2 < 2))
    (some (((l2 == 1), ()), ()))
    (ix g0 (w64 ((w64 (Int.tdiv l2 2)) - 1)) fun e1 =>
    cond (decide (e1.1 ≥ 0))
      ((r35 g0 ins1 e1.1).bind fun y2 =>
      cond y2.1.1
        ((r35 g0 ins1 e1.2.1).bind fun y3 =>
        some (((!(y3.1.1 == ((Int.tmod l2 2) == 1))), ()), ()))
        (some (((!(false == ((Int.tmod l2 2) == 1))), ()), ())))
      ((l35_4026 k r35 k g0 l2 0 0).bind fun y4 =>
      cond (decide (y4.1.1 < (ins1.length : Int)))
        (ix ins1 y4.1.1 fun e5 =>
        some (((!(e5 == ((Int.tmod l2 2) == 1))), ()), ()))
        (some (((!(false == ((Int.tmod l2 2) == 1))), ()), ()))))
noncomputable def S35 : Nat → T35
  | 0 => (fun _ _ _ => none)
  | k + 1 => (b35 k (S35 k))
noncomputable def f35 (k : Nat) : T35 := (S35 k)
theorem f35_succ (k : Nat) : f35 (k + 1) = b35 k (f35 k) := rfl
noncomputable def C35 (k : Nat) (r35 : T35) : Nat → Fun := mkC [(35, (F35 r35))]
theorem c35_ok (k : Nat) (r35 : T35) (h35 : SoundFn Try.prog 35 (F35 r35)) : ∀ f, SoundFn Try.prog f (C35 k r35 f) := (mkC_cons h35 mkC_nil)
noncomputable def H35_4026 (k : Nat) (r35 : T35) : Nat → Option Cut := addH noH 4026 ⟨runCut (wrC (bodyOf (codeAt 4026 (bd Try.f35) 4026))) 66 [0, 2, 9, 10] pa35_4026 pw35_4026 (u35_4026 (l35_4026 k r35 k))⟩
theorem e35_4026 (k : Nat) (r35 : T35) (rec : T35_4026) (x : (pa35_4026).C) : roundF (C35 k r35) tt noH (bodyOf (codeAt 4026 (bd Try.f35) 4026)) 8052 66 [0, 2, 9, 10] pa35_4026 pw35_4026 (u35_4026 rec) x = u35_4026 (b35_4026 k r35 rec) x := by kernel_rfl
theorem h35_4026_ok (k : Nat) (r35 : T35) (h35 : SoundFn Try.prog 35 (F35 r35)) : ∀ p S, H35_4026 k r35 p = some S → ∀ c, At (bd Try.f35) p c → CutOk Try.prog c S :=
  have hC := c35_ok k r35 h35
  addLoop hC ttOk (draw_ok hC ttOk mixed) noH_ok (by kernel_rfl) (F := fun j => u35_4026 (l35_4026 k r35 j)) (fun _ => rfl) (fun j x _ h => (e35_4026 k r35 (l35_4026 k r35 j) x).trans h) k
theorem e35 (k : Nat) (r35 : T35) (x : (a35).C) : bodyR (C35 k r35) tt (H35_4026 k r35) Try.f35 a35 o35 x = u35 (b35 k r35) x := by kernel_rfl
theorem q35 (k : Nat) (r35 : T35) (h35 : SoundFn Try.prog 35 (F35 r35)) : SoundFn Try.prog 35 (F35 (b35 k r35)) :=
  have hC := c35_ok k r35 h35
  fnR_sound hC ttOk (draw_ok hC ttOk mixed) Try.func35 (c0 := bd Try.f35) rfl (entry Try.func35 rfl (by decide)) (h35_4026_ok k r35 h35) rfl (fun x _ h => (e35 k r35 x).trans h)
theorem sAll35 : ∀ k : Nat, SoundFn Try.prog 35 (F35 (f35 k))
  | 0 => noneR_ok (by intro x; rfl)
  | k + 1 =>
    have ih := sAll35 k
    q35 k (f35 k) ih
theorem s35 (k : Nat) : SoundFn Try.prog 35 (F35 (f35 k)) := (sAll35 k)
/-! f75 fathom/fathomref17.True (R) -/
noncomputable def a75 : Shape := ⟨[.d (.slice T_Gate), .d (.slice .bool), .d (.slice i64)], []⟩
noncomputable def o75 : List Shape := [⟨[.d i64], []⟩]
abbrev R75 : Type := ((Int × Unit) × Unit)
abbrev T75 : Type := (List D_Gate) → (List Bool) → (List Int) → Option R75
noncomputable def u75 (f : T75) : (a75).C → Option (OutC o75) := fun (x : (((List D_Gate) × (List Bool) × (List Int) × Unit) × Unit)) => f x.1.1 x.1.2.1 x.1.2.2.1
noncomputable def F75 (f : T75) : Fun := ⟨true, runR a75 o75 (u75 f)⟩
noncomputable def pa75_58 : Shape := ⟨[.d (.slice T_Gate), .d (.slice .bool), .d (.slice i64), .d i64, .d i64], []⟩
noncomputable def pw75_58 : List Vm.Way := [⟨.exit 0, [7], ⟨[.d i64], []⟩⟩]
abbrev R75_58 : Type := ((Int × Unit) × Unit)
abbrev T75_58 : Type := (List D_Gate) → (List Bool) → (List Int) → Int → Int → Option R75_58
noncomputable def u75_58 (f : T75_58) : (pa75_58).C → Option (WayC pw75_58) := fun (x : (((List D_Gate) × (List Bool) × (List Int) × Int × Int × Unit) × Unit)) => f x.1.1 x.1.2.1 x.1.2.2.1 x.1.2.2.2.1 x.1.2.2.2.2.1
noncomputable def b75_58 (k : Nat) (rec : T75_58) : T75_58 := fun g0 ins1 l2 n7 i8 =>
  cond (decide (i8 < (l2.length : Int)))
    (ix l2 i8 fun e1 =>
    (f35 k g0 ins1 e1).bind fun y2 =>
    cond y2.1.1
      ((rec g0 ins1 l2 (w64 (n7 + 1)) (w64 (i8 + 1))).bind fun y3 =>
      some ((y3.1.1, ()), ()))
      ((rec g0 ins1 l2 n7 (w64 (i8 + 1))).bind fun y4 =>
      some ((y4.1.1, ()), ())))
    (some ((n7, ()), ()))
noncomputable def l75_58 (k : Nat) : Nat → T75_58
  | 0 => fun _ _ _ _ _ => none
  | j + 1 => b75_58 k (l75_58 k j)
noncomputable def f75 (k : Nat) : T75 := fun g0 ins1 l2 =>
  (l75_58 k k g0 ins1 l2 0 0).bind fun y1 =>
  some ((y1.1.1, ()), ())
noncomputable def C75 (k : Nat) : Nat → Fun := mkC [(35, (F35 (f35 k)))]
theorem c75_ok (k : Nat) : ∀ f, SoundFn Try.prog f (C75 k f) := (mkC_cons (s35 k) mkC_nil)
noncomputable def H75_58 (k : Nat) : Nat → Option Cut := addH noH 58 ⟨runCut (wrC (bodyOf (codeAt 58 (bd Try.f75) 58))) 25 [0, 1, 2, 7, 8] pa75_58 pw75_58 (u75_58 (l75_58 k k))⟩
theorem e75_58 (k : Nat) (rec : T75_58) (x : (pa75_58).C) : roundF (C75 k) tt noH (bodyOf (codeAt 58 (bd Try.f75) 58)) 116 25 [0, 1, 2, 7, 8] pa75_58 pw75_58 (u75_58 rec) x = u75_58 (b75_58 k rec) x := by kernel_rfl
theorem h75_58_ok (k : Nat) : ∀ p S, H75_58 k p = some S → ∀ c, At (bd Try.f75) p c → CutOk Try.prog c S :=
  have hC := c75_ok k
  addLoop hC ttOk (draw_ok hC ttOk mixed) noH_ok (by kernel_rfl) (F := fun j => u75_58 (l75_58 k j)) (fun _ => rfl) (fun j x _ h => (e75_58 k (l75_58 k j) x).trans h) k
theorem e75 (k : Nat) (x : (a75).C) : bodyR (C75 k) tt (H75_58 k) Try.f75 a75 o75 x = u75 (f75 k) x := by kernel_rfl
theorem s75 (k : Nat) : SoundFn Try.prog 75 (F75 (f75 k)) :=
  have hC := c75_ok k
  fnR_sound hC ttOk (draw_ok hC ttOk mixed) Try.func75 (c0 := bd Try.f75) rfl (entry Try.func75 rfl (by decide)) (h75_58_ok k) rfl (fun x _ h => (e75 k x).trans h)
/-! f20v2 (*fathom/aig.Aig).Len (R) -/
noncomputable def a20v2 : Shape := ⟨[.nilp], []⟩
noncomputable def o20v2 : List Shape := [⟨[.d i64], []⟩]
abbrev R20v2 : Type := ((Int × Unit) × Unit)
abbrev T20v2 : Type := Unit → Option R20v2
noncomputable def u20v2 (f : T20v2) : (a20v2).C → Option (OutC o20v2) := fun (x : ((Unit × Unit) × Unit)) => f ()
noncomputable def F20v2 (f : T20v2) : Fun := ⟨true, runR a20v2 o20v2 (u20v2 f)⟩
noncomputable def f20v2 (k : Nat) : T20v2 := fun _ =>
  some ((0, ()), ())
noncomputable def C20v2 (k : Nat) : Nat → Fun := mkC []
theorem c20v2_ok (k : Nat) : ∀ f, SoundFn Try.prog f (C20v2 k f) := mkC_nil
theorem e20v2 (k : Nat) (x : (a20v2).C) : bodyR (C20v2 k) tt noH Try.f20 a20v2 o20v2 x = u20v2 (f20v2 k) x := by kernel_rfl
theorem s20v2 (k : Nat) : SoundFn Try.prog 20 (F20v2 (f20v2 k)) :=
  have hC := c20v2_ok k
  fnR_sound hC ttOk (draw_ok hC ttOk mixed) Try.func20 (c0 := bd Try.f20) rfl (entry Try.func20 rfl (by decide)) noH_ok rfl (fun x _ h => (e20v2 k x).trans h)
/-! f20 (*fathom/aig.Aig).Len (R) -/
noncomputable def a20 : Shape := ⟨[.ptr 0], [.box [.d (.slice T_Gate), .mp 1], .map T_Gate i64]⟩
noncomputable def o20 : List Shape := [⟨[.d i64], []⟩]
abbrev R20 : Type := ((Int × Unit) × Unit)
abbrev T20 : Type := (List D_Gate) → (List (D_Gate × Int)) → Option R20
noncomputable def u20 (f : T20) : (a20).C → Option (OutC o20) := fun (x : ((Unit × Unit) × (((List D_Gate) × Unit × Unit) × (List (D_Gate × Int)) × Unit))) => f x.2.1.1 x.2.2.1
noncomputable def F20 (f : T20) : Fun := ⟨true, runR a20 o20 (u20 f)⟩
noncomputable def f20 (k : Nat) : T20 := fun o0 o1 =>
  some (((o0.length : Int), ()), ())
noncomputable def C20 (k : Nat) : Nat → Fun := mkC []
theorem c20_ok (k : Nat) : ∀ f, SoundFn Try.prog f (C20 k f) := mkC_nil
theorem e20 (k : Nat) (x : (a20).C) : bodyR (C20 k) tt noH Try.f20 a20 o20 x = u20 (f20 k) x := by kernel_rfl
theorem s20 (k : Nat) : SoundFn Try.prog 20 (F20 (f20 k)) :=
  have hC := c20_ok k
  fnR_sound hC ttOk (draw_ok hC ttOk mixed) Try.func20 (c0 := bd Try.f20) rfl (entry Try.func20 rfl (by decide)) noH_ok rfl (fun x _ h => (e20 k x).trans h)
/-! f32 fathom/fathomref15.May (R) -/
noncomputable def a32 : Shape := ⟨[.d (.slice T_Gate)], []⟩
noncomputable def o32 : List Shape := [⟨[.d .bool], []⟩]
abbrev R32 : Type := ((Bool × Unit) × Unit)
abbrev T32 : Type := (List D_Gate) → Option R32
noncomputable def u32 (f : T32) : (a32).C → Option (OutC o32) := fun (x : (((List D_Gate) × Unit) × Unit)) => f x.1.1
noncomputable def F32 (f : T32) : Fun := ⟨true, runR a32 o32 (u32 f)⟩
noncomputable def pa32_1682 : Shape := ⟨[.d (.slice T_Gate), .d i64, .d .bool], []⟩
noncomputable def pw32_1682 : List Vm.Way := [⟨.normal, [64], ⟨[.d .bool], []⟩⟩]
abbrev R32_1682 : Type := ((Bool × Unit) × Unit)
abbrev T32_1682 : Type := (List D_Gate) → Int → Bool → Option R32_1682
noncomputable def u32_1682 (f : T32_1682) : (pa32_1682).C → Option (WayC pw32_1682) := fun (x : (((List D_Gate) × Int × Bool × Unit) × Unit)) => f x.1.1 x.1.2.1 x.1.2.2.1
noncomputable def l32_1682 (k : Nat) : T32_1682 := fun g0 i3 in4 =>
  cond (!in4)
    (ix g0 i3 fun e1 =>
    cond (decide (e1.1 < 0))
      (some ((true, ()), ()))
      (ix g0 i3 fun e2 =>
      cond (decide (e2.2.1 < 0))
        (some ((true, ()), ()))
        (ix g0 i3 fun e3 =>
        cond (decide (e3.1 > (w64 ((w64 (2 * i3)) + 1))))
          (some ((true, ()), ()))
          (ix g0 i3 fun e4 =>
          some (((decide (e4.2.1 > (w64 ((w64 (2 * i3)) + 1)))), ()), ())))))
    (some ((false, ()), ()))
noncomputable def pa32_26 : Shape := ⟨[.d (.slice T_Gate), .d i64], []⟩
noncomputable def pw32_26 : List Vm.Way := [⟨.exit 0, [], ⟨[], []⟩⟩, ⟨.ret, [2], ⟨[.d .bool], []⟩⟩]
abbrev R32_26 : Type := ((Unit × Unit) ⊕ ((Bool × Unit) × Unit))
abbrev T32_26 : Type := (List D_Gate) → Int → Option R32_26
noncomputable def u32_26 (f : T32_26) : (pa32_26).C → Option (WayC pw32_26) := fun (x : (((List D_Gate) × Int × Unit) × Unit)) => f x.1.1 x.1.2.1
noncomputable def b32_26 (k : Nat) (rec : T32_26) : T32_26 := fun g0 i3 =>
  cond (decide (i3 < (g0.length : Int)))
    (ix g0 i3 fun e1 =>
    cond (e1.1 == (-1))
      (ix g0 i3 fun e2 =>
      (l32_1682 k g0 i3 (e2.2.1 == (-1))).bind fun y3 =>
      cond y3.1.1
        (some (.inr ((false, ()), ())))
        ((rec g0 (w64 (i3 + 1))).bind fun y4 =>
        match y4 with
        | .inl y4_0 =>
          some (.inl ((), ()))
        | .inr y4_1 =>
          some (.inr ((y4_1.1.1, ()), ()))))
      ((l32_1682 k g0 i3 false).bind fun y5 =>
      cond y5.1.1
        (some (.inr ((false, ()), ())))
        ((rec g0 (w64 (i3 + 1))).bind fun y6 =>
        match y6 with
        | .inl y6_0 =>
          some (.inl ((), ()))
        | .inr y6_1 =>
          some (.inr ((y6_1.1.1, ()), ())))))
    (some (.inl ((), ())))
noncomputable def l32_26 (k : Nat) : Nat → T32_26
  | 0 => fun _ _ => none
  | j + 1 => b32_26 k (l32_26 k j)
noncomputable def f32 (k : Nat) : T32 := fun g0 =>
  (l32_26 k k g0 0).bind fun y1 =>
  match y1 with
  | .inl y1_0 =>
    some (((decide ((g0.length : Int) ≤ 1048576)), ()), ())
  | .inr y1_1 =>
    some ((y1_1.1.1, ()), ())
noncomputable def C32 (k : Nat) : Nat → Fun := mkC []
theorem c32_ok (k : Nat) : ∀ f, SoundFn Try.prog f (C32 k f) := mkC_nil
noncomputable def H32_1682 (k : Nat) : Nat → Option Cut := addH noH 1682 ⟨runCut (wrC (codeAt 1682 (bd Try.f32) 1682)) 68 [0, 3, 4] pa32_1682 pw32_1682 (u32_1682 (l32_1682 k))⟩
theorem e32_1682 (k : Nat) (x : (pa32_1682).C) : pieceF (C32 k) tt noH (codeAt 1682 (bd Try.f32) 1682) 1682 68 [0, 3, 4] pa32_1682 pw32_1682 x = u32_1682 (l32_1682 k) x := by kernel_rfl
theorem h32_1682_ok (k : Nat) : ∀ p S, H32_1682 k p = some S → ∀ c, At (bd Try.f32) p c → CutOk Try.prog c S :=
  have hC := c32_ok k
  addPiece hC ttOk (draw_ok hC ttOk mixed) noH_ok (fun x _ h => (e32_1682 k x).trans h)
noncomputable def H32_26 (k : Nat) : Nat → Option Cut := addH (H32_1682 k) 26 ⟨runCut (wrC (bodyOf (codeAt 26 (bd Try.f32) 26))) 68 [0, 3] pa32_26 pw32_26 (u32_26 (l32_26 k k))⟩
theorem e32_26 (k : Nat) (rec : T32_26) (x : (pa32_26).C) : roundF (C32 k) tt (H32_1682 k) (bodyOf (codeAt 26 (bd Try.f32) 26)) 52 68 [0, 3] pa32_26 pw32_26 (u32_26 rec) x = u32_26 (b32_26 k rec) x := by kernel_rfl
theorem h32_26_ok (k : Nat) : ∀ p S, H32_26 k p = some S → ∀ c, At (bd Try.f32) p c → CutOk Try.prog c S :=
  have hC := c32_ok k
  addLoop hC ttOk (draw_ok hC ttOk mixed) (h32_1682_ok k) (by kernel_rfl) (F := fun j => u32_26 (l32_26 k j)) (fun _ => rfl) (fun j x _ h => (e32_26 k (l32_26 k j) x).trans h) k
theorem e32 (k : Nat) (x : (a32).C) : bodyR (C32 k) tt (H32_26 k) Try.f32 a32 o32 x = u32 (f32 k) x := by kernel_rfl
theorem s32 (k : Nat) : SoundFn Try.prog 32 (F32 (f32 k)) :=
  have hC := c32_ok k
  fnR_sound hC ttOk (draw_ok hC ttOk mixed) Try.func32 (c0 := bd Try.f32) rfl (entry Try.func32 rfl (by decide)) (h32_26_ok k) rfl (fun x _ h => (e32 k x).trans h)
/-! f30 fathom/aig.Load (W) -/
noncomputable def a30 : Shape := ⟨[.d (.slice T_Gate)], []⟩
noncomputable def o30 : List Shape := [⟨[.nilp, .d i64], []⟩, ⟨[.ptr 0, .d i64], [.box [.own T_Gate, .mp 1], .map T_Gate i64]⟩]
abbrev R30 : Type := (((Unit × Int × Unit) × Unit) ⊕ ((Unit × Int × Unit) × (((List D_Gate) × Unit × Unit) × (List (D_Gate × Int)) × Unit)))
abbrev T30 : Type := (List D_Gate) → Option R30
noncomputable def u30 (f : T30) : (a30).C → Option (OutC o30) := fun (x : (((List D_Gate) × Unit) × Unit)) => f x.1.1
noncomputable def F30 (f : T30) : Fun := ⟨false, runW a30 o30 (u30 f)⟩
noncomputable def pa30_250 : Shape := ⟨[.ptr 0, .d (.slice T_Gate), .d i64, .d i64], [.box [.own T_Gate, .mp 1], .map T_Gate i64]⟩
noncomputable def pw30_250 : List Vm.Way := [⟨.exit 0, [], ⟨[], [.box [.own T_Gate, .mp 1], .map T_Gate i64]⟩⟩]
abbrev R30_250 : Type := (Unit × (((List D_Gate) × Unit × Unit) × (List (D_Gate × Int)) × Unit))
abbrev T30_250 : Type := (List D_Gate) → Int → Int → (List D_Gate) → (List (D_Gate × Int)) → Option R30_250
noncomputable def u30_250 (f : T30_250) : (pa30_250).C → Option (WayC pw30_250) := fun (x : ((Unit × (List D_Gate) × Int × Int × Unit) × (((List D_Gate) × Unit × Unit) × (List (D_Gate × Int)) × Unit))) => f x.1.2.1 x.1.2.2.1 x.1.2.2.2.1 x.2.1.1 x.2.2.1
noncomputable def b30_250 (k : Nat) (rec : T30_250) : T30_250 := fun t21 t22 t23 o0 o1 =>
  cond (decide (t23 < t22))
    (ix t21 t23 fun e1 =>
    (f88 k ()).bind fun y2 =>
    cond (!(beqD T_Gate e1 y2.1.1))
      (cond (!(mget T_Gate e1 o1).isSome)
        ((rec t21 t22 (w64 (t23 + 1)) o0 (mput T_Gate e1 (w64 (2 * (w64 (t23 + 1)))) o1)).bind fun y3 =>
        some ((), ((y3.2.1.1, (), ()), y3.2.2.1, ())))
        ((rec t21 t22 (w64 (t23 + 1)) o0 o1).bind fun y4 =>
        some ((), ((y4.2.1.1, (), ()), y4.2.2.1, ()))))
      ((rec t21 t22 (w64 (t23 + 1)) o0 o1).bind fun y5 =>
      some ((), ((y5.2.1.1, (), ()), y5.2.2.1, ()))))
    (some ((), ((o0, (), ()), o1, ())))
noncomputable def l30_250 (k : Nat) : Nat → T30_250
  | 0 => fun _ _ _ _ _ => none
  | j + 1 => b30_250 k (l30_250 k j)
noncomputable def f30 (k : Nat) : T30 := fun g0 =>
  (f33 k g0).bind fun y1 =>
  cond (y1.1.1 != 0)
    (some (.inl (((), y1.1.1, ()), ())))
    ((f38 k ()).bind fun y2 =>
    (f87 k g0).bind fun y3 =>
    (l30_250 k k g0 (g0.length : Int) 0 y3.1.1 y2.2.2.1).bind fun y4 =>
    some (.inr (((), 0, ()), ((y4.2.1.1, (), ()), y4.2.2.1, ()))))
noncomputable def C30 (k : Nat) : Nat → Fun := mkC [(33, (F33 (f33 k))), (38, (F38 (f38 k))), (87, (F87 (f87 k))), (88, (F88 (f88 k)))]
theorem c30_ok (k : Nat) : ∀ f, SoundFn Try.prog f (C30 k f) := (mkC_cons (s33 k) (mkC_cons (s38 k) (mkC_cons (s87 k) (mkC_cons (s88 k) mkC_nil))))
noncomputable def H30_250 (k : Nat) : Nat → Option Cut := addH noH 250 ⟨runCut (wrC (bodyOf (codeAt 250 (bd Try.f30) 250))) 54 [5, 21, 22, 23] pa30_250 pw30_250 (u30_250 (l30_250 k k))⟩
theorem e30_250 (k : Nat) (rec : T30_250) (x : (pa30_250).C) : roundF (C30 k) tt noH (bodyOf (codeAt 250 (bd Try.f30) 250)) 500 54 [5, 21, 22, 23] pa30_250 pw30_250 (u30_250 rec) x = u30_250 (b30_250 k rec) x := by kernel_rfl
theorem h30_250_ok (k : Nat) : ∀ p S, H30_250 k p = some S → ∀ c, At (bd Try.f30) p c → CutOk Try.prog c S :=
  have hC := c30_ok k
  addLoop hC ttOk (draw_ok hC ttOk mixed) noH_ok (by kernel_rfl) (F := fun j => u30_250 (l30_250 k j)) (fun _ => rfl) (fun j x _ h => (e30_250 k (l30_250 k j) x).trans h) k
theorem e30 (k : Nat) (x : (a30).C) : bodyW (C30 k) tt (H30_250 k) Try.f30 a30 o30 x = u30 (f30 k) x := by kernel_rfl
theorem s30 (k : Nat) : SoundFn Try.prog 30 (F30 (f30 k)) :=
  have hC := c30_ok k
  fnW_sound hC ttOk (draw_ok hC ttOk mixed) Try.func30 (c0 := bd Try.f30) rfl (entry Try.func30 rfl (by decide)) (h30_250_ok k) (fun x _ h => (e30 k x).trans h)
/-! f72 fathom/fathomlaw17.begin (W) -/
noncomputable def a72 : Shape := ⟨[.d (.slice T_Gate), .d (.slice i64)], []⟩
noncomputable def o72 : List Shape := [⟨[.nilp, .d .bool], []⟩, ⟨[.ptr 0, .d .bool], [.box [.own T_Gate, .mp 1], .map T_Gate i64]⟩]
abbrev R72 : Type := (((Unit × Bool × Unit) × Unit) ⊕ ((Unit × Bool × Unit) × (((List D_Gate) × Unit × Unit) × (List (D_Gate × Int)) × Unit)))
abbrev T72 : Type := (List D_Gate) → (List Int) → Option R72
noncomputable def u72 (f : T72) : (a72).C → Option (OutC o72) := fun (x : (((List D_Gate) × (List Int) × Unit) × Unit)) => f x.1.1 x.1.2.1
noncomputable def F72 (f : T72) : Fun := ⟨false, runW a72 o72 (u72 f)⟩
noncomputable def f72 (k : Nat) : T72 := fun g0 l1 =>
  cond (decide ((g0.length : Int) > 12))
    (some (.inl (((), false, ()), ())))
    (cond (decide ((l1.length : Int) > 100))
      (some (.inl (((), false, ()), ())))
      ((f32 k g0).bind fun y1 =>
      cond (!y1.1.1)
        (some (.inl (((), false, ()), ())))
        ((f30 k g0).bind fun y2 =>
        match y2 with
        | .inl y2_0 =>
          cond (y2_0.1.2.1 == 0)
            (some (.inl (((), false, ()), ())))
            (some (.inl (((), false, ()), ())))
        | .inr y2_1 =>
          cond (y2_1.1.2.1 == 0)
            (some (.inr (((), true, ()), ((y2_1.2.1.1, (), ()), y2_1.2.2.1, ()))))
            (some (.inr (((), false, ()), ((y2_1.2.1.1, (), ()), y2_1.2.2.1, ())))))))
noncomputable def C72 (k : Nat) : Nat → Fun := mkC [(30, (F30 (f30 k))), (32, (F32 (f32 k)))]
theorem c72_ok (k : Nat) : ∀ f, SoundFn Try.prog f (C72 k f) := (mkC_cons (s30 k) (mkC_cons (s32 k) mkC_nil))
theorem e72 (k : Nat) (x : (a72).C) : bodyW (C72 k) tt noH Try.f72 a72 o72 x = u72 (f72 k) x := by kernel_rfl
theorem s72 (k : Nat) : SoundFn Try.prog 72 (F72 (f72 k)) :=
  have hC := c72_ok k
  fnW_sound hC ttOk (draw_ok hC ttOk mixed) Try.func72 (c0 := bd Try.f72) rfl (entry Try.func72 rfl (by decide)) noH_ok (fun x _ h => (e72 k x).trans h)
/-! f24v2 (*fathom/aig.Aig).Is (R) -/
noncomputable def a24v2 : Shape := ⟨[.nilp, .d i64], []⟩
noncomputable def o24v2 : List Shape := [⟨[.d .bool], []⟩]
abbrev R24v2 : Type := ((Bool × Unit) × Unit)
abbrev T24v2 : Type := Int → Option R24v2
noncomputable def u24v2 (f : T24v2) : (a24v2).C → Option (OutC o24v2) := fun (x : ((Unit × Int × Unit) × Unit)) => f x.1.2.1
noncomputable def F24v2 (f : T24v2) : Fun := ⟨true, runR a24v2 o24v2 (u24v2 f)⟩
noncomputable def f24v2 (k : Nat) : T24v2 := fun l1 =>
  some ((false, ()), ())
noncomputable def C24v2 (k : Nat) : Nat → Fun := mkC []
theorem c24v2_ok (k : Nat) : ∀ f, SoundFn Try.prog f (C24v2 k f) := mkC_nil
theorem e24v2 (k : Nat) (x : (a24v2).C) : bodyR (C24v2 k) tt noH Try.f24 a24v2 o24v2 x = u24v2 (f24v2 k) x := by kernel_rfl
theorem s24v2 (k : Nat) : SoundFn Try.prog 24 (F24v2 (f24v2 k)) :=
  have hC := c24v2_ok k
  fnR_sound hC ttOk (draw_ok hC ttOk mixed) Try.func24 (c0 := bd Try.f24) rfl (entry Try.func24 rfl (by decide)) noH_ok rfl (fun x _ h => (e24v2 k x).trans h)
/-! f116v2 fathom/card.may$1 (R) -/
noncomputable def a116v2 : Shape := ⟨[.d i64, .ptr 0], [.box [.nilp]]⟩
noncomputable def o116v2 : List Shape := [⟨[.d .bool], []⟩]
abbrev R116v2 : Type := ((Bool × Unit) × Unit)
abbrev T116v2 : Type := Int → Option R116v2
noncomputable def u116v2 (f : T116v2) : (a116v2).C → Option (OutC o116v2) := fun (x : ((Int × Unit × Unit) × ((Unit × Unit) × Unit))) => f x.1.1
noncomputable def F116v2 (f : T116v2) : Fun := ⟨true, runR a116v2 o116v2 (u116v2 f)⟩
noncomputable def f116v2 (k : Nat) : T116v2 := fun a0 =>
  (f24v2 k a0).bind fun y1 =>
  some (((!y1.1.1), ()), ())
noncomputable def C116v2 (k : Nat) : Nat → Fun := mkC [(24, (F24v2 (f24v2 k)))]
theorem c116v2_ok (k : Nat) : ∀ f, SoundFn Try.prog f (C116v2 k f) := (mkC_cons (s24v2 k) mkC_nil)
theorem e116v2 (k : Nat) (x : (a116v2).C) : bodyR (C116v2 k) tt noH Try.f116 a116v2 o116v2 x = u116v2 (f116v2 k) x := by kernel_rfl
theorem s116v2 (k : Nat) : SoundFn Try.prog 116 (F116v2 (f116v2 k)) :=
  have hC := c116v2_ok k
  fnR_sound hC ttOk (draw_ok hC ttOk mixed) Try.func116 (c0 := bd Try.f116) rfl (entry Try.func116 rfl (by decide)) noH_ok rfl (fun x _ h => (e116v2 k x).trans h)
/-! f113v3 slices.IndexFunc[[]int,int] (R) -/
noncomputable def a113v3 : Shape := ⟨[.d (.slice i64), .fn 116 [0]], [.box [.nilp]]⟩
noncomputable def o113v3 : List Shape := [⟨[.d i64], []⟩]
abbrev R113v3 : Type := ((Int × Unit) × Unit)
abbrev T113v3 : Type := (List Int) → Option R113v3
noncomputable def u113v3 (f : T113v3) : (a113v3).C → Option (OutC o113v3) := fun (x : (((List Int) × Unit × Unit) × ((Unit × Unit) × Unit))) => f x.1.1
noncomputable def F113v3 (f : T113v3) : Fun := ⟨true, runR a113v3 o113v3 (u113v3 f)⟩
noncomputable def pa113v3_26 : Shape := ⟨[.d (.slice i64), .fn 116 [0], .d i64, .d i64], [.lk (.box [.nilp])]⟩
noncomputable def pw113v3_26 : List Vm.Way := [⟨.exit 0, [], ⟨[], [.any]⟩⟩, ⟨.ret, [4], ⟨[.d i64], [.any]⟩⟩]
abbrev R113v3_26 : Type := ((Unit × (Unit × Unit)) ⊕ ((Int × Unit) × (Unit × Unit)))
abbrev T113v3_26 : Type := (List Int) → Int → Int → Option R113v3_26
noncomputable def u113v3_26 (f : T113v3_26) : (pa113v3_26).C → Option (WayC pw113v3_26) := fun (x : (((List Int) × Unit × Int × Int × Unit) × ((Unit × Unit) × Unit))) => f x.1.1 x.1.2.2.1 x.1.2.2.2.1
noncomputable def b113v3_26 (k : Nat) (rec : T113v3_26) : T113v3_26 := fun s0 t7 t8 =>
  cond (decide (t8 < t7))
    (ix s0 t8 fun e1 =>
    (f116v2 k e1).bind fun y2 =>
    cond y2.1.1
      (some (.inr ((t8, ()), ((), ()))))
      ((rec s0 t7 (w64 (t8 + 1))).bind fun y3 =>
      match y3 with
      | .inl y3_0 =>
        some (.inl ((), ((), ())))
      | .inr y3_1 =>
        some (.inr ((y3_1.1.1, ()), ((), ())))))
    (some (.inl ((), ((), ()))))
noncomputable def l113v3_26 (k : Nat) : Nat → T113v3_26
  | 0 => fun _ _ _ => none
  | j + 1 => b113v3_26 k (l113v3_26 k j)
noncomputable def f113v3 (k : Nat) : T113v3 := fun s0 =>
  (l113v3_26 k k s0 (s0.length : Int) 0).bind fun y1 =>
  match y1 with
  | .inl y1_0 =>
    some (((-1), ()), ())
  | .inr y1_1 =>
    some ((y1_1.1.1, ()), ())
noncomputable def C113v3 (k : Nat) : Nat → Fun := mkC [(116, (F116v2 (f116v2 k)))]
theorem c113v3_ok (k : Nat) : ∀ f, SoundFn Try.prog f (C113v3 k f) := (mkC_cons (s116v2 k) mkC_nil)
noncomputable def H113v3_26 (k : Nat) : Nat → Option Cut := addH noH 26 ⟨runCut (wrC (bodyOf (codeAt 26 (bd Try.f113) 26))) 19 [0, 1, 7, 8] pa113v3_26 pw113v3_26 (u113v3_26 (l113v3_26 k k))⟩
theorem e113v3_26 (k : Nat) (rec : T113v3_26) (x : (pa113v3_26).C) : roundF (C113v3 k) tt noH (bodyOf (codeAt 26 (bd Try.f113) 26)) 52 19 [0, 1, 7, 8] pa113v3_26 pw113v3_26 (u113v3_26 rec) x = u113v3_26 (b113v3_26 k rec) x := by kernel_rfl
theorem h113v3_26_ok (k : Nat) : ∀ p S, H113v3_26 k p = some S → ∀ c, At (bd Try.f113) p c → CutOk Try.prog c S :=
  have hC := c113v3_ok k
  addLoop hC ttOk (draw_ok hC ttOk mixed) noH_ok (by kernel_rfl) (F := fun j => u113v3_26 (l113v3_26 k j)) (fun _ => rfl) (fun j x _ h => (e113v3_26 k (l113v3_26 k j) x).trans h) k
theorem e113v3 (k : Nat) (x : (a113v3).C) : bodyR (C113v3 k) tt (H113v3_26 k) Try.f113 a113v3 o113v3 x = u113v3 (f113v3 k) x := by kernel_rfl
theorem s113v3 (k : Nat) : SoundFn Try.prog 113 (F113v3 (f113v3 k)) :=
  have hC := c113v3_ok k
  fnR_sound hC ttOk (draw_ok hC ttOk mixed) Try.func113 (c0 := bd Try.f113) rfl (entry Try.func113 rfl (by decide)) (h113v3_26_ok k) rfl (fun x _ h => (e113v3 k x).trans h)
/-! f106v3 slices.ContainsFunc[[]int,int] (R) -/
noncomputable def a106v3 : Shape := ⟨[.d (.slice i64), .fn 116 [0]], [.box [.nilp]]⟩
noncomputable def o106v3 : List Shape := [⟨[.d .bool], []⟩]
abbrev R106v3 : Type := ((Bool × Unit) × Unit)
abbrev T106v3 : Type := (List Int) → Option R106v3
noncomputable def u106v3 (f : T106v3) : (a106v3).C → Option (OutC o106v3) := fun (x : (((List Int) × Unit × Unit) × ((Unit × Unit) × Unit))) => f x.1.1
noncomputable def F106v3 (f : T106v3) : Fun := ⟨true, runR a106v3 o106v3 (u106v3 f)⟩
noncomputable def f106v3 (k : Nat) : T106v3 := fun s0 =>
  (f113v3 k s0).bind fun y1 =>
  some (((decide (y1.1.1 ≥ 0)), ()), ())
noncomputable def C106v3 (k : Nat) : Nat → Fun := mkC [(113, (F113v3 (f113v3 k)))]
theorem c106v3_ok (k : Nat) : ∀ f, SoundFn Try.prog f (C106v3 k f) := (mkC_cons (s113v3 k) mkC_nil)
theorem e106v3 (k : Nat) (x : (a106v3).C) : bodyR (C106v3 k) tt noH Try.f106 a106v3 o106v3 x = u106v3 (f106v3 k) x := by kernel_rfl
theorem s106v3 (k : Nat) : SoundFn Try.prog 106 (F106v3 (f106v3 k)) :=
  have hC := c106v3_ok k
  fnR_sound hC ttOk (draw_ok hC ttOk mixed) Try.func106 (c0 := bd Try.f106) rfl (entry Try.func106 rfl (by decide)) noH_ok rfl (fun x _ h => (e106v3 k x).trans h)
/-! f109v2 fathom/card.may (R) -/
noncomputable def a109v2 : Shape := ⟨[.nilp, .d (.slice i64)], []⟩
noncomputable def o109v2 : List Shape := [⟨[.d .bool], []⟩]
abbrev R109v2 : Type := ((Bool × Unit) × Unit)
abbrev T109v2 : Type := (List Int) → Option R109v2
noncomputable def u109v2 (f : T109v2) : (a109v2).C → Option (OutC o109v2) := fun (x : ((Unit × (List Int) × Unit) × Unit)) => f x.1.2.1
noncomputable def F109v2 (f : T109v2) : Fun := ⟨true, runR a109v2 o109v2 (u109v2 f)⟩
noncomputable def f109v2 (k : Nat) : T109v2 := fun l1 =>
  (f24v2 k 0).bind fun y1 =>
  cond y1.1.1
    (cond (decide ((l1.length : Int) ≤ 64))
      ((f106v3 k l1).bind fun y2 =>
      some (((!y2.1.1), ()), ()))
      (some ((false, ()), ())))
    (some ((false, ()), ()))
noncomputable def C109v2 (k : Nat) : Nat → Fun := mkC [(24, (F24v2 (f24v2 k))), (106, (F106v3 (f106v3 k)))]
theorem c109v2_ok (k : Nat) : ∀ f, SoundFn Try.prog f (C109v2 k f) := (mkC_cons (s24v2 k) (mkC_cons (s106v3 k) mkC_nil))
theorem e109v2 (k : Nat) (x : (a109v2).C) : bodyR (C109v2 k) tt noH Try.f109 a109v2 o109v2 x = u109v2 (f109v2 k) x := by kernel_rfl
theorem s109v2 (k : Nat) : SoundFn Try.prog 109 (F109v2 (f109v2 k)) :=
  have hC := c109v2_ok k
  fnR_sound hC ttOk (draw_ok hC ttOk mixed) Try.func109 (c0 := bd Try.f109) rfl (entry Try.func109 rfl (by decide)) noH_ok rfl (fun x _ h => (e109v2 k x).trans h)
/-! f102v2 slices.Clone[[]int,int] (R) -/
noncomputable def a102v2 : Shape := ⟨[.nils], []⟩
noncomputable def o102v2 : List Shape := [⟨[.d (.slice i64)], []⟩]
abbrev R102v2 : Type := (((List Int) × Unit) × Unit)
abbrev T102v2 : Type := Unit → Option R102v2
noncomputable def u102v2 (f : T102v2) : (a102v2).C → Option (OutC o102v2) := fun (x : ((Unit × Unit) × Unit)) => f ()
noncomputable def F102v2 (f : T102v2) : Fun := ⟨true, runR a102v2 o102v2 (u102v2 f)⟩
noncomputable def f102v2 (k : Nat) : T102v2 := fun _ =>
  some (([], ()), ())
noncomputable def C102v2 (k : Nat) : Nat → Fun := mkC []
theorem c102v2_ok (k : Nat) : ∀ f, SoundFn Try.prog f (C102v2 k f) := mkC_nil
theorem e102v2 (k : Nat) (x : (a102v2).C) : bodyR (C102v2 k) tt noH Try.f102 a102v2 o102v2 x = u102v2 (f102v2 k) x := by kernel_rfl
theorem s102v2 (k : Nat) : SoundFn Try.prog 102 (F102v2 (f102v2 k)) :=
  have hC := c102v2_ok k
  fnR_sound hC ttOk (draw_ok hC ttOk mixed) Try.func102 (c0 := bd Try.f102) rfl (entry Try.func102 rfl (by decide)) noH_ok rfl (fun x _ h => (e102v2 k x).trans h)
/-! f102v3 slices.Clone[[]int,int] (R) -/
noncomputable def a102v3 : Shape := ⟨[.nn i64], []⟩
noncomputable def o102v3 : List Shape := [⟨[.d (.slice i64)], []⟩]
abbrev R102v3 : Type := (((List Int) × Unit) × Unit)
abbrev T102v3 : Type := (List Int) → Option R102v3
noncomputable def u102v3 (f : T102v3) : (a102v3).C → Option (OutC o102v3) := fun (x : (((List Int) × Unit) × Unit)) => f x.1.1
noncomputable def F102v3 (f : T102v3) : Fun := ⟨true, runR a102v3 o102v3 (u102v3 f)⟩
noncomputable def f102v3 (k : Nat) : T102v3 := fun s0 =>
  gd (decide ((0 + s0.length) * 8 ≤ room)) <|
  some (((([] : List Int) ++ s0), ()), ())
noncomputable def C102v3 (k : Nat) : Nat → Fun := mkC []
theorem c102v3_ok (k : Nat) : ∀ f, SoundFn Try.prog f (C102v3 k f) := mkC_nil
theorem e102v3 (k : Nat) (x : (a102v3).C) : bodyR (C102v3 k) tt noH Try.f102 a102v3 o102v3 x = u102v3 (f102v3 k) x := by kernel_rfl
theorem s102v3 (k : Nat) : SoundFn Try.prog 102 (F102v3 (f102v3 k)) :=
  have hC := c102v3_ok k
  fnR_sound hC ttOk (draw_ok hC ttOk mixed) Try.func102 (c0 := bd Try.f102) rfl (entry Try.func102 rfl (by decide)) noH_ok rfl (fun x _ h => (e102v3 k x).trans h)
/-! f102 slices.Clone[[]int,int] (R) -/
noncomputable def a102 : Shape := ⟨[.d (.slice i64)], []⟩
noncomputable def o102 : List Shape := [⟨[.d (.slice i64)], []⟩]
abbrev R102 : Type := (((List Int) × Unit) × Unit)
abbrev T102 : Type := (List Int) → Option R102
noncomputable def u102 (f : T102) : (a102).C → Option (OutC o102) := fun (x : (((List Int) × Unit) × Unit)) => f x.1.1
noncomputable def F102 (f : T102) : Fun := ⟨true, runR a102 o102 (u102 f)⟩
noncomputable def f102 (k : Nat) : T102 := fun s0 => f102v3 k s0
theorem s102 (k : Nat) : SoundFn Try.prog 102 (F102 (f102 k)) := splitR (s102v2 k) (s102v3 k) (fun xs y h => ⟨h, fun e => by subst e; exact (show u102v2 (f102v2 k) (((), ()), ()) = u102v3 (f102v3 k) (([], ()), ()) from by kernel_rfl).trans h⟩)
/-! f73 fathom/card.One (R) -/
noncomputable def a73 : Shape := ⟨[.nilp, .d (.slice i64)], []⟩
noncomputable def o73 : List Shape := [⟨[.d (.slice (.slice i64))], []⟩]
abbrev R73 : Type := (((List (List Int)) × Unit) × Unit)
abbrev T73 : Type := (List Int) → Option R73
noncomputable def u73 (f : T73) : (a73).C → Option (OutC o73) := fun (x : ((Unit × (List Int) × Unit) × Unit)) => f x.1.2.1
noncomputable def F73 (f : T73) : Fun := ⟨true, runR a73 o73 (u73 f)⟩
noncomputable def pa73_31334 : Shape := ⟨[.own (.slice i64), .d i64, .d (.slice i64), .d i64, .d i64], []⟩
noncomputable def pw73_31334 : List Vm.Way := [⟨.exit 2, [5], ⟨[.own (.slice i64)], []⟩⟩]
abbrev R73_31334 : Type := (((List (List Int)) × Unit) × Unit)
abbrev T73_31334 : Type := (List (List Int)) → Int → (List Int) → Int → Int → Option R73_31334
noncomputable def u73_31334 (f : T73_31334) : (pa73_31334).C → Option (WayC pw73_31334) := fun (x : (((List (List Int)) × Int × (List Int) × Int × Int × Unit) × Unit)) => f x.1.1 x.1.2.1 x.1.2.2.1 x.1.2.2.2.1 x.1.2.2.2.2.1
noncomputable def b73_31334 (k : Nat) (rec : T73_31334) : T73_31334 := fun out5 a7 t26 t27 t28 =>
  cond (decide (t28 < t27))
    (ix t26 t28 fun e1 =>
    gd (decide ((out5.length + 1) * 24 ≤ room)) <|
    (rec (out5 ++ ([[(ibits .xor .i64 a7 1), (ibits .xor .i64 e1 1)]] : List (List Int))) a7 t26 t27 (w64 (t28 + 1))).bind fun y2 =>
    some ((y2.1.1, ()), ()))
    (some ((out5, ()), ()))
noncomputable def l73_31334 (k : Nat) : Nat → T73_31334
  | 0 => fun _ _ _ _ _ => none
  | j + 1 => b73_31334 k (l73_31334 k j)
noncomputable def pa73_122 : Shape := ⟨[.d (.slice i64), .own (.slice i64), .d (.slice i64), .d i64, .d i64], []⟩
noncomputable def pw73_122 : List Vm.Way := [⟨.exit 0, [5], ⟨[.own (.slice i64)], []⟩⟩]
abbrev R73_122 : Type := (((List (List Int)) × Unit) × Unit)
abbrev T73_122 : Type := (List Int) → (List (List Int)) → (List Int) → Int → Int → Option R73_122
noncomputable def u73_122 (f : T73_122) : (pa73_122).C → Option (WayC pw73_122) := fun (x : (((List Int) × (List (List Int)) × (List Int) × Int × Int × Unit) × Unit)) => f x.1.1 x.1.2.1 x.1.2.2.1 x.1.2.2.2.1 x.1.2.2.2.2.1
noncomputable def b73_122 (k : Nat) (rec : T73_122) : T73_122 := fun l1 out5 t17 t18 t19 =>
  cond (decide (t19 < t18))
    (ix t17 t19 fun e1 =>
    gd (decide (0 ≤ t19)) <|
    gd (decide (t19.toNat ≤ l1.length)) <|
    (l73_31334 k k out5 e1 ((l1.take t19.toNat).drop 0) (((l1.take t19.toNat).drop 0).length : Int) 0).bind fun y2 =>
    (rec l1 y2.1.1 t17 t18 (w64 (t19 + 1))).bind fun y3 =>
    some ((y3.1.1, ()), ()))
    (some ((out5, ()), ()))
noncomputable def l73_122 (k : Nat) : Nat → T73_122
  | 0 => fun _ _ _ _ _ => none
  | j + 1 => b73_122 k (l73_122 k j)
noncomputable def f73 (k : Nat) : T73 := fun l1 =>
  (f109v2 k l1).bind fun y1 =>
  cond (!y1.1.1)
    (some (([], ()), ()))
    ((f102 k l1).bind fun y2 =>
    (l73_122 k k l1 [y2.1.1] l1 (l1.length : Int) 0).bind fun y3 =>
    some ((y3.1.1, ()), ()))
noncomputable def C73 (k : Nat) : Nat → Fun := mkC [(102, (F102 (f102 k))), (109, (F109v2 (f109v2 k)))]
theorem c73_ok (k : Nat) : ∀ f, SoundFn Try.prog f (C73 k f) := (mkC_cons (s102 k) (mkC_cons (s109v2 k) mkC_nil))
noncomputable def H73_31334 (k : Nat) : Nat → Option Cut := addH noH 31334 ⟨runCut (wrC (bodyOf (codeAt 31334 (bd Try.f73) 31334))) 43 [5, 7, 26, 27, 28] pa73_31334 pw73_31334 (u73_31334 (l73_31334 k k))⟩
theorem e73_31334 (k : Nat) (rec : T73_31334) (x : (pa73_31334).C) : roundF (C73 k) tt noH (bodyOf (codeAt 31334 (bd Try.f73) 31334)) 62668 43 [5, 7, 26, 27, 28] pa73_31334 pw73_31334 (u73_31334 rec) x = u73_31334 (b73_31334 k rec) x := by kernel_rfl
theorem h73_31334_ok (k : Nat) : ∀ p S, H73_31334 k p = some S → ∀ c, At (bd Try.f73) p c → CutOk Try.prog c S :=
  have hC := c73_ok k
  addLoop hC ttOk (draw_ok hC ttOk mixed) noH_ok (by kernel_rfl) (F := fun j => u73_31334 (l73_31334 k j)) (fun _ => rfl) (fun j x _ h => (e73_31334 k (l73_31334 k j) x).trans h) k
noncomputable def H73_122 (k : Nat) : Nat → Option Cut := addH (H73_31334 k) 122 ⟨runCut (wrC (bodyOf (codeAt 122 (bd Try.f73) 122))) 43 [1, 5, 17, 18, 19] pa73_122 pw73_122 (u73_122 (l73_122 k k))⟩
theorem e73_122 (k : Nat) (rec : T73_122) (x : (pa73_122).C) : roundF (C73 k) tt (H73_31334 k) (bodyOf (codeAt 122 (bd Try.f73) 122)) 244 43 [1, 5, 17, 18, 19] pa73_122 pw73_122 (u73_122 rec) x = u73_122 (b73_122 k rec) x := by kernel_rfl
theorem h73_122_ok (k : Nat) : ∀ p S, H73_122 k p = some S → ∀ c, At (bd Try.f73) p c → CutOk Try.prog c S :=
  have hC := c73_ok k
  addLoop hC ttOk (draw_ok hC ttOk mixed) (h73_31334_ok k) (by kernel_rfl) (F := fun j => u73_122 (l73_122 k j)) (fun _ => rfl) (fun j x _ h => (e73_122 k (l73_122 k j) x).trans h) k
theorem e73 (k : Nat) (x : (a73).C) : bodyR (C73 k) tt (H73_122 k) Try.f73 a73 o73 x = u73 (f73 k) x := by kernel_rfl
theorem s73 (k : Nat) : SoundFn Try.prog 73 (F73 (f73 k)) :=
  have hC := c73_ok k
  fnR_sound hC ttOk (draw_ok hC ttOk mixed) Try.func73 (c0 := bd Try.f73) rfl (entry Try.func73 rfl (by decide)) (h73_122_ok k) rfl (fun x _ h => (e73 k x).trans h)
/-! f73v2 fathom/card.One (R) -/
noncomputable def a73v2 : Shape := ⟨[.ptr 0, .d (.slice i64)], [.box [.d (.slice T_Gate), .mp 1], .map T_Gate i64]⟩
noncomputable def o73v2 : List Shape := [⟨[.d (.slice (.slice i64))], []⟩]
abbrev R73v2 : Type := (((List (List Int)) × Unit) × Unit)
abbrev T73v2 : Type := (List Int) → (List D_Gate) → (List (D_Gate × Int)) → Option R73v2
noncomputable def u73v2 (f : T73v2) : (a73v2).C → Option (OutC o73v2) := fun (x : ((Unit × (List Int) × Unit) × (((List D_Gate) × Unit × Unit) × (List (D_Gate × Int)) × Unit))) => f x.1.2.1 x.2.1.1 x.2.2.1
noncomputable def F73v2 (f : T73v2) : Fun := ⟨true, runR a73v2 o73v2 (u73v2 f)⟩
noncomputable def pa73v2_31334 : Shape := ⟨[.own (.slice i64), .d i64, .d (.slice i64), .d i64, .d i64], []⟩
noncomputable def pw73v2_31334 : List Vm.Way := [⟨.exit 2, [5], ⟨[.own (.slice i64)], []⟩⟩]
abbrev R73v2_31334 : Type := (((List (List Int)) × Unit) × Unit)
abbrev T73v2_31334 : Type := (List (List Int)) → Int → (List Int) → Int → Int → Option R73v2_31334
noncomputable def u73v2_31334 (f : T73v2_31334) : (pa73v2_31334).C → Option (WayC pw73v2_31334) := fun (x : (((List (List Int)) × Int × (List Int) × Int × Int × Unit) × Unit)) => f x.1.1 x.1.2.1 x.1.2.2.1 x.1.2.2.2.1 x.1.2.2.2.2.1
noncomputable def b73v2_31334 (k : Nat) (rec : T73v2_31334) : T73v2_31334 := fun out5 a7 t26 t27 t28 =>
  cond (decide (t28 < t27))
    (ix t26 t28 fun e1 =>
    gd (decide ((out5.length + 1) * 24 ≤ room)) <|
    (rec (out5 ++ ([[(ibits .xor .i64 a7 1), (ibits .xor .i64 e1 1)]] : List (List Int))) a7 t26 t27 (w64 (t28 + 1))).bind fun y2 =>
    some ((y2.1.1, ()), ()))
    (some ((out5, ()), ()))
noncomputable def l73v2_31334 (k : Nat) : Nat → T73v2_31334
  | 0 => fun _ _ _ _ _ => none
  | j + 1 => b73v2_31334 k (l73v2_31334 k j)
noncomputable def pa73v2_122 : Shape := ⟨[.d (.slice i64), .own (.slice i64), .d (.slice i64), .d i64, .d i64], []⟩
noncomputable def pw73v2_122 : List Vm.Way := [⟨.exit 0, [5], ⟨[.own (.slice i64)], []⟩⟩]
abbrev R73v2_122 : Type := (((List (List Int)) × Unit) × Unit)
abbrev T73v2_122 : Type := (List Int) → (List (List Int)) → (List Int) → Int → Int → Option R73v2_122
noncomputable def u73v2_122 (f : T73v2_122) : (pa73v2_122).C → Option (WayC pw73v2_122) := fun (x : (((List Int) × (List (List Int)) × (List Int) × Int × Int × Unit) × Unit)) => f x.1.1 x.1.2.1 x.1.2.2.1 x.1.2.2.2.1 x.1.2.2.2.2.1
noncomputable def b73v2_122 (k : Nat) (rec : T73v2_122) : T73v2_122 := fun l1 out5 t17 t18 t19 =>
  cond (decide (t19 < t18))
    (ix t17 t19 fun e1 =>
    gd (decide (0 ≤ t19)) <|
    gd (decide (t19.toNat ≤ l1.length)) <|
    (l73v2_31334 k k out5 e1 ((l1.take t19.toNat).drop 0) (((l1.take t19.toNat).drop 0).length : Int) 0).bind fun y2 =>
    (rec l1 y2.1.1 t17 t18 (w64 (t19 + 1))).bind fun y3 =>
    some ((y3.1.1, ()), ()))
    (some ((out5, ()), ()))
noncomputable def l73v2_122 (k : Nat) : Nat → T73v2_122
  | 0 => fun _ _ _ _ _ => none
  | j + 1 => b73v2_122 k (l73v2_122 k j)
noncomputable def f73v2 (k : Nat) : T73v2 := fun l1 o0 o1 =>
  (f109 k l1 o0 o1).bind fun y1 =>
  cond (!y1.1.1)
    (some (([], ()), ()))
    ((f102 k l1).bind fun y2 =>
    (l73v2_122 k k l1 [y2.1.1] l1 (l1.length : Int) 0).bind fun y3 =>
    some ((y3.1.1, ()), ()))
noncomputable def C73v2 (k : Nat) : Nat → Fun := mkC [(102, (F102 (f102 k))), (109, (F109 (f109 k)))]
theorem c73v2_ok (k : Nat) : ∀ f, SoundFn Try.prog f (C73v2 k f) := (mkC_cons (s102 k) (mkC_cons (s109 k) mkC_nil))
noncomputable def H73v2_31334 (k : Nat) : Nat → Option Cut := addH noH 31334 ⟨runCut (wrC (bodyOf (codeAt 31334 (bd Try.f73) 31334))) 43 [5, 7, 26, 27, 28] pa73v2_31334 pw73v2_31334 (u73v2_31334 (l73v2_31334 k k))⟩
theorem e73v2_31334 (k : Nat) (rec : T73v2_31334) (x : (pa73v2_31334).C) : roundF (C73v2 k) tt noH (bodyOf (codeAt 31334 (bd Try.f73) 31334)) 62668 43 [5, 7, 26, 27, 28] pa73v2_31334 pw73v2_31334 (u73v2_31334 rec) x = u73v2_31334 (b73v2_31334 k rec) x := by kernel_rfl
theorem h73v2_31334_ok (k : Nat) : ∀ p S, H73v2_31334 k p = some S → ∀ c, At (bd Try.f73) p c → CutOk Try.prog c S :=
  have hC := c73v2_ok k
  addLoop hC ttOk (draw_ok hC ttOk mixed) noH_ok (by kernel_rfl) (F := fun j => u73v2_31334 (l73v2_31334 k j)) (fun _ => rfl) (fun j x _ h => (e73v2_31334 k (l73v2_31334 k j) x).trans h) k
noncomputable def H73v2_122 (k : Nat) : Nat → Option Cut := addH (H73v2_31334 k) 122 ⟨runCut (wrC (bodyOf (codeAt 122 (bd Try.f73) 122))) 43 [1, 5, 17, 18, 19] pa73v2_122 pw73v2_122 (u73v2_122 (l73v2_122 k k))⟩
theorem e73v2_122 (k : Nat) (rec : T73v2_122) (x : (pa73v2_122).C) : roundF (C73v2 k) tt (H73v2_31334 k) (bodyOf (codeAt 122 (bd Try.f73) 122)) 244 43 [1, 5, 17, 18, 19] pa73v2_122 pw73v2_122 (u73v2_122 rec) x = u73v2_122 (b73v2_122 k rec) x := by kernel_rfl
theorem h73v2_122_ok (k : Nat) : ∀ p S, H73v2_122 k p = some S → ∀ c, At (bd Try.f73) p c → CutOk Try.prog c S :=
  have hC := c73v2_ok k
  addLoop hC ttOk (draw_ok hC ttOk mixed) (h73v2_31334_ok k) (by kernel_rfl) (F := fun j => u73v2_122 (l73v2_122 k j)) (fun _ => rfl) (fun j x _ h => (e73v2_122 k (l73v2_122 k j) x).trans h) k
theorem e73v2 (k : Nat) (x : (a73v2).C) : bodyR (C73v2 k) tt (H73v2_122 k) Try.f73 a73v2 o73v2 x = u73v2 (f73v2 k) x := by kernel_rfl
theorem s73v2 (k : Nat) : SoundFn Try.prog 73 (F73v2 (f73v2 k)) :=
  have hC := c73v2_ok k
  fnR_sound hC ttOk (draw_ok hC ttOk mixed) Try.func73 (c0 := bd Try.f73) rfl (entry Try.func73 rfl (by decide)) (h73v2_122_ok k) rfl (fun x _ h => (e73v2 k x).trans h)
/-! f15 fathom/fathomlaw17.CardOne (R) -/
noncomputable def a15 : Shape := ⟨[.d (.slice T_Gate), .d (.slice .bool), .d (.slice i64)], []⟩
noncomputable def o15 : List Shape := [⟨[.d .bool], []⟩]
abbrev R15 : Type := ((Bool × Unit) × Unit)
abbrev T15 : Type := (List D_Gate) → (List Bool) → (List Int) → Option R15
noncomputable def u15 (f : T15) : (a15).C → Option (OutC o15) := fun (x : (((List D_Gate) × (List Bool) × (List Int) × Unit) × Unit)) => f x.1.1 x.1.2.1 x.1.2.2.1
noncomputable def F15 (f : T15) : Fun := ⟨true, runR a15 o15 (u15 f)⟩
noncomputable def pa15_1018 : Shape := ⟨[.d (.slice T_Gate), .d (.slice .bool), .d (.slice (.slice i64)), .d .bool, .d i64], []⟩
noncomputable def pw15_1018 : List Vm.Way := [⟨.exit 0, [10], ⟨[.d .bool], []⟩⟩]
abbrev R15_1018 : Type := ((Bool × Unit) × Unit)
abbrev T15_1018 : Type := (List D_Gate) → (List Bool) → (List (List Int)) → Bool → Int → Option R15_1018
noncomputable def u15_1018 (f : T15_1018) : (pa15_1018).C → Option (WayC pw15_1018) := fun (x : (((List D_Gate) × (List Bool) × (List (List Int)) × Bool × Int × Unit) × Unit)) => f x.1.1 x.1.2.1 x.1.2.2.1 x.1.2.2.2.1 x.1.2.2.2.2.1
noncomputable def b15_1018 (k : Nat) (rec : T15_1018) : T15_1018 := fun g0 ins1 c9 all10 i11 =>
  cond (decide (i11 < (c9.length : Int)))
    (cond all10
      (ix c9 i11 fun e1 =>
      (f75 k g0 ins1 e1).bind fun y2 =>
      (rec g0 ins1 c9 (decide (y2.1.1 > 0)) (w64 (i11 + 1))).bind fun y3 =>
      some ((y3.1.1, ()), ()))
      ((rec g0 ins1 c9 false (w64 (i11 + 1))).bind fun y4 =>
      some ((y4.1.1, ()), ())))
    (some ((all10, ()), ()))
noncomputable def l15_1018 (k : Nat) : Nat → T15_1018
  | 0 => fun _ _ _ _ _ => none
  | j + 1 => b15_1018 k (l15_1018 k j)
noncomputable def pa15_30s0 : Shape := ⟨[.d (.slice i64), .nilp], []⟩
noncomputable def pw15_30s0 : List Vm.Way := [⟨.normal, [9], ⟨[.d (.slice (.slice i64))], []⟩⟩]
abbrev R15_30s0 : Type := (((List (List Int)) × Unit) × Unit)
abbrev T15_30s0 : Type := (List Int) → Option R15_30s0
noncomputable def u15_30s0 (f : T15_30s0) : (pa15_30s0).C → Option (WayC pw15_30s0) := fun (x : (((List Int) × Unit × Unit) × Unit)) => f x.1.1
noncomputable def pa15_30s1 : Shape := ⟨[.d (.slice i64), .ptr 0], [.box [.own T_Gate, .mp 1], .map T_Gate i64]⟩
noncomputable def pw15_30s1 : List Vm.Way := [⟨.normal, [9], ⟨[.d (.slice (.slice i64))], [.box [.own T_Gate, .mp 1], .map T_Gate i64]⟩⟩]
abbrev R15_30s1 : Type := (((List (List Int)) × Unit) × (((List D_Gate) × Unit × Unit) × (List (D_Gate × Int)) × Unit))
abbrev T15_30s1 : Type := (List Int) → (List D_Gate) → (List (D_Gate × Int)) → Option R15_30s1
noncomputable def u15_30s1 (f : T15_30s1) : (pa15_30s1).C → Option (WayC pw15_30s1) := fun (x : (((List Int) × Unit × Unit) × (((List D_Gate) × Unit × Unit) × (List (D_Gate × Int)) × Unit))) => f x.1.1 x.2.1.1 x.2.2.1
noncomputable def l15_30s0 (k : Nat) : T15_30s0 := fun l2 =>
  (f73 k l2).bind fun y1 =>
  some ((y1.1.1, ()), ())
noncomputable def l15_30s1 (k : Nat) : T15_30s1 := fun l2 o0 o1 =>
  (f73v2 k l2 o0 o1).bind fun y1 =>
  some ((y1.1.1, ()), ((o0, (), ()), o1, ()))
noncomputable def pa15_28 : Shape := ⟨[.d .bool], []⟩
noncomputable def pw15_28 : List Vm.Way := [⟨.normal, [19], ⟨[.d .bool], []⟩⟩]
abbrev R15_28 : Type := ((Bool × Unit) × Unit)
abbrev T15_28 : Type := Bool → Option R15_28
noncomputable def u15_28 (f : T15_28) : (pa15_28).C → Option (WayC pw15_28) := fun (x : ((Bool × Unit) × Unit)) => f x.1.1
noncomputable def l15_28 (k : Nat) : T15_28 := fun ok8 =>
  some (((!ok8), ()), ())
noncomputable def pa15_14 : Shape := ⟨[.d .bool], []⟩
noncomputable def pw15_14 : List Vm.Way := [⟨.normal, [], ⟨[], []⟩⟩, ⟨.ret, [6], ⟨[.d .bool], []⟩⟩]
abbrev R15_14 : Type := ((Unit × Unit) ⊕ ((Bool × Unit) × Unit))
abbrev T15_14 : Type := Bool → Option R15_14
noncomputable def u15_14 (f : T15_14) : (pa15_14).C → Option (WayC pw15_14) := fun (x : ((Bool × Unit) × Unit)) => f x.1.1
noncomputable def l15_14 (k : Nat) : T15_14 := fun ok8 =>
  (l15_28 k ok8).bind fun y1 =>
  cond y1.1.1
    ((f71 k ()).bind fun y2 =>
    some (.inr ((y2.1.1, ()), ())))
    (some (.inl ((), ())))
noncomputable def pa15_6 : Shape := ⟨[.d (.slice T_Gate), .d (.slice i64)], []⟩
noncomputable def pw15_6 : List Vm.Way := [⟨.normal, [7, 8], ⟨[.nilp, .d .bool], []⟩⟩, ⟨.normal, [7, 8], ⟨[.ptr 0, .d .bool], [.box [.own T_Gate, .mp 1], .map T_Gate i64]⟩⟩]
abbrev R15_6 : Type := (((Unit × Bool × Unit) × Unit) ⊕ ((Unit × Bool × Unit) × (((List D_Gate) × Unit × Unit) × (List (D_Gate × Int)) × Unit)))
abbrev T15_6 : Type := (List D_Gate) → (List Int) → Option R15_6
noncomputable def u15_6 (f : T15_6) : (pa15_6).C → Option (WayC pw15_6) := fun (x : (((List D_Gate) × (List Int) × Unit) × Unit)) => f x.1.1 x.1.2.1
noncomputable def l15_6 (k : Nat) : T15_6 := fun g0 l2 =>
  (f72 k g0 l2).bind fun y1 =>
  match y1 with
  | .inl y1_0 =>
    some (.inl (((), y1_0.1.2.1, ()), ()))
  | .inr y1_1 =>
    some (.inr (((), y1_1.1.2.1, ()), ((y1_1.2.1.1, (), ()), y1_1.2.2.1, ())))
noncomputable def f15 (k : Nat) : T15 := fun g0 ins1 l2 =>
  (l15_6 k g0 l2).bind fun y1 =>
  match y1 with
  | .inl y1_0 =>
    (l15_14 k y1_0.1.2.1).bind fun y2 =>
    match y2 with
    | .inl y2_0 =>
      (l15_30s0 k l2).bind fun y3 =>
      (f74 k g0 l2).bind fun y4 =>
      cond (!y4.1.1)
        (cond ((y3.1.1.length : Int) == 0)
          ((f71 k ()).bind fun y5 =>
          some ((y5.1.1, ()), ()))
          (some ((false, ()), ())))
        ((l15_1018 k k g0 ins1 y3.1.1 true 0).bind fun y6 =>
        (f75 k g0 ins1 l2).bind fun y7 =>
        cond (y6.1.1 == (y7.1.1 == 1))
          ((f20v2 k ()).bind fun y8 =>
          cond (y8.1.1 == (g0.length : Int))
            ((f71 k ()).bind fun y9 =>
            some ((y9.1.1, ()), ()))
            (some ((false, ()), ())))
          (some ((false, ()), ())))
    | .inr y2_1 =>
      some ((y2_1.1.1, ()), ())
  | .inr y1_1 =>
    (l15_14 k y1_1.1.2.1).bind fun y10 =>
    match y10 with
    | .inl y10_0 =>
      (l15_30s1 k l2 y1_1.2.1.1 y1_1.2.2.1).bind fun y11 =>
      (f74 k g0 l2).bind fun y12 =>
      cond (!y12.1.1)
        (cond ((y11.1.1.length : Int) == 0)
          ((f71 k ()).bind fun y13 =>
          some ((y13.1.1, ()), ()))
          (some ((false, ()), ())))
        ((l15_1018 k k g0 ins1 y11.1.1 true 0).bind fun y14 =>
        (f75 k g0 ins1 l2).bind fun y15 =>
        cond (y14.1.1 == (y15.1.1 == 1))
          ((f20 k y11.2.1.1 y11.2.2.1).bind fun y16 =>
          cond (y16.1.1 == (g0.length : Int))
            ((f71 k ()).bind fun y17 =>
            some ((y17.1.1, ()), ()))
            (some ((false, ()), ())))
          (some ((false, ()), ())))
    | .inr y10_1 =>
      some ((y10_1.1.1, ()), ())
noncomputable def C15 (k : Nat) : Nat → Fun := mkC [(20, (altF a20 false (F20 (f20 k)) (F20v2 (f20v2 k)))), (71, (F71 (f71 k))), (72, (F72 (f72 k))), (73, (altF a73 false (F73 (f73 k)) (F73v2 (f73v2 k)))), (74, (F74 (f74 k))), (75, (F75 (f75 k)))]
theorem c15_ok (k : Nat) : ∀ f, SoundFn Try.prog f (C15 k f) := (mkC_cons (altF_ok (s20 k) (s20v2 k) rfl) (mkC_cons (s71 k) (mkC_cons (s72 k) (mkC_cons (altF_ok (s73 k) (s73v2 k) rfl) (mkC_cons (s74 k) (mkC_cons (s75 k) mkC_nil))))))
noncomputable def H15_1018 (k : Nat) : Nat → Option Cut := addH noH 1018 ⟨runCut (wrC (bodyOf (codeAt 1018 (bd Try.f15) 1018))) 68 [0, 1, 9, 10, 11] pa15_1018 pw15_1018 (u15_1018 (l15_1018 k k))⟩
theorem e15_1018 (k : Nat) (rec : T15_1018) (x : (pa15_1018).C) : roundF (C15 k) tt noH (bodyOf (codeAt 1018 (bd Try.f15) 1018)) 2036 68 [0, 1, 9, 10, 11] pa15_1018 pw15_1018 (u15_1018 rec) x = u15_1018 (b15_1018 k rec) x := by kernel_rfl
theorem h15_1018_ok (k : Nat) : ∀ p S, H15_1018 k p = some S → ∀ c, At (bd Try.f15) p c → CutOk Try.prog c S :=
  have hC := c15_ok k
  addLoop hC ttOk (draw_ok hC ttOk mixed) noH_ok (by kernel_rfl) (F := fun j => u15_1018 (l15_1018 k j)) (fun _ => rfl) (fun j x _ h => (e15_1018 k (l15_1018 k j) x).trans h) k
noncomputable def H15_30 (k : Nat) : Nat → Option Cut := addH (H15_1018 k) 30 (altCut [2, 7] pa15_30s0 ⟨runCut (wrC (codeAt 30 (bd Try.f15) 30)) 68 [2, 7] pa15_30s0 pw15_30s0 (u15_30s0 (l15_30s0 k))⟩ ⟨runCut (wrC (codeAt 30 (bd Try.f15) 30)) 68 [2, 7] pa15_30s1 pw15_30s1 (u15_30s1 (l15_30s1 k))⟩)
theorem e15_30s0 (k : Nat) (x : (pa15_30s0).C) : pieceF (C15 k) tt (H15_1018 k) (codeAt 30 (bd Try.f15) 30) 30 68 [2, 7] pa15_30s0 pw15_30s0 x = u15_30s0 (l15_30s0 k) x := by kernel_rfl
theorem e15_30s1 (k : Nat) (x : (pa15_30s1).C) : pieceF (C15 k) tt (H15_1018 k) (codeAt 30 (bd Try.f15) 30) 30 68 [2, 7] pa15_30s1 pw15_30s1 x = u15_30s1 (l15_30s1 k) x := by kernel_rfl
theorem h15_30_ok (k : Nat) : ∀ p S, H15_30 k p = some S → ∀ c, At (bd Try.f15) p c → CutOk Try.prog c S :=
  have hC := c15_ok k
  addCut (h15_1018_ok k) (fun hc => (altCut_ok (piece_ok hC ttOk (draw_ok hC ttOk mixed) (h15_1018_ok k) hc (fun x _ h => (e15_30s0 k x).trans h)) (piece_ok hC ttOk (draw_ok hC ttOk mixed) (h15_1018_ok k) hc (fun x _ h => (e15_30s1 k x).trans h))))
noncomputable def H15_28 (k : Nat) : Nat → Option Cut := addH (H15_30 k) 28 ⟨runCut (wrC (codeAt 28 (bd Try.f15) 28)) 68 [8] pa15_28 pw15_28 (u15_28 (l15_28 k))⟩
theorem e15_28 (k : Nat) (x : (pa15_28).C) : pieceF (C15 k) tt (H15_30 k) (codeAt 28 (bd Try.f15) 28) 28 68 [8] pa15_28 pw15_28 x = u15_28 (l15_28 k) x := by kernel_rfl
theorem h15_28_ok (k : Nat) : ∀ p S, H15_28 k p = some S → ∀ c, At (bd Try.f15) p c → CutOk Try.prog c S :=
  have hC := c15_ok k
  addPiece hC ttOk (draw_ok hC ttOk mixed) (h15_30_ok k) (fun x _ h => (e15_28 k x).trans h)
noncomputable def H15_14 (k : Nat) : Nat → Option Cut := addH (H15_28 k) 14 ⟨runCut (wrC (codeAt 14 (bd Try.f15) 14)) 68 [8] pa15_14 pw15_14 (u15_14 (l15_14 k))⟩
theorem e15_14 (k : Nat) (x : (pa15_14).C) : pieceF (C15 k) tt (H15_28 k) (codeAt 14 (bd Try.f15) 14) 14 68 [8] pa15_14 pw15_14 x = u15_14 (l15_14 k) x := by kernel_rfl
theorem h15_14_ok (k : Nat) : ∀ p S, H15_14 k p = some S → ∀ c, At (bd Try.f15) p c → CutOk Try.prog c S :=
  have hC := c15_ok k
  addPiece hC ttOk (draw_ok hC ttOk mixed) (h15_28_ok k) (fun x _ h => (e15_14 k x).trans h)
noncomputable def H15_6 (k : Nat) : Nat → Option Cut := addH (H15_14 k) 6 ⟨runCut (wrC (codeAt 6 (bd Try.f15) 6)) 68 [0, 2] pa15_6 pw15_6 (u15_6 (l15_6 k))⟩
theorem e15_6 (k : Nat) (x : (pa15_6).C) : pieceF (C15 k) tt (H15_14 k) (codeAt 6 (bd Try.f15) 6) 6 68 [0, 2] pa15_6 pw15_6 x = u15_6 (l15_6 k) x := by kernel_rfl
theorem h15_6_ok (k : Nat) : ∀ p S, H15_6 k p = some S → ∀ c, At (bd Try.f15) p c → CutOk Try.prog c S :=
  have hC := c15_ok k
  addPiece hC ttOk (draw_ok hC ttOk mixed) (h15_14_ok k) (fun x _ h => (e15_6 k x).trans h)
theorem e15 (k : Nat) (x : (a15).C) : bodyR (C15 k) tt (H15_6 k) Try.f15 a15 o15 x = u15 (f15 k) x := by kernel_rfl
theorem s15 (k : Nat) : SoundFn Try.prog 15 (F15 (f15 k)) :=
  have hC := c15_ok k
  fnR_sound hC ttOk (draw_ok hC ttOk mixed) Try.func15 (c0 := bd Try.f15) rfl (entry Try.func15 rfl (by decide)) (h15_6_ok k) rfl (fun x _ h => (e15 k x).trans h)
/-! f70 fathom/fathomref17.Enough (R) -/
noncomputable def a70 : Shape := ⟨[.d i64], []⟩
noncomputable def o70 : List Shape := [⟨[.d i64], []⟩]
abbrev R70 : Type := ((Int × Unit) × Unit)
abbrev T70 : Type := Int → Option R70
noncomputable def u70 (f : T70) : (a70).C → Option (OutC o70) := fun (x : ((Int × Unit) × Unit)) => f x.1.1
noncomputable def F70 (f : T70) : Fun := ⟨true, runR a70 o70 (u70 f)⟩
noncomputable def pa70_60 : Shape := ⟨[.d i64, .d i64], []⟩
noncomputable def pw70_60 : List Vm.Way := [⟨.exit 0, [3], ⟨[.d i64], []⟩⟩]
abbrev R70_60 : Type := ((Int × Unit) × Unit)
abbrev T70_60 : Type := Int → Int → Option R70_60
noncomputable def u70_60 (f : T70_60) : (pa70_60).C → Option (WayC pw70_60) := fun (x : ((Int × Int × Unit) × Unit)) => f x.1.1 x.1.2.1
noncomputable def b70_60 (k : Nat) (rec : T70_60) : T70_60 := fun n0 w3 =>
  cond (decide (w3 < 0))
    (none)
    (cond (decide ((w64 (1 * 2 ^ (min w3.toNat 64))) ≤ n0))
      ((rec n0 (w64 (w3 + 1))).bind fun y1 =>
      some ((y1.1.1, ()), ()))
      (some ((w3, ()), ())))
noncomputable def l70_60 (k : Nat) : Nat → T70_60
  | 0 => fun _ _ => none
  | j + 1 => b70_60 k (l70_60 k j)
noncomputable def f70 (k : Nat) : T70 := fun n0 =>
  cond (decide (n0 < 0))
    (some ((0, ()), ()))
    (cond (decide (n0 > 65535))
      (some ((0, ()), ()))
      ((l70_60 k k n0 1).bind fun y1 =>
      some ((y1.1.1, ()), ())))
noncomputable def C70 (k : Nat) : Nat → Fun := mkC []
theorem c70_ok (k : Nat) : ∀ f, SoundFn Try.prog f (C70 k f) := mkC_nil
noncomputable def H70_60 (k : Nat) : Nat → Option Cut := addH noH 60 ⟨runCut (wrC (bodyOf (codeAt 60 (bd Try.f70) 60))) 17 [0, 3] pa70_60 pw70_60 (u70_60 (l70_60 k k))⟩
theorem e70_60 (k : Nat) (rec : T70_60) (x : (pa70_60).C) : roundF (C70 k) tt noH (bodyOf (codeAt 60 (bd Try.f70) 60)) 120 17 [0, 3] pa70_60 pw70_60 (u70_60 rec) x = u70_60 (b70_60 k rec) x := by kernel_rfl
theorem h70_60_ok (k : Nat) : ∀ p S, H70_60 k p = some S → ∀ c, At (bd Try.f70) p c → CutOk Try.prog c S :=
  have hC := c70_ok k
  addLoop hC ttOk (draw_ok hC ttOk mixed) noH_ok (by kernel_rfl) (F := fun j => u70_60 (l70_60 k j)) (fun _ => rfl) (fun j x _ h => (e70_60 k (l70_60 k j) x).trans h) k
theorem e70 (k : Nat) (x : (a70).C) : bodyR (C70 k) tt (H70_60 k) Try.f70 a70 o70 x = u70 (f70 k) x := by kernel_rfl
theorem s70 (k : Nat) : SoundFn Try.prog 70 (F70 (f70 k)) :=
  have hC := c70_ok k
  fnR_sound hC ttOk (draw_ok hC ttOk mixed) Try.func70 (c0 := bd Try.f70) rfl (entry Try.func70 rfl (by decide)) (h70_60_ok k) rfl (fun x _ h => (e70 k x).trans h)
/-! f107v2 fathom/vec.Check$1 (R) -/
noncomputable def a107v2 : Shape := ⟨[.d i64, .ptr 0], [.box [.nilp]]⟩
noncomputable def o107v2 : List Shape := [⟨[.d .bool], []⟩]
abbrev R107v2 : Type := ((Bool × Unit) × Unit)
abbrev T107v2 : Type := Int → Option R107v2
noncomputable def u107v2 (f : T107v2) : (a107v2).C → Option (OutC o107v2) := fun (x : ((Int × Unit × Unit) × ((Unit × Unit) × Unit))) => f x.1.1
noncomputable def F107v2 (f : T107v2) : Fun := ⟨true, runR a107v2 o107v2 (u107v2 f)⟩
noncomputable def f107v2 (k : Nat) : T107v2 := fun l0 =>
  (f24v2 k l0).bind fun y1 =>
  some (((!y1.1.1), ()), ())
noncomputable def C107v2 (k : Nat) : Nat → Fun := mkC [(24, (F24v2 (f24v2 k)))]
theorem c107v2_ok (k : Nat) : ∀ f, SoundFn Try.prog f (C107v2 k f) := (mkC_cons (s24v2 k) mkC_nil)
theorem e107v2 (k : Nat) (x : (a107v2).C) : bodyR (C107v2 k) tt noH Try.f107 a107v2 o107v2 x = u107v2 (f107v2 k) x := by kernel_rfl
theorem s107v2 (k : Nat) : SoundFn Try.prog 107 (F107v2 (f107v2 k)) :=
  have hC := c107v2_ok k
  fnR_sound hC ttOk (draw_ok hC ttOk mixed) Try.func107 (c0 := bd Try.f107) rfl (entry Try.func107 rfl (by decide)) noH_ok rfl (fun x _ h => (e107v2 k x).trans h)
/-! f113v4 slices.IndexFunc[[]int,int] (R) -/
noncomputable def a113v4 : Shape := ⟨[.d (.slice i64), .fn 107 [0]], [.box [.nilp]]⟩
noncomputable def o113v4 : List Shape := [⟨[.d i64], []⟩]
abbrev R113v4 : Type := ((Int × Unit) × Unit)
abbrev T113v4 : Type := (List Int) → Option R113v4
noncomputable def u113v4 (f : T113v4) : (a113v4).C → Option (OutC o113v4) := fun (x : (((List Int) × Unit × Unit) × ((Unit × Unit) × Unit))) => f x.1.1
noncomputable def F113v4 (f : T113v4) : Fun := ⟨true, runR a113v4 o113v4 (u113v4 f)⟩
noncomputable def pa113v4_26 : Shape := ⟨[.d (.slice i64), .fn 107 [0], .d i64, .d i64], [.lk (.box [.nilp])]⟩
noncomputable def pw113v4_26 : List Vm.Way := [⟨.exit 0, [], ⟨[], [.any]⟩⟩, ⟨.ret, [4], ⟨[.d i64], [.any]⟩⟩]
abbrev R113v4_26 : Type := ((Unit × (Unit × Unit)) ⊕ ((Int × Unit) × (Unit × Unit)))
abbrev T113v4_26 : Type := (List Int) → Int → Int → Option R113v4_26
noncomputable def u113v4_26 (f : T113v4_26) : (pa113v4_26).C → Option (WayC pw113v4_26) := fun (x : (((List Int) × Unit × Int × Int × Unit) × ((Unit × Unit) × Unit))) => f x.1.1 x.1.2.2.1 x.1.2.2.2.1
noncomputable def b113v4_26 (k : Nat) (rec : T113v4_26) : T113v4_26 := fun s0 t7 t8 =>
  cond (decide (t8 < t7))
    (ix s0 t8 fun e1 =>
    (f107v2 k e1).bind fun y2 =>
    cond y2.1.1
      (some (.inr ((t8, ()), ((), ()))))
      ((rec s0 t7 (w64 (t8 + 1))).bind fun y3 =>
      match y3 with
      | .inl y3_0 =>
        some (.inl ((), ((), ())))
      | .inr y3_1 =>
        some (.inr ((y3_1.1.1, ()), ((), ())))))
    (some (.inl ((), ((), ()))))
noncomputable def l113v4_26 (k : Nat) : Nat → T113v4_26
  | 0 => fun _ _ _ => none
  | j + 1 => b113v4_26 k (l113v4_26 k j)
noncomputable def f113v4 (k : Nat) : T113v4 := fun s0 =>
  (l113v4_26 k k s0 (s0.length : Int) 0).bind fun y1 =>
  match y1 with
  | .inl y1_0 =>
    some (((-1), ()), ())
  | .inr y1_1 =>
    some ((y1_1.1.1, ()), ())
noncomputable def C113v4 (k : Nat) : Nat → Fun := mkC [(107, (F107v2 (f107v2 k)))]
theorem c113v4_ok (k : Nat) : ∀ f, SoundFn Try.prog f (C113v4 k f) := (mkC_cons (s107v2 k) mkC_nil)
noncomputable def H113v4_26 (k : Nat) : Nat → Option Cut := addH noH 26 ⟨runCut (wrC (bodyOf (codeAt 26 (bd Try.f113) 26))) 19 [0, 1, 7, 8] pa113v4_26 pw113v4_26 (u113v4_26 (l113v4_26 k k))⟩
theorem e113v4_26 (k : Nat) (rec : T113v4_26) (x : (pa113v4_26).C) : roundF (C113v4 k) tt noH (bodyOf (codeAt 26 (bd Try.f113) 26)) 52 19 [0, 1, 7, 8] pa113v4_26 pw113v4_26 (u113v4_26 rec) x = u113v4_26 (b113v4_26 k rec) x := by kernel_rfl
theorem h113v4_26_ok (k : Nat) : ∀ p S, H113v4_26 k p = some S → ∀ c, At (bd Try.f113) p c → CutOk Try.prog c S :=
  have hC := c113v4_ok k
  addLoop hC ttOk (draw_ok hC ttOk mixed) noH_ok (by kernel_rfl) (F := fun j => u113v4_26 (l113v4_26 k j)) (fun _ => rfl) (fun j x _ h => (e113v4_26 k (l113v4_26 k j) x).trans h) k
theorem e113v4 (k : Nat) (x : (a113v4).C) : bodyR (C113v4 k) tt (H113v4_26 k) Try.f113 a113v4 o113v4 x = u113v4 (f113v4 k) x := by kernel_rfl
theorem s113v4 (k : Nat) : SoundFn Try.prog 113 (F113v4 (f113v4 k)) :=
  have hC := c113v4_ok k
  fnR_sound hC ttOk (draw_ok hC ttOk mixed) Try.func113 (c0 := bd Try.f113) rfl (entry Try.func113 rfl (by decide)) (h113v4_26_ok k) rfl (fun x _ h => (e113v4 k x).trans h)
/-! f106v4 slices.ContainsFunc[[]int,int] (R) -/
noncomputable def a106v4 : Shape := ⟨[.d (.slice i64), .fn 107 [0]], [.box [.nilp]]⟩
noncomputable def o106v4 : List Shape := [⟨[.d .bool], []⟩]
abbrev R106v4 : Type := ((Bool × Unit) × Unit)
abbrev T106v4 : Type := (List Int) → Option R106v4
noncomputable def u106v4 (f : T106v4) : (a106v4).C → Option (OutC o106v4) := fun (x : (((List Int) × Unit × Unit) × ((Unit × Unit) × Unit))) => f x.1.1
noncomputable def F106v4 (f : T106v4) : Fun := ⟨true, runR a106v4 o106v4 (u106v4 f)⟩
noncomputable def f106v4 (k : Nat) : T106v4 := fun s0 =>
  (f113v4 k s0).bind fun y1 =>
  some (((decide (y1.1.1 ≥ 0)), ()), ())
noncomputable def C106v4 (k : Nat) : Nat → Fun := mkC [(113, (F113v4 (f113v4 k)))]
theorem c106v4_ok (k : Nat) : ∀ f, SoundFn Try.prog f (C106v4 k f) := (mkC_cons (s113v4 k) mkC_nil)
theorem e106v4 (k : Nat) (x : (a106v4).C) : bodyR (C106v4 k) tt noH Try.f106 a106v4 o106v4 x = u106v4 (f106v4 k) x := by kernel_rfl
theorem s106v4 (k : Nat) : SoundFn Try.prog 106 (F106v4 (f106v4 k)) :=
  have hC := c106v4_ok k
  fnR_sound hC ttOk (draw_ok hC ttOk mixed) Try.func106 (c0 := bd Try.f106) rfl (entry Try.func106 rfl (by decide)) noH_ok rfl (fun x _ h => (e106v4 k x).trans h)
/-! f68v2 fathom/vec.Check (R) -/
noncomputable def a68v2 : Shape := ⟨[.nilp, .d (.slice i64)], []⟩
noncomputable def o68v2 : List Shape := [⟨[.d i64], []⟩]
abbrev R68v2 : Type := ((Int × Unit) × Unit)
abbrev T68v2 : Type := (List Int) → Option R68v2
noncomputable def u68v2 (f : T68v2) : (a68v2).C → Option (OutC o68v2) := fun (x : ((Unit × (List Int) × Unit) × Unit)) => f x.1.2.1
noncomputable def F68v2 (f : T68v2) : Fun := ⟨true, runR a68v2 o68v2 (u68v2 f)⟩
noncomputable def f68v2 (k : Nat) : T68v2 := fun a1 =>
  cond (decide ((a1.length : Int) < 1))
    (some ((1, ()), ()))
    (cond (decide ((a1.length : Int) > 16))
      (some ((1, ()), ()))
      ((f106v4 k a1).bind fun y1 =>
      cond y1.1.1
        (some ((1, ()), ()))
        (some ((0, ()), ()))))
noncomputable def C68v2 (k : Nat) : Nat → Fun := mkC [(106, (F106v4 (f106v4 k)))]
theorem c68v2_ok (k : Nat) : ∀ f, SoundFn Try.prog f (C68v2 k f) := (mkC_cons (s106v4 k) mkC_nil)
theorem e68v2 (k : Nat) (x : (a68v2).C) : bodyR (C68v2 k) tt noH Try.f68 a68v2 o68v2 x = u68v2 (f68v2 k) x := by kernel_rfl
theorem s68v2 (k : Nat) : SoundFn Try.prog 68 (F68v2 (f68v2 k)) :=
  have hC := c68v2_ok k
  fnR_sound hC ttOk (draw_ok hC ttOk mixed) Try.func68 (c0 := bd Try.f68) rfl (entry Try.func68 rfl (by decide)) noH_ok rfl (fun x _ h => (e68v2 k x).trans h)
/-! f95v2 fathom/vec.pair (R) -/
noncomputable def a95v2 : Shape := ⟨[.nilp, .d (.slice i64), .d (.slice i64)], []⟩
noncomputable def o95v2 : List Shape := [⟨[.d .bool], []⟩]
abbrev R95v2 : Type := ((Bool × Unit) × Unit)
abbrev T95v2 : Type := (List Int) → (List Int) → Option R95v2
noncomputable def u95v2 (f : T95v2) : (a95v2).C → Option (OutC o95v2) := fun (x : ((Unit × (List Int) × (List Int) × Unit) × Unit)) => f x.1.2.1 x.1.2.2.1
noncomputable def F95v2 (f : T95v2) : Fun := ⟨true, runR a95v2 o95v2 (u95v2 f)⟩
noncomputable def f95v2 (k : Nat) : T95v2 := fun a1 b2 =>
  cond ((a1.length : Int) == (b2.length : Int))
    ((f68v2 k a1).bind fun y1 =>
    cond (y1.1.1 == 0)
      ((f68v2 k b2).bind fun y2 =>
      some (((y2.1.1 == 0), ()), ()))
      (some ((false, ()), ())))
    (some ((false, ()), ()))
noncomputable def C95v2 (k : Nat) : Nat → Fun := mkC [(68, (F68v2 (f68v2 k)))]
theorem c95v2_ok (k : Nat) : ∀ f, SoundFn Try.prog f (C95v2 k f) := (mkC_cons (s68v2 k) mkC_nil)
theorem e95v2 (k : Nat) (x : (a95v2).C) : bodyR (C95v2 k) tt noH Try.f95 a95v2 o95v2 x = u95v2 (f95v2 k) x := by kernel_rfl
theorem s95v2 (k : Nat) : SoundFn Try.prog 95 (F95v2 (f95v2 k)) :=
  have hC := c95v2_ok k
  fnR_sound hC ttOk (draw_ok hC ttOk mixed) Try.func95 (c0 := bd Try.f95) rfl (entry Try.func95 rfl (by decide)) noH_ok rfl (fun x _ h => (e95v2 k x).trans h)
/-! f111v2 (*fathom/aig.Aig).kids (R) -/
noncomputable def a111v2 : Shape := ⟨[.nilp, .d i64], []⟩
noncomputable def o111v2 : List Shape := [⟨[.d i64, .d i64, .d .bool], []⟩]
abbrev R111v2 : Type := ((Int × Int × Bool × Unit) × Unit)
abbrev T111v2 : Type := Int → Option R111v2
noncomputable def u111v2 (f : T111v2) : (a111v2).C → Option (OutC o111v2) := fun (x : ((Unit × Int × Unit) × Unit)) => f x.1.2.1
noncomputable def F111v2 (f : T111v2) : Fun := ⟨true, runR a111v2 o111v2 (u111v2 f)⟩
noncomputable def f111v2 (k : Nat) : T111v2 := fun l1 =>
  cond (decide (l1 < 2))
    (some ((0, 0, false, ()), ()))
    (none)
noncomputable def C111v2 (k : Nat) : Nat → Fun := mkC []
theorem c111v2_ok (k : Nat) : ∀ f, SoundFn Try.prog f (C111v2 k f) := mkC_nil
theorem e111v2 (k : Nat) (x : (a111v2).C) : bodyR (C111v2 k) tt noH Try.f111 a111v2 o111v2 x = u111v2 (f111v2 k) x := by kernel_rfl
theorem s111v2 (k : Nat) : SoundFn Try.prog 111 (F111v2 (f111v2 k)) :=
  have hC := c111v2_ok k
  fnR_sound hC ttOk (draw_ok hC ttOk mixed) Try.func111 (c0 := bd Try.f111) rfl (entry Try.func111 rfl (by decide)) noH_ok rfl (fun x _ h => (e111v2 k x).trans h)
/-! f84v2 (*fathom/aig.Aig).plain (R) -/
noncomputable def a84v2 : Shape := ⟨[.nilp, .d i64, .d i64], []⟩
noncomputable def o84v2 : List Shape := [⟨[.d i64, .d .bool], []⟩]
abbrev R84v2 : Type := ((Int × Bool × Unit) × Unit)
abbrev T84v2 : Type := Int → Int → Option R84v2
noncomputable def u84v2 (f : T84v2) : (a84v2).C → Option (OutC o84v2) := fun (x : ((Unit × Int × Int × Unit) × Unit)) => f x.1.2.1 x.1.2.2.1
noncomputable def F84v2 (f : T84v2) : Fun := ⟨true, runR a84v2 o84v2 (u84v2 f)⟩
noncomputable def f84v2 (k : Nat) : T84v2 := fun a1 b2 =>
  (f111v2 k b2).bind fun y1 =>
  cond (!y1.1.2.2.1)
    (some ((0, false, ()), ()))
    (cond ((Int.tmod b2 2) == 1)
      (some ((0, false, ()), ()))
      (cond (a1 == y1.1.1)
        (some ((b2, true, ()), ()))
        (cond (a1 == y1.1.2.1)
          (some ((b2, true, ()), ()))
          (cond ((ibits .xor .i64 a1 1) == y1.1.1)
            (some ((0, true, ()), ()))
            (cond ((ibits .xor .i64 a1 1) == y1.1.2.1)
              (some ((0, true, ()), ()))
              (some ((0, false, ()), ())))))))
noncomputable def C84v2 (k : Nat) : Nat → Fun := mkC [(111, (F111v2 (f111v2 k)))]
theorem c84v2_ok (k : Nat) : ∀ f, SoundFn Try.prog f (C84v2 k f) := (mkC_cons (s111v2 k) mkC_nil)
theorem e84v2 (k : Nat) (x : (a84v2).C) : bodyR (C84v2 k) tt noH Try.f84 a84v2 o84v2 x = u84v2 (f84v2 k) x := by kernel_rfl
theorem s84v2 (k : Nat) : SoundFn Try.prog 84 (F84v2 (f84v2 k)) :=
  have hC := c84v2_ok k
  fnR_sound hC ttOk (draw_ok hC ttOk mixed) Try.func84 (c0 := bd Try.f84) rfl (entry Try.func84 rfl (by decide)) noH_ok rfl (fun x _ h => (e84v2 k x).trans h)
/-! f19v2 (*fathom/aig.Aig).And (W) -/
noncomputable def a19v2 : Shape := ⟨[.nilp, .d i64, .d i64], []⟩
noncomputable def o19v2 : List Shape := [⟨[.d i64], []⟩]
abbrev R19v2 : Type := ((Int × Unit) × Unit)
abbrev T19v2 : Type := Int → Int → Option R19v2
noncomputable def u19v2 (f : T19v2) : (a19v2).C → Option (OutC o19v2) := fun (x : ((Unit × Int × Int × Unit) × Unit)) => f x.1.2.1 x.1.2.2.1
noncomputable def F19v2 (f : T19v2) : Fun := ⟨false, runW a19v2 o19v2 (u19v2 f)⟩
/-! f85v2 (*fathom/aig.Aig).turned (W) -/
noncomputable def a85v2 : Shape := ⟨[.nilp, .d i64, .d i64], []⟩
noncomputable def o85v2 : List Shape := [⟨[.d i64, .d .bool], []⟩]
abbrev R85v2 : Type := ((Int × Bool × Unit) × Unit)
abbrev T85v2 : Type := Int → Int → Option R85v2
noncomputable def u85v2 (f : T85v2) : (a85v2).C → Option (OutC o85v2) := fun (x : ((Unit × Int × Int × Unit) × Unit)) => f x.1.2.1 x.1.2.2.1
noncomputable def F85v2 (f : T85v2) : Fun := ⟨false, runW a85v2 o85v2 (u85v2 f)⟩
noncomputable def b19v2 (k : Nat) (r19v2 : T19v2) (r85v2 : T85v2) : T19v2 := fun a1 b2 =>
  (f24v2 k a1).bind fun y1 =>
  cond (!y1.1.1)
    (some (((-1), ()), ()))
    ((f24v2 k b2).bind fun y2 =>
    cond (!y2.1.1)
      (some (((-1), ()), ()))
      (cond ((minmax false a1 b2) == 0)
        (some ((0, ()), ()))
        (cond ((ibits .xor .i64 (minmax false a1 b2) 1) == (minmax true a1 b2))
          (some ((0, ()), ()))
          (cond ((minmax false a1 b2) == 1)
            (some (((minmax true a1 b2), ()), ()))
            (cond ((minmax false a1 b2) == (minmax true a1 b2))
              (some (((minmax true a1 b2), ()), ()))
              ((f84v2 k (minmax false a1 b2) (minmax true a1 b2)).bind fun y3 =>
              cond y3.1.2.1
                (some ((y3.1.1, ()), ()))
                ((f84v2 k (minmax true a1 b2) (minmax false a1 b2)).bind fun y4 =>
                cond y4.1.2.1
                  (some ((y4.1.1, ()), ()))
                  ((r85v2 (minmax false a1 b2) (minmax true a1 b2)).bind fun y5 =>
                  cond y5.1.2.1
                    (some ((y5.1.1, ()), ()))
                    ((r85v2 (minmax true a1 b2) (minmax false a1 b2)).bind fun y6 =>
                    cond y6.1.2.1
                      (some ((y6.1.1, ()), ()))
                      (none))))))))))
noncomputable def b85v2 (k : Nat) (r19v2 : T19v2) (r85v2 : T85v2) : T85v2 := fun a1 b2 =>
  (f111v2 k b2).bind fun y1 =>
  cond (!y1.1.2.2.1)
    (some ((0, false, ()), ()))
    (cond ((Int.tmod b2 2) == 0)
      (some ((0, false, ()), ()))
      (cond ((ibits .xor .i64 a1 1) == y1.1.1)
        (some ((a1, true, ()), ()))
        (cond ((ibits .xor .i64 a1 1) == y1.1.2.1)
          (some ((a1, true, ()), ()))
          (cond (a1 == y1.1.1)
            ((r19v2 a1 (ibits .xor .i64 y1.1.2.1 1)).bind fun y2 =>
            some ((y2.1.1, true, ()), ()))
            (cond (a1 == y1.1.2.1)
              ((r19v2 a1 (ibits .xor .i64 y1.1.1 1)).bind fun y3 =>
              some ((y3.1.1, true, ()), ()))
              (some ((0, false, ()), ())))))))
noncomputable def S19v2 : Nat → T19v2 × T85v2
  | 0 => (fun _ _ => none, fun _ _ => none)
  | k + 1 => (b19v2 k (S19v2 k).1 (S19v2 k).2, b85v2 k (S19v2 k).1 (S19v2 k).2)
noncomputable def f19v2 (k : Nat) : T19v2 := (S19v2 k).1
noncomputable def f85v2 (k : Nat) : T85v2 := (S19v2 k).2
theorem f19v2_succ (k : Nat) : f19v2 (k + 1) = b19v2 k (f19v2 k) (f85v2 k) := rfl
theorem f85v2_succ (k : Nat) : f85v2 (k + 1) = b85v2 k (f19v2 k) (f85v2 k) := rfl
noncomputable def C19v2 (k : Nat) (r19v2 : T19v2) (r85v2 : T85v2) : Nat → Fun := mkC [(24, (F24v2 (f24v2 k))), (84, (F84v2 (f84v2 k))), (85, (F85v2 r85v2))]
theorem c19v2_ok (k : Nat) (r19v2 : T19v2) (r85v2 : T85v2) (h19v2 : SoundFn Try.prog 19 (F19v2 r19v2)) (h85v2 : SoundFn Try.prog 85 (F85v2 r85v2)) : ∀ f, SoundFn Try.prog f (C19v2 k r19v2 r85v2 f) := (mkC_cons (s24v2 k) (mkC_cons (s84v2 k) (mkC_cons h85v2 mkC_nil)))
theorem e19v2 (k : Nat) (r19v2 : T19v2) (r85v2 : T85v2) (x : (a19v2).C) : bodyW (C19v2 k r19v2 r85v2) tt noH Try.f19 a19v2 o19v2 x = u19v2 (b19v2 k r19v2 r85v2) x := by kernel_rfl
theorem q19v2 (k : Nat) (r19v2 : T19v2) (r85v2 : T85v2) (h19v2 : SoundFn Try.prog 19 (F19v2 r19v2)) (h85v2 : SoundFn Try.prog 85 (F85v2 r85v2)) : SoundFn Try.prog 19 (F19v2 (b19v2 k r19v2 r85v2)) :=
  have hC := c19v2_ok k r19v2 r85v2 h19v2 h85v2
  fnW_sound hC ttOk (draw_ok hC ttOk mixed) Try.func19 (c0 := bd Try.f19) rfl (entry Try.func19 rfl (by decide)) noH_ok (fun x _ h => (e19v2 k r19v2 r85v2 x).trans h)
noncomputable def C85v2 (k : Nat) (r19v2 : T19v2) (r85v2 : T85v2) : Nat → Fun := mkC [(19, (F19v2 r19v2)), (111, (F111v2 (f111v2 k)))]
theorem c85v2_ok (k : Nat) (r19v2 : T19v2) (r85v2 : T85v2) (h19v2 : SoundFn Try.prog 19 (F19v2 r19v2)) (h85v2 : SoundFn Try.prog 85 (F85v2 r85v2)) : ∀ f, SoundFn Try.prog f (C85v2 k r19v2 r85v2 f) := (mkC_cons h19v2 (mkC_cons (s111v2 k) mkC_nil))
theorem e85v2 (k : Nat) (r19v2 : T19v2) (r85v2 : T85v2) (x : (a85v2).C) : bodyW (C85v2 k r19v2 r85v2) tt noH Try.f85 a85v2 o85v2 x = u85v2 (b85v2 k r19v2 r85v2) x := by kernel_rfl
theorem q85v2 (k : Nat) (r19v2 : T19v2) (r85v2 : T85v2) (h19v2 : SoundFn Try.prog 19 (F19v2 r19v2)) (h85v2 : SoundFn Try.prog 85 (F85v2 r85v2)) : SoundFn Try.prog 85 (F85v2 (b85v2 k r19v2 r85v2)) :=
  have hC := c85v2_ok k r19v2 r85v2 h19v2 h85v2
  fnW_sound hC ttOk (draw_ok hC ttOk mixed) Try.func85 (c0 := bd Try.f85) rfl (entry Try.func85 rfl (by decide)) noH_ok (fun x _ h => (e85v2 k r19v2 r85v2 x).trans h)
theorem sAll19v2 : ∀ k : Nat, SoundFn Try.prog 19 (F19v2 (f19v2 k)) ∧ SoundFn Try.prog 85 (F85v2 (f85v2 k))
  | 0 => ⟨noneW_ok (by intro x; rfl), noneW_ok (by intro x; rfl)⟩
  | k + 1 =>
    have ih := sAll19v2 k
    ⟨q19v2 k (f19v2 k) (f85v2 k) ih.1 ih.2, q85v2 k (f19v2 k) (f85v2 k) ih.1 ih.2⟩
theorem s19v2 (k : Nat) : SoundFn Try.prog 19 (F19v2 (f19v2 k)) := (sAll19v2 k).1
theorem s85v2 (k : Nat) : SoundFn Try.prog 85 (F85v2 (f85v2 k)) := (sAll19v2 k).2
/-! f26v2 (*fathom/aig.Aig).Or (W) -/
noncomputable def a26v2 : Shape := ⟨[.nilp, .d i64, .d i64], []⟩
noncomputable def o26v2 : List Shape := [⟨[.d i64], []⟩]
abbrev R26v2 : Type := ((Int × Unit) × Unit)
abbrev T26v2 : Type := Int → Int → Option R26v2
noncomputable def u26v2 (f : T26v2) : (a26v2).C → Option (OutC o26v2) := fun (x : ((Unit × Int × Int × Unit) × Unit)) => f x.1.2.1 x.1.2.2.1
noncomputable def F26v2 (f : T26v2) : Fun := ⟨false, runW a26v2 o26v2 (u26v2 f)⟩
noncomputable def f26v2 (k : Nat) : T26v2 := fun a1 b2 =>
  (f89 k a1).bind fun y1 =>
  (f89 k b2).bind fun y2 =>
  (f19v2 k y1.1.1 y2.1.1).bind fun y3 =>
  (f89 k y3.1.1).bind fun y4 =>
  some ((y4.1.1, ()), ())
noncomputable def C26v2 (k : Nat) : Nat → Fun := mkC [(19, (F19v2 (f19v2 k))), (89, (F89 (f89 k)))]
theorem c26v2_ok (k : Nat) : ∀ f, SoundFn Try.prog f (C26v2 k f) := (mkC_cons (s19v2 k) (mkC_cons (s89 k) mkC_nil))
theorem e26v2 (k : Nat) (x : (a26v2).C) : bodyW (C26v2 k) tt noH Try.f26 a26v2 o26v2 x = u26v2 (f26v2 k) x := by kernel_rfl
theorem s26v2 (k : Nat) : SoundFn Try.prog 26 (F26v2 (f26v2 k)) :=
  have hC := c26v2_ok k
  fnW_sound hC ttOk (draw_ok hC ttOk mixed) Try.func26 (c0 := bd Try.f26) rfl (entry Try.func26 rfl (by decide)) noH_ok (fun x _ h => (e26v2 k x).trans h)
/-! f27v2 (*fathom/aig.Aig).Xor (W) -/
noncomputable def a27v2 : Shape := ⟨[.nilp, .d i64, .d i64], []⟩
noncomputable def o27v2 : List Shape := [⟨[.d i64], []⟩]
abbrev R27v2 : Type := ((Int × Unit) × Unit)
abbrev T27v2 : Type := Int → Int → Option R27v2
noncomputable def u27v2 (f : T27v2) : (a27v2).C → Option (OutC o27v2) := fun (x : ((Unit × Int × Int × Unit) × Unit)) => f x.1.2.1 x.1.2.2.1
noncomputable def F27v2 (f : T27v2) : Fun := ⟨false, runW a27v2 o27v2 (u27v2 f)⟩
noncomputable def f27v2 (k : Nat) : T27v2 := fun a1 b2 =>
  (f89 k b2).bind fun y1 =>
  (f19v2 k a1 y1.1.1).bind fun y2 =>
  (f89 k a1).bind fun y3 =>
  (f19v2 k y3.1.1 b2).bind fun y4 =>
  (f26v2 k y2.1.1 y4.1.1).bind fun y5 =>
  some ((y5.1.1, ()), ())
noncomputable def C27v2 (k : Nat) : Nat → Fun := mkC [(19, (F19v2 (f19v2 k))), (26, (F26v2 (f26v2 k))), (89, (F89 (f89 k)))]
theorem c27v2_ok (k : Nat) : ∀ f, SoundFn Try.prog f (C27v2 k f) := (mkC_cons (s19v2 k) (mkC_cons (s26v2 k) (mkC_cons (s89 k) mkC_nil)))
theorem e27v2 (k : Nat) (x : (a27v2).C) : bodyW (C27v2 k) tt noH Try.f27 a27v2 o27v2 x = u27v2 (f27v2 k) x := by kernel_rfl
theorem s27v2 (k : Nat) : SoundFn Try.prog 27 (F27v2 (f27v2 k)) :=
  have hC := c27v2_ok k
  fnW_sound hC ttOk (draw_ok hC ttOk mixed) Try.func27 (c0 := bd Try.f27) rfl (entry Try.func27 rfl (by decide)) noH_ok (fun x _ h => (e27v2 k x).trans h)
/-! f96v2 fathom/vec.sum (W) -/
noncomputable def a96v2 : Shape := ⟨[.nilp, .d (.slice i64), .d (.slice i64), .d i64], []⟩
noncomputable def o96v2 : List Shape := [⟨[.own i64, .d i64], []⟩]
abbrev R96v2 : Type := (((List Int) × Int × Unit) × Unit)
abbrev T96v2 : Type := (List Int) → (List Int) → Int → Option R96v2
noncomputable def u96v2 (f : T96v2) : (a96v2).C → Option (OutC o96v2) := fun (x : ((Unit × (List Int) × (List Int) × Int × Unit) × Unit)) => f x.1.2.1 x.1.2.2.1 x.1.2.2.2.1
noncomputable def F96v2 (f : T96v2) : Fun := ⟨false, runW a96v2 o96v2 (u96v2 f)⟩
noncomputable def pa96v2_58 : Shape := ⟨[.nilp, .d (.slice i64), .d (.slice i64), .d i64, .own i64, .d i64, .d i64], []⟩
noncomputable def pw96v2_58 : List Vm.Way := [⟨.exit 0, [3, 10], ⟨[.d i64, .own i64], []⟩⟩]
abbrev R96v2_58 : Type := ((Int × (List Int) × Unit) × Unit)
abbrev T96v2_58 : Type := (List Int) → (List Int) → Int → (List Int) → Int → Int → Option R96v2_58
noncomputable def u96v2_58 (f : T96v2_58) : (pa96v2_58).C → Option (WayC pw96v2_58) := fun (x : ((Unit × (List Int) × (List Int) × Int × (List Int) × Int × Int × Unit) × Unit)) => f x.1.2.1 x.1.2.2.1 x.1.2.2.2.1 x.1.2.2.2.2.1 x.1.2.2.2.2.2.1 x.1.2.2.2.2.2.2.1
noncomputable def b96v2_58 (k : Nat) (rec : T96v2_58) : T96v2_58 := fun a1 b2 c3 out10 t14 t15 =>
  cond (decide (t15 < t14))
    (ix a1 t15 fun e1 =>
    ix b2 t15 fun e2 =>
    (f27v2 k e1 e2).bind fun y3 =>
    (f27v2 k y3.1.1 c3).bind fun y4 =>
    gd (decide ((out10.length + 1) * 8 ≤ room)) <|
    ix a1 t15 fun e5 =>
    ix b2 t15 fun e6 =>
    (f19v2 k e5 e6).bind fun y7 =>
    (f19v2 k y3.1.1 c3).bind fun y8 =>
    (f26v2 k y7.1.1 y8.1.1).bind fun y9 =>
    (rec a1 b2 y9.1.1 (out10 ++ ([y4.1.1] : List Int)) t14 (w64 (t15 + 1))).bind fun y10 =>
    some ((y10.1.1, y10.1.2.1, ()), ()))
    (some ((c3, out10, ()), ()))
noncomputable def l96v2_58 (k : Nat) : Nat → T96v2_58
  | 0 => fun _ _ _ _ _ _ => none
  | j + 1 => b96v2_58 k (l96v2_58 k j)
noncomputable def f96v2 (k : Nat) : T96v2 := fun a1 b2 c3 =>
  (l96v2_58 k k a1 b2 c3 [] (a1.length : Int) 0).bind fun y1 =>
  some ((y1.1.2.1, y1.1.1, ()), ())
noncomputable def C96v2 (k : Nat) : Nat → Fun := mkC [(19, (F19v2 (f19v2 k))), (26, (F26v2 (f26v2 k))), (27, (F27v2 (f27v2 k)))]
theorem c96v2_ok (k : Nat) : ∀ f, SoundFn Try.prog f (C96v2 k f) := (mkC_cons (s19v2 k) (mkC_cons (s26v2 k) (mkC_cons (s27v2 k) mkC_nil)))
noncomputable def H96v2_58 (k : Nat) : Nat → Option Cut := addH noH 58 ⟨runCut (wrC (bodyOf (codeAt 58 (bd Try.f96) 58))) 54 [0, 1, 2, 3, 10, 14, 15] pa96v2_58 pw96v2_58 (u96v2_58 (l96v2_58 k k))⟩
theorem e96v2_58 (k : Nat) (rec : T96v2_58) (x : (pa96v2_58).C) : roundF (C96v2 k) tt noH (bodyOf (codeAt 58 (bd Try.f96) 58)) 116 54 [0, 1, 2, 3, 10, 14, 15] pa96v2_58 pw96v2_58 (u96v2_58 rec) x = u96v2_58 (b96v2_58 k rec) x := by kernel_rfl
theorem h96v2_58_ok (k : Nat) : ∀ p S, H96v2_58 k p = some S → ∀ c, At (bd Try.f96) p c → CutOk Try.prog c S :=
  have hC := c96v2_ok k
  addLoop hC ttOk (draw_ok hC ttOk mixed) noH_ok (by kernel_rfl) (F := fun j => u96v2_58 (l96v2_58 k j)) (fun _ => rfl) (fun j x _ h => (e96v2_58 k (l96v2_58 k j) x).trans h) k
theorem e96v2 (k : Nat) (x : (a96v2).C) : bodyW (C96v2 k) tt (H96v2_58 k) Try.f96 a96v2 o96v2 x = u96v2 (f96v2 k) x := by kernel_rfl
theorem s96v2 (k : Nat) : SoundFn Try.prog 96 (F96v2 (f96v2 k)) :=
  have hC := c96v2_ok k
  fnW_sound hC ttOk (draw_ok hC ttOk mixed) Try.func96 (c0 := bd Try.f96) rfl (entry Try.func96 rfl (by decide)) (h96v2_58_ok k) (fun x _ h => (e96v2 k x).trans h)
/-! f46v2 fathom/vec.Add (W) -/
noncomputable def a46v2 : Shape := ⟨[.nilp, .d (.slice i64), .d (.slice i64)], []⟩
noncomputable def o46v2 : List Shape := [⟨[.nils], []⟩, ⟨[.own i64], []⟩]
abbrev R46v2 : Type := (((Unit × Unit) × Unit) ⊕ (((List Int) × Unit) × Unit))
abbrev T46v2 : Type := (List Int) → (List Int) → Option R46v2
noncomputable def u46v2 (f : T46v2) : (a46v2).C → Option (OutC o46v2) := fun (x : ((Unit × (List Int) × (List Int) × Unit) × Unit)) => f x.1.2.1 x.1.2.2.1
noncomputable def F46v2 (f : T46v2) : Fun := ⟨false, runW a46v2 o46v2 (u46v2 f)⟩
noncomputable def f46v2 (k : Nat) : T46v2 := fun a1 b2 =>
  (f95v2 k a1 b2).bind fun y1 =>
  cond (!y1.1.1)
    (some (.inl (((), ()), ())))
    ((f96v2 k a1 b2 0).bind fun y2 =>
    (f92 k y2.1.1).bind fun y3 =>
    match y3 with
    | .inl y3_0 =>
      some (.inl (((), ()), ()))
    | .inr y3_1 =>
      some (.inr ((y3_1.1.1, ()), ())))
noncomputable def C46v2 (k : Nat) : Nat → Fun := mkC [(1000092, ownF), (92, (F92 (f92 k))), (95, (F95v2 (f95v2 k))), (96, (F96v2 (f96v2 k)))]
theorem c46v2_ok (k : Nat) : ∀ f, SoundFn Try.prog f (C46v2 k f) := (mkC_cons ownF_ok (mkC_cons (s92 k) (mkC_cons (s95v2 k) (mkC_cons (s96v2 k) mkC_nil))))
theorem e46v2 (k : Nat) (x : (a46v2).C) : bodyW (C46v2 k) tt noH Try.f46 a46v2 o46v2 x = u46v2 (f46v2 k) x := by kernel_rfl
theorem s46v2 (k : Nat) : SoundFn Try.prog 46 (F46v2 (f46v2 k)) :=
  have hC := c46v2_ok k
  fnW_sound hC ttOk (draw_ok hC ttOk mixed) Try.func46 (c0 := bd Try.f46) rfl (entry Try.func46 rfl (by decide)) noH_ok (fun x _ h => (e46v2 k x).trans h)
/-! f110v2 fathom/card.count (W) -/
noncomputable def a110v2 : Shape := ⟨[.nilp, .d (.slice i64)], []⟩
noncomputable def o110v2 : List Shape := [⟨[.nils], []⟩, ⟨[.own i64], []⟩]
abbrev R110v2 : Type := (((Unit × Unit) × Unit) ⊕ (((List Int) × Unit) × Unit))
abbrev T110v2 : Type := (List Int) → Option R110v2
noncomputable def u110v2 (f : T110v2) : (a110v2).C → Option (OutC o110v2) := fun (x : ((Unit × (List Int) × Unit) × Unit)) => f x.1.2.1
noncomputable def F110v2 (f : T110v2) : Fun := ⟨false, runW a110v2 o110v2 (u110v2 f)⟩
noncomputable def b110v2 (k : Nat) (r110v2 : T110v2) : T110v2 := fun l1 =>
  cond ((l1.length : Int) == 0)
    (some (.inr (([0], ()), ())))
    (cond ((l1.length : Int) == 1)
      (ix l1 0 fun e1 =>
      some (.inr (([e1], ()), ())))
      ((f69 k (l1.length : Int)).bind fun y2 =>
      gd (decide (0 ≤ (w64 (Int.tdiv (l1.length : Int) 2)))) <|
      gd (decide ((w64 (Int.tdiv (l1.length : Int) 2)).toNat ≤ l1.length)) <|
      (r110v2 ((l1.take (w64 (Int.tdiv (l1.length : Int) 2)).toNat).drop 0)).bind fun y3 =>
      match y3 with
      | .inl y3_0 =>
        gd (decide (0 ≤ (w64 (Int.tdiv (l1.length : Int) 2)))) <|
        gd (decide ((w64 (Int.tdiv (l1.length : Int) 2)).toNat ≤ l1.length)) <|
        (r110v2 (l1.drop (w64 (Int.tdiv (l1.length : Int) 2)).toNat)).bind fun y4 =>
        match y4 with
        | .inl y4_0 =>
          some (.inl (((), ()), ()))
        | .inr y4_1 =>
          some (.inl (((), ()), ()))
      | .inr y3_1 =>
        gd (decide (0 ≤ (w64 (Int.tdiv (l1.length : Int) 2)))) <|
        gd (decide ((w64 (Int.tdiv (l1.length : Int) 2)).toNat ≤ l1.length)) <|
        (r110v2 (l1.drop (w64 (Int.tdiv (l1.length : Int) 2)).toNat)).bind fun y5 =>
        match y5 with
        | .inl y5_0 =>
          cond y3_1.1.1.isEmpty
            (none)
            (some (.inl (((), ()), ())))
        | .inr y5_1 =>
          cond y3_1.1.1.isEmpty
            (none)
            (cond y5_1.1.1.isEmpty
              (none)
              ((f117 k y3_1.1.1 y2.1.1).bind fun y6 =>
              (f117 k y5_1.1.1 y2.1.1).bind fun y7 =>
              (f46v2 k y6.1.1 y7.1.1).bind fun y8 =>
              match y8 with
              | .inl y8_0 =>
                some (.inl (((), ()), ()))
              | .inr y8_1 =>
                some (.inr ((y8_1.1.1, ()), ()))))))
noncomputable def S110v2 : Nat → T110v2
  | 0 => (fun _ => none)
  | k + 1 => (b110v2 k (S110v2 k))
noncomputable def f110v2 (k : Nat) : T110v2 := (S110v2 k)
theorem f110v2_succ (k : Nat) : f110v2 (k + 1) = b110v2 k (f110v2 k) := rfl
noncomputable def C110v2 (k : Nat) (r110v2 : T110v2) : Nat → Fun := mkC [(46, (F46v2 (f46v2 k))), (69, (F69 (f69 k))), (110, (F110v2 r110v2)), (1000117, ownF), (117, (F117 (f117 k)))]
theorem c110v2_ok (k : Nat) (r110v2 : T110v2) (h110v2 : SoundFn Try.prog 110 (F110v2 r110v2)) : ∀ f, SoundFn Try.prog f (C110v2 k r110v2 f) := (mkC_cons (s46v2 k) (mkC_cons (s69 k) (mkC_cons h110v2 (mkC_cons ownF_ok (mkC_cons (s117 k) mkC_nil)))))
theorem e110v2 (k : Nat) (r110v2 : T110v2) (x : (a110v2).C) : bodyW (C110v2 k r110v2) tt noH Try.f110 a110v2 o110v2 x = u110v2 (b110v2 k r110v2) x := by kernel_rfl
theorem q110v2 (k : Nat) (r110v2 : T110v2) (h110v2 : SoundFn Try.prog 110 (F110v2 r110v2)) : SoundFn Try.prog 110 (F110v2 (b110v2 k r110v2)) :=
  have hC := c110v2_ok k r110v2 h110v2
  fnW_sound hC ttOk (draw_ok hC ttOk mixed) Try.func110 (c0 := bd Try.f110) rfl (entry Try.func110 rfl (by decide)) noH_ok (fun x _ h => (e110v2 k r110v2 x).trans h)
theorem sAll110v2 : ∀ k : Nat, SoundFn Try.prog 110 (F110v2 (f110v2 k))
  | 0 => noneW_ok (by intro x; rfl)
  | k + 1 =>
    have ih := sAll110v2 k
    q110v2 k (f110v2 k) ih
theorem s110v2 (k : Nat) : SoundFn Try.prog 110 (F110v2 (f110v2 k)) := (sAll110v2 k)
/-! f79v2 fathom/card.Count (W) -/
noncomputable def a79v2 : Shape := ⟨[.nilp, .d (.slice i64)], []⟩
noncomputable def o79v2 : List Shape := [⟨[.nils], []⟩, ⟨[.own i64], []⟩]
abbrev R79v2 : Type := (((Unit × Unit) × Unit) ⊕ (((List Int) × Unit) × Unit))
abbrev T79v2 : Type := (List Int) → Option R79v2
noncomputable def u79v2 (f : T79v2) : (a79v2).C → Option (OutC o79v2) := fun (x : ((Unit × (List Int) × Unit) × Unit)) => f x.1.2.1
noncomputable def F79v2 (f : T79v2) : Fun := ⟨false, runW a79v2 o79v2 (u79v2 f)⟩
noncomputable def f79v2 (k : Nat) : T79v2 := fun l1 =>
  (f109v2 k l1).bind fun y1 =>
  cond (!y1.1.1)
    (some (.inl (((), ()), ())))
    ((f110v2 k l1).bind fun y2 =>
    match y2 with
    | .inl y2_0 =>
      some (.inl (((), ()), ()))
    | .inr y2_1 =>
      some (.inr ((y2_1.1.1, ()), ())))
noncomputable def C79v2 (k : Nat) : Nat → Fun := mkC [(109, (F109v2 (f109v2 k))), (110, (F110v2 (f110v2 k)))]
theorem c79v2_ok (k : Nat) : ∀ f, SoundFn Try.prog f (C79v2 k f) := (mkC_cons (s109v2 k) (mkC_cons (s110v2 k) mkC_nil))
theorem e79v2 (k : Nat) (x : (a79v2).C) : bodyW (C79v2 k) tt noH Try.f79 a79v2 o79v2 x = u79v2 (f79v2 k) x := by kernel_rfl
theorem s79v2 (k : Nat) : SoundFn Try.prog 79 (F79v2 (f79v2 k)) :=
  have hC := c79v2_ok k
  fnW_sound hC ttOk (draw_ok hC ttOk mixed) Try.func79 (c0 := bd Try.f79) rfl (entry Try.func79 rfl (by decide)) noH_ok (fun x _ h => (e79v2 k x).trans h)
/-! f23v2 (*fathom/aig.Aig).Nodes (R) -/
noncomputable def a23v2 : Shape := ⟨[.nilp], []⟩
noncomputable def o23v2 : List Shape := [⟨[.d (.slice T_Gate)], []⟩]
abbrev R23v2 : Type := (((List D_Gate) × Unit) × Unit)
abbrev T23v2 : Type := Unit → Option R23v2
noncomputable def u23v2 (f : T23v2) : (a23v2).C → Option (OutC o23v2) := fun (x : ((Unit × Unit) × Unit)) => f ()
noncomputable def F23v2 (f : T23v2) : Fun := ⟨true, runR a23v2 o23v2 (u23v2 f)⟩
noncomputable def f23v2 (k : Nat) : T23v2 := fun _ =>
  some (([], ()), ())
noncomputable def C23v2 (k : Nat) : Nat → Fun := mkC []
theorem c23v2_ok (k : Nat) : ∀ f, SoundFn Try.prog f (C23v2 k f) := mkC_nil
theorem e23v2 (k : Nat) (x : (a23v2).C) : bodyR (C23v2 k) tt noH Try.f23 a23v2 o23v2 x = u23v2 (f23v2 k) x := by kernel_rfl
theorem s23v2 (k : Nat) : SoundFn Try.prog 23 (F23v2 (f23v2 k)) :=
  have hC := c23v2_ok k
  fnR_sound hC ttOk (draw_ok hC ttOk mixed) Try.func23 (c0 := bd Try.f23) rfl (entry Try.func23 rfl (by decide)) noH_ok rfl (fun x _ h => (e23v2 k x).trans h)
/-! f17 fathom/fathomlaw17.CardCounts (R) -/
noncomputable def a17 : Shape := ⟨[.d (.slice T_Gate), .d (.slice .bool), .d (.slice i64)], []⟩
noncomputable def o17 : List Shape := [⟨[.d .bool], []⟩]
abbrev R17 : Type := ((Bool × Unit) × Unit)
abbrev T17 : Type := (List D_Gate) → (List Bool) → (List Int) → Option R17
noncomputable def u17 (f : T17) : (a17).C → Option (OutC o17) := fun (x : (((List D_Gate) × (List Bool) × (List Int) × Unit) × Unit)) => f x.1.1 x.1.2.1 x.1.2.2.1
noncomputable def F17 (f : T17) : Fun := ⟨true, runR a17 o17 (u17 f)⟩
noncomputable def pa17_254s0 : Shape := ⟨[.d (.slice .bool), .nilp], []⟩
noncomputable def pw17_254s0 : List Vm.Way := [⟨.normal, [10], ⟨[.d (.slice .bool)], []⟩⟩]
abbrev R17_254s0 : Type := (((List Bool) × Unit) × Unit)
abbrev T17_254s0 : Type := (List Bool) → Option R17_254s0
noncomputable def u17_254s0 (f : T17_254s0) : (pa17_254s0).C → Option (WayC pw17_254s0) := fun (x : (((List Bool) × Unit × Unit) × Unit)) => f x.1.1
noncomputable def pa17_254s1 : Shape := ⟨[.d (.slice .bool), .ptr 0], [.box [.own T_Gate, .mp 1], .map T_Gate i64]⟩
noncomputable def pw17_254s1 : List Vm.Way := [⟨.normal, [10], ⟨[.d (.slice .bool)], [.box [.own T_Gate, .mp 1], .map T_Gate i64]⟩⟩]
abbrev R17_254s1 : Type := (((List Bool) × Unit) × (((List D_Gate) × Unit × Unit) × (List (D_Gate × Int)) × Unit))
abbrev T17_254s1 : Type := (List Bool) → (List D_Gate) → (List (D_Gate × Int)) → Option R17_254s1
noncomputable def u17_254s1 (f : T17_254s1) : (pa17_254s1).C → Option (WayC pw17_254s1) := fun (x : (((List Bool) × Unit × Unit) × (((List D_Gate) × Unit × Unit) × (List (D_Gate × Int)) × Unit))) => f x.1.1 x.2.1.1 x.2.2.1
noncomputable def l17_254s0 (k : Nat) : T17_254s0 := fun ins1 =>
  (f23v2 k ()).bind fun y1 =>
  (f31 k y1.1.1 ins1).bind fun y2 =>
  some ((y2.1.1, ()), ())
noncomputable def l17_254s1 (k : Nat) : T17_254s1 := fun ins1 o0 o1 =>
  (f23 k o0 o1).bind fun y1 =>
  (f31 k y1.1.1 ins1).bind fun y2 =>
  some ((y2.1.1, ()), ((o0, (), ()), o1, ()))
noncomputable def pa17_252 : Shape := ⟨[.d (.slice i64)], []⟩
noncomputable def pw17_252 : List Vm.Way := [⟨.normal, [35], ⟨[.d .bool], []⟩⟩]
abbrev R17_252 : Type := ((Bool × Unit) × Unit)
abbrev T17_252 : Type := (List Int) → Option R17_252
noncomputable def u17_252 (f : T17_252) : (pa17_252).C → Option (WayC pw17_252) := fun (x : (((List Int) × Unit) × Unit)) => f x.1.1
noncomputable def l17_252 (k : Nat) : T17_252 := fun l2 =>
  some (((decide ((l2.length : Int) > 30)), ()), ())
noncomputable def pa17_126 : Shape := ⟨[.d (.slice i64), .own i64], []⟩
noncomputable def pw17_126 : List Vm.Way := [⟨.normal, [9], ⟨[.own i64], []⟩⟩, ⟨.ret, [6], ⟨[.d .bool], []⟩⟩]
abbrev R17_126 : Type := ((((List Int) × Unit) × Unit) ⊕ ((Bool × Unit) × Unit))
abbrev T17_126 : Type := (List Int) → (List Int) → Option R17_126
noncomputable def u17_126 (f : T17_126) : (pa17_126).C → Option (WayC pw17_126) := fun (x : (((List Int) × (List Int) × Unit) × Unit)) => f x.1.1 x.1.2.1
noncomputable def l17_126 (k : Nat) : T17_126 := fun l2 c9 =>
  (l17_252 k l2).bind fun y1 =>
  cond y1.1.1
    ((f70 k (l2.length : Int)).bind fun y2 =>
    cond ((c9.length : Int) == y2.1.1)
      ((f71 k ()).bind fun y3 =>
      some (.inr ((y3.1.1, ()), ())))
      (some (.inr ((false, ()), ()))))
    (some (.inl ((c9, ()), ())))
noncomputable def pa17_124 : Shape := ⟨[.d (.slice T_Gate), .d (.slice i64)], []⟩
noncomputable def pw17_124 : List Vm.Way := [⟨.normal, [26], ⟨[.d .bool], []⟩⟩]
abbrev R17_124 : Type := ((Bool × Unit) × Unit)
abbrev T17_124 : Type := (List D_Gate) → (List Int) → Option R17_124
noncomputable def u17_124 (f : T17_124) : (pa17_124).C → Option (WayC pw17_124) := fun (x : (((List D_Gate) × (List Int) × Unit) × Unit)) => f x.1.1 x.1.2.1
noncomputable def l17_124 (k : Nat) : T17_124 := fun g0 l2 =>
  (f74 k g0 l2).bind fun y1 =>
  some (((!y1.1.1), ()), ())
noncomputable def pa17_62 : Shape := ⟨[.d (.slice T_Gate), .d (.slice i64), .own i64], []⟩
noncomputable def pw17_62 : List Vm.Way := [⟨.normal, [9], ⟨[.own i64], []⟩⟩, ⟨.ret, [6], ⟨[.d .bool], []⟩⟩]
abbrev R17_62 : Type := ((((List Int) × Unit) × Unit) ⊕ ((Bool × Unit) × Unit))
abbrev T17_62 : Type := (List D_Gate) → (List Int) → (List Int) → Option R17_62
noncomputable def u17_62 (f : T17_62) : (pa17_62).C → Option (WayC pw17_62) := fun (x : (((List D_Gate) × (List Int) × (List Int) × Unit) × Unit)) => f x.1.1 x.1.2.1 x.1.2.2.1
noncomputable def l17_62 (k : Nat) : T17_62 := fun g0 l2 c9 =>
  (l17_124 k g0 l2).bind fun y1 =>
  cond y1.1.1
    (cond ((c9.length : Int) == 0)
      ((f71 k ()).bind fun y2 =>
      some (.inr ((y2.1.1, ()), ())))
      (some (.inr ((false, ()), ()))))
    (some (.inl ((c9, ()), ())))
noncomputable def pa17_30s0 : Shape := ⟨[.d (.slice i64), .nilp], []⟩
noncomputable def pw17_30s0 : List Vm.Way := [⟨.normal, [9], ⟨[.own i64], []⟩⟩]
abbrev R17_30s0 : Type := (((List Int) × Unit) × Unit)
abbrev T17_30s0 : Type := (List Int) → Option R17_30s0
noncomputable def u17_30s0 (f : T17_30s0) : (pa17_30s0).C → Option (WayC pw17_30s0) := fun (x : (((List Int) × Unit × Unit) × Unit)) => f x.1.1
noncomputable def pa17_30s1 : Shape := ⟨[.d (.slice i64), .ptr 0], [.box [.own T_Gate, .mp 1], .map T_Gate i64]⟩
noncomputable def pw17_30s1 : List Vm.Way := [⟨.normal, [9], ⟨[.own i64], [.box [.own T_Gate, .mp 1], .map T_Gate i64]⟩⟩]
abbrev R17_30s1 : Type := (((List Int) × Unit) × (((List D_Gate) × Unit × Unit) × (List (D_Gate × Int)) × Unit))
abbrev T17_30s1 : Type := (List Int) → (List D_Gate) → (List (D_Gate × Int)) → Option R17_30s1
noncomputable def u17_30s1 (f : T17_30s1) : (pa17_30s1).C → Option (WayC pw17_30s1) := fun (x : (((List Int) × Unit × Unit) × (((List D_Gate) × Unit × Unit) × (List (D_Gate × Int)) × Unit))) => f x.1.1 x.2.1.1 x.2.2.1
noncomputable def l17_30s0 (k : Nat) : T17_30s0 := fun l2 =>
  (f79v2 k l2).bind fun y1 =>
  match y1 with
  | .inl y1_0 =>
    some (([], ()), ())
  | .inr y1_1 =>
    some ((y1_1.1.1, ()), ())
noncomputable def l17_30s1 (k : Nat) : T17_30s1 := fun l2 o0 o1 =>
  (f79 k l2 o0 o1).bind fun y1 =>
  match y1 with
  | .inl y1_0 =>
    some (([], ()), ((y1_0.2.1.1, (), ()), y1_0.2.2.1, ()))
  | .inr y1_1 =>
    some ((y1_1.1.1, ()), ((y1_1.2.1.1, (), ()), y1_1.2.2.1, ()))
noncomputable def pa17_28 : Shape := ⟨[.d .bool], []⟩
noncomputable def pw17_28 : List Vm.Way := [⟨.normal, [18], ⟨[.d .bool], []⟩⟩]
abbrev R17_28 : Type := ((Bool × Unit) × Unit)
abbrev T17_28 : Type := Bool → Option R17_28
noncomputable def u17_28 (f : T17_28) : (pa17_28).C → Option (WayC pw17_28) := fun (x : ((Bool × Unit) × Unit)) => f x.1.1
noncomputable def l17_28 (k : Nat) : T17_28 := fun ok8 =>
  some (((!ok8), ()), ())
noncomputable def pa17_14 : Shape := ⟨[.d .bool], []⟩
noncomputable def pw17_14 : List Vm.Way := [⟨.normal, [], ⟨[], []⟩⟩, ⟨.ret, [6], ⟨[.d .bool], []⟩⟩]
abbrev R17_14 : Type := ((Unit × Unit) ⊕ ((Bool × Unit) × Unit))
abbrev T17_14 : Type := Bool → Option R17_14
noncomputable def u17_14 (f : T17_14) : (pa17_14).C → Option (WayC pw17_14) := fun (x : ((Bool × Unit) × Unit)) => f x.1.1
noncomputable def l17_14 (k : Nat) : T17_14 := fun ok8 =>
  (l17_28 k ok8).bind fun y1 =>
  cond y1.1.1
    ((f71 k ()).bind fun y2 =>
    some (.inr ((y2.1.1, ()), ())))
    (some (.inl ((), ())))
noncomputable def pa17_6 : Shape := ⟨[.d (.slice T_Gate), .d (.slice i64)], []⟩
noncomputable def pw17_6 : List Vm.Way := [⟨.normal, [7, 8], ⟨[.nilp, .d .bool], []⟩⟩, ⟨.normal, [7, 8], ⟨[.ptr 0, .d .bool], [.box [.own T_Gate, .mp 1], .map T_Gate i64]⟩⟩]
abbrev R17_6 : Type := (((Unit × Bool × Unit) × Unit) ⊕ ((Unit × Bool × Unit) × (((List D_Gate) × Unit × Unit) × (List (D_Gate × Int)) × Unit)))
abbrev T17_6 : Type := (List D_Gate) → (List Int) → Option R17_6
noncomputable def u17_6 (f : T17_6) : (pa17_6).C → Option (WayC pw17_6) := fun (x : (((List D_Gate) × (List Int) × Unit) × Unit)) => f x.1.1 x.1.2.1
noncomputable def l17_6 (k : Nat) : T17_6 := fun g0 l2 =>
  (f72 k g0 l2).bind fun y1 =>
  match y1 with
  | .inl y1_0 =>
    some (.inl (((), y1_0.1.2.1, ()), ()))
  | .inr y1_1 =>
    some (.inr (((), y1_1.1.2.1, ()), ((y1_1.2.1.1, (), ()), y1_1.2.2.1, ())))
noncomputable def f17 (k : Nat) : T17 := fun g0 ins1 l2 =>
  (l17_6 k g0 l2).bind fun y1 =>
  match y1 with
  | .inl y1_0 =>
    (l17_14 k y1_0.1.2.1).bind fun y2 =>
    match y2 with
    | .inl y2_0 =>
      (l17_30s0 k l2).bind fun y3 =>
      (l17_62 k g0 l2 y3.1.1).bind fun y4 =>
      match y4 with
      | .inl y4_0 =>
        (l17_126 k l2 y4_0.1.1).bind fun y5 =>
        match y5 with
        | .inl y5_0 =>
          (l17_254s0 k ins1).bind fun y6 =>
          (f70 k (l2.length : Int)).bind fun y7 =>
          cond ((y5_0.1.1.length : Int) == y7.1.1)
            ((f43 k y6.1.1 y5_0.1.1).bind fun y8 =>
            (f75 k g0 ins1 l2).bind fun y9 =>
            cond (y8.1.1 == y9.1.1)
              ((f71 k ()).bind fun y10 =>
              some ((y10.1.1, ()), ()))
              (some ((false, ()), ())))
            (some ((false, ()), ()))
        | .inr y5_1 =>
          some ((y5_1.1.1, ()), ())
      | .inr y4_1 =>
        some ((y4_1.1.1, ()), ())
    | .inr y2_1 =>
      some ((y2_1.1.1, ()), ())
  | .inr y1_1 =>
    (l17_14 k y1_1.1.2.1).bind fun y11 =>
    match y11 with
    | .inl y11_0 =>
      (l17_30s1 k l2 y1_1.2.1.1 y1_1.2.2.1).bind fun y12 =>
      (l17_62 k g0 l2 y12.1.1).bind fun y13 =>
      match y13 with
      | .inl y13_0 =>
        (l17_126 k l2 y13_0.1.1).bind fun y14 =>
        match y14 with
        | .inl y14_0 =>
          (l17_254s1 k ins1 y12.2.1.1 y12.2.2.1).bind fun y15 =>
          (f70 k (l2.length : Int)).bind fun y16 =>
          cond ((y14_0.1.1.length : Int) == y16.1.1)
            ((f43 k y15.1.1 y14_0.1.1).bind fun y17 =>
            (f75 k g0 ins1 l2).bind fun y18 =>
            cond (y17.1.1 == y18.1.1)
              ((f71 k ()).bind fun y19 =>
              some ((y19.1.1, ()), ()))
              (some ((false, ()), ())))
            (some ((false, ()), ()))
        | .inr y14_1 =>
          some ((y14_1.1.1, ()), ())
      | .inr y13_1 =>
        some ((y13_1.1.1, ()), ())
    | .inr y11_1 =>
      some ((y11_1.1.1, ()), ())
noncomputable def C17 (k : Nat) : Nat → Fun := mkC [(23, (altF a23 false (F23 (f23 k)) (F23v2 (f23v2 k)))), (31, (F31 (f31 k))), (43, (F43 (f43 k))), (70, (F70 (f70 k))), (71, (F71 (f71 k))), (72, (F72 (f72 k))), (74, (F74 (f74 k))), (75, (F75 (f75 k))), (79, (altF a79 true (F79 (f79 k)) (F79v2 (f79v2 k))))]
theorem c17_ok (k : Nat) : ∀ f, SoundFn Try.prog f (C17 k f) := (mkC_cons (altF_ok (s23 k) (s23v2 k) rfl) (mkC_cons (s31 k) (mkC_cons (s43 k) (mkC_cons (s70 k) (mkC_cons (s71 k) (mkC_cons (s72 k) (mkC_cons (s74 k) (mkC_cons (s75 k) (mkC_cons (altF_ok (s79 k) (s79v2 k) rfl) mkC_nil)))))))))
noncomputable def H17_254 (k : Nat) : Nat → Option Cut := addH noH 254 (altCut [1, 7] pa17_254s0 ⟨runCut (wrC (codeAt 254 (bd Try.f17) 254)) 68 [1, 7] pa17_254s0 pw17_254s0 (u17_254s0 (l17_254s0 k))⟩ ⟨runCut (wrC (codeAt 254 (bd Try.f17) 254)) 68 [1, 7] pa17_254s1 pw17_254s1 (u17_254s1 (l17_254s1 k))⟩)
theorem e17_254s0 (k : Nat) (x : (pa17_254s0).C) : pieceF (C17 k) tt noH (codeAt 254 (bd Try.f17) 254) 254 68 [1, 7] pa17_254s0 pw17_254s0 x = u17_254s0 (l17_254s0 k) x := by kernel_rfl
theorem e17_254s1 (k : Nat) (x : (pa17_254s1).C) : pieceF (C17 k) tt noH (codeAt 254 (bd Try.f17) 254) 254 68 [1, 7] pa17_254s1 pw17_254s1 x = u17_254s1 (l17_254s1 k) x := by kernel_rfl
theorem h17_254_ok (k : Nat) : ∀ p S, H17_254 k p = some S → ∀ c, At (bd Try.f17) p c → CutOk Try.prog c S :=
  have hC := c17_ok k
  addCut noH_ok (fun hc => (altCut_ok (piece_ok hC ttOk (draw_ok hC ttOk mixed) noH_ok hc (fun x _ h => (e17_254s0 k x).trans h)) (piece_ok hC ttOk (draw_ok hC ttOk mixed) noH_ok hc (fun x _ h => (e17_254s1 k x).trans h))))
noncomputable def H17_252 (k : Nat) : Nat → Option Cut := addH (H17_254 k) 252 ⟨runCut (wrC (codeAt 252 (bd Try.f17) 252)) 68 [2] pa17_252 pw17_252 (u17_252 (l17_252 k))⟩
theorem e17_252 (k : Nat) (x : (pa17_252).C) : pieceF (C17 k) tt (H17_254 k) (codeAt 252 (bd Try.f17) 252) 252 68 [2] pa17_252 pw17_252 x = u17_252 (l17_252 k) x := by kernel_rfl
theorem h17_252_ok (k : Nat) : ∀ p S, H17_252 k p = some S → ∀ c, At (bd Try.f17) p c → CutOk Try.prog c S :=
  have hC := c17_ok k
  addPiece hC ttOk (draw_ok hC ttOk mixed) (h17_254_ok k) (fun x _ h => (e17_252 k x).trans h)
noncomputable def H17_126 (k : Nat) : Nat → Option Cut := addH (H17_252 k) 126 ⟨runCut (wrC (codeAt 126 (bd Try.f17) 126)) 68 [2, 9] pa17_126 pw17_126 (u17_126 (l17_126 k))⟩
theorem e17_126 (k : Nat) (x : (pa17_126).C) : pieceF (C17 k) tt (H17_252 k) (codeAt 126 (bd Try.f17) 126) 126 68 [2, 9] pa17_126 pw17_126 x = u17_126 (l17_126 k) x := by kernel_rfl
theorem h17_126_ok (k : Nat) : ∀ p S, H17_126 k p = some S → ∀ c, At (bd Try.f17) p c → CutOk Try.prog c S :=
  have hC := c17_ok k
  addPiece hC ttOk (draw_ok hC ttOk mixed) (h17_252_ok k) (fun x _ h => (e17_126 k x).trans h)
noncomputable def H17_124 (k : Nat) : Nat → Option Cut := addH (H17_126 k) 124 ⟨runCut (wrC (codeAt 124 (bd Try.f17) 124)) 68 [0, 2] pa17_124 pw17_124 (u17_124 (l17_124 k))⟩
theorem e17_124 (k : Nat) (x : (pa17_124).C) : pieceF (C17 k) tt (H17_126 k) (codeAt 124 (bd Try.f17) 124) 124 68 [0, 2] pa17_124 pw17_124 x = u17_124 (l17_124 k) x := by kernel_rfl
theorem h17_124_ok (k : Nat) : ∀ p S, H17_124 k p = some S → ∀ c, At (bd Try.f17) p c → CutOk Try.prog c S :=
  have hC := c17_ok k
  addPiece hC ttOk (draw_ok hC ttOk mixed) (h17_126_ok k) (fun x _ h => (e17_124 k x).trans h)
noncomputable def H17_62 (k : Nat) : Nat → Option Cut := addH (H17_124 k) 62 ⟨runCut (wrC (codeAt 62 (bd Try.f17) 62)) 68 [0, 2, 9] pa17_62 pw17_62 (u17_62 (l17_62 k))⟩
theorem e17_62 (k : Nat) (x : (pa17_62).C) : pieceF (C17 k) tt (H17_124 k) (codeAt 62 (bd Try.f17) 62) 62 68 [0, 2, 9] pa17_62 pw17_62 x = u17_62 (l17_62 k) x := by kernel_rfl
theorem h17_62_ok (k : Nat) : ∀ p S, H17_62 k p = some S → ∀ c, At (bd Try.f17) p c → CutOk Try.prog c S :=
  have hC := c17_ok k
  addPiece hC ttOk (draw_ok hC ttOk mixed) (h17_124_ok k) (fun x _ h => (e17_62 k x).trans h)
noncomputable def H17_30 (k : Nat) : Nat → Option Cut := addH (H17_62 k) 30 (altCut [2, 7] pa17_30s0 ⟨runCut (wrC (codeAt 30 (bd Try.f17) 30)) 68 [2, 7] pa17_30s0 pw17_30s0 (u17_30s0 (l17_30s0 k))⟩ ⟨runCut (wrC (codeAt 30 (bd Try.f17) 30)) 68 [2, 7] pa17_30s1 pw17_30s1 (u17_30s1 (l17_30s1 k))⟩)
theorem e17_30s0 (k : Nat) (x : (pa17_30s0).C) : pieceF (C17 k) tt (H17_62 k) (codeAt 30 (bd Try.f17) 30) 30 68 [2, 7] pa17_30s0 pw17_30s0 x = u17_30s0 (l17_30s0 k) x := by kernel_rfl
theorem e17_30s1 (k : Nat) (x : (pa17_30s1).C) : pieceF (C17 k) tt (H17_62 k) (codeAt 30 (bd Try.f17) 30) 30 68 [2, 7] pa17_30s1 pw17_30s1 x = u17_30s1 (l17_30s1 k) x := by kernel_rfl
theorem h17_30_ok (k : Nat) : ∀ p S, H17_30 k p = some S → ∀ c, At (bd Try.f17) p c → CutOk Try.prog c S :=
  have hC := c17_ok k
  addCut (h17_62_ok k) (fun hc => (altCut_ok (piece_ok hC ttOk (draw_ok hC ttOk mixed) (h17_62_ok k) hc (fun x _ h => (e17_30s0 k x).trans h)) (piece_ok hC ttOk (draw_ok hC ttOk mixed) (h17_62_ok k) hc (fun x _ h => (e17_30s1 k x).trans h))))
noncomputable def H17_28 (k : Nat) : Nat → Option Cut := addH (H17_30 k) 28 ⟨runCut (wrC (codeAt 28 (bd Try.f17) 28)) 68 [8] pa17_28 pw17_28 (u17_28 (l17_28 k))⟩
theorem e17_28 (k : Nat) (x : (pa17_28).C) : pieceF (C17 k) tt (H17_30 k) (codeAt 28 (bd Try.f17) 28) 28 68 [8] pa17_28 pw17_28 x = u17_28 (l17_28 k) x := by kernel_rfl
theorem h17_28_ok (k : Nat) : ∀ p S, H17_28 k p = some S → ∀ c, At (bd Try.f17) p c → CutOk Try.prog c S :=
  have hC := c17_ok k
  addPiece hC ttOk (draw_ok hC ttOk mixed) (h17_30_ok k) (fun x _ h => (e17_28 k x).trans h)
noncomputable def H17_14 (k : Nat) : Nat → Option Cut := addH (H17_28 k) 14 ⟨runCut (wrC (codeAt 14 (bd Try.f17) 14)) 68 [8] pa17_14 pw17_14 (u17_14 (l17_14 k))⟩
theorem e17_14 (k : Nat) (x : (pa17_14).C) : pieceF (C17 k) tt (H17_28 k) (codeAt 14 (bd Try.f17) 14) 14 68 [8] pa17_14 pw17_14 x = u17_14 (l17_14 k) x := by kernel_rfl
theorem h17_14_ok (k : Nat) : ∀ p S, H17_14 k p = some S → ∀ c, At (bd Try.f17) p c → CutOk Try.prog c S :=
  have hC := c17_ok k
  addPiece hC ttOk (draw_ok hC ttOk mixed) (h17_28_ok k) (fun x _ h => (e17_14 k x).trans h)
noncomputable def H17_6 (k : Nat) : Nat → Option Cut := addH (H17_14 k) 6 ⟨runCut (wrC (codeAt 6 (bd Try.f17) 6)) 68 [0, 2] pa17_6 pw17_6 (u17_6 (l17_6 k))⟩
theorem e17_6 (k : Nat) (x : (pa17_6).C) : pieceF (C17 k) tt (H17_14 k) (codeAt 6 (bd Try.f17) 6) 6 68 [0, 2] pa17_6 pw17_6 x = u17_6 (l17_6 k) x := by kernel_rfl
theorem h17_6_ok (k : Nat) : ∀ p S, H17_6 k p = some S → ∀ c, At (bd Try.f17) p c → CutOk Try.prog c S :=
  have hC := c17_ok k
  addPiece hC ttOk (draw_ok hC ttOk mixed) (h17_14_ok k) (fun x _ h => (e17_6 k x).trans h)
theorem e17 (k : Nat) (x : (a17).C) : bodyR (C17 k) tt (H17_6 k) Try.f17 a17 o17 x = u17 (f17 k) x := by kernel_rfl
theorem s17 (k : Nat) : SoundFn Try.prog 17 (F17 (f17 k)) :=
  have hC := c17_ok k
  fnR_sound hC ttOk (draw_ok hC ttOk mixed) Try.func17 (c0 := bd Try.f17) rfl (entry Try.func17 rfl (by decide)) (h17_6_ok k) rfl (fun x _ h => (e17 k x).trans h)
/-! f103v3 fathom/vec.less (W) -/
noncomputable def a103v3 : Shape := ⟨[.nilp, .d (.slice i64), .d (.slice i64)], []⟩
noncomputable def o103v3 : List Shape := [⟨[.d i64], []⟩]
abbrev R103v3 : Type := ((Int × Unit) × Unit)
abbrev T103v3 : Type := (List Int) → (List Int) → Option R103v3
noncomputable def u103v3 (f : T103v3) : (a103v3).C → Option (OutC o103v3) := fun (x : ((Unit × (List Int) × (List Int) × Unit) × Unit)) => f x.1.2.1 x.1.2.2.1
noncomputable def F103v3 (f : T103v3) : Fun := ⟨false, runW a103v3 o103v3 (u103v3 f)⟩
noncomputable def f103v3 (k : Nat) : T103v3 := fun a1 b2 =>
  (f104 k b2).bind fun y1 =>
  (f96v2 k a1 y1.1.1 1).bind fun y2 =>
  cond (y2.1.2.1 == (-1))
    (some (((-1), ()), ()))
    (some (((ibits .xor .i64 y2.1.2.1 1), ()), ()))
noncomputable def C103v3 (k : Nat) : Nat → Fun := mkC [(96, (F96v2 (f96v2 k))), (104, (F104 (f104 k)))]
theorem c103v3_ok (k : Nat) : ∀ f, SoundFn Try.prog f (C103v3 k f) := (mkC_cons (s96v2 k) (mkC_cons (s104 k) mkC_nil))
theorem e103v3 (k : Nat) (x : (a103v3).C) : bodyW (C103v3 k) tt noH Try.f103 a103v3 o103v3 x = u103v3 (f103v3 k) x := by kernel_rfl
theorem s103v3 (k : Nat) : SoundFn Try.prog 103 (F103v3 (f103v3 k)) :=
  have hC := c103v3_ok k
  fnW_sound hC ttOk (draw_ok hC ttOk mixed) Try.func103 (c0 := bd Try.f103) rfl (entry Try.func103 rfl (by decide)) noH_ok (fun x _ h => (e103v3 k x).trans h)
/-! f65v2 fathom/vec.Less (W) -/
noncomputable def a65v2 : Shape := ⟨[.nilp, .d (.slice i64), .d (.slice i64)], []⟩
noncomputable def o65v2 : List Shape := [⟨[.d i64], []⟩]
abbrev R65v2 : Type := ((Int × Unit) × Unit)
abbrev T65v2 : Type := (List Int) → (List Int) → Option R65v2
noncomputable def u65v2 (f : T65v2) : (a65v2).C → Option (OutC o65v2) := fun (x : ((Unit × (List Int) × (List Int) × Unit) × Unit)) => f x.1.2.1 x.1.2.2.1
noncomputable def F65v2 (f : T65v2) : Fun := ⟨false, runW a65v2 o65v2 (u65v2 f)⟩
noncomputable def f65v2 (k : Nat) : T65v2 := fun a1 b2 =>
  (f95v2 k a1 b2).bind fun y1 =>
  cond (!y1.1.1)
    (some (((-1), ()), ()))
    ((f103v3 k a1 b2).bind fun y2 =>
    some ((y2.1.1, ()), ()))
noncomputable def C65v2 (k : Nat) : Nat → Fun := mkC [(95, (F95v2 (f95v2 k))), (103, (F103v3 (f103v3 k)))]
theorem c65v2_ok (k : Nat) : ∀ f, SoundFn Try.prog f (C65v2 k f) := (mkC_cons (s95v2 k) (mkC_cons (s103v3 k) mkC_nil))
theorem e65v2 (k : Nat) (x : (a65v2).C) : bodyW (C65v2 k) tt noH Try.f65 a65v2 o65v2 x = u65v2 (f65v2 k) x := by kernel_rfl
theorem s65v2 (k : Nat) : SoundFn Try.prog 65 (F65v2 (f65v2 k)) :=
  have hC := c65v2_ok k
  fnW_sound hC ttOk (draw_ok hC ttOk mixed) Try.func65 (c0 := bd Try.f65) rfl (entry Try.func65 rfl (by decide)) noH_ok (fun x _ h => (e65v2 k x).trans h)
/-! f76v2 fathom/card.Least (W) -/
noncomputable def a76v2 : Shape := ⟨[.nilp, .d (.slice i64), .d i64], []⟩
noncomputable def o76v2 : List Shape := [⟨[.d i64], []⟩]
abbrev R76v2 : Type := ((Int × Unit) × Unit)
abbrev T76v2 : Type := (List Int) → Int → Option R76v2
noncomputable def u76v2 (f : T76v2) : (a76v2).C → Option (OutC o76v2) := fun (x : ((Unit × (List Int) × Int × Unit) × Unit)) => f x.1.2.1 x.1.2.2.1
noncomputable def F76v2 (f : T76v2) : Fun := ⟨false, runW a76v2 o76v2 (u76v2 f)⟩
noncomputable def f76v2 (k : Nat) : T76v2 := fun l1 k2 =>
  (f79v2 k l1).bind fun y1 =>
  match y1 with
  | .inl y1_0 =>
    some (((-1), ()), ())
  | .inr y1_1 =>
    cond y1_1.1.1.isEmpty
      (none)
      (cond (decide (k2 ≤ 0))
        (some ((1, ()), ()))
        (cond (decide (k2 > (l1.length : Int)))
          (some ((0, ()), ()))
          ((f37 k k2 (y1_1.1.1.length : Int)).bind fun y2 =>
          (f65v2 k y1_1.1.1 y2.1.1).bind fun y3 =>
          cond (y3.1.1 == (-1))
            (some (((-1), ()), ()))
            (some (((ibits .xor .i64 y3.1.1 1), ()), ())))))
noncomputable def C76v2 (k : Nat) : Nat → Fun := mkC [(37, (F37 (f37 k))), (65, (F65v2 (f65v2 k))), (79, (F79v2 (f79v2 k)))]
theorem c76v2_ok (k : Nat) : ∀ f, SoundFn Try.prog f (C76v2 k f) := (mkC_cons (s37 k) (mkC_cons (s65v2 k) (mkC_cons (s79v2 k) mkC_nil)))
theorem e76v2 (k : Nat) (x : (a76v2).C) : bodyW (C76v2 k) tt noH Try.f76 a76v2 o76v2 x = u76v2 (f76v2 k) x := by kernel_rfl
theorem s76v2 (k : Nat) : SoundFn Try.prog 76 (F76v2 (f76v2 k)) :=
  have hC := c76v2_ok k
  fnW_sound hC ttOk (draw_ok hC ttOk mixed) Try.func76 (c0 := bd Try.f76) rfl (entry Try.func76 rfl (by decide)) noH_ok (fun x _ h => (e76v2 k x).trans h)
/-! f77v2 fathom/card.Most (W) -/
noncomputable def a77v2 : Shape := ⟨[.nilp, .d (.slice i64), .d i64], []⟩
noncomputable def o77v2 : List Shape := [⟨[.d i64], []⟩]
abbrev R77v2 : Type := ((Int × Unit) × Unit)
abbrev T77v2 : Type := (List Int) → Int → Option R77v2
noncomputable def u77v2 (f : T77v2) : (a77v2).C → Option (OutC o77v2) := fun (x : ((Unit × (List Int) × Int × Unit) × Unit)) => f x.1.2.1 x.1.2.2.1
noncomputable def F77v2 (f : T77v2) : Fun := ⟨false, runW a77v2 o77v2 (u77v2 f)⟩
noncomputable def f77v2 (k : Nat) : T77v2 := fun l1 k2 =>
  cond (decide (k2 ≥ (l1.length : Int)))
    ((f76v2 k l1 (w64 ((minmax true (l1.length : Int) (-1)) + 1))).bind fun y1 =>
    cond (y1.1.1 == (-1))
      (some (((-1), ()), ()))
      (some (((ibits .xor .i64 y1.1.1 1), ()), ())))
    ((f76v2 k l1 (w64 ((minmax true k2 (-1)) + 1))).bind fun y2 =>
    cond (y2.1.1 == (-1))
      (some (((-1), ()), ()))
      (some (((ibits .xor .i64 y2.1.1 1), ()), ())))
noncomputable def C77v2 (k : Nat) : Nat → Fun := mkC [(76, (F76v2 (f76v2 k)))]
theorem c77v2_ok (k : Nat) : ∀ f, SoundFn Try.prog f (C77v2 k f) := (mkC_cons (s76v2 k) mkC_nil)
theorem e77v2 (k : Nat) (x : (a77v2).C) : bodyW (C77v2 k) tt noH Try.f77 a77v2 o77v2 x = u77v2 (f77v2 k) x := by kernel_rfl
theorem s77v2 (k : Nat) : SoundFn Try.prog 77 (F77v2 (f77v2 k)) :=
  have hC := c77v2_ok k
  fnW_sound hC ttOk (draw_ok hC ttOk mixed) Try.func77 (c0 := bd Try.f77) rfl (entry Try.func77 rfl (by decide)) noH_ok (fun x _ h => (e77v2 k x).trans h)
/-! f78v2 fathom/card.Just (W) -/
noncomputable def a78v2 : Shape := ⟨[.nilp, .d (.slice i64), .d i64], []⟩
noncomputable def o78v2 : List Shape := [⟨[.d i64], []⟩]
abbrev R78v2 : Type := ((Int × Unit) × Unit)
abbrev T78v2 : Type := (List Int) → Int → Option R78v2
noncomputable def u78v2 (f : T78v2) : (a78v2).C → Option (OutC o78v2) := fun (x : ((Unit × (List Int) × Int × Unit) × Unit)) => f x.1.2.1 x.1.2.2.1
noncomputable def F78v2 (f : T78v2) : Fun := ⟨false, runW a78v2 o78v2 (u78v2 f)⟩
noncomputable def f78v2 (k : Nat) : T78v2 := fun l1 k2 =>
  (f76v2 k l1 k2).bind fun y1 =>
  (f77v2 k l1 k2).bind fun y2 =>
  cond (y1.1.1 == (-1))
    (some (((-1), ()), ()))
    (cond (y2.1.1 == (-1))
      (some (((-1), ()), ()))
      ((f19v2 k y1.1.1 y2.1.1).bind fun y3 =>
      some ((y3.1.1, ()), ())))
noncomputable def C78v2 (k : Nat) : Nat → Fun := mkC [(19, (F19v2 (f19v2 k))), (76, (F76v2 (f76v2 k))), (77, (F77v2 (f77v2 k)))]
theorem c78v2_ok (k : Nat) : ∀ f, SoundFn Try.prog f (C78v2 k f) := (mkC_cons (s19v2 k) (mkC_cons (s76v2 k) (mkC_cons (s77v2 k) mkC_nil)))
theorem e78v2 (k : Nat) (x : (a78v2).C) : bodyW (C78v2 k) tt noH Try.f78 a78v2 o78v2 x = u78v2 (f78v2 k) x := by kernel_rfl
theorem s78v2 (k : Nat) : SoundFn Try.prog 78 (F78v2 (f78v2 k)) :=
  have hC := c78v2_ok k
  fnW_sound hC ttOk (draw_ok hC ttOk mixed) Try.func78 (c0 := bd Try.f78) rfl (entry Try.func78 rfl (by decide)) noH_ok (fun x _ h => (e78v2 k x).trans h)
/-! f16 fathom/fathomlaw17.CardAsks (R) -/
noncomputable def a16 : Shape := ⟨[.d (.slice T_Gate), .d (.slice .bool), .d T_Asked], []⟩
noncomputable def o16 : List Shape := [⟨[.d .bool], []⟩]
abbrev R16 : Type := ((Bool × Unit) × Unit)
abbrev T16 : Type := (List D_Gate) → (List Bool) → D_Asked → Option R16
noncomputable def u16 (f : T16) : (a16).C → Option (OutC o16) := fun (x : (((List D_Gate) × (List Bool) × D_Asked × Unit) × Unit)) => f x.1.1 x.1.2.1 x.1.2.2.1
noncomputable def F16 (f : T16) : Fun := ⟨true, runR a16 o16 (u16 f)⟩
noncomputable def f16 (k : Nat) : T16 := fun g0 ins1 q2 =>
  (f72 k g0 q2.1).bind fun y1 =>
  match y1 with
  | .inl y1_0 =>
    cond (!y1_0.1.2.1)
      ((f71 k ()).bind fun y2 =>
      some ((y2.1.1, ()), ()))
      ((f76v2 k q2.1 q2.2.1).bind fun y3 =>
      (f77v2 k q2.1 q2.2.1).bind fun y4 =>
      (f78v2 k q2.1 q2.2.1).bind fun y5 =>
      (f74 k g0 q2.1).bind fun y6 =>
      cond (!y6.1.1)
        (cond (y3.1.1 == (-1))
          (cond (y4.1.1 == (-1))
            (cond (y5.1.1 == (-1))
              ((f71 k ()).bind fun y7 =>
              some ((y7.1.1, ()), ()))
              (some ((false, ()), ())))
            (some ((false, ()), ())))
          (some ((false, ()), ())))
        (cond (decide ((q2.1.length : Int) > 30))
          (cond (decide (y3.1.1 ≥ 0))
            (cond (decide (y4.1.1 ≥ 0))
              (cond (decide (y5.1.1 ≥ 0))
                ((f71 k ()).bind fun y8 =>
                some ((y8.1.1, ()), ()))
                (some ((false, ()), ())))
              (some ((false, ()), ())))
            (some ((false, ()), ())))
          ((f75 k g0 ins1 q2.1).bind fun y9 =>
          (f23v2 k ()).bind fun y10 =>
          (f31 k y10.1.1 ins1).bind fun y11 =>
          cond (decide (y3.1.1 ≥ 0))
            (cond (decide (y4.1.1 ≥ 0))
              (cond (decide (y5.1.1 ≥ 0))
                ((f34 k y11.1.1 y3.1.1).bind fun y12 =>
                cond (y12.1.1 == (decide (y9.1.1 ≥ q2.2.1)))
                  ((f34 k y11.1.1 y4.1.1).bind fun y13 =>
                  cond (y13.1.1 == (decide (y9.1.1 ≤ q2.2.1)))
                    ((f34 k y11.1.1 y5.1.1).bind fun y14 =>
                    cond (y14.1.1 == (y9.1.1 == q2.2.1))
                      ((f71 k ()).bind fun y15 =>
                      some ((y15.1.1, ()), ()))
                      (some ((false, ()), ())))
                    (some ((false, ()), ())))
                  (some ((false, ()), ())))
                (some ((false, ()), ())))
              (some ((false, ()), ())))
            (some ((false, ()), ())))))
  | .inr y1_1 =>
    cond (!y1_1.1.2.1)
      ((f71 k ()).bind fun y16 =>
      some ((y16.1.1, ()), ()))
      ((f76 k q2.1 q2.2.1 y1_1.2.1.1 y1_1.2.2.1).bind fun y17 =>
      (f77 k q2.1 q2.2.1 y17.2.1.1 y17.2.2.1).bind fun y18 =>
      (f78 k q2.1 q2.2.1 y18.2.1.1 y18.2.2.1).bind fun y19 =>
      (f74 k g0 q2.1).bind fun y20 =>
      cond (!y20.1.1)
        (cond (y17.1.1 == (-1))
          (cond (y18.1.1 == (-1))
            (cond (y19.1.1 == (-1))
              ((f71 k ()).bind fun y21 =>
              some ((y21.1.1, ()), ()))
              (some ((false, ()), ())))
            (some ((false, ()), ())))
          (some ((false, ()), ())))
        (cond (decide ((q2.1.length : Int) > 30))
          (cond (decide (y17.1.1 ≥ 0))
            (cond (decide (y18.1.1 ≥ 0))
              (cond (decide (y19.1.1 ≥ 0))
                ((f71 k ()).bind fun y22 =>
                some ((y22.1.1, ()), ()))
                (some ((false, ()), ())))
              (some ((false, ()), ())))
            (some ((false, ()), ())))
          ((f75 k g0 ins1 q2.1).bind fun y23 =>
          (f23 k y19.2.1.1 y19.2.2.1).bind fun y24 =>
          (f31 k y24.1.1 ins1).bind fun y25 =>
          cond (decide (y17.1.1 ≥ 0))
            (cond (decide (y18.1.1 ≥ 0))
              (cond (decide (y19.1.1 ≥ 0))
                ((f34 k y25.1.1 y17.1.1).bind fun y26 =>
                cond (y26.1.1 == (decide (y23.1.1 ≥ q2.2.1)))
                  ((f34 k y25.1.1 y18.1.1).bind fun y27 =>
                  cond (y27.1.1 == (decide (y23.1.1 ≤ q2.2.1)))
                    ((f34 k y25.1.1 y19.1.1).bind fun y28 =>
                    cond (y28.1.1 == (y23.1.1 == q2.2.1))
                      ((f71 k ()).bind fun y29 =>
                      some ((y29.1.1, ()), ()))
                      (some ((false, ()), ())))
                    (some ((false, ()), ())))
                  (some ((false, ()), ())))
                (some ((false, ()), ())))
              (some ((false, ()), ())))
            (some ((false, ()), ())))))
noncomputable def C16 (k : Nat) : Nat → Fun := mkC [(2000001, ownF), (23, (altF a23 false (F23 (f23 k)) (F23v2 (f23v2 k)))), (31, (F31 (f31 k))), (34, (F34 (f34 k))), (71, (F71 (f71 k))), (72, (F72 (f72 k))), (74, (F74 (f74 k))), (75, (F75 (f75 k))), (76, (altF a76 true (F76 (f76 k)) (F76v2 (f76v2 k)))), (77, (altF a77 true (F77 (f77 k)) (F77v2 (f77v2 k)))), (78, (altF a78 true (F78 (f78 k)) (F78v2 (f78v2 k))))]
theorem c16_ok (k : Nat) : ∀ f, SoundFn Try.prog f (C16 k f) := (mkC_cons ownF_ok (mkC_cons (altF_ok (s23 k) (s23v2 k) rfl) (mkC_cons (s31 k) (mkC_cons (s34 k) (mkC_cons (s71 k) (mkC_cons (s72 k) (mkC_cons (s74 k) (mkC_cons (s75 k) (mkC_cons (altF_ok (s76 k) (s76v2 k) rfl) (mkC_cons (altF_ok (s77 k) (s77v2 k) rfl) (mkC_cons (altF_ok (s78 k) (s78v2 k) rfl) mkC_nil)))))))))))
theorem e16 (k : Nat) (x : (a16).C) : bodyR (C16 k) tt noH Try.f16 a16 o16 x = u16 (f16 k) x := by kernel_rfl
theorem s16 (k : Nat) : SoundFn Try.prog 16 (F16 (f16 k)) :=
  have hC := c16_ok k
  fnR_sound hC ttOk (draw_ok hC ttOk mixed) Try.func16 (c0 := bd Try.f16) rfl (entry Try.func16 rfl (by decide)) noH_ok rfl (fun x _ h => (e16 k x).trans h)
end Go.Proofs.Ytgljnnokifggkaa.M
