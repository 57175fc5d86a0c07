/-
PRINTED BY vmp.py: the functions of a law, each as a Lean function, and that it is what the code computes.
-/
import Derived.Test.YtgljnnokifggkaaGiv
import Derived.Test.YtgljnnokifggkaaVm42
import Derived.Test.YtgljnnokifggkaaProg
import Derived.Test.YtgljnnokifggkaaChecked
import Derived.KernelRfl
set_option linter.unusedVariables false
set_option maxRecDepth 100000
namespace Go.Proofs.Ytgljnnokifggkaa.M
open Go Go.Proofs Go.Proofs.Ytgljnnokifggkaa.Vm
abbrev T_errorAddressString : Ty := (.pair .str (.pair (.int .u64) .unit))
abbrev D_errorAddressString : Type := (ByteArray × Int × Unit)
abbrev T_Gate : Ty := (.pair i64 (.pair i64 .unit))
abbrev D_Gate : Type := (Int × Int × Unit)
abbrev T_Asked : Ty := (.pair (.slice i64) (.pair i64 .unit))
abbrev D_Asked : Type := ((List Int) × Int × Unit)
abbrev T_Two : Ty := (.pair (.int .u16) (.pair (.int .u16) (.pair (.int .u32) .unit)))
abbrev D_Two : Type := (Int × Int × Int × Unit)
abbrev T_boundsError : Ty := (.pair i64 (.pair i64 (.pair .bool (.pair (.int .u8) .unit))))
abbrev D_boundsError : Type := (Int × Int × Bool × Int × Unit)
abbrev T_Act : Ty := (.pair i64 (.pair i64 (.pair i64 (.pair i64 .unit))))
abbrev D_Act : Type := (Int × Int × Int × Int × Unit)
def tl : List (Nat × TI) := [(3, .dat i64 0), (4, .dat .bool 0), (5, .dat (.int .u8) 0), (23, .ref 0), (24, .dat (.slice T_Gate) 16), (28, .dat T_Gate 0), (38, .map T_Gate i64), (40, .mix 2 [(0, 24), (1, 38)]), (43, .dat (.slice i64) 8), (45, .dat (.slice .bool) 1), (63, .dat (.int .u16) 0), (64, .dat (.int .u32) 0), (66, .dat T_Two 0), (110, .dat (.int .u64) 0)]
def tt := mkT tl
theorem ttOk : TtOk Try.prog tt := mkT_ok (by kernel_rfl)
theorem mixed : Try.prog.follows .mixedOrders = true := by kernel_rfl
/-! f38 fathom/aig.New (W) -/
noncomputable def a38 : Shape := ⟨[], []⟩
noncomputable def o38 : List Shape := [⟨[.ptr 0], [.box [.own T_Gate, .mp 1], .map T_Gate i64]⟩]
abbrev R38 : Type := ((Unit × Unit) × (((List D_Gate) × Unit × Unit) × (List (D_Gate × Int)) × Unit))
abbrev T38 : Type := Unit → Option R38
noncomputable def u38 (f : T38) : (a38).C → Option (OutC o38) := fun (x : (Unit × Unit)) => f ()
noncomputable def F38 (f : T38) : Fun := ⟨false, runW a38 o38 (u38 f)⟩
noncomputable def f38 (k : Nat) : T38 := fun _ =>
  some (((), ()), (([], (), ()), [], ()))
noncomputable def C38 (k : Nat) : Nat → Fun := mkC []
theorem c38_ok (k : Nat) : ∀ f, SoundFn Try.prog f (C38 k f) := mkC_nil
theorem e38 (k : Nat) (x : (a38).C) : bodyW (C38 k) tt noH Try.f38 a38 o38 x = u38 (f38 k) x := by kernel_rfl
theorem s38 (k : Nat) : SoundFn Try.prog 38 (F38 (f38 k)) :=
  have hC := c38_ok k
  fnW_sound hC ttOk (draw_ok hC ttOk mixed) Try.func38 (c0 := bd Try.f38) rfl (entry Try.func38 rfl (by decide)) noH_ok (fun x _ h => (e38 k x).trans h)
/-! f55 fathom/fathomref16.Power (R) -/
noncomputable def a55 : Shape := ⟨[.d i64], []⟩
noncomputable def o55 : List Shape := [⟨[.d i64], []⟩]
abbrev R55 : Type := ((Int × Unit) × Unit)
abbrev T55 : Type := Int → Option R55
noncomputable def u55 (f : T55) : (a55).C → Option (OutC o55) := fun (x : ((Int × Unit) × Unit)) => f x.1.1
noncomputable def F55 (f : T55) : Fun := ⟨true, runR a55 o55 (u55 f)⟩
noncomputable def f55 (k : Nat) : T55 := fun w0 =>
  cond (decide (w0 < 0))
    (none)
    (some (((w64 (1 * 2 ^ (min w0.toNat 64))), ()), ()))
noncomputable def C55 (k : Nat) : Nat → Fun := mkC []
theorem c55_ok (k : Nat) : ∀ f, SoundFn Try.prog f (C55 k f) := mkC_nil
theorem e55 (k : Nat) (x : (a55).C) : bodyR (C55 k) tt noH Try.f55 a55 o55 x = u55 (f55 k) x := by kernel_rfl
theorem s55 (k : Nat) : SoundFn Try.prog 55 (F55 (f55 k)) :=
  have hC := c55_ok k
  fnR_sound hC ttOk (draw_ok hC ttOk mixed) Try.func55 (c0 := bd Try.f55) rfl (entry Try.func55 rfl (by decide)) noH_ok rfl (fun x _ h => (e55 k x).trans h)
/-! f42 fathom/fathomref16.Mod (R) -/
noncomputable def a42 : Shape := ⟨[.d i64, .d i64], []⟩
noncomputable def o42 : List Shape := [⟨[.d i64], []⟩]
abbrev R42 : Type := ((Int × Unit) × Unit)
abbrev T42 : Type := Int → Int → Option R42
noncomputable def u42 (f : T42) : (a42).C → Option (OutC o42) := fun (x : ((Int × Int × Unit) × Unit)) => f x.1.1 x.1.2.1
noncomputable def F42 (f : T42) : Fun := ⟨true, runR a42 o42 (u42 f)⟩
noncomputable def f42 (k : Nat) : T42 := fun n0 w1 =>
  (f55 k w1).bind fun y1 =>
  cond (decide (y1.1.1 = 0))
    (none)
    (cond (decide ((Int.tmod n0 y1.1.1) < 0))
      ((f55 k w1).bind fun y2 =>
      some (((w64 ((Int.tmod n0 y1.1.1) + y2.1.1)), ()), ()))
      (some (((Int.tmod n0 y1.1.1), ()), ())))
noncomputable def C42 (k : Nat) : Nat → Fun := mkC [(55, (F55 (f55 k)))]
theorem c42_ok (k : Nat) : ∀ f, SoundFn Try.prog f (C42 k f) := (mkC_cons (s55 k) mkC_nil)
theorem e42 (k : Nat) (x : (a42).C) : bodyR (C42 k) tt noH Try.f42 a42 o42 x = u42 (f42 k) x := by kernel_rfl
theorem s42 (k : Nat) : SoundFn Try.prog 42 (F42 (f42 k)) :=
  have hC := c42_ok k
  fnR_sound hC ttOk (draw_ok hC ttOk mixed) Try.func42 (c0 := bd Try.f42) rfl (entry Try.func42 rfl (by decide)) noH_ok rfl (fun x _ h => (e42 k x).trans h)
/-! f41 fathom/fathomref16.Bit (R) -/
noncomputable def a41 : Shape := ⟨[.d i64, .d i64], []⟩
noncomputable def o41 : List Shape := [⟨[.d i64], []⟩]
abbrev R41 : Type := ((Int × Unit) × Unit)
abbrev T41 : Type := Int → Int → Option R41
noncomputable def u41 (f : T41) : (a41).C → Option (OutC o41) := fun (x : ((Int × Int × Unit) × Unit)) => f x.1.1 x.1.2.1
noncomputable def F41 (f : T41) : Fun := ⟨true, runR a41 o41 (u41 f)⟩
noncomputable def pa41_26 : Shape := ⟨[.d i64, .d i64, .d i64], []⟩
noncomputable def pw41_26 : List Vm.Way := [⟨.exit 0, [0], ⟨[.d i64], []⟩⟩]
abbrev R41_26 : Type := ((Int × Unit) × Unit)
abbrev T41_26 : Type := Int → Int → Int → Option R41_26
noncomputable def u41_26 (f : T41_26) : (pa41_26).C → Option (WayC pw41_26) := fun (x : ((Int × Int × Int × Unit) × Unit)) => f x.1.1 x.1.2.1 x.1.2.2.1
noncomputable def b41_26 (k : Nat) (rec : T41_26) : T41_26 := fun n0 i1 k5 =>
  cond (decide (k5 < i1))
    ((rec (w64 (Int.tdiv n0 2)) i1 (w64 (k5 + 1))).bind fun y1 =>
    some ((y1.1.1, ()), ()))
    (some ((n0, ()), ()))
noncomputable def l41_26 (k : Nat) : Nat → T41_26
  | 0 => fun _ _ _ => none
  | j + 1 => b41_26 k (l41_26 k j)
noncomputable def f41 (k : Nat) : T41 := fun n0 i1 =>
  (l41_26 k k n0 i1 0).bind fun y1 =>
  some (((Int.tmod y1.1.1 2), ()), ())
noncomputable def C41 (k : Nat) : Nat → Fun := mkC []
theorem c41_ok (k : Nat) : ∀ f, SoundFn Try.prog f (C41 k f) := mkC_nil
noncomputable def H41_26 (k : Nat) : Nat → Option Cut := addH noH 26 ⟨runCut (wrC (bodyOf (codeAt 26 (bd Try.f41) 26))) 15 [0, 1, 5] pa41_26 pw41_26 (u41_26 (l41_26 k k))⟩
theorem e41_26 (k : Nat) (rec : T41_26) (x : (pa41_26).C) : roundF (C41 k) tt noH (bodyOf (codeAt 26 (bd Try.f41) 26)) 52 15 [0, 1, 5] pa41_26 pw41_26 (u41_26 rec) x = u41_26 (b41_26 k rec) x := by kernel_rfl
theorem h41_26_ok (k : Nat) : ∀ p S, H41_26 k p = some S → ∀ c, At (bd Try.f41) p c → CutOk Try.prog c S :=
  have hC := c41_ok k
  addLoop hC ttOk (draw_ok hC ttOk mixed) noH_ok (by kernel_rfl) (F := fun j => u41_26 (l41_26 k j)) (fun _ => rfl) (fun j x _ h => (e41_26 k (l41_26 k j) x).trans h) k
theorem e41 (k : Nat) (x : (a41).C) : bodyR (C41 k) tt (H41_26 k) Try.f41 a41 o41 x = u41 (f41 k) x := by kernel_rfl
theorem s41 (k : Nat) : SoundFn Try.prog 41 (F41 (f41 k)) :=
  have hC := c41_ok k
  fnR_sound hC ttOk (draw_ok hC ttOk mixed) Try.func41 (c0 := bd Try.f41) rfl (entry Try.func41 rfl (by decide)) (h41_26_ok k) rfl (fun x _ h => (e41 k x).trans h)
/-! f88 fathom/aig.input (R) -/
noncomputable def a88 : Shape := ⟨[], []⟩
noncomputable def o88 : List Shape := [⟨[.d T_Gate], []⟩]
abbrev R88 : Type := ((D_Gate × Unit) × Unit)
abbrev T88 : Type := Unit → Option R88
noncomputable def u88 (f : T88) : (a88).C → Option (OutC o88) := fun (x : (Unit × Unit)) => f ()
noncomputable def F88 (f : T88) : Fun := ⟨true, runR a88 o88 (u88 f)⟩
noncomputable def f88 (k : Nat) : T88 := fun _ =>
  some ((((-1), (-1), ()), ()), ())
noncomputable def C88 (k : Nat) : Nat → Fun := mkC []
theorem c88_ok (k : Nat) : ∀ f, SoundFn Try.prog f (C88 k f) := mkC_nil
theorem e88 (k : Nat) (x : (a88).C) : bodyR (C88 k) tt noH Try.f88 a88 o88 x = u88 (f88 k) x := by kernel_rfl
theorem s88 (k : Nat) : SoundFn Try.prog 88 (F88 (f88 k)) :=
  have hC := c88_ok k
  fnR_sound hC ttOk (draw_ok hC ttOk mixed) Try.func88 (c0 := bd Try.f88) rfl (entry Try.func88 rfl (by decide)) noH_ok rfl (fun x _ h => (e88 k x).trans h)
/-! f86 (*fathom/aig.Aig).add (W) -/
noncomputable def a86 : Shape := ⟨[.ptr 0, .d T_Gate], [.box [.own T_Gate, .mp 1], .map T_Gate i64]⟩
noncomputable def o86 : List Shape := [⟨[.d i64], [.box [.own T_Gate, .mp 1], .map T_Gate i64]⟩]
abbrev R86 : Type := ((Int × Unit) × (((List D_Gate) × Unit × Unit) × (List (D_Gate × Int)) × Unit))
abbrev T86 : Type := D_Gate → (List D_Gate) → (List (D_Gate × Int)) → Option R86
noncomputable def u86 (f : T86) : (a86).C → Option (OutC o86) := fun (x : ((Unit × D_Gate × Unit) × (((List D_Gate) × Unit × Unit) × (List (D_Gate × Int)) × Unit))) => f x.1.2.1 x.2.1.1 x.2.2.1
noncomputable def F86 (f : T86) : Fun := ⟨false, runW a86 o86 (u86 f)⟩
noncomputable def f86 (k : Nat) : T86 := fun n1 o0 o1 =>
  cond (decide ((o0.length : Int) ≥ 1048576))
    (some (((-1), ()), ((o0, (), ()), o1, ())))
    (gd (decide ((o0.length + 1) * 16 ≤ room)) <|
    some (((w64 (2 * ((o0 ++ ([n1] : List D_Gate)).length : Int))), ()), (((o0 ++ ([n1] : List D_Gate)), (), ()), o1, ())))
noncomputable def C86 (k : Nat) : Nat → Fun := mkC []
theorem c86_ok (k : Nat) : ∀ f, SoundFn Try.prog f (C86 k f) := mkC_nil
theorem e86 (k : Nat) (x : (a86).C) : bodyW (C86 k) tt noH Try.f86 a86 o86 x = u86 (f86 k) x := by kernel_rfl
theorem s86 (k : Nat) : SoundFn Try.prog 86 (F86 (f86 k)) :=
  have hC := c86_ok k
  fnW_sound hC ttOk (draw_ok hC ttOk mixed) Try.func86 (c0 := bd Try.f86) rfl (entry Try.func86 rfl (by decide)) noH_ok (fun x _ h => (e86 k x).trans h)
/-! f25 (*fathom/aig.Aig).In (W) -/
noncomputable def a25 : Shape := ⟨[.ptr 0], [.box [.own T_Gate, .mp 1], .map T_Gate i64]⟩
noncomputable def o25 : List Shape := [⟨[.d i64], [.box [.own T_Gate, .mp 1], .map T_Gate i64]⟩]
abbrev R25 : Type := ((Int × Unit) × (((List D_Gate) × Unit × Unit) × (List (D_Gate × Int)) × Unit))
abbrev T25 : Type := (List D_Gate) → (List (D_Gate × Int)) → Option R25
noncomputable def u25 (f : T25) : (a25).C → Option (OutC o25) := fun (x : ((Unit × Unit) × (((List D_Gate) × Unit × Unit) × (List (D_Gate × Int)) × Unit))) => f x.2.1.1 x.2.2.1
noncomputable def F25 (f : T25) : Fun := ⟨false, runW a25 o25 (u25 f)⟩
noncomputable def f25 (k : Nat) : T25 := fun o0 o1 =>
  (f88 k ()).bind fun y1 =>
  (f86 k y1.1.1 o0 o1).bind fun y2 =>
  some ((y2.1.1, ()), ((y2.2.1.1, (), ()), y2.2.2.1, ()))
noncomputable def C25 (k : Nat) : Nat → Fun := mkC [(86, (F86 (f86 k))), (88, (F88 (f88 k)))]
theorem c25_ok (k : Nat) : ∀ f, SoundFn Try.prog f (C25 k f) := (mkC_cons (s86 k) (mkC_cons (s88 k) mkC_nil))
theorem e25 (k : Nat) (x : (a25).C) : bodyW (C25 k) tt noH Try.f25 a25 o25 x = u25 (f25 k) x := by kernel_rfl
theorem s25 (k : Nat) : SoundFn Try.prog 25 (F25 (f25 k)) :=
  have hC := c25_ok k
  fnW_sound hC ttOk (draw_ok hC ttOk mixed) Try.func25 (c0 := bd Try.f25) rfl (entry Try.func25 rfl (by decide)) noH_ok (fun x _ h => (e25 k x).trans h)
/-! f94 fathom/fathomlaw16.word (W) -/
noncomputable def a94 : Shape := ⟨[.ptr 0, .d i64, .d i64, .d (.int .u32), .d (.slice .bool)], [.box [.own T_Gate, .mp 1], .map T_Gate i64]⟩
noncomputable def o94 : List Shape := [⟨[.own i64, .d (.slice .bool)], [.box [.own T_Gate, .mp 1], .map T_Gate i64]⟩]
abbrev R94 : Type := (((List Int) × (List Bool) × Unit) × (((List D_Gate) × Unit × Unit) × (List (D_Gate × Int)) × Unit))
abbrev T94 : Type := Int → Int → Int → (List Bool) → (List D_Gate) → (List (D_Gate × Int)) → Option R94
noncomputable def u94 (f : T94) : (a94).C → Option (OutC o94) := fun (x : ((Unit × Int × Int × Int × (List Bool) × Unit) × (((List D_Gate) × Unit × Unit) × (List (D_Gate × Int)) × Unit))) => f x.1.2.1 x.1.2.2.1 x.1.2.2.2.1 x.1.2.2.2.2.1 x.2.1.1 x.2.2.1
noncomputable def F94 (f : T94) : Fun := ⟨false, runW a94 o94 (u94 f)⟩
noncomputable def pa94_58 : Shape := ⟨[.ptr 0, .d i64, .d i64, .d (.int .u32), .d (.slice .bool), .own i64, .d i64], [.box [.own T_Gate, .mp 1], .map T_Gate i64]⟩
noncomputable def pw94_58 : List Vm.Way := [⟨.exit 0, [4, 12], ⟨[.d (.slice .bool), .own i64], [.box [.own T_Gate, .mp 1], .map T_Gate i64]⟩⟩]
abbrev R94_58 : Type := (((List Bool) × (List Int) × Unit) × (((List D_Gate) × Unit × Unit) × (List (D_Gate × Int)) × Unit))
abbrev T94_58 : Type := Int → Int → Int → (List Bool) → (List Int) → Int → (List D_Gate) → (List (D_Gate × Int)) → Option R94_58
noncomputable def u94_58 (f : T94_58) : (pa94_58).C → Option (WayC pw94_58) := fun (x : ((Unit × Int × Int × Int × (List Bool) × (List Int) × Int × Unit) × (((List D_Gate) × Unit × Unit) × (List (D_Gate × Int)) × Unit))) => f x.1.2.1 x.1.2.2.1 x.1.2.2.2.1 x.1.2.2.2.2.1 x.1.2.2.2.2.2.1 x.1.2.2.2.2.2.2.1 x.2.1.1 x.2.2.1
noncomputable def b94_58 (k : Nat) (rec : T94_58) : T94_58 := fun n1 w2 fixed3 ins4 out12 i13 o0 o1 =>
  cond (decide (i13 < w2))
    ((f41 k n1 i13).bind fun y1 =>
    cond (decide ((IntKind.u64.wrap (i13)) < 0))
      (none)
      (let v2 := Int.tmod (Int.fdiv fixed3 (2 ^ (min (IntKind.u64.wrap (i13)).toNat 32))) 2
      cond (v2 == 1)
        (gd (decide ((out12.length + 1) * 8 ≤ room)) <|
        (rec n1 w2 fixed3 ins4 (out12 ++ ([y1.1.1] : List Int)) (w64 (i13 + 1)) o0 o1).bind fun y3 =>
        some ((y3.1.1, y3.1.2.1, ()), ((y3.2.1.1, (), ()), y3.2.2.1, ())))
        ((f25 k o0 o1).bind fun y4 =>
        gd (decide ((out12.length + 1) * 8 ≤ room)) <|
        gd (decide ((0 + ins4.length) * 1 ≤ room)) <|
        gd (decide (((([] : List Bool) ++ ins4).length + 1) * 1 ≤ room)) <|
        (rec n1 w2 fixed3 ((([] : List Bool) ++ ins4) ++ ([(y1.1.1 == 1)] : List Bool)) (out12 ++ ([y4.1.1] : List Int)) (w64 (i13 + 1)) y4.2.1.1 y4.2.2.1).bind fun y5 =>
        some ((y5.1.1, y5.1.2.1, ()), ((y5.2.1.1, (), ()), y5.2.2.1, ())))))
    (some ((ins4, out12, ()), ((o0, (), ()), o1, ())))
noncomputable def l94_58 (k : Nat) : Nat → T94_58
  | 0 => fun _ _ _ _ _ _ _ _ => none
  | j + 1 => b94_58 k (l94_58 k j)
noncomputable def f94 (k : Nat) : T94 := fun n1 w2 fixed3 ins4 o0 o1 =>
  (l94_58 k k n1 w2 fixed3 ins4 [] 0 o0 o1).bind fun y1 =>
  some ((y1.1.2.1, y1.1.1, ()), ((y1.2.1.1, (), ()), y1.2.2.1, ()))
noncomputable def C94 (k : Nat) : Nat → Fun := mkC [(25, (F25 (f25 k))), (41, (F41 (f41 k)))]
theorem c94_ok (k : Nat) : ∀ f, SoundFn Try.prog f (C94 k f) := (mkC_cons (s25 k) (mkC_cons (s41 k) mkC_nil))
noncomputable def H94_58 (k : Nat) : Nat → Option Cut := addH noH 58 ⟨runCut (wrC (bodyOf (codeAt 58 (bd Try.f94) 58))) 48 [0, 1, 2, 3, 4, 12, 13] pa94_58 pw94_58 (u94_58 (l94_58 k k))⟩
theorem e94_58 (k : Nat) (rec : T94_58) (x : (pa94_58).C) : roundF (C94 k) tt noH (bodyOf (codeAt 58 (bd Try.f94) 58)) 116 48 [0, 1, 2, 3, 4, 12, 13] pa94_58 pw94_58 (u94_58 rec) x = u94_58 (b94_58 k rec) x := by kernel_rfl
theorem h94_58_ok (k : Nat) : ∀ p S, H94_58 k p = some S → ∀ c, At (bd Try.f94) p c → CutOk Try.prog c S :=
  have hC := c94_ok k
  addLoop hC ttOk (draw_ok hC ttOk mixed) noH_ok (by kernel_rfl) (F := fun j => u94_58 (l94_58 k j)) (fun _ => rfl) (fun j x _ h => (e94_58 k (l94_58 k j) x).trans h) k
theorem e94 (k : Nat) (x : (a94).C) : bodyW (C94 k) tt (H94_58 k) Try.f94 a94 o94 x = u94 (f94 k) x := by kernel_rfl
theorem s94 (k : Nat) : SoundFn Try.prog 94 (F94 (f94 k)) :=
  have hC := c94_ok k
  fnW_sound hC ttOk (draw_ok hC ttOk mixed) Try.func94 (c0 := bd Try.f94) rfl (entry Try.func94 rfl (by decide)) (h94_58_ok k) (fun x _ h => (e94 k x).trans h)
/-! f44 fathom/fathomlaw16.words (W) -/
noncomputable def a44 : Shape := ⟨[.d T_Two, .d i64], []⟩
noncomputable def o44 : List Shape := [⟨[.ptr 0, .own i64, .own i64, .d (.slice .bool)], [.box [.own T_Gate, .mp 1], .map T_Gate i64]⟩]
abbrev R44 : Type := ((Unit × (List Int) × (List Int) × (List Bool) × Unit) × (((List D_Gate) × Unit × Unit) × (List (D_Gate × Int)) × Unit))
abbrev T44 : Type := D_Two → Int → Option R44
noncomputable def u44 (f : T44) : (a44).C → Option (OutC o44) := fun (x : ((D_Two × Int × Unit) × Unit)) => f x.1.1 x.1.2.1
noncomputable def F44 (f : T44) : Fun := ⟨false, runW a44 o44 (u44 f)⟩
noncomputable def f44 (k : Nat) : T44 := fun t0 w1 =>
  (f38 k ()).bind fun y1 =>
  (f42 k (w64 (t0.1)) w1).bind fun y2 =>
  (f94 k y2.1.1 w1 t0.2.2.1 [] y1.2.1.1 y1.2.2.1).bind fun y3 =>
  (f42 k (w64 (t0.2.1)) w1).bind fun y4 =>
  (f94 k y4.1.1 w1 (Int.fdiv t0.2.2.1 (2 ^ 16)) y3.1.2.1 y3.2.1.1 y3.2.2.1).bind fun y5 =>
  some (((), y3.1.1, y5.1.1, y5.1.2.1, ()), ((y5.2.1.1, (), ()), y5.2.2.1, ()))
noncomputable def C44 (k : Nat) : Nat → Fun := mkC [(38, (F38 (f38 k))), (42, (F42 (f42 k))), (94, (F94 (f94 k)))]
theorem c44_ok (k : Nat) : ∀ f, SoundFn Try.prog f (C44 k f) := (mkC_cons (s38 k) (mkC_cons (s42 k) (mkC_cons (s94 k) mkC_nil)))
theorem e44 (k : Nat) (x : (a44).C) : bodyW (C44 k) tt noH Try.f44 a44 o44 x = u44 (f44 k) x := by kernel_rfl
theorem s44 (k : Nat) : SoundFn Try.prog 44 (F44 (f44 k)) :=
  have hC := c44_ok k
  fnW_sound hC ttOk (draw_ok hC ttOk mixed) Try.func44 (c0 := bd Try.f44) rfl (entry Try.func44 rfl (by decide)) noH_ok (fun x _ h => (e44 k x).trans h)
/-! f24 (*fathom/aig.Aig).Is (R) -/
noncomputable def a24 : Shape := ⟨[.ptr 0, .d i64], [.box [.d (.slice T_Gate), .mp 1], .map T_Gate i64]⟩
noncomputable def o24 : List Shape := [⟨[.d .bool], []⟩]
abbrev R24 : Type := ((Bool × Unit) × Unit)
abbrev T24 : Type := Int → (List D_Gate) → (List (D_Gate × Int)) → Option R24
noncomputable def u24 (f : T24) : (a24).C → Option (OutC o24) := fun (x : ((Unit × Int × Unit) × (((List D_Gate) × Unit × Unit) × (List (D_Gate × Int)) × Unit))) => f x.1.2.1 x.2.1.1 x.2.2.1
noncomputable def F24 (f : T24) : Fun := ⟨true, runR a24 o24 (u24 f)⟩
noncomputable def f24 (k : Nat) : T24 := fun l1 o0 o1 =>
  cond (decide (l1 ≥ 0))
    (some (((decide (l1 ≤ (w64 ((w64 (2 * (o0.length : Int))) + 1)))), ()), ()))
    (some ((false, ()), ()))
noncomputable def C24 (k : Nat) : Nat → Fun := mkC []
theorem c24_ok (k : Nat) : ∀ f, SoundFn Try.prog f (C24 k f) := mkC_nil
theorem e24 (k : Nat) (x : (a24).C) : bodyR (C24 k) tt noH Try.f24 a24 o24 x = u24 (f24 k) x := by kernel_rfl
theorem s24 (k : Nat) : SoundFn Try.prog 24 (F24 (f24 k)) :=
  have hC := c24_ok k
  fnR_sound hC ttOk (draw_ok hC ttOk mixed) Try.func24 (c0 := bd Try.f24) rfl (entry Try.func24 rfl (by decide)) noH_ok rfl (fun x _ h => (e24 k x).trans h)
/-! f107 fathom/vec.Check$1 (R) -/
noncomputable def a107 : Shape := ⟨[.d i64, .ptr 0], [.box [.ptr 1], .box [.d (.slice T_Gate), .mp 2], .map T_Gate i64]⟩
noncomputable def o107 : List Shape := [⟨[.d .bool], []⟩]
abbrev R107 : Type := ((Bool × Unit) × Unit)
abbrev T107 : Type := Int → (List D_Gate) → (List (D_Gate × Int)) → Option R107
noncomputable def u107 (f : T107) : (a107).C → Option (OutC o107) := fun (x : ((Int × Unit × Unit) × ((Unit × Unit) × ((List D_Gate) × Unit × Unit) × (List (D_Gate × Int)) × Unit))) => f x.1.1 x.2.2.1.1 x.2.2.2.1
noncomputable def F107 (f : T107) : Fun := ⟨true, runR a107 o107 (u107 f)⟩
noncomputable def f107 (k : Nat) : T107 := fun l0 o1 o2 =>
  (f24 k l0 o1 o2).bind fun y1 =>
  some (((!y1.1.1), ()), ())
noncomputable def C107 (k : Nat) : Nat → Fun := mkC [(24, (F24 (f24 k)))]
theorem c107_ok (k : Nat) : ∀ f, SoundFn Try.prog f (C107 k f) := (mkC_cons (s24 k) mkC_nil)
theorem e107 (k : Nat) (x : (a107).C) : bodyR (C107 k) tt noH Try.f107 a107 o107 x = u107 (f107 k) x := by kernel_rfl
theorem s107 (k : Nat) : SoundFn Try.prog 107 (F107 (f107 k)) :=
  have hC := c107_ok k
  fnR_sound hC ttOk (draw_ok hC ttOk mixed) Try.func107 (c0 := bd Try.f107) rfl (entry Try.func107 rfl (by decide)) noH_ok rfl (fun x _ h => (e107 k x).trans h)
/-! f113 slices.IndexFunc[[]int,int] (R) -/
noncomputable def a113 : Shape := ⟨[.d (.slice i64), .fn 107 [0]], [.box [.ptr 1], .box [.d (.slice T_Gate), .mp 2], .map T_Gate i64]⟩
noncomputable def o113 : List Shape := [⟨[.d i64], []⟩]
abbrev R113 : Type := ((Int × Unit) × Unit)
abbrev T113 : Type := (List Int) → (List D_Gate) → (List (D_Gate × Int)) → Option R113
noncomputable def u113 (f : T113) : (a113).C → Option (OutC o113) := fun (x : (((List Int) × Unit × Unit) × ((Unit × Unit) × ((List D_Gate) × Unit × Unit) × (List (D_Gate × Int)) × Unit))) => f x.1.1 x.2.2.1.1 x.2.2.2.1
noncomputable def F113 (f : T113) : Fun := ⟨true, runR a113 o113 (u113 f)⟩
noncomputable def pa113_26 : Shape := ⟨[.d (.slice i64), .fn 107 [0], .d i64, .d i64], [.lk (.box [.ptr 1]), .lk (.box [.d (.slice T_Gate), .mp 2]), .lk (.map T_Gate i64)]⟩
noncomputable def pw113_26 : List Vm.Way := [⟨.exit 0, [], ⟨[], [.any, .any, .any]⟩⟩, ⟨.ret, [4], ⟨[.d i64], [.any, .any, .any]⟩⟩]
abbrev R113_26 : Type := ((Unit × (Unit × Unit × Unit × Unit)) ⊕ ((Int × Unit) × (Unit × Unit × Unit × Unit)))
abbrev T113_26 : Type := (List Int) → Int → Int → (List D_Gate) → (List (D_Gate × Int)) → Option R113_26
noncomputable def u113_26 (f : T113_26) : (pa113_26).C → Option (WayC pw113_26) := fun (x : (((List Int) × Unit × Int × Int × Unit) × ((Unit × Unit) × ((List D_Gate) × Unit × Unit) × (List (D_Gate × Int)) × Unit))) => f x.1.1 x.1.2.2.1 x.1.2.2.2.1 x.2.2.1.1 x.2.2.2.1
noncomputable def b113_26 (k : Nat) (rec : T113_26) : T113_26 := fun s0 t7 t8 o1 o2 =>
  cond (decide (t8 < t7))
    (ix s0 t8 fun e1 =>
    (f107 k e1 o1 o2).bind fun y2 =>
    cond y2.1.1
      (some (.inr ((t8, ()), ((), (), (), ()))))
      ((rec s0 t7 (w64 (t8 + 1)) o1 o2).bind fun y3 =>
      match y3 with
      | .inl y3_0 =>
        some (.inl ((), ((), (), (), ())))
      | .inr y3_1 =>
        some (.inr ((y3_1.1.1, ()), ((), (), (), ())))))
    (some (.inl ((), ((), (), (), ()))))
noncomputable def l113_26 (k : Nat) : Nat → T113_26
  | 0 => fun _ _ _ _ _ => none
  | j + 1 => b113_26 k (l113_26 k j)
noncomputable def f113 (k : Nat) : T113 := fun s0 o1 o2 =>
  (l113_26 k k s0 (s0.length : Int) 0 o1 o2).bind fun y1 =>
  match y1 with
  | .inl y1_0 =>
    some (((-1), ()), ())
  | .inr y1_1 =>
    some ((y1_1.1.1, ()), ())
noncomputable def C113 (k : Nat) : Nat → Fun := mkC [(107, (F107 (f107 k)))]
theorem c113_ok (k : Nat) : ∀ f, SoundFn Try.prog f (C113 k f) := (mkC_cons (s107 k) mkC_nil)
noncomputable def H113_26 (k : Nat) : Nat → Option Cut := addH noH 26 ⟨runCut (wrC (bodyOf (codeAt 26 (bd Try.f113) 26))) 19 [0, 1, 7, 8] pa113_26 pw113_26 (u113_26 (l113_26 k k))⟩
theorem e113_26 (k : Nat) (rec : T113_26) (x : (pa113_26).C) : roundF (C113 k) tt noH (bodyOf (codeAt 26 (bd Try.f113) 26)) 52 19 [0, 1, 7, 8] pa113_26 pw113_26 (u113_26 rec) x = u113_26 (b113_26 k rec) x := by kernel_rfl
theorem h113_26_ok (k : Nat) : ∀ p S, H113_26 k p = some S → ∀ c, At (bd Try.f113) p c → CutOk Try.prog c S :=
  have hC := c113_ok k
  addLoop hC ttOk (draw_ok hC ttOk mixed) noH_ok (by kernel_rfl) (F := fun j => u113_26 (l113_26 k j)) (fun _ => rfl) (fun j x _ h => (e113_26 k (l113_26 k j) x).trans h) k
theorem e113 (k : Nat) (x : (a113).C) : bodyR (C113 k) tt (H113_26 k) Try.f113 a113 o113 x = u113 (f113 k) x := by kernel_rfl
theorem s113 (k : Nat) : SoundFn Try.prog 113 (F113 (f113 k)) :=
  have hC := c113_ok k
  fnR_sound hC ttOk (draw_ok hC ttOk mixed) Try.func113 (c0 := bd Try.f113) rfl (entry Try.func113 rfl (by decide)) (h113_26_ok k) rfl (fun x _ h => (e113 k x).trans h)
/-! f106 slices.ContainsFunc[[]int,int] (R) -/
noncomputable def a106 : Shape := ⟨[.d (.slice i64), .fn 107 [0]], [.box [.ptr 1], .box [.d (.slice T_Gate), .mp 2], .map T_Gate i64]⟩
noncomputable def o106 : List Shape := [⟨[.d .bool], []⟩]
abbrev R106 : Type := ((Bool × Unit) × Unit)
abbrev T106 : Type := (List Int) → (List D_Gate) → (List (D_Gate × Int)) → Option R106
noncomputable def u106 (f : T106) : (a106).C → Option (OutC o106) := fun (x : (((List Int) × Unit × Unit) × ((Unit × Unit) × ((List D_Gate) × Unit × Unit) × (List (D_Gate × Int)) × Unit))) => f x.1.1 x.2.2.1.1 x.2.2.2.1
noncomputable def F106 (f : T106) : Fun := ⟨true, runR a106 o106 (u106 f)⟩
noncomputable def f106 (k : Nat) : T106 := fun s0 o1 o2 =>
  (f113 k s0 o1 o2).bind fun y1 =>
  some (((decide (y1.1.1 ≥ 0)), ()), ())
noncomputable def C106 (k : Nat) : Nat → Fun := mkC [(113, (F113 (f113 k)))]
theorem c106_ok (k : Nat) : ∀ f, SoundFn Try.prog f (C106 k f) := (mkC_cons (s113 k) mkC_nil)
theorem e106 (k : Nat) (x : (a106).C) : bodyR (C106 k) tt noH Try.f106 a106 o106 x = u106 (f106 k) x := by kernel_rfl
theorem s106 (k : Nat) : SoundFn Try.prog 106 (F106 (f106 k)) :=
  have hC := c106_ok k
  fnR_sound hC ttOk (draw_ok hC ttOk mixed) Try.func106 (c0 := bd Try.f106) rfl (entry Try.func106 rfl (by decide)) noH_ok rfl (fun x _ h => (e106 k x).trans h)
/-! f68 fathom/vec.Check (R) -/
noncomputable def a68 : Shape := ⟨[.ptr 0, .d (.slice i64)], [.box [.d (.slice T_Gate), .mp 1], .map T_Gate i64]⟩
noncomputable def o68 : List Shape := [⟨[.d i64], []⟩]
abbrev R68 : Type := ((Int × Unit) × Unit)
abbrev T68 : Type := (List Int) → (List D_Gate) → (List (D_Gate × Int)) → Option R68
noncomputable def u68 (f : T68) : (a68).C → Option (OutC o68) := fun (x : ((Unit × (List Int) × Unit) × (((List D_Gate) × Unit × Unit) × (List (D_Gate × Int)) × Unit))) => f x.1.2.1 x.2.1.1 x.2.2.1
noncomputable def F68 (f : T68) : Fun := ⟨true, runR a68 o68 (u68 f)⟩
noncomputable def f68 (k : Nat) : T68 := fun a1 o0 o1 =>
  cond (decide ((a1.length : Int) < 1))
    (some ((1, ()), ()))
    (cond (decide ((a1.length : Int) > 16))
      (some ((1, ()), ()))
      ((f106 k a1 o0 o1).bind fun y1 =>
      cond y1.1.1
        (some ((1, ()), ()))
        (some ((0, ()), ()))))
noncomputable def C68 (k : Nat) : Nat → Fun := mkC [(106, (F106 (f106 k)))]
theorem c68_ok (k : Nat) : ∀ f, SoundFn Try.prog f (C68 k f) := (mkC_cons (s106 k) mkC_nil)
theorem e68 (k : Nat) (x : (a68).C) : bodyR (C68 k) tt noH Try.f68 a68 o68 x = u68 (f68 k) x := by kernel_rfl
theorem s68 (k : Nat) : SoundFn Try.prog 68 (F68 (f68 k)) :=
  have hC := c68_ok k
  fnR_sound hC ttOk (draw_ok hC ttOk mixed) Try.func68 (c0 := bd Try.f68) rfl (entry Try.func68 rfl (by decide)) noH_ok rfl (fun x _ h => (e68 k x).trans h)
/-! f87v2 slices.Clone[[]fathom/api.Gate,fathom/api.Gate] (W) -/
noncomputable def a87v2 : Shape := ⟨[.nils], []⟩
noncomputable def o87v2 : List Shape := [⟨[.own T_Gate], []⟩]
abbrev R87v2 : Type := (((List D_Gate) × Unit) × Unit)
abbrev T87v2 : Type := Unit → Option R87v2
noncomputable def u87v2 (f : T87v2) : (a87v2).C → Option (OutC o87v2) := fun (x : ((Unit × Unit) × Unit)) => f ()
noncomputable def F87v2 (f : T87v2) : Fun := ⟨false, runW a87v2 o87v2 (u87v2 f)⟩
noncomputable def f87v2 (k : Nat) : T87v2 := fun _ =>
  some (([], ()), ())
noncomputable def C87v2 (k : Nat) : Nat → Fun := mkC []
theorem c87v2_ok (k : Nat) : ∀ f, SoundFn Try.prog f (C87v2 k f) := mkC_nil
theorem e87v2 (k : Nat) (x : (a87v2).C) : bodyW (C87v2 k) tt noH Try.f87 a87v2 o87v2 x = u87v2 (f87v2 k) x := by kernel_rfl
theorem s87v2 (k : Nat) : SoundFn Try.prog 87 (F87v2 (f87v2 k)) :=
  have hC := c87v2_ok k
  fnW_sound hC ttOk (draw_ok hC ttOk mixed) Try.func87 (c0 := bd Try.f87) rfl (entry Try.func87 rfl (by decide)) noH_ok (fun x _ h => (e87v2 k x).trans h)
/-! f87v3 slices.Clone[[]fathom/api.Gate,fathom/api.Gate] (W) -/
noncomputable def a87v3 : Shape := ⟨[.nn T_Gate], []⟩
noncomputable def o87v3 : List Shape := [⟨[.own T_Gate], []⟩]
abbrev R87v3 : Type := (((List D_Gate) × Unit) × Unit)
abbrev T87v3 : Type := (List D_Gate) → Option R87v3
noncomputable def u87v3 (f : T87v3) : (a87v3).C → Option (OutC o87v3) := fun (x : (((List D_Gate) × Unit) × Unit)) => f x.1.1
noncomputable def F87v3 (f : T87v3) : Fun := ⟨false, runW a87v3 o87v3 (u87v3 f)⟩
noncomputable def f87v3 (k : Nat) : T87v3 := fun s0 =>
  gd (decide ((0 + s0.length) * 16 ≤ room)) <|
  some (((([] : List D_Gate) ++ s0), ()), ())
noncomputable def C87v3 (k : Nat) : Nat → Fun := mkC []
theorem c87v3_ok (k : Nat) : ∀ f, SoundFn Try.prog f (C87v3 k f) := mkC_nil
theorem e87v3 (k : Nat) (x : (a87v3).C) : bodyW (C87v3 k) tt noH Try.f87 a87v3 o87v3 x = u87v3 (f87v3 k) x := by kernel_rfl
theorem s87v3 (k : Nat) : SoundFn Try.prog 87 (F87v3 (f87v3 k)) :=
  have hC := c87v3_ok k
  fnW_sound hC ttOk (draw_ok hC ttOk mixed) Try.func87 (c0 := bd Try.f87) rfl (entry Try.func87 rfl (by decide)) noH_ok (fun x _ h => (e87v3 k x).trans h)
/-! f87 slices.Clone[[]fathom/api.Gate,fathom/api.Gate] (W) -/
noncomputable def a87 : Shape := ⟨[.d (.slice T_Gate)], []⟩
noncomputable def o87 : List Shape := [⟨[.own T_Gate], []⟩]
abbrev R87 : Type := (((List D_Gate) × Unit) × Unit)
abbrev T87 : Type := (List D_Gate) → Option R87
noncomputable def u87 (f : T87) : (a87).C → Option (OutC o87) := fun (x : (((List D_Gate) × Unit) × Unit)) => f x.1.1
noncomputable def F87 (f : T87) : Fun := ⟨false, runW a87 o87 (u87 f)⟩
noncomputable def f87 (k : Nat) : T87 := fun s0 => f87v3 k s0
theorem s87 (k : Nat) : SoundFn Try.prog 87 (F87 (f87 k)) := splitW (s87v2 k) (s87v3 k) (fun xs y h => ⟨h, fun e => by subst e; exact (show u87v2 (f87v2 k) (((), ()), ()) = u87v3 (f87v3 k) (([], ()), ()) from by kernel_rfl).trans h⟩)
/-! f23 (*fathom/aig.Aig).Nodes (R) -/
noncomputable def a23 : Shape := ⟨[.ptr 0], [.box [.d (.slice T_Gate), .mp 1], .map T_Gate i64]⟩
noncomputable def o23 : List Shape := [⟨[.d (.slice T_Gate)], []⟩]
abbrev R23 : Type := (((List D_Gate) × Unit) × Unit)
abbrev T23 : Type := (List D_Gate) → (List (D_Gate × Int)) → Option R23
noncomputable def u23 (f : T23) : (a23).C → Option (OutC o23) := fun (x : ((Unit × Unit) × (((List D_Gate) × Unit × Unit) × (List (D_Gate × Int)) × Unit))) => f x.2.1.1 x.2.2.1
noncomputable def F23 (f : T23) : Fun := ⟨true, runR a23 o23 (u23 f)⟩
noncomputable def f23 (k : Nat) : T23 := fun o0 o1 =>
  (f87 k o0).bind fun y1 =>
  some ((y1.1.1, ()), ())
noncomputable def C23 (k : Nat) : Nat → Fun := mkC [(87, (F87 (f87 k)))]
theorem c23_ok (k : Nat) : ∀ f, SoundFn Try.prog f (C23 k f) := (mkC_cons (s87 k) mkC_nil)
theorem e23 (k : Nat) (x : (a23).C) : bodyR (C23 k) tt noH Try.f23 a23 o23 x = u23 (f23 k) x := by kernel_rfl
theorem s23 (k : Nat) : SoundFn Try.prog 23 (F23 (f23 k)) :=
  have hC := c23_ok k
  fnR_sound hC ttOk (draw_ok hC ttOk mixed) Try.func23 (c0 := bd Try.f23) rfl (entry Try.func23 rfl (by decide)) noH_ok rfl (fun x _ h => (e23 k x).trans h)
/-! f33 fathom/aig.Check (R) -/
noncomputable def a33 : Shape := ⟨[.d (.slice T_Gate)], []⟩
noncomputable def o33 : List Shape := [⟨[.d i64], []⟩]
abbrev R33 : Type := ((Int × Unit) × Unit)
abbrev T33 : Type := (List D_Gate) → Option R33
noncomputable def u33 (f : T33) : (a33).C → Option (OutC o33) := fun (x : (((List D_Gate) × Unit) × Unit)) => f x.1.1
noncomputable def F33 (f : T33) : Fun := ⟨true, runR a33 o33 (u33 f)⟩
noncomputable def pa33_58 : Shape := ⟨[.d (.slice T_Gate), .d i64, .d i64], []⟩
noncomputable def pw33_58 : List Vm.Way := [⟨.exit 0, [], ⟨[], []⟩⟩, ⟨.ret, [2], ⟨[.d i64], []⟩⟩]
abbrev R33_58 : Type := ((Unit × Unit) ⊕ ((Int × Unit) × Unit))
abbrev T33_58 : Type := (List D_Gate) → Int → Int → Option R33_58
noncomputable def u33_58 (f : T33_58) : (pa33_58).C → Option (WayC pw33_58) := fun (x : (((List D_Gate) × Int × Int × Unit) × Unit)) => f x.1.1 x.1.2.1 x.1.2.2.1
noncomputable def b33_58 (k : Nat) (rec : T33_58) : T33_58 := fun t8 t9 t10 =>
  cond (decide (t10 < t9))
    (ix t8 t10 fun e1 =>
    (f88 k ()).bind fun y2 =>
    cond (!(beqD T_Gate e1 y2.1.1))
      (cond (decide (e1.1 < 0))
        (some (.inr ((1, ()), ())))
        (cond (decide (e1.2.1 < 0))
          (some (.inr ((1, ()), ())))
          (cond (decide (e1.1 > (w64 ((w64 (2 * t10)) + 1))))
            (some (.inr ((1, ()), ())))
            (cond (decide (e1.2.1 > (w64 ((w64 (2 * t10)) + 1))))
              (some (.inr ((1, ()), ())))
              ((rec t8 t9 (w64 (t10 + 1))).bind fun y3 =>
              match y3 with
              | .inl y3_0 =>
                some (.inl ((), ()))
              | .inr y3_1 =>
                some (.inr ((y3_1.1.1, ()), ())))))))
      ((rec t8 t9 (w64 (t10 + 1))).bind fun y4 =>
      match y4 with
      | .inl y4_0 =>
        some (.inl ((), ()))
      | .inr y4_1 =>
        some (.inr ((y4_1.1.1, ()), ()))))
    (some (.inl ((), ())))
noncomputable def l33_58 (k : Nat) : Nat → T33_58
  | 0 => fun _ _ _ => none
  | j + 1 => b33_58 k (l33_58 k j)
noncomputable def f33 (k : Nat) : T33 := fun g0 =>
  cond (decide ((g0.length : Int) > 1048576))
    (some ((1, ()), ()))
    ((l33_58 k k g0 (g0.length : Int) 0).bind fun y1 =>
    match y1 with
    | .inl y1_0 =>
      some ((0, ()), ())
    | .inr y1_1 =>
      some ((y1_1.1.1, ()), ()))
noncomputable def C33 (k : Nat) : Nat → Fun := mkC [(88, (F88 (f88 k)))]
theorem c33_ok (k : Nat) : ∀ f, SoundFn Try.prog f (C33 k f) := (mkC_cons (s88 k) mkC_nil)
noncomputable def H33_58 (k : Nat) : Nat → Option Cut := addH noH 58 ⟨runCut (wrC (bodyOf (codeAt 58 (bd Try.f33) 58))) 45 [8, 9, 10] pa33_58 pw33_58 (u33_58 (l33_58 k k))⟩
theorem e33_58 (k : Nat) (rec : T33_58) (x : (pa33_58).C) : roundF (C33 k) tt noH (bodyOf (codeAt 58 (bd Try.f33) 58)) 116 45 [8, 9, 10] pa33_58 pw33_58 (u33_58 rec) x = u33_58 (b33_58 k rec) x := by kernel_rfl
theorem h33_58_ok (k : Nat) : ∀ p S, H33_58 k p = some S → ∀ c, At (bd Try.f33) p c → CutOk Try.prog c S :=
  have hC := c33_ok k
  addLoop hC ttOk (draw_ok hC ttOk mixed) noH_ok (by kernel_rfl) (F := fun j => u33_58 (l33_58 k j)) (fun _ => rfl) (fun j x _ h => (e33_58 k (l33_58 k j) x).trans h) k
theorem e33 (k : Nat) (x : (a33).C) : bodyR (C33 k) tt (H33_58 k) Try.f33 a33 o33 x = u33 (f33 k) x := by kernel_rfl
theorem s33 (k : Nat) : SoundFn Try.prog 33 (F33 (f33 k)) :=
  have hC := c33_ok k
  fnR_sound hC ttOk (draw_ok hC ttOk mixed) Try.func33 (c0 := bd Try.f33) rfl (entry Try.func33 rfl (by decide)) (h33_58_ok k) rfl (fun x _ h => (e33 k x).trans h)
/-! f34 fathom/aig.Value (R) -/
noncomputable def a34 : Shape := ⟨[.d (.slice .bool), .d i64], []⟩
noncomputable def o34 : List Shape := [⟨[.d .bool], []⟩]
abbrev R34 : Type := ((Bool × Unit) × Unit)
abbrev T34 : Type := (List Bool) → Int → Option R34
noncomputable def u34 (f : T34) : (a34).C → Option (OutC o34) := fun (x : (((List Bool) × Int × Unit) × Unit)) => f x.1.1 x.1.2.1
noncomputable def F34 (f : T34) : Fun := ⟨true, runR a34 o34 (u34 f)⟩
noncomputable def f34 (k : Nat) : T34 := fun v0 l1 =>
  cond (decide (l1 < 0))
    (some ((false, ()), ()))
    (cond (decide ((w64 (Int.tdiv l1 2)) > (v0.length : Int)))
      (some ((false, ()), ()))
      (cond (decide (l1 < 2))
        (some (((l1 == 1), ()), ()))
        (ix v0 (w64 ((w64 (Int.tdiv l1 2)) - 1)) fun e1 =>
        some (((!(e1 == ((Int.tmod l1 2) == 1))), ()), ()))))
noncomputable def C34 (k : Nat) : Nat → Fun := mkC []
theorem c34_ok (k : Nat) : ∀ f, SoundFn Try.prog f (C34 k f) := mkC_nil
theorem e34 (k : Nat) (x : (a34).C) : bodyR (C34 k) tt noH Try.f34 a34 o34 x = u34 (f34 k) x := by kernel_rfl
theorem s34 (k : Nat) : SoundFn Try.prog 34 (F34 (f34 k)) :=
  have hC := c34_ok k
  fnR_sound hC ttOk (draw_ok hC ttOk mixed) Try.func34 (c0 := bd Try.f34) rfl (entry Try.func34 rfl (by decide)) noH_ok rfl (fun x _ h => (e34 k x).trans h)
/-! f31 fathom/aig.Eval (R) -/
noncomputable def a31 : Shape := ⟨[.d (.slice T_Gate), .d (.slice .bool)], []⟩
noncomputable def o31 : List Shape := [⟨[.d (.slice .bool)], []⟩]
abbrev R31 : Type := (((List Bool) × Unit) × Unit)
abbrev T31 : Type := (List D_Gate) → (List Bool) → Option R31
noncomputable def u31 (f : T31) : (a31).C → Option (OutC o31) := fun (x : (((List D_Gate) × (List Bool) × Unit) × Unit)) => f x.1.1 x.1.2.1
noncomputable def F31 (f : T31) : Fun := ⟨true, runR a31 o31 (u31 f)⟩
noncomputable def pa31_250 : Shape := ⟨[.d (.slice .bool), .own .bool, .d i64, .d (.slice T_Gate), .d i64, .d i64], []⟩
noncomputable def pw31_250 : List Vm.Way := [⟨.exit 0, [5], ⟨[.own .bool], []⟩⟩]
abbrev R31_250 : Type := (((List Bool) × Unit) × Unit)
abbrev T31_250 : Type := (List Bool) → (List Bool) → Int → (List D_Gate) → Int → Int → Option R31_250
noncomputable def u31_250 (f : T31_250) : (pa31_250).C → Option (WayC pw31_250) := fun (x : (((List Bool) × (List Bool) × Int × (List D_Gate) × Int × Int × Unit) × Unit)) => f x.1.1 x.1.2.1 x.1.2.2.1 x.1.2.2.2.1 x.1.2.2.2.2.1 x.1.2.2.2.2.2.1
noncomputable def b31_250 (k : Nat) (rec : T31_250) : T31_250 := fun ins1 v5 k6 t12 t13 t14 =>
  cond (decide (t14 < t13))
    (ix t12 t14 fun e1 =>
    (f88 k ()).bind fun y2 =>
    cond (beqD T_Gate e1 y2.1.1)
      (cond (decide (k6 < (ins1.length : Int)))
        (ix ins1 k6 fun e3 =>
        gd (decide ((v5.length + 1) * 1 ≤ room)) <|
        (rec ins1 (v5 ++ ([e3] : List Bool)) (w64 (k6 + 1)) t12 t13 (w64 (t14 + 1))).bind fun y4 =>
        some ((y4.1.1, ()), ()))
        (gd (decide ((v5.length + 1) * 1 ≤ room)) <|
        (rec ins1 (v5 ++ ([false] : List Bool)) (w64 (k6 + 1)) t12 t13 (w64 (t14 + 1))).bind fun y5 =>
        some ((y5.1.1, ()), ())))
      ((f34 k v5 e1.1).bind fun y6 =>
      cond y6.1.1
        ((f34 k v5 e1.2.1).bind fun y7 =>
        gd (decide ((v5.length + 1) * 1 ≤ room)) <|
        (rec ins1 (v5 ++ ([y7.1.1] : List Bool)) k6 t12 t13 (w64 (t14 + 1))).bind fun y8 =>
        some ((y8.1.1, ()), ()))
        (gd (decide ((v5.length + 1) * 1 ≤ room)) <|
        (rec ins1 (v5 ++ ([false] : List Bool)) k6 t12 t13 (w64 (t14 + 1))).bind fun y9 =>
        some ((y9.1.1, ()), ()))))
    (some ((v5, ()), ()))
noncomputable def l31_250 (k : Nat) : Nat → T31_250
  | 0 => fun _ _ _ _ _ _ => none
  | j + 1 => b31_250 k (l31_250 k j)
noncomputable def f31 (k : Nat) : T31 := fun g0 ins1 =>
  (f33 k g0).bind fun y1 =>
  cond (y1.1.1 != 0)
    (some (([], ()), ()))
    ((l31_250 k k ins1 [] 0 g0 (g0.length : Int) 0).bind fun y2 =>
    some ((y2.1.1, ()), ()))
noncomputable def C31 (k : Nat) : Nat → Fun := mkC [(33, (F33 (f33 k))), (34, (F34 (f34 k))), (88, (F88 (f88 k)))]
theorem c31_ok (k : Nat) : ∀ f, SoundFn Try.prog f (C31 k f) := (mkC_cons (s33 k) (mkC_cons (s34 k) (mkC_cons (s88 k) mkC_nil)))
noncomputable def H31_250 (k : Nat) : Nat → Option Cut := addH noH 250 ⟨runCut (wrC (bodyOf (codeAt 250 (bd Try.f31) 250))) 51 [1, 5, 6, 12, 13, 14] pa31_250 pw31_250 (u31_250 (l31_250 k k))⟩
theorem e31_250 (k : Nat) (rec : T31_250) (x : (pa31_250).C) : roundF (C31 k) tt noH (bodyOf (codeAt 250 (bd Try.f31) 250)) 500 51 [1, 5, 6, 12, 13, 14] pa31_250 pw31_250 (u31_250 rec) x = u31_250 (b31_250 k rec) x := by kernel_rfl
theorem h31_250_ok (k : Nat) : ∀ p S, H31_250 k p = some S → ∀ c, At (bd Try.f31) p c → CutOk Try.prog c S :=
  have hC := c31_ok k
  addLoop hC ttOk (draw_ok hC ttOk mixed) noH_ok (by kernel_rfl) (F := fun j => u31_250 (l31_250 k j)) (fun _ => rfl) (fun j x _ h => (e31_250 k (l31_250 k j) x).trans h) k
theorem e31 (k : Nat) (x : (a31).C) : bodyR (C31 k) tt (H31_250 k) Try.f31 a31 o31 x = u31 (f31 k) x := by kernel_rfl
theorem s31 (k : Nat) : SoundFn Try.prog 31 (F31 (f31 k)) :=
  have hC := c31_ok k
  fnR_sound hC ttOk (draw_ok hC ttOk mixed) Try.func31 (c0 := bd Try.f31) rfl (entry Try.func31 rfl (by decide)) (h31_250_ok k) rfl (fun x _ h => (e31 k x).trans h)
/-! f43 fathom/vec.Number (R) -/
noncomputable def a43 : Shape := ⟨[.d (.slice .bool), .d (.slice i64)], []⟩
noncomputable def o43 : List Shape := [⟨[.d i64], []⟩]
abbrev R43 : Type := ((Int × Unit) × Unit)
abbrev T43 : Type := (List Bool) → (List Int) → Option R43
noncomputable def u43 (f : T43) : (a43).C → Option (OutC o43) := fun (x : (((List Bool) × (List Int) × Unit) × Unit)) => f x.1.1 x.1.2.1
noncomputable def F43 (f : T43) : Fun := ⟨true, runR a43 o43 (u43 f)⟩
noncomputable def pa43_122 : Shape := ⟨[.d (.slice .bool), .d i64, .d (.slice i64), .d i64, .d i64], []⟩
noncomputable def pw43_122 : List Vm.Way := [⟨.exit 0, [5], ⟨[.d i64], []⟩⟩]
abbrev R43_122 : Type := ((Int × Unit) × Unit)
abbrev T43_122 : Type := (List Bool) → Int → (List Int) → Int → Int → Option R43_122
noncomputable def u43_122 (f : T43_122) : (pa43_122).C → Option (WayC pw43_122) := fun (x : (((List Bool) × Int × (List Int) × Int × Int × Unit) × Unit)) => f x.1.1 x.1.2.1 x.1.2.2.1 x.1.2.2.2.1 x.1.2.2.2.2.1
noncomputable def b43_122 (k : Nat) (rec : T43_122) : T43_122 := fun v0 n5 t11 t12 t13 =>
  cond (decide (t13 < t12))
    (ix t11 t13 fun e1 =>
    (f34 k v0 e1).bind fun y2 =>
    cond y2.1.1
      (cond (decide (t13 < 0))
        (none)
        ((rec v0 (ibits .or .i64 n5 (w64 (1 * 2 ^ (min t13.toNat 64)))) t11 t12 (w64 (t13 + 1))).bind fun y3 =>
        some ((y3.1.1, ()), ())))
      ((rec v0 n5 t11 t12 (w64 (t13 + 1))).bind fun y4 =>
      some ((y4.1.1, ()), ())))
    (some ((n5, ()), ()))
noncomputable def l43_122 (k : Nat) : Nat → T43_122
  | 0 => fun _ _ _ _ _ => none
  | j + 1 => b43_122 k (l43_122 k j)
noncomputable def f43 (k : Nat) : T43 := fun v0 a1 =>
  cond (decide ((a1.length : Int) > 16))
    (some ((0, ()), ()))
    ((l43_122 k k v0 0 a1 (a1.length : Int) 0).bind fun y1 =>
    some ((y1.1.1, ()), ()))
noncomputable def C43 (k : Nat) : Nat → Fun := mkC [(34, (F34 (f34 k)))]
theorem c43_ok (k : Nat) : ∀ f, SoundFn Try.prog f (C43 k f) := (mkC_cons (s34 k) mkC_nil)
noncomputable def H43_122 (k : Nat) : Nat → Option Cut := addH noH 122 ⟨runCut (wrC (bodyOf (codeAt 122 (bd Try.f43) 122))) 27 [0, 5, 11, 12, 13] pa43_122 pw43_122 (u43_122 (l43_122 k k))⟩
theorem e43_122 (k : Nat) (rec : T43_122) (x : (pa43_122).C) : roundF (C43 k) tt noH (bodyOf (codeAt 122 (bd Try.f43) 122)) 244 27 [0, 5, 11, 12, 13] pa43_122 pw43_122 (u43_122 rec) x = u43_122 (b43_122 k rec) x := by kernel_rfl
theorem h43_122_ok (k : Nat) : ∀ p S, H43_122 k p = some S → ∀ c, At (bd Try.f43) p c → CutOk Try.prog c S :=
  have hC := c43_ok k
  addLoop hC ttOk (draw_ok hC ttOk mixed) noH_ok (by kernel_rfl) (F := fun j => u43_122 (l43_122 k j)) (fun _ => rfl) (fun j x _ h => (e43_122 k (l43_122 k j) x).trans h) k
theorem e43 (k : Nat) (x : (a43).C) : bodyR (C43 k) tt (H43_122 k) Try.f43 a43 o43 x = u43 (f43 k) x := by kernel_rfl
theorem s43 (k : Nat) : SoundFn Try.prog 43 (F43 (f43 k)) :=
  have hC := c43_ok k
  fnR_sound hC ttOk (draw_ok hC ttOk mixed) Try.func43 (c0 := bd Try.f43) rfl (entry Try.func43 rfl (by decide)) (h43_122_ok k) rfl (fun x _ h => (e43 k x).trans h)
/-! f45 fathom/fathomlaw16.is (R) -/
noncomputable def a45 : Shape := ⟨[.ptr 0, .d (.slice .bool), .d (.slice i64), .d i64, .d i64], [.box [.d (.slice T_Gate), .mp 1], .map T_Gate i64]⟩
noncomputable def o45 : List Shape := [⟨[.d .bool], []⟩]
abbrev R45 : Type := ((Bool × Unit) × Unit)
abbrev T45 : Type := (List Bool) → (List Int) → Int → Int → (List D_Gate) → (List (D_Gate × Int)) → Option R45
noncomputable def u45 (f : T45) : (a45).C → Option (OutC o45) := fun (x : ((Unit × (List Bool) × (List Int) × Int × Int × Unit) × (((List D_Gate) × Unit × Unit) × (List (D_Gate × Int)) × Unit))) => f x.1.2.1 x.1.2.2.1 x.1.2.2.2.1 x.1.2.2.2.2.1 x.2.1.1 x.2.2.1
noncomputable def F45 (f : T45) : Fun := ⟨true, runR a45 o45 (u45 f)⟩
noncomputable def f45 (k : Nat) : T45 := fun ins1 a2 w3 n4 o0 o1 =>
  cond ((a2.length : Int) == w3)
    ((f68 k a2 o0 o1).bind fun y1 =>
    cond (y1.1.1 == 0)
      ((f23 k o0 o1).bind fun y2 =>
      (f31 k y2.1.1 ins1).bind fun y3 =>
      (f43 k y3.1.1 a2).bind fun y4 =>
      some (((y4.1.1 == n4), ()), ()))
      (some ((false, ()), ())))
    (some ((false, ()), ()))
noncomputable def C45 (k : Nat) : Nat → Fun := mkC [(23, (F23 (f23 k))), (31, (F31 (f31 k))), (43, (F43 (f43 k))), (68, (F68 (f68 k)))]
theorem c45_ok (k : Nat) : ∀ f, SoundFn Try.prog f (C45 k f) := (mkC_cons (s23 k) (mkC_cons (s31 k) (mkC_cons (s43 k) (mkC_cons (s68 k) mkC_nil))))
theorem e45 (k : Nat) (x : (a45).C) : bodyR (C45 k) tt noH Try.f45 a45 o45 x = u45 (f45 k) x := by kernel_rfl
theorem s45 (k : Nat) : SoundFn Try.prog 45 (F45 (f45 k)) :=
  have hC := c45_ok k
  fnR_sound hC ttOk (draw_ok hC ttOk mixed) Try.func45 (c0 := bd Try.f45) rfl (entry Try.func45 rfl (by decide)) noH_ok rfl (fun x _ h => (e45 k x).trans h)
/-! f95 fathom/vec.pair (R) -/
noncomputable def a95 : Shape := ⟨[.ptr 0, .d (.slice i64), .d (.slice i64)], [.box [.d (.slice T_Gate), .mp 1], .map T_Gate i64]⟩
noncomputable def o95 : List Shape := [⟨[.d .bool], []⟩]
abbrev R95 : Type := ((Bool × Unit) × Unit)
abbrev T95 : Type := (List Int) → (List Int) → (List D_Gate) → (List (D_Gate × Int)) → Option R95
noncomputable def u95 (f : T95) : (a95).C → Option (OutC o95) := fun (x : ((Unit × (List Int) × (List Int) × Unit) × (((List D_Gate) × Unit × Unit) × (List (D_Gate × Int)) × Unit))) => f x.1.2.1 x.1.2.2.1 x.2.1.1 x.2.2.1
noncomputable def F95 (f : T95) : Fun := ⟨true, runR a95 o95 (u95 f)⟩
noncomputable def f95 (k : Nat) : T95 := fun a1 b2 o0 o1 =>
  cond ((a1.length : Int) == (b2.length : Int))
    ((f68 k a1 o0 o1).bind fun y1 =>
    cond (y1.1.1 == 0)
      ((f68 k b2 o0 o1).bind fun y2 =>
      some (((y2.1.1 == 0), ()), ()))
      (some ((false, ()), ())))
    (some ((false, ()), ()))
noncomputable def C95 (k : Nat) : Nat → Fun := mkC [(68, (F68 (f68 k)))]
theorem c95_ok (k : Nat) : ∀ f, SoundFn Try.prog f (C95 k f) := (mkC_cons (s68 k) mkC_nil)
theorem e95 (k : Nat) (x : (a95).C) : bodyR (C95 k) tt noH Try.f95 a95 o95 x = u95 (f95 k) x := by kernel_rfl
theorem s95 (k : Nat) : SoundFn Try.prog 95 (F95 (f95 k)) :=
  have hC := c95_ok k
  fnR_sound hC ttOk (draw_ok hC ttOk mixed) Try.func95 (c0 := bd Try.f95) rfl (entry Try.func95 rfl (by decide)) noH_ok rfl (fun x _ h => (e95 k x).trans h)
/-! f89 fathom/aig.not (R) -/
noncomputable def a89 : Shape := ⟨[.d i64], []⟩
noncomputable def o89 : List Shape := [⟨[.d i64], []⟩]
abbrev R89 : Type := ((Int × Unit) × Unit)
abbrev T89 : Type := Int → Option R89
noncomputable def u89 (f : T89) : (a89).C → Option (OutC o89) := fun (x : ((Int × Unit) × Unit)) => f x.1.1
noncomputable def F89 (f : T89) : Fun := ⟨true, runR a89 o89 (u89 f)⟩
noncomputable def f89 (k : Nat) : T89 := fun l0 =>
  cond (decide (l0 < 0))
    (some (((-1), ()), ()))
    (some (((ibits .xor .i64 l0 1), ()), ()))
noncomputable def C89 (k : Nat) : Nat → Fun := mkC []
theorem c89_ok (k : Nat) : ∀ f, SoundFn Try.prog f (C89 k f) := mkC_nil
theorem e89 (k : Nat) (x : (a89).C) : bodyR (C89 k) tt noH Try.f89 a89 o89 x = u89 (f89 k) x := by kernel_rfl
theorem s89 (k : Nat) : SoundFn Try.prog 89 (F89 (f89 k)) :=
  have hC := c89_ok k
  fnR_sound hC ttOk (draw_ok hC ttOk mixed) Try.func89 (c0 := bd Try.f89) rfl (entry Try.func89 rfl (by decide)) noH_ok rfl (fun x _ h => (e89 k x).trans h)
/-! f111 (*fathom/aig.Aig).kids (R) -/
noncomputable def a111 : Shape := ⟨[.ptr 0, .d i64], [.box [.d (.slice T_Gate), .mp 1], .map T_Gate i64]⟩
noncomputable def o111 : List Shape := [⟨[.d i64, .d i64, .d .bool], []⟩]
abbrev R111 : Type := ((Int × Int × Bool × Unit) × Unit)
abbrev T111 : Type := Int → (List D_Gate) → (List (D_Gate × Int)) → Option R111
noncomputable def u111 (f : T111) : (a111).C → Option (OutC o111) := fun (x : ((Unit × Int × Unit) × (((List D_Gate) × Unit × Unit) × (List (D_Gate × Int)) × Unit))) => f x.1.2.1 x.2.1.1 x.2.2.1
noncomputable def F111 (f : T111) : Fun := ⟨true, runR a111 o111 (u111 f)⟩
noncomputable def f111 (k : Nat) : T111 := fun l1 o0 o1 =>
  cond (decide (l1 < 2))
    (some ((0, 0, false, ()), ()))
    (ix o0 (w64 ((w64 (Int.tdiv l1 2)) - 1)) fun e1 =>
    (f88 k ()).bind fun y2 =>
    some ((e1.1, e1.2.1, (!(beqD T_Gate e1 y2.1.1)), ()), ()))
noncomputable def C111 (k : Nat) : Nat → Fun := mkC [(88, (F88 (f88 k)))]
theorem c111_ok (k : Nat) : ∀ f, SoundFn Try.prog f (C111 k f) := (mkC_cons (s88 k) mkC_nil)
theorem e111 (k : Nat) (x : (a111).C) : bodyR (C111 k) tt noH Try.f111 a111 o111 x = u111 (f111 k) x := by kernel_rfl
theorem s111 (k : Nat) : SoundFn Try.prog 111 (F111 (f111 k)) :=
  have hC := c111_ok k
  fnR_sound hC ttOk (draw_ok hC ttOk mixed) Try.func111 (c0 := bd Try.f111) rfl (entry Try.func111 rfl (by decide)) noH_ok rfl (fun x _ h => (e111 k x).trans h)
/-! f84 (*fathom/aig.Aig).plain (R) -/
noncomputable def a84 : Shape := ⟨[.ptr 0, .d i64, .d i64], [.box [.d (.slice T_Gate), .mp 1], .map T_Gate i64]⟩
noncomputable def o84 : List Shape := [⟨[.d i64, .d .bool], []⟩]
abbrev R84 : Type := ((Int × Bool × Unit) × Unit)
abbrev T84 : Type := Int → Int → (List D_Gate) → (List (D_Gate × Int)) → Option R84
noncomputable def u84 (f : T84) : (a84).C → Option (OutC o84) := fun (x : ((Unit × Int × Int × Unit) × (((List D_Gate) × Unit × Unit) × (List (D_Gate × Int)) × Unit))) => f x.1.2.1 x.1.2.2.1 x.2.1.1 x.2.2.1
noncomputable def F84 (f : T84) : Fun := ⟨true, runR a84 o84 (u84 f)⟩
noncomputable def f84 (k : Nat) : T84 := fun a1 b2 o0 o1 =>
  (f111 k b2 o0 o1).bind fun y1 =>
  cond (!y1.1.2.2.1)
    (some ((0, false, ()), ()))
    (cond ((Int.tmod b2 2) == 1)
      (some ((0, false, ()), ()))
      (cond (a1 == y1.1.1)
        (some ((b2, true, ()), ()))
        (cond (a1 == y1.1.2.1)
          (some ((b2, true, ()), ()))
          (cond ((ibits .xor .i64 a1 1) == y1.1.1)
            (some ((0, true, ()), ()))
            (cond ((ibits .xor .i64 a1 1) == y1.1.2.1)
              (some ((0, true, ()), ()))
              (some ((0, false, ()), ())))))))
noncomputable def C84 (k : Nat) : Nat → Fun := mkC [(111, (F111 (f111 k)))]
theorem c84_ok (k : Nat) : ∀ f, SoundFn Try.prog f (C84 k f) := (mkC_cons (s111 k) mkC_nil)
theorem e84 (k : Nat) (x : (a84).C) : bodyR (C84 k) tt noH Try.f84 a84 o84 x = u84 (f84 k) x := by kernel_rfl
theorem s84 (k : Nat) : SoundFn Try.prog 84 (F84 (f84 k)) :=
  have hC := c84_ok k
  fnR_sound hC ttOk (draw_ok hC ttOk mixed) Try.func84 (c0 := bd Try.f84) rfl (entry Try.func84 rfl (by decide)) noH_ok rfl (fun x _ h => (e84 k x).trans h)
/-! f19 (*fathom/aig.Aig).And (W) -/
noncomputable def a19 : Shape := ⟨[.ptr 0, .d i64, .d i64], [.box [.own T_Gate, .mp 1], .map T_Gate i64]⟩
noncomputable def o19 : List Shape := [⟨[.d i64], [.box [.own T_Gate, .mp 1], .map T_Gate i64]⟩]
abbrev R19 : Type := ((Int × Unit) × (((List D_Gate) × Unit × Unit) × (List (D_Gate × Int)) × Unit))
abbrev T19 : Type := Int → Int → (List D_Gate) → (List (D_Gate × Int)) → Option R19
noncomputable def u19 (f : T19) : (a19).C → Option (OutC o19) := fun (x : ((Unit × Int × Int × Unit) × (((List D_Gate) × Unit × Unit) × (List (D_Gate × Int)) × Unit))) => f x.1.2.1 x.1.2.2.1 x.2.1.1 x.2.2.1
noncomputable def F19 (f : T19) : Fun := ⟨false, runW a19 o19 (u19 f)⟩
/-! f85 (*fathom/aig.Aig).turned (W) -/
noncomputable def a85 : Shape := ⟨[.ptr 0, .d i64, .d i64], [.box [.own T_Gate, .mp 1], .map T_Gate i64]⟩
noncomputable def o85 : List Shape := [⟨[.d i64, .d .bool], [.box [.own T_Gate, .mp 1], .map T_Gate i64]⟩]
abbrev R85 : Type := ((Int × Bool × Unit) × (((List D_Gate) × Unit × Unit) × (List (D_Gate × Int)) × Unit))
abbrev T85 : Type := Int → Int → (List D_Gate) → (List (D_Gate × Int)) → Option R85
noncomputable def u85 (f : T85) : (a85).C → Option (OutC o85) := fun (x : ((Unit × Int × Int × Unit) × (((List D_Gate) × Unit × Unit) × (List (D_Gate × Int)) × Unit))) => f x.1.2.1 x.1.2.2.1 x.2.1.1 x.2.2.1
noncomputable def F85 (f : T85) : Fun := ⟨false, runW a85 o85 (u85 f)⟩
noncomputable def b19 (k : Nat) (r19 : T19) (r85 : T85) : T19 := fun a1 b2 o0 o1 =>
  (f24 k a1 o0 o1).bind fun y1 =>
  cond (!y1.1.1)
    (some (((-1), ()), ((o0, (), ()), o1, ())))
    ((f24 k b2 o0 o1).bind fun y2 =>
    cond (!y2.1.1)
      (some (((-1), ()), ((o0, (), ()), o1, ())))
      (cond ((minmax false a1 b2) == 0)
        (some ((0, ()), ((o0, (), ()), o1, ())))
        (cond ((ibits .xor .i64 (minmax false a1 b2) 1) == (minmax true a1 b2))
          (some ((0, ()), ((o0, (), ()), o1, ())))
          (cond ((minmax false a1 b2) == 1)
            (some (((minmax true a1 b2), ()), ((o0, (), ()), o1, ())))
            (cond ((minmax false a1 b2) == (minmax true a1 b2))
              (some (((minmax true a1 b2), ()), ((o0, (), ()), o1, ())))
              ((f84 k (minmax false a1 b2) (minmax true a1 b2) o0 o1).bind fun y3 =>
              cond y3.1.2.1
                (some ((y3.1.1, ()), ((o0, (), ()), o1, ())))
                ((f84 k (minmax true a1 b2) (minmax false a1 b2) o0 o1).bind fun y4 =>
                cond y4.1.2.1
                  (some ((y4.1.1, ()), ((o0, (), ()), o1, ())))
                  ((r85 (minmax false a1 b2) (minmax true a1 b2) o0 o1).bind fun y5 =>
                  cond y5.1.2.1
                    (some ((y5.1.1, ()), ((y5.2.1.1, (), ()), y5.2.2.1, ())))
                    ((r85 (minmax true a1 b2) (minmax false a1 b2) y5.2.1.1 y5.2.2.1).bind fun y6 =>
                    cond y6.1.2.1
                      (some ((y6.1.1, ()), ((y6.2.1.1, (), ()), y6.2.2.1, ())))
                      (let v7 := mget T_Gate ((minmax false a1 b2), (minmax true a1 b2), ()) y6.2.2.1
                      cond v7.isSome
                        (some (((v7.getD 0), ()), ((y6.2.1.1, (), ()), y6.2.2.1, ())))
                        ((f86 k ((minmax false a1 b2), (minmax true a1 b2), ()) y6.2.1.1 y6.2.2.1).bind fun y8 =>
                        cond (y8.1.1 != (-1))
                          (some ((y8.1.1, ()), ((y8.2.1.1, (), ()), (mput T_Gate ((minmax false a1 b2), (minmax true a1 b2), ()) y8.1.1 y8.2.2.1), ())))
                          (some ((y8.1.1, ()), ((y8.2.1.1, (), ()), y8.2.2.1, ()))))))))))))))
noncomputable def b85 (k : Nat) (r19 : T19) (r85 : T85) : T85 := fun a1 b2 o0 o1 =>
  (f111 k b2 o0 o1).bind fun y1 =>
  cond (!y1.1.2.2.1)
    (some ((0, false, ()), ((o0, (), ()), o1, ())))
    (cond ((Int.tmod b2 2) == 0)
      (some ((0, false, ()), ((o0, (), ()), o1, ())))
      (cond ((ibits .xor .i64 a1 1) == y1.1.1)
        (some ((a1, true, ()), ((o0, (), ()), o1, ())))
        (cond ((ibits .xor .i64 a1 1) == y1.1.2.1)
          (some ((a1, true, ()), ((o0, (), ()), o1, ())))
          (cond (a1 == y1.1.1)
            ((r19 a1 (ibits .xor .i64 y1.1.2.1 1) o0 o1).bind fun y2 =>
            some ((y2.1.1, true, ()), ((y2.2.1.1, (), ()), y2.2.2.1, ())))
            (cond (a1 == y1.1.2.1)
              ((r19 a1 (ibits .xor .i64 y1.1.1 1) o0 o1).bind fun y3 =>
              some ((y3.1.1, true, ()), ((y3.2.1.1, (), ()), y3.2.2.1, ())))
              (some ((0, false, ()), ((o0, (), ()), o1, ()))))))))
noncomputable def S19 : Nat → T19 × T85
  | 0 => (fun _ _ _ _ => none, fun _ _ _ _ => none)
  | k + 1 => (b19 k (S19 k).1 (S19 k).2, b85 k (S19 k).1 (S19 k).2)
noncomputable def f19 (k : Nat) : T19 := (S19 k).1
noncomputable def f85 (k : Nat) : T85 := (S19 k).2
theorem f19_succ (k : Nat) : f19 (k + 1) = b19 k (f19 k) (f85 k) := rfl
theorem f85_succ (k : Nat) : f85 (k + 1) = b85 k (f19 k) (f85 k) := rfl
noncomputable def C19 (k : Nat) (r19 : T19) (r85 : T85) : Nat → Fun := mkC [(24, (F24 (f24 k))), (84, (F84 (f84 k))), (85, (F85 r85)), (86, (F86 (f86 k)))]
theorem c19_ok (k : Nat) (r19 : T19) (r85 : T85) (h19 : SoundFn Try.prog 19 (F19 r19)) (h85 : SoundFn Try.prog 85 (F85 r85)) : ∀ f, SoundFn Try.prog f (C19 k r19 r85 f) := (mkC_cons (s24 k) (mkC_cons (s84 k) (mkC_cons h85 (mkC_cons (s86 k) mkC_nil))))
theorem e19 (k : Nat) (r19 : T19) (r85 : T85) (x : (a19).C) : bodyW (C19 k r19 r85) tt noH Try.f19 a19 o19 x = u19 (b19 k r19 r85) x := by kernel_rfl
theorem q19 (k : Nat) (r19 : T19) (r85 : T85) (h19 : SoundFn Try.prog 19 (F19 r19)) (h85 : SoundFn Try.prog 85 (F85 r85)) : SoundFn Try.prog 19 (F19 (b19 k r19 r85)) :=
  have hC := c19_ok k r19 r85 h19 h85
  fnW_sound hC ttOk (draw_ok hC ttOk mixed) Try.func19 (c0 := bd Try.f19) rfl (entry Try.func19 rfl (by decide)) noH_ok (fun x _ h => (e19 k r19 r85 x).trans h)
noncomputable def C85 (k : Nat) (r19 : T19) (r85 : T85) : Nat → Fun := mkC [(19, (F19 r19)), (111, (F111 (f111 k)))]
theorem c85_ok (k : Nat) (r19 : T19) (r85 : T85) (h19 : SoundFn Try.prog 19 (F19 r19)) (h85 : SoundFn Try.prog 85 (F85 r85)) : ∀ f, SoundFn Try.prog f (C85 k r19 r85 f) := (mkC_cons h19 (mkC_cons (s111 k) mkC_nil))
theorem e85 (k : Nat) (r19 : T19) (r85 : T85) (x : (a85).C) : bodyW (C85 k r19 r85) tt noH Try.f85 a85 o85 x = u85 (b85 k r19 r85) x := by kernel_rfl
theorem q85 (k : Nat) (r19 : T19) (r85 : T85) (h19 : SoundFn Try.prog 19 (F19 r19)) (h85 : SoundFn Try.prog 85 (F85 r85)) : SoundFn Try.prog 85 (F85 (b85 k r19 r85)) :=
  have hC := c85_ok k r19 r85 h19 h85
  fnW_sound hC ttOk (draw_ok hC ttOk mixed) Try.func85 (c0 := bd Try.f85) rfl (entry Try.func85 rfl (by decide)) noH_ok (fun x _ h => (e85 k r19 r85 x).trans h)
theorem sAll19 : ∀ k : Nat, SoundFn Try.prog 19 (F19 (f19 k)) ∧ SoundFn Try.prog 85 (F85 (f85 k))
  | 0 => ⟨noneW_ok (by intro x; rfl), noneW_ok (by intro x; rfl)⟩
  | k + 1 =>
    have ih := sAll19 k
    ⟨q19 k (f19 k) (f85 k) ih.1 ih.2, q85 k (f19 k) (f85 k) ih.1 ih.2⟩
theorem s19 (k : Nat) : SoundFn Try.prog 19 (F19 (f19 k)) := (sAll19 k).1
theorem s85 (k : Nat) : SoundFn Try.prog 85 (F85 (f85 k)) := (sAll19 k).2
/-! f26 (*fathom/aig.Aig).Or (W) -/
noncomputable def a26 : Shape := ⟨[.ptr 0, .d i64, .d i64], [.box [.own T_Gate, .mp 1], .map T_Gate i64]⟩
noncomputable def o26 : List Shape := [⟨[.d i64], [.box [.own T_Gate, .mp 1], .map T_Gate i64]⟩]
abbrev R26 : Type := ((Int × Unit) × (((List D_Gate) × Unit × Unit) × (List (D_Gate × Int)) × Unit))
abbrev T26 : Type := Int → Int → (List D_Gate) → (List (D_Gate × Int)) → Option R26
noncomputable def u26 (f : T26) : (a26).C → Option (OutC o26) := fun (x : ((Unit × Int × Int × Unit) × (((List D_Gate) × Unit × Unit) × (List (D_Gate × Int)) × Unit))) => f x.1.2.1 x.1.2.2.1 x.2.1.1 x.2.2.1
noncomputable def F26 (f : T26) : Fun := ⟨false, runW a26 o26 (u26 f)⟩
noncomputable def f26 (k : Nat) : T26 := fun a1 b2 o0 o1 =>
  (f89 k a1).bind fun y1 =>
  (f89 k b2).bind fun y2 =>
  (f19 k y1.1.1 y2.1.1 o0 o1).bind fun y3 =>
  (f89 k y3.1.1).bind fun y4 =>
  some ((y4.1.1, ()), ((y3.2.1.1, (), ()), y3.2.2.1, ()))
noncomputable def C26 (k : Nat) : Nat → Fun := mkC [(19, (F19 (f19 k))), (89, (F89 (f89 k)))]
theorem c26_ok (k : Nat) : ∀ f, SoundFn Try.prog f (C26 k f) := (mkC_cons (s19 k) (mkC_cons (s89 k) mkC_nil))
theorem e26 (k : Nat) (x : (a26).C) : bodyW (C26 k) tt noH Try.f26 a26 o26 x = u26 (f26 k) x := by kernel_rfl
theorem s26 (k : Nat) : SoundFn Try.prog 26 (F26 (f26 k)) :=
  have hC := c26_ok k
  fnW_sound hC ttOk (draw_ok hC ttOk mixed) Try.func26 (c0 := bd Try.f26) rfl (entry Try.func26 rfl (by decide)) noH_ok (fun x _ h => (e26 k x).trans h)
/-! f27 (*fathom/aig.Aig).Xor (W) -/
noncomputable def a27 : Shape := ⟨[.ptr 0, .d i64, .d i64], [.box [.own T_Gate, .mp 1], .map T_Gate i64]⟩
noncomputable def o27 : List Shape := [⟨[.d i64], [.box [.own T_Gate, .mp 1], .map T_Gate i64]⟩]
abbrev R27 : Type := ((Int × Unit) × (((List D_Gate) × Unit × Unit) × (List (D_Gate × Int)) × Unit))
abbrev T27 : Type := Int → Int → (List D_Gate) → (List (D_Gate × Int)) → Option R27
noncomputable def u27 (f : T27) : (a27).C → Option (OutC o27) := fun (x : ((Unit × Int × Int × Unit) × (((List D_Gate) × Unit × Unit) × (List (D_Gate × Int)) × Unit))) => f x.1.2.1 x.1.2.2.1 x.2.1.1 x.2.2.1
noncomputable def F27 (f : T27) : Fun := ⟨false, runW a27 o27 (u27 f)⟩
noncomputable def f27 (k : Nat) : T27 := fun a1 b2 o0 o1 =>
  (f89 k b2).bind fun y1 =>
  (f19 k a1 y1.1.1 o0 o1).bind fun y2 =>
  (f89 k a1).bind fun y3 =>
  (f19 k y3.1.1 b2 y2.2.1.1 y2.2.2.1).bind fun y4 =>
  (f26 k y2.1.1 y4.1.1 y4.2.1.1 y4.2.2.1).bind fun y5 =>
  some ((y5.1.1, ()), ((y5.2.1.1, (), ()), y5.2.2.1, ()))
noncomputable def C27 (k : Nat) : Nat → Fun := mkC [(19, (F19 (f19 k))), (26, (F26 (f26 k))), (89, (F89 (f89 k)))]
theorem c27_ok (k : Nat) : ∀ f, SoundFn Try.prog f (C27 k f) := (mkC_cons (s19 k) (mkC_cons (s26 k) (mkC_cons (s89 k) mkC_nil)))
theorem e27 (k : Nat) (x : (a27).C) : bodyW (C27 k) tt noH Try.f27 a27 o27 x = u27 (f27 k) x := by kernel_rfl
theorem s27 (k : Nat) : SoundFn Try.prog 27 (F27 (f27 k)) :=
  have hC := c27_ok k
  fnW_sound hC ttOk (draw_ok hC ttOk mixed) Try.func27 (c0 := bd Try.f27) rfl (entry Try.func27 rfl (by decide)) noH_ok (fun x _ h => (e27 k x).trans h)
/-! f96 fathom/vec.sum (W) -/
noncomputable def a96 : Shape := ⟨[.ptr 0, .d (.slice i64), .d (.slice i64), .d i64], [.box [.own T_Gate, .mp 1], .map T_Gate i64]⟩
noncomputable def o96 : List Shape := [⟨[.own i64, .d i64], [.box [.own T_Gate, .mp 1], .map T_Gate i64]⟩]
abbrev R96 : Type := (((List Int) × Int × Unit) × (((List D_Gate) × Unit × Unit) × (List (D_Gate × Int)) × Unit))
abbrev T96 : Type := (List Int) → (List Int) → Int → (List D_Gate) → (List (D_Gate × Int)) → Option R96
noncomputable def u96 (f : T96) : (a96).C → Option (OutC o96) := fun (x : ((Unit × (List Int) × (List Int) × Int × Unit) × (((List D_Gate) × Unit × Unit) × (List (D_Gate × Int)) × Unit))) => f x.1.2.1 x.1.2.2.1 x.1.2.2.2.1 x.2.1.1 x.2.2.1
noncomputable def F96 (f : T96) : Fun := ⟨false, runW a96 o96 (u96 f)⟩
noncomputable def pa96_58 : Shape := ⟨[.ptr 0, .d (.slice i64), .d (.slice i64), .d i64, .own i64, .d i64, .d i64], [.box [.own T_Gate, .mp 1], .map T_Gate i64]⟩
noncomputable def pw96_58 : List Vm.Way := [⟨.exit 0, [3, 10], ⟨[.d i64, .own i64], [.box [.own T_Gate, .mp 1], .map T_Gate i64]⟩⟩]
abbrev R96_58 : Type := ((Int × (List Int) × Unit) × (((List D_Gate) × Unit × Unit) × (List (D_Gate × Int)) × Unit))
abbrev T96_58 : Type := (List Int) → (List Int) → Int → (List Int) → Int → Int → (List D_Gate) → (List (D_Gate × Int)) → Option R96_58
noncomputable def u96_58 (f : T96_58) : (pa96_58).C → Option (WayC pw96_58) := fun (x : ((Unit × (List Int) × (List Int) × Int × (List Int) × Int × Int × Unit) × (((List D_Gate) × Unit × Unit) × (List (D_Gate × Int)) × Unit))) => f x.1.2.1 x.1.2.2.1 x.1.2.2.2.1 x.1.2.2.2.2.1 x.1.2.2.2.2.2.1 x.1.2.2.2.2.2.2.1 x.2.1.1 x.2.2.1
noncomputable def b96_58 (k : Nat) (rec : T96_58) : T96_58 := fun a1 b2 c3 out10 t14 t15 o0 o1 =>
  cond (decide (t15 < t14))
    (ix a1 t15 fun e1 =>
    ix b2 t15 fun e2 =>
    (f27 k e1 e2 o0 o1).bind fun y3 =>
    (f27 k y3.1.1 c3 y3.2.1.1 y3.2.2.1).bind fun y4 =>
    gd (decide ((out10.length + 1) * 8 ≤ room)) <|
    ix a1 t15 fun e5 =>
    ix b2 t15 fun e6 =>
    (f19 k e5 e6 y4.2.1.1 y4.2.2.1).bind fun y7 =>
    (f19 k y3.1.1 c3 y7.2.1.1 y7.2.2.1).bind fun y8 =>
    (f26 k y7.1.1 y8.1.1 y8.2.1.1 y8.2.2.1).bind fun y9 =>
    (rec a1 b2 y9.1.1 (out10 ++ ([y4.1.1] : List Int)) t14 (w64 (t15 + 1)) y9.2.1.1 y9.2.2.1).bind fun y10 =>
    some ((y10.1.1, y10.1.2.1, ()), ((y10.2.1.1, (), ()), y10.2.2.1, ())))
    (some ((c3, out10, ()), ((o0, (), ()), o1, ())))
noncomputable def l96_58 (k : Nat) : Nat → T96_58
  | 0 => fun _ _ _ _ _ _ _ _ => none
  | j + 1 => b96_58 k (l96_58 k j)
noncomputable def f96 (k : Nat) : T96 := fun a1 b2 c3 o0 o1 =>
  (l96_58 k k a1 b2 c3 [] (a1.length : Int) 0 o0 o1).bind fun y1 =>
  some ((y1.1.2.1, y1.1.1, ()), ((y1.2.1.1, (), ()), y1.2.2.1, ()))
noncomputable def C96 (k : Nat) : Nat → Fun := mkC [(19, (F19 (f19 k))), (26, (F26 (f26 k))), (27, (F27 (f27 k)))]
theorem c96_ok (k : Nat) : ∀ f, SoundFn Try.prog f (C96 k f) := (mkC_cons (s19 k) (mkC_cons (s26 k) (mkC_cons (s27 k) mkC_nil)))
noncomputable def H96_58 (k : Nat) : Nat → Option Cut := addH noH 58 ⟨runCut (wrC (bodyOf (codeAt 58 (bd Try.f96) 58))) 54 [0, 1, 2, 3, 10, 14, 15] pa96_58 pw96_58 (u96_58 (l96_58 k k))⟩
theorem e96_58 (k : Nat) (rec : T96_58) (x : (pa96_58).C) : roundF (C96 k) tt noH (bodyOf (codeAt 58 (bd Try.f96) 58)) 116 54 [0, 1, 2, 3, 10, 14, 15] pa96_58 pw96_58 (u96_58 rec) x = u96_58 (b96_58 k rec) x := by kernel_rfl
theorem h96_58_ok (k : Nat) : ∀ p S, H96_58 k p = some S → ∀ c, At (bd Try.f96) p c → CutOk Try.prog c S :=
  have hC := c96_ok k
  addLoop hC ttOk (draw_ok hC ttOk mixed) noH_ok (by kernel_rfl) (F := fun j => u96_58 (l96_58 k j)) (fun _ => rfl) (fun j x _ h => (e96_58 k (l96_58 k j) x).trans h) k
theorem e96 (k : Nat) (x : (a96).C) : bodyW (C96 k) tt (H96_58 k) Try.f96 a96 o96 x = u96 (f96 k) x := by kernel_rfl
theorem s96 (k : Nat) : SoundFn Try.prog 96 (F96 (f96 k)) :=
  have hC := c96_ok k
  fnW_sound hC ttOk (draw_ok hC ttOk mixed) Try.func96 (c0 := bd Try.f96) rfl (entry Try.func96 rfl (by decide)) (h96_58_ok k) (fun x _ h => (e96 k x).trans h)
/-! f118 slices.Index[[]int,int] (R) -/
noncomputable def a118 : Shape := ⟨[.d (.slice i64), .d i64], []⟩
noncomputable def o118 : List Shape := [⟨[.d i64], []⟩]
abbrev R118 : Type := ((Int × Unit) × Unit)
abbrev T118 : Type := (List Int) → Int → Option R118
noncomputable def u118 (f : T118) : (a118).C → Option (OutC o118) := fun (x : (((List Int) × Int × Unit) × Unit)) => f x.1.1 x.1.2.1
noncomputable def F118 (f : T118) : Fun := ⟨true, runR a118 o118 (u118 f)⟩
noncomputable def pa118_26 : Shape := ⟨[.d (.slice i64), .d i64, .d i64, .d i64], []⟩
noncomputable def pw118_26 : List Vm.Way := [⟨.exit 0, [], ⟨[], []⟩⟩, ⟨.ret, [4], ⟨[.d i64], []⟩⟩]
abbrev R118_26 : Type := ((Unit × Unit) ⊕ ((Int × Unit) × Unit))
abbrev T118_26 : Type := (List Int) → Int → Int → Int → Option R118_26
noncomputable def u118_26 (f : T118_26) : (pa118_26).C → Option (WayC pw118_26) := fun (x : (((List Int) × Int × Int × Int × Unit) × Unit)) => f x.1.1 x.1.2.1 x.1.2.2.1 x.1.2.2.2.1
noncomputable def b118_26 (k : Nat) (rec : T118_26) : T118_26 := fun s0 v1 t7 t8 =>
  cond (decide (t8 < t7))
    (ix s0 t8 fun e1 =>
    cond (v1 == e1)
      (some (.inr ((t8, ()), ())))
      ((rec s0 v1 t7 (w64 (t8 + 1))).bind fun y2 =>
      match y2 with
      | .inl y2_0 =>
        some (.inl ((), ()))
      | .inr y2_1 =>
        some (.inr ((y2_1.1.1, ()), ()))))
    (some (.inl ((), ())))
noncomputable def l118_26 (k : Nat) : Nat → T118_26
  | 0 => fun _ _ _ _ => none
  | j + 1 => b118_26 k (l118_26 k j)
noncomputable def f118 (k : Nat) : T118 := fun s0 v1 =>
  (l118_26 k k s0 v1 (s0.length : Int) 0).bind fun y1 =>
  match y1 with
  | .inl y1_0 =>
    some (((-1), ()), ())
  | .inr y1_1 =>
    some ((y1_1.1.1, ()), ())
noncomputable def C118 (k : Nat) : Nat → Fun := mkC []
theorem c118_ok (k : Nat) : ∀ f, SoundFn Try.prog f (C118 k f) := mkC_nil
noncomputable def H118_26 (k : Nat) : Nat → Option Cut := addH noH 26 ⟨runCut (wrC (bodyOf (codeAt 26 (bd Try.f118) 26))) 19 [0, 1, 7, 8] pa118_26 pw118_26 (u118_26 (l118_26 k k))⟩
theorem e118_26 (k : Nat) (rec : T118_26) (x : (pa118_26).C) : roundF (C118 k) tt noH (bodyOf (codeAt 26 (bd Try.f118) 26)) 52 19 [0, 1, 7, 8] pa118_26 pw118_26 (u118_26 rec) x = u118_26 (b118_26 k rec) x := by kernel_rfl
theorem h118_26_ok (k : Nat) : ∀ p S, H118_26 k p = some S → ∀ c, At (bd Try.f118) p c → CutOk Try.prog c S :=
  have hC := c118_ok k
  addLoop hC ttOk (draw_ok hC ttOk mixed) noH_ok (by kernel_rfl) (F := fun j => u118_26 (l118_26 k j)) (fun _ => rfl) (fun j x _ h => (e118_26 k (l118_26 k j) x).trans h) k
theorem e118 (k : Nat) (x : (a118).C) : bodyR (C118 k) tt (H118_26 k) Try.f118 a118 o118 x = u118 (f118 k) x := by kernel_rfl
theorem s118 (k : Nat) : SoundFn Try.prog 118 (F118 (f118 k)) :=
  have hC := c118_ok k
  fnR_sound hC ttOk (draw_ok hC ttOk mixed) Try.func118 (c0 := bd Try.f118) rfl (entry Try.func118 rfl (by decide)) (h118_26_ok k) rfl (fun x _ h => (e118 k x).trans h)
/-! f112 slices.Contains[[]int,int] (R) -/
noncomputable def a112 : Shape := ⟨[.d (.slice i64), .d i64], []⟩
noncomputable def o112 : List Shape := [⟨[.d .bool], []⟩]
abbrev R112 : Type := ((Bool × Unit) × Unit)
abbrev T112 : Type := (List Int) → Int → Option R112
noncomputable def u112 (f : T112) : (a112).C → Option (OutC o112) := fun (x : (((List Int) × Int × Unit) × Unit)) => f x.1.1 x.1.2.1
noncomputable def F112 (f : T112) : Fun := ⟨true, runR a112 o112 (u112 f)⟩
noncomputable def f112 (k : Nat) : T112 := fun s0 v1 =>
  (f118 k s0 v1).bind fun y1 =>
  some (((decide (y1.1.1 ≥ 0)), ()), ())
noncomputable def C112 (k : Nat) : Nat → Fun := mkC [(118, (F118 (f118 k)))]
theorem c112_ok (k : Nat) : ∀ f, SoundFn Try.prog f (C112 k f) := (mkC_cons (s118 k) mkC_nil)
theorem e112 (k : Nat) (x : (a112).C) : bodyR (C112 k) tt noH Try.f112 a112 o112 x = u112 (f112 k) x := by kernel_rfl
theorem s112 (k : Nat) : SoundFn Try.prog 112 (F112 (f112 k)) :=
  have hC := c112_ok k
  fnR_sound hC ttOk (draw_ok hC ttOk mixed) Try.func112 (c0 := bd Try.f112) rfl (entry Try.func112 rfl (by decide)) noH_ok rfl (fun x _ h => (e112 k x).trans h)
/-! f92 fathom/vec.whole (W) -/
noncomputable def a92 : Shape := ⟨[.own i64], []⟩
noncomputable def o92 : List Shape := [⟨[.nils], []⟩, ⟨[.own i64], []⟩]
abbrev R92 : Type := (((Unit × Unit) × Unit) ⊕ (((List Int) × Unit) × Unit))
abbrev T92 : Type := (List Int) → Option R92
noncomputable def u92 (f : T92) : (a92).C → Option (OutC o92) := fun (x : (((List Int) × Unit) × Unit)) => f x.1.1
noncomputable def F92 (f : T92) : Fun := ⟨false, runW a92 o92 (u92 f)⟩
noncomputable def f92 (k : Nat) : T92 := fun a0 =>
  (f112 k a0 (-1)).bind fun y1 =>
  cond y1.1.1
    (some (.inl (((), ()), ())))
    (some (.inr ((a0, ()), ())))
noncomputable def C92 (k : Nat) : Nat → Fun := mkC [(112, (F112 (f112 k)))]
theorem c92_ok (k : Nat) : ∀ f, SoundFn Try.prog f (C92 k f) := (mkC_cons (s112 k) mkC_nil)
theorem e92 (k : Nat) (x : (a92).C) : bodyW (C92 k) tt noH Try.f92 a92 o92 x = u92 (f92 k) x := by kernel_rfl
theorem s92 (k : Nat) : SoundFn Try.prog 92 (F92 (f92 k)) :=
  have hC := c92_ok k
  fnW_sound hC ttOk (draw_ok hC ttOk mixed) Try.func92 (c0 := bd Try.f92) rfl (entry Try.func92 rfl (by decide)) noH_ok (fun x _ h => (e92 k x).trans h)
/-! f46 fathom/vec.Add (W) -/
noncomputable def a46 : Shape := ⟨[.ptr 0, .d (.slice i64), .d (.slice i64)], [.box [.own T_Gate, .mp 1], .map T_Gate i64]⟩
noncomputable def o46 : List Shape := [⟨[.nils], [.box [.own T_Gate, .mp 1], .map T_Gate i64]⟩, ⟨[.own i64], [.box [.own T_Gate, .mp 1], .map T_Gate i64]⟩]
abbrev R46 : Type := (((Unit × Unit) × (((List D_Gate) × Unit × Unit) × (List (D_Gate × Int)) × Unit)) ⊕ (((List Int) × Unit) × (((List D_Gate) × Unit × Unit) × (List (D_Gate × Int)) × Unit)))
abbrev T46 : Type := (List Int) → (List Int) → (List D_Gate) → (List (D_Gate × Int)) → Option R46
noncomputable def u46 (f : T46) : (a46).C → Option (OutC o46) := fun (x : ((Unit × (List Int) × (List Int) × Unit) × (((List D_Gate) × Unit × Unit) × (List (D_Gate × Int)) × Unit))) => f x.1.2.1 x.1.2.2.1 x.2.1.1 x.2.2.1
noncomputable def F46 (f : T46) : Fun := ⟨false, runW a46 o46 (u46 f)⟩
noncomputable def f46 (k : Nat) : T46 := fun a1 b2 o0 o1 =>
  (f95 k a1 b2 o0 o1).bind fun y1 =>
  cond (!y1.1.1)
    (some (.inl (((), ()), ((o0, (), ()), o1, ()))))
    ((f96 k a1 b2 0 o0 o1).bind fun y2 =>
    (f92 k y2.1.1).bind fun y3 =>
    match y3 with
    | .inl y3_0 =>
      some (.inl (((), ()), ((y2.2.1.1, (), ()), y2.2.2.1, ())))
    | .inr y3_1 =>
      some (.inr ((y3_1.1.1, ()), ((y2.2.1.1, (), ()), y2.2.2.1, ()))))
noncomputable def C46 (k : Nat) : Nat → Fun := mkC [(1000092, ownF), (92, (F92 (f92 k))), (95, (F95 (f95 k))), (96, (F96 (f96 k)))]
theorem c46_ok (k : Nat) : ∀ f, SoundFn Try.prog f (C46 k f) := (mkC_cons ownF_ok (mkC_cons (s92 k) (mkC_cons (s95 k) (mkC_cons (s96 k) mkC_nil))))
theorem e46 (k : Nat) (x : (a46).C) : bodyW (C46 k) tt noH Try.f46 a46 o46 x = u46 (f46 k) x := by kernel_rfl
theorem s46 (k : Nat) : SoundFn Try.prog 46 (F46 (f46 k)) :=
  have hC := c46_ok k
  fnW_sound hC ttOk (draw_ok hC ttOk mixed) Try.func46 (c0 := bd Try.f46) rfl (entry Try.func46 rfl (by decide)) noH_ok (fun x _ h => (e46 k x).trans h)
/-! f98 fathom/vec.Not$1 (R) -/
noncomputable def a98 : Shape := ⟨[.d i64, .d i64], []⟩
noncomputable def o98 : List Shape := [⟨[.d i64], []⟩]
abbrev R98 : Type := ((Int × Unit) × Unit)
abbrev T98 : Type := Int → Int → Option R98
noncomputable def u98 (f : T98) : (a98).C → Option (OutC o98) := fun (x : ((Int × Int × Unit) × Unit)) => f x.1.1 x.1.2.1
noncomputable def F98 (f : T98) : Fun := ⟨true, runR a98 o98 (u98 f)⟩
noncomputable def f98 (k : Nat) : T98 := fun a0 x1 =>
  some (((ibits .xor .i64 a0 1), ()), ())
noncomputable def C98 (k : Nat) : Nat → Fun := mkC []
theorem c98_ok (k : Nat) : ∀ f, SoundFn Try.prog f (C98 k f) := mkC_nil
theorem e98 (k : Nat) (x : (a98).C) : bodyR (C98 k) tt noH Try.f98 a98 o98 x = u98 (f98 k) x := by kernel_rfl
theorem s98 (k : Nat) : SoundFn Try.prog 98 (F98 (f98 k)) :=
  have hC := c98_ok k
  fnR_sound hC ttOk (draw_ok hC ttOk mixed) Try.func98 (c0 := bd Try.f98) rfl (entry Try.func98 rfl (by decide)) noH_ok rfl (fun x _ h => (e98 k x).trans h)
/-! f97v3 fathom/vec.each (W) -/
noncomputable def a97v3 : Shape := ⟨[.ptr 0, .d (.slice i64), .d (.slice i64), .fn 98 []], [.lk (.box [.d (.slice T_Gate), .mp 1]), .lk (.map T_Gate i64)]⟩
noncomputable def o97v3 : List Shape := [⟨[.nils], [.any, .any]⟩, ⟨[.own i64], [.any, .any]⟩]
abbrev R97v3 : Type := (((Unit × Unit) × (Unit × Unit × Unit)) ⊕ (((List Int) × Unit) × (Unit × Unit × Unit)))
abbrev T97v3 : Type := (List Int) → (List Int) → (List D_Gate) → (List (D_Gate × Int)) → Option R97v3
noncomputable def u97v3 (f : T97v3) : (a97v3).C → Option (OutC o97v3) := fun (x : ((Unit × (List Int) × (List Int) × Unit × Unit) × (((List D_Gate) × Unit × Unit) × (List (D_Gate × Int)) × Unit))) => f x.1.2.1 x.1.2.2.1 x.2.1.1 x.2.2.1
noncomputable def F97v3 (f : T97v3) : Fun := ⟨false, runW a97v3 o97v3 (u97v3 f)⟩
noncomputable def pa97v3_122 : Shape := ⟨[.d (.slice i64), .d (.slice i64), .fn 98 [], .own i64, .d i64, .d i64], []⟩
noncomputable def pw97v3_122 : List Vm.Way := [⟨.exit 0, [9], ⟨[.own i64], []⟩⟩]
abbrev R97v3_122 : Type := (((List Int) × Unit) × Unit)
abbrev T97v3_122 : Type := (List Int) → (List Int) → (List Int) → Int → Int → Option R97v3_122
noncomputable def u97v3_122 (f : T97v3_122) : (pa97v3_122).C → Option (WayC pw97v3_122) := fun (x : (((List Int) × (List Int) × Unit × (List Int) × Int × Int × Unit) × Unit)) => f x.1.1 x.1.2.1 x.1.2.2.2.1 x.1.2.2.2.2.1 x.1.2.2.2.2.2.1
noncomputable def b97v3_122 (k : Nat) (rec : T97v3_122) : T97v3_122 := fun a1 b2 out9 t17 t18 =>
  cond (decide (t18 < t17))
    (ix a1 t18 fun e1 =>
    ix b2 t18 fun e2 =>
    (f98 k e1 e2).bind fun y3 =>
    gd (decide ((out9.length + 1) * 8 ≤ room)) <|
    (rec a1 b2 (out9 ++ ([y3.1.1] : List Int)) t17 (w64 (t18 + 1))).bind fun y4 =>
    some ((y4.1.1, ()), ()))
    (some ((out9, ()), ()))
noncomputable def l97v3_122 (k : Nat) : Nat → T97v3_122
  | 0 => fun _ _ _ _ _ => none
  | j + 1 => b97v3_122 k (l97v3_122 k j)
noncomputable def f97v3 (k : Nat) : T97v3 := fun a1 b2 o0 o1 =>
  (f95 k a1 b2 o0 o1).bind fun y1 =>
  cond (!y1.1.1)
    (some (.inl (((), ()), ((), (), ()))))
    ((l97v3_122 k k a1 b2 [] (a1.length : Int) 0).bind fun y2 =>
    (f92 k y2.1.1).bind fun y3 =>
    match y3 with
    | .inl y3_0 =>
      some (.inl (((), ()), ((), (), ())))
    | .inr y3_1 =>
      some (.inr ((y3_1.1.1, ()), ((), (), ()))))
noncomputable def C97v3 (k : Nat) : Nat → Fun := mkC [(1000092, ownF), (92, (F92 (f92 k))), (95, (F95 (f95 k))), (98, (F98 (f98 k)))]
theorem c97v3_ok (k : Nat) : ∀ f, SoundFn Try.prog f (C97v3 k f) := (mkC_cons ownF_ok (mkC_cons (s92 k) (mkC_cons (s95 k) (mkC_cons (s98 k) mkC_nil))))
noncomputable def H97v3_122 (k : Nat) : Nat → Option Cut := addH noH 122 ⟨runCut (wrC (bodyOf (codeAt 122 (bd Try.f97) 122))) 37 [1, 2, 3, 9, 17, 18] pa97v3_122 pw97v3_122 (u97v3_122 (l97v3_122 k k))⟩
theorem e97v3_122 (k : Nat) (rec : T97v3_122) (x : (pa97v3_122).C) : roundF (C97v3 k) tt noH (bodyOf (codeAt 122 (bd Try.f97) 122)) 244 37 [1, 2, 3, 9, 17, 18] pa97v3_122 pw97v3_122 (u97v3_122 rec) x = u97v3_122 (b97v3_122 k rec) x := by kernel_rfl
theorem h97v3_122_ok (k : Nat) : ∀ p S, H97v3_122 k p = some S → ∀ c, At (bd Try.f97) p c → CutOk Try.prog c S :=
  have hC := c97v3_ok k
  addLoop hC ttOk (draw_ok hC ttOk mixed) noH_ok (by kernel_rfl) (F := fun j => u97v3_122 (l97v3_122 k j)) (fun _ => rfl) (fun j x _ h => (e97v3_122 k (l97v3_122 k j) x).trans h) k
theorem e97v3 (k : Nat) (x : (a97v3).C) : bodyW (C97v3 k) tt (H97v3_122 k) Try.f97 a97v3 o97v3 x = u97v3 (f97v3 k) x := by kernel_rfl
theorem s97v3 (k : Nat) : SoundFn Try.prog 97 (F97v3 (f97v3 k)) :=
  have hC := c97v3_ok k
  fnW_sound hC ttOk (draw_ok hC ttOk mixed) Try.func97 (c0 := bd Try.f97) rfl (entry Try.func97 rfl (by decide)) (h97v3_122_ok k) (fun x _ h => (e97v3 k x).trans h)
/-! f54 fathom/vec.Not (R) -/
noncomputable def a54 : Shape := ⟨[.ptr 0, .d (.slice i64)], [.box [.d (.slice T_Gate), .mp 1], .map T_Gate i64]⟩
noncomputable def o54 : List Shape := [⟨[.d (.slice i64)], []⟩]
abbrev R54 : Type := (((List Int) × Unit) × Unit)
abbrev T54 : Type := (List Int) → (List D_Gate) → (List (D_Gate × Int)) → Option R54
noncomputable def u54 (f : T54) : (a54).C → Option (OutC o54) := fun (x : ((Unit × (List Int) × Unit) × (((List D_Gate) × Unit × Unit) × (List (D_Gate × Int)) × Unit))) => f x.1.2.1 x.2.1.1 x.2.2.1
noncomputable def F54 (f : T54) : Fun := ⟨true, runR a54 o54 (u54 f)⟩
noncomputable def f54 (k : Nat) : T54 := fun a1 o0 o1 =>
  (f97v3 k a1 a1 o0 o1).bind fun y1 =>
  match y1 with
  | .inl y1_0 =>
    some (([], ()), ())
  | .inr y1_1 =>
    some ((y1_1.1.1, ()), ())
noncomputable def C54 (k : Nat) : Nat → Fun := mkC [(97, (F97v3 (f97v3 k)))]
theorem c54_ok (k : Nat) : ∀ f, SoundFn Try.prog f (C54 k f) := (mkC_cons (s97v3 k) mkC_nil)
theorem e54 (k : Nat) (x : (a54).C) : bodyR (C54 k) tt noH Try.f54 a54 o54 x = u54 (f54 k) x := by kernel_rfl
theorem s54 (k : Nat) : SoundFn Try.prog 54 (F54 (f54 k)) :=
  have hC := c54_ok k
  fnR_sound hC ttOk (draw_ok hC ttOk mixed) Try.func54 (c0 := bd Try.f54) rfl (entry Try.func54 rfl (by decide)) noH_ok rfl (fun x _ h => (e54 k x).trans h)
/-! f47 fathom/vec.Sub (W) -/
noncomputable def a47 : Shape := ⟨[.ptr 0, .d (.slice i64), .d (.slice i64)], [.box [.own T_Gate, .mp 1], .map T_Gate i64]⟩
noncomputable def o47 : List Shape := [⟨[.own i64], [.box [.own T_Gate, .mp 1], .map T_Gate i64]⟩]
abbrev R47 : Type := (((List Int) × Unit) × (((List D_Gate) × Unit × Unit) × (List (D_Gate × Int)) × Unit))
abbrev T47 : Type := (List Int) → (List Int) → (List D_Gate) → (List (D_Gate × Int)) → Option R47
noncomputable def u47 (f : T47) : (a47).C → Option (OutC o47) := fun (x : ((Unit × (List Int) × (List Int) × Unit) × (((List D_Gate) × Unit × Unit) × (List (D_Gate × Int)) × Unit))) => f x.1.2.1 x.1.2.2.1 x.2.1.1 x.2.2.1
noncomputable def F47 (f : T47) : Fun := ⟨false, runW a47 o47 (u47 f)⟩
noncomputable def f47 (k : Nat) : T47 := fun a1 b2 o0 o1 =>
  (f95 k a1 b2 o0 o1).bind fun y1 =>
  cond (!y1.1.1)
    (some (([], ()), ((o0, (), ()), o1, ())))
    ((f54 k b2 o0 o1).bind fun y2 =>
    (f96 k a1 y2.1.1 1 o0 o1).bind fun y3 =>
    (f92 k y3.1.1).bind fun y4 =>
    match y4 with
    | .inl y4_0 =>
      some (([], ()), ((y3.2.1.1, (), ()), y3.2.2.1, ()))
    | .inr y4_1 =>
      some ((y4_1.1.1, ()), ((y3.2.1.1, (), ()), y3.2.2.1, ())))
noncomputable def C47 (k : Nat) : Nat → Fun := mkC [(54, (F54 (f54 k))), (1000092, ownF), (92, (F92 (f92 k))), (95, (F95 (f95 k))), (96, (F96 (f96 k)))]
theorem c47_ok (k : Nat) : ∀ f, SoundFn Try.prog f (C47 k f) := (mkC_cons (s54 k) (mkC_cons ownF_ok (mkC_cons (s92 k) (mkC_cons (s95 k) (mkC_cons (s96 k) mkC_nil)))))
theorem e47 (k : Nat) (x : (a47).C) : bodyW (C47 k) tt noH Try.f47 a47 o47 x = u47 (f47 k) x := by kernel_rfl
theorem s47 (k : Nat) : SoundFn Try.prog 47 (F47 (f47 k)) :=
  have hC := c47_ok k
  fnW_sound hC ttOk (draw_ok hC ttOk mixed) Try.func47 (c0 := bd Try.f47) rfl (entry Try.func47 rfl (by decide)) noH_ok (fun x _ h => (e47 k x).trans h)
/-! f37v2 fathom/vec.Const (W) -/
noncomputable def a37v2 : Shape := ⟨[.d i64, .d i64], []⟩
noncomputable def o37v2 : List Shape := [⟨[.own i64], []⟩]
abbrev R37v2 : Type := (((List Int) × Unit) × Unit)
abbrev T37v2 : Type := Int → Int → Option R37v2
noncomputable def u37v2 (f : T37v2) : (a37v2).C → Option (OutC o37v2) := fun (x : ((Int × Int × Unit) × Unit)) => f x.1.1 x.1.2.1
noncomputable def F37v2 (f : T37v2) : Fun := ⟨false, runW a37v2 o37v2 (u37v2 f)⟩
noncomputable def pa37v2_122 : Shape := ⟨[.d i64, .own i64, .d i64, .d i64], []⟩
noncomputable def pw37v2_122 : List Vm.Way := [⟨.exit 0, [5], ⟨[.own i64], []⟩⟩]
abbrev R37v2_122 : Type := (((List Int) × Unit) × Unit)
abbrev T37v2_122 : Type := Int → (List Int) → Int → Int → Option R37v2_122
noncomputable def u37v2_122 (f : T37v2_122) : (pa37v2_122).C → Option (WayC pw37v2_122) := fun (x : ((Int × (List Int) × Int × Int × Unit) × Unit)) => f x.1.1 x.1.2.1 x.1.2.2.1 x.1.2.2.2.1
noncomputable def b37v2_122 (k : Nat) (rec : T37v2_122) : T37v2_122 := fun n0 a5 t13 t14 =>
  cond (decide (t14 < t13))
    (cond (decide (t14 < 0))
      (none)
      (gd (decide ((a5.length + 1) * 8 ≤ room)) <|
      (rec n0 (a5 ++ ([(ibits .and .i64 (Int.fdiv n0 (2 ^ (min t14.toNat 64))) 1)] : List Int)) t13 (w64 (t14 + 1))).bind fun y1 =>
      some ((y1.1.1, ()), ())))
    (some ((a5, ()), ()))
noncomputable def l37v2_122 (k : Nat) : Nat → T37v2_122
  | 0 => fun _ _ _ _ => none
  | j + 1 => b37v2_122 k (l37v2_122 k j)
noncomputable def f37v2 (k : Nat) : T37v2 := fun n0 w1 =>
  cond (decide (w1 < 1))
    (some (([], ()), ()))
    (cond (decide (w1 > 16))
      (some (([], ()), ()))
      ((l37v2_122 k k n0 [] w1 0).bind fun y1 =>
      some ((y1.1.1, ()), ())))
noncomputable def C37v2 (k : Nat) : Nat → Fun := mkC []
theorem c37v2_ok (k : Nat) : ∀ f, SoundFn Try.prog f (C37v2 k f) := mkC_nil
noncomputable def H37v2_122 (k : Nat) : Nat → Option Cut := addH noH 122 ⟨runCut (wrC (bodyOf (codeAt 122 (bd Try.f37) 122))) 26 [0, 5, 13, 14] pa37v2_122 pw37v2_122 (u37v2_122 (l37v2_122 k k))⟩
theorem e37v2_122 (k : Nat) (rec : T37v2_122) (x : (pa37v2_122).C) : roundF (C37v2 k) tt noH (bodyOf (codeAt 122 (bd Try.f37) 122)) 244 26 [0, 5, 13, 14] pa37v2_122 pw37v2_122 (u37v2_122 rec) x = u37v2_122 (b37v2_122 k rec) x := by kernel_rfl
theorem h37v2_122_ok (k : Nat) : ∀ p S, H37v2_122 k p = some S → ∀ c, At (bd Try.f37) p c → CutOk Try.prog c S :=
  have hC := c37v2_ok k
  addLoop hC ttOk (draw_ok hC ttOk mixed) noH_ok (by kernel_rfl) (F := fun j => u37v2_122 (l37v2_122 k j)) (fun _ => rfl) (fun j x _ h => (e37v2_122 k (l37v2_122 k j) x).trans h) k
theorem e37v2 (k : Nat) (x : (a37v2).C) : bodyW (C37v2 k) tt (H37v2_122 k) Try.f37 a37v2 o37v2 x = u37v2 (f37v2 k) x := by kernel_rfl
theorem s37v2 (k : Nat) : SoundFn Try.prog 37 (F37v2 (f37v2 k)) :=
  have hC := c37v2_ok k
  fnW_sound hC ttOk (draw_ok hC ttOk mixed) Try.func37 (c0 := bd Try.f37) rfl (entry Try.func37 rfl (by decide)) (h37v2_122_ok k) (fun x _ h => (e37v2 k x).trans h)
/-! f48 fathom/vec.Neg (W) -/
noncomputable def a48 : Shape := ⟨[.ptr 0, .d (.slice i64)], [.box [.own T_Gate, .mp 1], .map T_Gate i64]⟩
noncomputable def o48 : List Shape := [⟨[.own i64], [.box [.own T_Gate, .mp 1], .map T_Gate i64]⟩]
abbrev R48 : Type := (((List Int) × Unit) × (((List D_Gate) × Unit × Unit) × (List (D_Gate × Int)) × Unit))
abbrev T48 : Type := (List Int) → (List D_Gate) → (List (D_Gate × Int)) → Option R48
noncomputable def u48 (f : T48) : (a48).C → Option (OutC o48) := fun (x : ((Unit × (List Int) × Unit) × (((List D_Gate) × Unit × Unit) × (List (D_Gate × Int)) × Unit))) => f x.1.2.1 x.2.1.1 x.2.2.1
noncomputable def F48 (f : T48) : Fun := ⟨false, runW a48 o48 (u48 f)⟩
noncomputable def f48 (k : Nat) : T48 := fun a1 o0 o1 =>
  (f37v2 k 0 (a1.length : Int)).bind fun y1 =>
  (f47 k y1.1.1 a1 o0 o1).bind fun y2 =>
  some ((y2.1.1, ()), ((y2.2.1.1, (), ()), y2.2.2.1, ()))
noncomputable def C48 (k : Nat) : Nat → Fun := mkC [(37, (F37v2 (f37v2 k))), (47, (F47 (f47 k)))]
theorem c48_ok (k : Nat) : ∀ f, SoundFn Try.prog f (C48 k f) := (mkC_cons (s37v2 k) (mkC_cons (s47 k) mkC_nil))
theorem e48 (k : Nat) (x : (a48).C) : bodyW (C48 k) tt noH Try.f48 a48 o48 x = u48 (f48 k) x := by kernel_rfl
theorem s48 (k : Nat) : SoundFn Try.prog 48 (F48 (f48 k)) :=
  have hC := c48_ok k
  fnW_sound hC ttOk (draw_ok hC ttOk mixed) Try.func48 (c0 := bd Try.f48) rfl (entry Try.func48 rfl (by decide)) noH_ok (fun x _ h => (e48 k x).trans h)
/-! f96v3 fathom/vec.sum (W) -/
noncomputable def a96v3 : Shape := ⟨[.ptr 0, .d (.slice i64), .msl 2 i64, .d i64], [.box [.own T_Gate, .mp 1], .map T_Gate i64, .arr none i64]⟩
noncomputable def o96v3 : List Shape := [⟨[.own i64, .d i64], [.box [.own T_Gate, .mp 1], .map T_Gate i64, .arr none i64]⟩]
abbrev R96v3 : Type := (((List Int) × Int × Unit) × (((List D_Gate) × Unit × Unit) × (List (D_Gate × Int)) × (List Int) × Unit))
abbrev T96v3 : Type := (List Int) → Nat → Int → (List D_Gate) → (List (D_Gate × Int)) → (List Int) → Option R96v3
noncomputable def u96v3 (f : T96v3) : (a96v3).C → Option (OutC o96v3) := fun (x : ((Unit × (List Int) × Nat × Int × Unit) × (((List D_Gate) × Unit × Unit) × (List (D_Gate × Int)) × (List Int) × Unit))) => f x.1.2.1 x.1.2.2.1 x.1.2.2.2.1 x.2.1.1 x.2.2.1 x.2.2.2.1
noncomputable def F96v3 (f : T96v3) : Fun := ⟨false, runW a96v3 o96v3 (u96v3 f)⟩
noncomputable def pa96v3_58 : Shape := ⟨[.ptr 0, .d (.slice i64), .msl 2 i64, .d i64, .own i64, .d i64, .d i64], [.box [.own T_Gate, .mp 1], .map T_Gate i64, .arr none i64]⟩
noncomputable def pw96v3_58 : List Vm.Way := [⟨.exit 0, [3, 10], ⟨[.d i64, .own i64], [.box [.own T_Gate, .mp 1], .map T_Gate i64, .arr none i64]⟩⟩]
abbrev R96v3_58 : Type := ((Int × (List Int) × Unit) × (((List D_Gate) × Unit × Unit) × (List (D_Gate × Int)) × (List Int) × Unit))
abbrev T96v3_58 : Type := (List Int) → Nat → Int → (List Int) → Int → Int → (List D_Gate) → (List (D_Gate × Int)) → (List Int) → Option R96v3_58
noncomputable def u96v3_58 (f : T96v3_58) : (pa96v3_58).C → Option (WayC pw96v3_58) := fun (x : ((Unit × (List Int) × Nat × Int × (List Int) × Int × Int × Unit) × (((List D_Gate) × Unit × Unit) × (List (D_Gate × Int)) × (List Int) × Unit))) => f x.1.2.1 x.1.2.2.1 x.1.2.2.2.1 x.1.2.2.2.2.1 x.1.2.2.2.2.2.1 x.1.2.2.2.2.2.2.1 x.2.1.1 x.2.2.1 x.2.2.2.1
noncomputable def b96v3_58 (k : Nat) (rec : T96v3_58) : T96v3_58 := fun a1 b2 c3 out10 t14 t15 o0 o1 o2 =>
  cond (decide (t15 < t14))
    (ix a1 t15 fun e1 =>
    gd (decide (0 ≤ t15)) <|
    gd (decide (t15.toNat < b2)) <|
    (o2[(0 + t15.toNat)]?).bind fun e2 =>
    (f27 k e1 e2 o0 o1).bind fun y3 =>
    (f27 k y3.1.1 c3 y3.2.1.1 y3.2.2.1).bind fun y4 =>
    gd (decide ((out10.length + 1) * 8 ≤ room)) <|
    ix a1 t15 fun e5 =>
    gd (decide (0 ≤ t15)) <|
    gd (decide (t15.toNat < b2)) <|
    (o2[(0 + t15.toNat)]?).bind fun e6 =>
    (f19 k e5 e6 y4.2.1.1 y4.2.2.1).bind fun y7 =>
    (f19 k y3.1.1 c3 y7.2.1.1 y7.2.2.1).bind fun y8 =>
    (f26 k y7.1.1 y8.1.1 y8.2.1.1 y8.2.2.1).bind fun y9 =>
    (rec a1 b2 y9.1.1 (out10 ++ ([y4.1.1] : List Int)) t14 (w64 (t15 + 1)) y9.2.1.1 y9.2.2.1 o2).bind fun y10 =>
    some ((y10.1.1, y10.1.2.1, ()), ((y10.2.1.1, (), ()), y10.2.2.1, y10.2.2.2.1, ())))
    (some ((c3, out10, ()), ((o0, (), ()), o1, o2, ())))
noncomputable def l96v3_58 (k : Nat) : Nat → T96v3_58
  | 0 => fun _ _ _ _ _ _ _ _ _ => none
  | j + 1 => b96v3_58 k (l96v3_58 k j)
noncomputable def f96v3 (k : Nat) : T96v3 := fun a1 b2 c3 o0 o1 o2 =>
  (l96v3_58 k k a1 b2 c3 [] (a1.length : Int) 0 o0 o1 o2).bind fun y1 =>
  some ((y1.1.2.1, y1.1.1, ()), ((y1.2.1.1, (), ()), y1.2.2.1, y1.2.2.2.1, ()))
noncomputable def C96v3 (k : Nat) : Nat → Fun := mkC [(19, (F19 (f19 k))), (26, (F26 (f26 k))), (27, (F27 (f27 k)))]
theorem c96v3_ok (k : Nat) : ∀ f, SoundFn Try.prog f (C96v3 k f) := (mkC_cons (s19 k) (mkC_cons (s26 k) (mkC_cons (s27 k) mkC_nil)))
noncomputable def H96v3_58 (k : Nat) : Nat → Option Cut := addH noH 58 ⟨runCut (wrC (bodyOf (codeAt 58 (bd Try.f96) 58))) 54 [0, 1, 2, 3, 10, 14, 15] pa96v3_58 pw96v3_58 (u96v3_58 (l96v3_58 k k))⟩
theorem e96v3_58 (k : Nat) (rec : T96v3_58) (x : (pa96v3_58).C) : roundF (C96v3 k) tt noH (bodyOf (codeAt 58 (bd Try.f96) 58)) 116 54 [0, 1, 2, 3, 10, 14, 15] pa96v3_58 pw96v3_58 (u96v3_58 rec) x = u96v3_58 (b96v3_58 k rec) x := by kernel_rfl
theorem h96v3_58_ok (k : Nat) : ∀ p S, H96v3_58 k p = some S → ∀ c, At (bd Try.f96) p c → CutOk Try.prog c S :=
  have hC := c96v3_ok k
  addLoop hC ttOk (draw_ok hC ttOk mixed) noH_ok (by kernel_rfl) (F := fun j => u96v3_58 (l96v3_58 k j)) (fun _ => rfl) (fun j x _ h => (e96v3_58 k (l96v3_58 k j) x).trans h) k
theorem e96v3 (k : Nat) (x : (a96v3).C) : bodyW (C96v3 k) tt (H96v3_58 k) Try.f96 a96v3 o96v3 x = u96v3 (f96v3 k) x := by kernel_rfl
theorem s96v3 (k : Nat) : SoundFn Try.prog 96 (F96v3 (f96v3 k)) :=
  have hC := c96v3_ok k
  fnW_sound hC ttOk (draw_ok hC ttOk mixed) Try.func96 (c0 := bd Try.f96) rfl (entry Try.func96 rfl (by decide)) (h96v3_58_ok k) (fun x _ h => (e96v3 k x).trans h)
/-! f46v3 fathom/vec.Add (W) -/
noncomputable def a46v3 : Shape := ⟨[.ptr 0, .d (.slice i64), .msl 2 i64], [.box [.own T_Gate, .mp 1], .map T_Gate i64, .arr none i64]⟩
noncomputable def o46v3 : List Shape := [⟨[.nils], [.box [.own T_Gate, .mp 1], .map T_Gate i64, .arr none i64]⟩, ⟨[.own i64], [.box [.own T_Gate, .mp 1], .map T_Gate i64, .arr none i64]⟩]
abbrev R46v3 : Type := (((Unit × Unit) × (((List D_Gate) × Unit × Unit) × (List (D_Gate × Int)) × (List Int) × Unit)) ⊕ (((List Int) × Unit) × (((List D_Gate) × Unit × Unit) × (List (D_Gate × Int)) × (List Int) × Unit)))
abbrev T46v3 : Type := (List Int) → Nat → (List D_Gate) → (List (D_Gate × Int)) → (List Int) → Option R46v3
noncomputable def u46v3 (f : T46v3) : (a46v3).C → Option (OutC o46v3) := fun (x : ((Unit × (List Int) × Nat × Unit) × (((List D_Gate) × Unit × Unit) × (List (D_Gate × Int)) × (List Int) × Unit))) => f x.1.2.1 x.1.2.2.1 x.2.1.1 x.2.2.1 x.2.2.2.1
noncomputable def F46v3 (f : T46v3) : Fun := ⟨false, runW a46v3 o46v3 (u46v3 f)⟩
noncomputable def f46v3 (k : Nat) : T46v3 := fun a1 b2 o0 o1 o2 =>
  gd (decide (0 + b2 ≤ o2.length)) <|
  (f95 k a1 ((o2.drop 0).take b2) o0 o1).bind fun y1 =>
  cond (!y1.1.1)
    (some (.inl (((), ()), ((o0, (), ()), o1, o2, ()))))
    ((f96v3 k a1 b2 0 o0 o1 o2).bind fun y2 =>
    (f92 k y2.1.1).bind fun y3 =>
    match y3 with
    | .inl y3_0 =>
      some (.inl (((), ()), ((y2.2.1.1, (), ()), y2.2.2.1, y2.2.2.2.1, ())))
    | .inr y3_1 =>
      some (.inr ((y3_1.1.1, ()), ((y2.2.1.1, (), ()), y2.2.2.1, y2.2.2.2.1, ()))))
noncomputable def C46v3 (k : Nat) : Nat → Fun := mkC [(1000092, ownF), (92, (F92 (f92 k))), (95, (F95 (f95 k))), (96, (F96v3 (f96v3 k)))]
theorem c46v3_ok (k : Nat) : ∀ f, SoundFn Try.prog f (C46v3 k f) := (mkC_cons ownF_ok (mkC_cons (s92 k) (mkC_cons (s95 k) (mkC_cons (s96v3 k) mkC_nil))))
theorem e46v3 (k : Nat) (x : (a46v3).C) : bodyW (C46v3 k) tt noH Try.f46 a46v3 o46v3 x = u46v3 (f46v3 k) x := by kernel_rfl
theorem s46v3 (k : Nat) : SoundFn Try.prog 46 (F46v3 (f46v3 k)) :=
  have hC := c46v3_ok k
  fnW_sound hC ttOk (draw_ok hC ttOk mixed) Try.func46 (c0 := bd Try.f46) rfl (entry Try.func46 rfl (by decide)) noH_ok (fun x _ h => (e46v3 k x).trans h)

/-! f49 fathom/vec.Mul (W) -/
noncomputable def a49 : Shape := ⟨[.ptr 0, .d (.slice i64), .d (.slice i64)], [.box [.own T_Gate, .mp 1], .map T_Gate i64]⟩
noncomputable def o49 : List Shape := [⟨[.own i64], [.box [.own T_Gate, .mp 1], .map T_Gate i64]⟩]
abbrev R49 : Type := (((List Int) × Unit) × (((List D_Gate) × Unit × Unit) × (List (D_Gate × Int)) × Unit))
abbrev T49 : Type := (List Int) → (List Int) → (List D_Gate) → (List (D_Gate × Int)) → Option R49
noncomputable def u49 (f : T49) : (a49).C → Option (OutC o49) := fun (x : ((Unit × (List Int) × (List Int) × Unit) × (((List D_Gate) × Unit × Unit) × (List (D_Gate × Int)) × Unit))) => f x.1.2.1 x.1.2.2.1 x.2.1.1 x.2.2.1
noncomputable def F49 (f : T49) : Fun := ⟨false, runW a49 o49 (u49 f)⟩
noncomputable def pa49_125338 : Shape := ⟨[.ptr 0, .d (.slice i64), .d (.slice i64), .d i64, .msl 2 i64, .d i64], [.box [.own T_Gate, .mp 1], .map T_Gate i64, .arr none i64]⟩
noncomputable def pw49_125338 : List Vm.Way := [⟨.exit 2, [], ⟨[], [.box [.own T_Gate, .mp 1], .map T_Gate i64, .arr none i64]⟩⟩]
abbrev R49_125338 : Type := (Unit × (((List D_Gate) × Unit × Unit) × (List (D_Gate × Int)) × (List Int) × Unit))
abbrev T49_125338 : Type := (List Int) → (List Int) → Int → Nat → Int → (List D_Gate) → (List (D_Gate × Int)) → (List Int) → Option R49_125338
noncomputable def u49_125338 (f : T49_125338) : (pa49_125338).C → Option (WayC pw49_125338) := fun (x : ((Unit × (List Int) × (List Int) × Int × Nat × Int × Unit) × (((List D_Gate) × Unit × Unit) × (List (D_Gate × Int)) × (List Int) × Unit))) => f x.1.2.1 x.1.2.2.1 x.1.2.2.2.1 x.1.2.2.2.2.1 x.1.2.2.2.2.2.1 x.2.1.1 x.2.2.1 x.2.2.2.1
noncomputable def b49_125338 (k : Nat) (rec : T49_125338) : T49_125338 := fun a1 b2 i8 row9 k10 o0 o1 o2 =>
  cond (decide (k10 < (a1.length : Int)))
    (ix a1 (w64 (k10 - i8)) fun e1 =>
    ix b2 i8 fun e2 =>
    (f19 k e1 e2 o0 o1).bind fun y3 =>
    gd (decide (0 ≤ k10)) <|
    gd (decide (k10.toNat < row9)) <|
    gd (decide ((0 + k10.toNat) < o2.length)) <|
    (rec a1 b2 i8 row9 (w64 (k10 + 1)) y3.2.1.1 y3.2.2.1 (o2.set (0 + k10.toNat) y3.1.1)).bind fun y4 =>
    some ((), ((y4.2.1.1, (), ()), y4.2.2.1, y4.2.2.2.1, ())))
    (some ((), ((o0, (), ()), o1, o2, ())))
noncomputable def l49_125338 (k : Nat) : Nat → T49_125338
  | 0 => fun _ _ _ _ _ _ _ _ => none
  | j + 1 => b49_125338 k (l49_125338 k j)
noncomputable def pa49_15666 : Shape := ⟨[.d (.slice i64)], []⟩
noncomputable def pw49_15666 : List Vm.Way := [⟨.normal, [9], ⟨[.msl 0 i64], [.arr none i64]⟩⟩]
abbrev R49_15666 : Type := ((Nat × Unit) × ((List Int) × Unit))
abbrev T49_15666 : Type := (List Int) → Option R49_15666
noncomputable def u49_15666 (f : T49_15666) : (pa49_15666).C → Option (WayC pw49_15666) := fun (x : (((List Int) × Unit) × Unit)) => f x.1.1
noncomputable def l49_15666 (k : Nat) : T49_15666 := fun a1 =>
  (f37o k 0 (a1.length : Int)).bind fun y1 =>
  some ((y1.1.1, ()), (y1.2.1, ()))
noncomputable def pa49_122 : Shape := ⟨[.ptr 0, .d (.slice i64), .d (.slice i64), .own i64, .d i64, .d i64], [.box [.own T_Gate, .mp 1], .map T_Gate i64]⟩
noncomputable def pw49_122 : List Vm.Way := [⟨.exit 0, [7], ⟨[.own i64], [.box [.own T_Gate, .mp 1], .map T_Gate i64]⟩⟩, ⟨.ret, [6], ⟨[.own i64], [.box [.own T_Gate, .mp 1], .map T_Gate i64]⟩⟩]
abbrev R49_122 : Type := ((((List Int) × Unit) × (((List D_Gate) × Unit × Unit) × (List (D_Gate × Int)) × Unit)) ⊕ (((List Int) × Unit) × (((List D_Gate) × Unit × Unit) × (List (D_Gate × Int)) × Unit)))
abbrev T49_122 : Type := (List Int) → (List Int) → (List Int) → Int → Int → (List D_Gate) → (List (D_Gate × Int)) → Option R49_122
noncomputable def u49_122 (f : T49_122) : (pa49_122).C → Option (WayC pw49_122) := fun (x : ((Unit × (List Int) × (List Int) × (List Int) × Int × Int × Unit) × (((List D_Gate) × Unit × Unit) × (List (D_Gate × Int)) × Unit))) => f x.1.2.1 x.1.2.2.1 x.1.2.2.2.1 x.1.2.2.2.2.1 x.1.2.2.2.2.2.1 x.2.1.1 x.2.2.1
noncomputable def b49_122 (k : Nat) (rec : T49_122) : T49_122 := fun a1 b2 out7 t20 t21 o0 o1 =>
  cond (decide (t21 < t20))
    ((l49_15666 k a1).bind fun y1 =>
    (l49_125338 k k a1 b2 t21 y1.1.1 t21 o0 o1 y1.2.1).bind fun y2 =>
    (f46v3 k out7 y1.1.1 y2.2.1.1 y2.2.2.1 y2.2.2.2.1).bind fun y3 =>
    match y3 with
    | .inl y3_0 =>
      some (.inr (([], ()), ((y3_0.2.1.1, (), ()), y3_0.2.2.1, ())))
    | .inr y3_1 =>
      cond y3_1.1.1.isEmpty
        (none)
        ((rec a1 b2 y3_1.1.1 t20 (w64 (t21 + 1)) y3_1.2.1.1 y3_1.2.2.1).bind fun y4 =>
        match y4 with
        | .inl y4_0 =>
          some (.inl ((y4_0.1.1, ()), ((y4_0.2.1.1, (), ()), y4_0.2.2.1, ())))
        | .inr y4_1 =>
          some (.inr ((y4_1.1.1, ()), ((y4_1.2.1.1, (), ()), y4_1.2.2.1, ())))))
    (some (.inl ((out7, ()), ((o0, (), ()), o1, ()))))
noncomputable def l49_122 (k : Nat) : Nat → T49_122
  | 0 => fun _ _ _ _ _ _ _ => none
  | j + 1 => b49_122 k (l49_122 k j)
noncomputable def f49 (k : Nat) : T49 := fun a1 b2 o0 o1 =>
  (f95 k a1 b2 o0 o1).bind fun y1 =>
  cond (!y1.1.1)
    (some (([], ()), ((o0, (), ()), o1, ())))
    ((f37v2 k 0 (a1.length : Int)).bind fun y2 =>
    (l49_122 k k a1 b2 y2.1.1 (a1.length : Int) 0 o0 o1).bind fun y3 =>
    match y3 with
    | .inl y3_0 =>
      some ((y3_0.1.1, ()), ((y3_0.2.1.1, (), ()), y3_0.2.2.1, ()))
    | .inr y3_1 =>
      some ((y3_1.1.1, ()), ((y3_1.2.1.1, (), ()), y3_1.2.2.1, ())))
noncomputable def C49 (k : Nat) : Nat → Fun := mkC [(19, (F19 (f19 k))), (37, (F37v2 (f37v2 k))), (46, (F46v3 (f46v3 k))), (95, (F95 (f95 k)))]
theorem c49_ok (k : Nat) : ∀ f, SoundFn Try.prog f (C49 k f) := (mkC_cons (s19 k) (mkC_cons (s37v2 k) (mkC_cons (s46v3 k) (mkC_cons (s95 k) mkC_nil))))
noncomputable def H49_125338 (k : Nat) : Nat → Option Cut := addH noH 125338 ⟨runCut (wrC (bodyOf (codeAt 125338 (bd Try.f49) 125338))) 57 [0, 1, 2, 8, 9, 10] pa49_125338 pw49_125338 (u49_125338 (l49_125338 k k))⟩
theorem e49_125338 (k : Nat) (rec : T49_125338) (x : (pa49_125338).C) : roundF (C49 k) tt noH (bodyOf (codeAt 125338 (bd Try.f49) 125338)) 250676 57 [0, 1, 2, 8, 9, 10] pa49_125338 pw49_125338 (u49_125338 rec) x = u49_125338 (b49_125338 k rec) x := by kernel_rfl
theorem h49_125338_ok (k : Nat) : ∀ p S, H49_125338 k p = some S → ∀ c, At (bd Try.f49) p c → CutOk Try.prog c S :=
  have hC := c49_ok k
  addLoop hC ttOk (draw_ok hC ttOk mixed) noH_ok (by kernel_rfl) (F := fun j => u49_125338 (l49_125338 k j)) (fun _ => rfl) (fun j x _ h => (e49_125338 k (l49_125338 k j) x).trans h) k
noncomputable def C49_15666 (k : Nat) : Nat → Fun := mkC [(37, (F37o (f37o k)))]
theorem c49_15666_ok (k : Nat) : ∀ f, SoundFn Try.prog f (C49_15666 k f) := (mkC_cons (s37o k) mkC_nil)
noncomputable def H49_15666 (k : Nat) : Nat → Option Cut := addH (H49_125338 k) 15666 ⟨runCut (wrC (codeAt 15666 (bd Try.f49) 15666)) 57 [1] pa49_15666 pw49_15666 (u49_15666 (l49_15666 k))⟩
theorem e49_15666 (k : Nat) (x : (pa49_15666).C) : pieceF (C49_15666 k) tt (H49_125338 k) (codeAt 15666 (bd Try.f49) 15666) 15666 57 [1] pa49_15666 pw49_15666 x = u49_15666 (l49_15666 k) x := by kernel_rfl
theorem h49_15666_ok (k : Nat) : ∀ p S, H49_15666 k p = some S → ∀ c, At (bd Try.f49) p c → CutOk Try.prog c S :=
  have hC := c49_15666_ok k
  addPiece hC ttOk (draw_ok hC ttOk mixed) (h49_125338_ok k) (fun x _ h => (e49_15666 k x).trans h)
noncomputable def H49_122 (k : Nat) : Nat → Option Cut := addH (H49_15666 k) 122 ⟨runCut (wrC (bodyOf (codeAt 122 (bd Try.f49) 122))) 57 [0, 1, 2, 7, 20, 21] pa49_122 pw49_122 (u49_122 (l49_122 k k))⟩
theorem e49_122 (k : Nat) (rec : T49_122) (x : (pa49_122).C) : roundF (C49 k) tt (H49_15666 k) (bodyOf (codeAt 122 (bd Try.f49) 122)) 244 57 [0, 1, 2, 7, 20, 21] pa49_122 pw49_122 (u49_122 rec) x = u49_122 (b49_122 k rec) x := by kernel_rfl
theorem h49_122_ok (k : Nat) : ∀ p S, H49_122 k p = some S → ∀ c, At (bd Try.f49) p c → CutOk Try.prog c S :=
  have hC := c49_ok k
  addLoop hC ttOk (draw_ok hC ttOk mixed) (h49_15666_ok k) (by kernel_rfl) (F := fun j => u49_122 (l49_122 k j)) (fun _ => rfl) (fun j x _ h => (e49_122 k (l49_122 k j) x).trans h) k
theorem e49 (k : Nat) (x : (a49).C) : bodyW (C49 k) tt (H49_122 k) Try.f49 a49 o49 x = u49 (f49 k) x := by kernel_rfl
theorem s49 (k : Nat) : SoundFn Try.prog 49 (F49 (f49 k)) :=
  have hC := c49_ok k
  fnW_sound hC ttOk (draw_ok hC ttOk mixed) Try.func49 (c0 := bd Try.f49) rfl (entry Try.func49 rfl (by decide)) (h49_122_ok k) (fun x _ h => (e49 k x).trans h)
/-! f93 fathom/fathomref01.Ints (R) -/
noncomputable def a93 : Shape := ⟨[.d (.slice i64), .d (.slice i64)], []⟩
noncomputable def o93 : List Shape := [⟨[.d .bool], []⟩]
abbrev R93 : Type := ((Bool × Unit) × Unit)
abbrev T93 : Type := (List Int) → (List Int) → Option R93
noncomputable def u93 (f : T93) : (a93).C → Option (OutC o93) := fun (x : (((List Int) × (List Int) × Unit) × Unit)) => f x.1.1 x.1.2.1
noncomputable def F93 (f : T93) : Fun := ⟨true, runR a93 o93 (u93 f)⟩
noncomputable def pa93_58 : Shape := ⟨[.d (.slice i64), .d (.slice i64), .d i64], []⟩
noncomputable def pw93_58 : List Vm.Way := [⟨.exit 0, [], ⟨[], []⟩⟩, ⟨.ret, [4], ⟨[.d .bool], []⟩⟩]
abbrev R93_58 : Type := ((Unit × Unit) ⊕ ((Bool × Unit) × Unit))
abbrev T93_58 : Type := (List Int) → (List Int) → Int → Option R93_58
noncomputable def u93_58 (f : T93_58) : (pa93_58).C → Option (WayC pw93_58) := fun (x : (((List Int) × (List Int) × Int × Unit) × Unit)) => f x.1.1 x.1.2.1 x.1.2.2.1
noncomputable def b93_58 (k : Nat) (rec : T93_58) : T93_58 := fun a0 b1 i5 =>
  cond (decide (i5 < (a0.length : Int)))
    (ix a0 i5 fun e1 =>
    ix b1 i5 fun e2 =>
    cond (e1 != e2)
      (some (.inr ((false, ()), ())))
      ((rec a0 b1 (w64 (i5 + 1))).bind fun y3 =>
      match y3 with
      | .inl y3_0 =>
        some (.inl ((), ()))
      | .inr y3_1 =>
        some (.inr ((y3_1.1.1, ()), ()))))
    (some (.inl ((), ())))
noncomputable def l93_58 (k : Nat) : Nat → T93_58
  | 0 => fun _ _ _ => none
  | j + 1 => b93_58 k (l93_58 k j)
noncomputable def f93 (k : Nat) : T93 := fun a0 b1 =>
  cond ((a0.length : Int) != (b1.length : Int))
    (some ((false, ()), ()))
    ((l93_58 k k a0 b1 0).bind fun y1 =>
    match y1 with
    | .inl y1_0 =>
      some ((true, ()), ())
    | .inr y1_1 =>
      some ((y1_1.1.1, ()), ()))
noncomputable def C93 (k : Nat) : Nat → Fun := mkC []
theorem c93_ok (k : Nat) : ∀ f, SoundFn Try.prog f (C93 k f) := mkC_nil
noncomputable def H93_58 (k : Nat) : Nat → Option Cut := addH noH 58 ⟨runCut (wrC (bodyOf (codeAt 58 (bd Try.f93) 58))) 26 [0, 1, 5] pa93_58 pw93_58 (u93_58 (l93_58 k k))⟩
theorem e93_58 (k : Nat) (rec : T93_58) (x : (pa93_58).C) : roundF (C93 k) tt noH (bodyOf (codeAt 58 (bd Try.f93) 58)) 116 26 [0, 1, 5] pa93_58 pw93_58 (u93_58 rec) x = u93_58 (b93_58 k rec) x := by kernel_rfl
theorem h93_58_ok (k : Nat) : ∀ p S, H93_58 k p = some S → ∀ c, At (bd Try.f93) p c → CutOk Try.prog c S :=
  have hC := c93_ok k
  addLoop hC ttOk (draw_ok hC ttOk mixed) noH_ok (by kernel_rfl) (F := fun j => u93_58 (l93_58 k j)) (fun _ => rfl) (fun j x _ h => (e93_58 k (l93_58 k j) x).trans h) k
theorem e93 (k : Nat) (x : (a93).C) : bodyR (C93 k) tt (H93_58 k) Try.f93 a93 o93 x = u93 (f93 k) x := by kernel_rfl
theorem s93 (k : Nat) : SoundFn Try.prog 93 (F93 (f93 k)) :=
  have hC := c93_ok k
  fnR_sound hC ttOk (draw_ok hC ttOk mixed) Try.func93 (c0 := bd Try.f93) rfl (entry Try.func93 rfl (by decide)) (h93_58_ok k) rfl (fun x _ h => (e93 k x).trans h)
/-! f40 fathom/fathomlaw16.awake (R) -/
noncomputable def a40 : Shape := ⟨[], []⟩
noncomputable def o40 : List Shape := [⟨[.d .bool], []⟩]
abbrev R40 : Type := ((Bool × Unit) × Unit)
abbrev T40 : Type := Unit → Option R40
noncomputable def u40 (f : T40) : (a40).C → Option (OutC o40) := fun (x : (Unit × Unit)) => f ()
noncomputable def F40 (f : T40) : Fun := ⟨true, runR a40 o40 (u40 f)⟩
noncomputable def f40 (k : Nat) : T40 := fun _ =>
  (f38 k ()).bind fun y1 =>
  (f37v2 k 3 3).bind fun y2 =>
  (f37v2 k 6 3).bind fun y3 =>
  (f46 k y2.1.1 y3.1.1 y1.2.1.1 y1.2.2.1).bind fun y4 =>
  match y4 with
  | .inl y4_0 =>
    (f93 k [] [1, 0, 0]).bind fun y5 =>
    some ((y5.1.1, ()), ())
  | .inr y4_1 =>
    (f93 k y4_1.1.1 [1, 0, 0]).bind fun y6 =>
    some ((y6.1.1, ()), ())
noncomputable def C40 (k : Nat) : Nat → Fun := mkC [(37, (F37v2 (f37v2 k))), (38, (F38 (f38 k))), (46, (F46 (f46 k))), (93, (F93 (f93 k)))]
theorem c40_ok (k : Nat) : ∀ f, SoundFn Try.prog f (C40 k f) := (mkC_cons (s37v2 k) (mkC_cons (s38 k) (mkC_cons (s46 k) (mkC_cons (s93 k) mkC_nil))))
theorem e40 (k : Nat) (x : (a40).C) : bodyR (C40 k) tt noH Try.f40 a40 o40 x = u40 (f40 k) x := by kernel_rfl
theorem s40 (k : Nat) : SoundFn Try.prog 40 (F40 (f40 k)) :=
  have hC := c40_ok k
  fnR_sound hC ttOk (draw_ok hC ttOk mixed) Try.func40 (c0 := bd Try.f40) rfl (entry Try.func40 rfl (by decide)) noH_ok rfl (fun x _ h => (e40 k x).trans h)
/-! f9 fathom/fathomlaw16.VecSums (R) -/
noncomputable def a9 : Shape := ⟨[.d T_Two, .d (.int .u8)], []⟩
noncomputable def o9 : List Shape := [⟨[.d .bool], []⟩]
abbrev R9 : Type := ((Bool × Unit) × Unit)
abbrev T9 : Type := D_Two → Int → Option R9
noncomputable def u9 (f : T9) : (a9).C → Option (OutC o9) := fun (x : ((D_Two × Int × Unit) × Unit)) => f x.1.1 x.1.2.1
noncomputable def F9 (f : T9) : Fun := ⟨true, runR a9 o9 (u9 f)⟩
noncomputable def f9 (k : Nat) : T9 := fun t0 width1 =>
  (f44 k t0 (w64 (1 + (w64 ((Int.tmod width1 8)))))).bind fun y1 =>
  (f42 k (w64 (t0.1)) (w64 (1 + (w64 ((Int.tmod width1 8)))))).bind fun y2 =>
  (f42 k (w64 (t0.2.1)) (w64 (1 + (w64 ((Int.tmod width1 8)))))).bind fun y3 =>
  (f45 k y1.1.2.2.2.1 y1.1.2.1 (w64 (1 + (w64 ((Int.tmod width1 8))))) y2.1.1 y1.2.1.1 y1.2.2.1).bind fun y4 =>
  cond y4.1.1
    ((f46 k y1.1.2.1 y1.1.2.2.1 y1.2.1.1 y1.2.2.1).bind fun y5 =>
    match y5 with
    | .inl y5_0 =>
      (f42 k (w64 (y2.1.1 + y3.1.1)) (w64 (1 + (w64 ((Int.tmod width1 8)))))).bind fun y6 =>
      (f45 k y1.1.2.2.2.1 [] (w64 (1 + (w64 ((Int.tmod width1 8))))) y6.1.1 y5_0.2.1.1 y5_0.2.2.1).bind fun y7 =>
      cond y7.1.1
        ((f47 k y1.1.2.1 y1.1.2.2.1 y5_0.2.1.1 y5_0.2.2.1).bind fun y8 =>
        (f42 k (w64 (y2.1.1 - y3.1.1)) (w64 (1 + (w64 ((Int.tmod width1 8)))))).bind fun y9 =>
        (f45 k y1.1.2.2.2.1 y8.1.1 (w64 (1 + (w64 ((Int.tmod width1 8))))) y9.1.1 y8.2.1.1 y8.2.2.1).bind fun y10 =>
        cond y10.1.1
          ((f48 k y1.1.2.1 y8.2.1.1 y8.2.2.1).bind fun y11 =>
          (f42 k (w64 (0 - y2.1.1)) (w64 (1 + (w64 ((Int.tmod width1 8)))))).bind fun y12 =>
          (f45 k y1.1.2.2.2.1 y11.1.1 (w64 (1 + (w64 ((Int.tmod width1 8))))) y12.1.1 y11.2.1.1 y11.2.2.1).bind fun y13 =>
          cond y13.1.1
            ((f49 k y1.1.2.1 y1.1.2.2.1 y11.2.1.1 y11.2.2.1).bind fun y14 =>
            (f42 k (w64 (y2.1.1 * y3.1.1)) (w64 (1 + (w64 ((Int.tmod width1 8)))))).bind fun y15 =>
            (f45 k y1.1.2.2.2.1 y14.1.1 (w64 (1 + (w64 ((Int.tmod width1 8))))) y15.1.1 y14.2.1.1 y14.2.2.1).bind fun y16 =>
            cond y16.1.1
              ((f40 k ()).bind fun y17 =>
              some ((y17.1.1, ()), ()))
              (some ((false, ()), ())))
            (some ((false, ()), ())))
          (some ((false, ()), ())))
        (some ((false, ()), ()))
    | .inr y5_1 =>
      (f42 k (w64 (y2.1.1 + y3.1.1)) (w64 (1 + (w64 ((Int.tmod width1 8)))))).bind fun y18 =>
      (f45 k y1.1.2.2.2.1 y5_1.1.1 (w64 (1 + (w64 ((Int.tmod width1 8))))) y18.1.1 y5_1.2.1.1 y5_1.2.2.1).bind fun y19 =>
      cond y19.1.1
        ((f47 k y1.1.2.1 y1.1.2.2.1 y5_1.2.1.1 y5_1.2.2.1).bind fun y20 =>
        (f42 k (w64 (y2.1.1 - y3.1.1)) (w64 (1 + (w64 ((Int.tmod width1 8)))))).bind fun y21 =>
        (f45 k y1.1.2.2.2.1 y20.1.1 (w64 (1 + (w64 ((Int.tmod width1 8))))) y21.1.1 y20.2.1.1 y20.2.2.1).bind fun y22 =>
        cond y22.1.1
          ((f48 k y1.1.2.1 y20.2.1.1 y20.2.2.1).bind fun y23 =>
          (f42 k (w64 (0 - y2.1.1)) (w64 (1 + (w64 ((Int.tmod width1 8)))))).bind fun y24 =>
          (f45 k y1.1.2.2.2.1 y23.1.1 (w64 (1 + (w64 ((Int.tmod width1 8))))) y24.1.1 y23.2.1.1 y23.2.2.1).bind fun y25 =>
          cond y25.1.1
            ((f49 k y1.1.2.1 y1.1.2.2.1 y23.2.1.1 y23.2.2.1).bind fun y26 =>
            (f42 k (w64 (y2.1.1 * y3.1.1)) (w64 (1 + (w64 ((Int.tmod width1 8)))))).bind fun y27 =>
            (f45 k y1.1.2.2.2.1 y26.1.1 (w64 (1 + (w64 ((Int.tmod width1 8))))) y27.1.1 y26.2.1.1 y26.2.2.1).bind fun y28 =>
            cond y28.1.1
              ((f40 k ()).bind fun y29 =>
              some ((y29.1.1, ()), ()))
              (some ((false, ()), ())))
            (some ((false, ()), ())))
          (some ((false, ()), ())))
        (some ((false, ()), ())))
    (some ((false, ()), ()))
noncomputable def C9 (k : Nat) : Nat → Fun := mkC [(40, (F40 (f40 k))), (42, (F42 (f42 k))), (44, (F44 (f44 k))), (45, (F45 (f45 k))), (46, (F46 (f46 k))), (47, (F47 (f47 k))), (48, (F48 (f48 k))), (49, (F49 (f49 k)))]
theorem c9_ok (k : Nat) : ∀ f, SoundFn Try.prog f (C9 k f) := (mkC_cons (s40 k) (mkC_cons (s42 k) (mkC_cons (s44 k) (mkC_cons (s45 k) (mkC_cons (s46 k) (mkC_cons (s47 k) (mkC_cons (s48 k) (mkC_cons (s49 k) mkC_nil))))))))
theorem e9 (k : Nat) (x : (a9).C) : bodyR (C9 k) tt noH Try.f9 a9 o9 x = u9 (f9 k) x := by kernel_rfl
theorem s9 (k : Nat) : SoundFn Try.prog 9 (F9 (f9 k)) :=
  have hC := c9_ok k
  fnR_sound hC ttOk (draw_ok hC ttOk mixed) Try.func9 (c0 := bd Try.f9) rfl (entry Try.func9 rfl (by decide)) noH_ok rfl (fun x _ h => (e9 k x).trans h)
/-! f92v2 fathom/vec.whole (W) -/
noncomputable def a92v2 : Shape := ⟨[.msl 0 i64], [.arr none i64]⟩
noncomputable def o92v2 : List Shape := [⟨[.nils], [.arr none i64]⟩, ⟨[.msl 0 i64], [.arr none i64]⟩]
abbrev R92v2 : Type := (((Unit × Unit) × ((List Int) × Unit)) ⊕ ((Nat × Unit) × ((List Int) × Unit)))
abbrev T92v2 : Type := Nat → (List Int) → Option R92v2
noncomputable def u92v2 (f : T92v2) : (a92v2).C → Option (OutC o92v2) := fun (x : ((Nat × Unit) × ((List Int) × Unit))) => f x.1.1 x.2.1
noncomputable def F92v2 (f : T92v2) : Fun := ⟨false, runW a92v2 o92v2 (u92v2 f)⟩
noncomputable def f92v2 (k : Nat) : T92v2 := fun a0 o0 =>
  gd (decide (0 + a0 ≤ o0.length)) <|
  (f112 k ((o0.drop 0).take a0) (-1)).bind fun y1 =>
  cond y1.1.1
    (some (.inl (((), ()), (o0, ()))))
    (some (.inr ((a0, ()), (o0, ()))))
noncomputable def C92v2 (k : Nat) : Nat → Fun := mkC [(112, (F112 (f112 k)))]
theorem c92v2_ok (k : Nat) : ∀ f, SoundFn Try.prog f (C92v2 k f) := (mkC_cons (s112 k) mkC_nil)
theorem e92v2 (k : Nat) (x : (a92v2).C) : bodyW (C92v2 k) tt noH Try.f92 a92v2 o92v2 x = u92v2 (f92v2 k) x := by kernel_rfl
theorem s92v2 (k : Nat) : SoundFn Try.prog 92 (F92v2 (f92v2 k)) :=
  have hC := c92v2_ok k
  fnW_sound hC ttOk (draw_ok hC ttOk mixed) Try.func92 (c0 := bd Try.f92) rfl (entry Try.func92 rfl (by decide)) noH_ok (fun x _ h => (e92v2 k x).trans h)
/-! f102v7 slices.Clone[[]int,int] (W) -/
noncomputable def a102v7 : Shape := ⟨[.d (.slice i64)], []⟩
noncomputable def o102v7 : List Shape := [⟨[.msl 0 i64], [.arr none i64]⟩]
abbrev R102v7 : Type := ((Nat × Unit) × ((List Int) × Unit))
abbrev T102v7 : Type := (List Int) → Option R102v7
noncomputable def u102v7 (f : T102v7) : (a102v7).C → Option (OutC o102v7) := fun (x : (((List Int) × Unit) × Unit)) => f x.1.1
noncomputable def F102v7 (f : T102v7) : Fun := ⟨false, runW a102v7 o102v7 (u102v7 f)⟩
noncomputable def f102v7 (k : Nat) : T102v7 := fun s0 =>
  cond s0.isEmpty
    (none)
    (cond s0.isEmpty
      (none)
      (gd (decide ((0 + s0.length) * 8 ≤ room)) <|
      some (((0 + s0.length), ()), ((([] : List Int) ++ s0), ()))))
noncomputable def C102v7 (k : Nat) : Nat → Fun := mkC [(2000000, ownF)]
theorem c102v7_ok (k : Nat) : ∀ f, SoundFn Try.prog f (C102v7 k f) := (mkC_cons ownF_ok mkC_nil)
theorem e102v7 (k : Nat) (x : (a102v7).C) : bodyW (C102v7 k) tt noH Try.f102 a102v7 o102v7 x = u102v7 (f102v7 k) x := by kernel_rfl
theorem s102v7 (k : Nat) : SoundFn Try.prog 102 (F102v7 (f102v7 k)) :=
  have hC := c102v7_ok k
  fnW_sound hC ttOk (draw_ok hC ttOk mixed) Try.func102 (c0 := bd Try.f102) rfl (entry Try.func102 rfl (by decide)) noH_ok (fun x _ h => (e102v7 k x).trans h)
/-! f100 fathom/vec.Shl$1 (W) -/
noncomputable def a100 : Shape := ⟨[.msl 0 i64, .d i64], [.arr none i64]⟩
noncomputable def o100 : List Shape := [⟨[.msl 1 i64], [.arr none i64, .arr none i64]⟩]
abbrev R100 : Type := ((Nat × Unit) × ((List Int) × (List Int) × Unit))
abbrev T100 : Type := Nat → Int → (List Int) → Option R100
noncomputable def u100 (f : T100) : (a100).C → Option (OutC o100) := fun (x : ((Nat × Int × Unit) × ((List Int) × Unit))) => f x.1.1 x.1.2.1 x.2.1
noncomputable def F100 (f : T100) : Fun := ⟨false, runW a100 o100 (u100 f)⟩
noncomputable def pa100_6 : Shape := ⟨[.msl 0 i64], [.arr none i64]⟩
noncomputable def pw100_6 : List Vm.Way := [⟨.normal, [5], ⟨[.msl 1 i64], [.arr none i64, .arr none i64]⟩⟩]
abbrev R100_6 : Type := ((Nat × Unit) × ((List Int) × (List Int) × Unit))
abbrev T100_6 : Type := Nat → (List Int) → Option R100_6
noncomputable def u100_6 (f : T100_6) : (pa100_6).C → Option (WayC pw100_6) := fun (x : ((Nat × Unit) × ((List Int) × Unit))) => f x.1.1 x.2.1
noncomputable def l100_6 (k : Nat) : T100_6 := fun a0 o0 =>
  (f37o k 0 (a0 : Int)).bind fun y1 =>
  some ((y1.1.1, ()), (o0, y1.2.1, ()))
noncomputable def f100 (k : Nat) : T100 := fun a0 n1 o0 =>
  (l100_6 k a0 o0).bind fun y1 =>
  gd (decide (0 ≤ (minmax false n1 (a0 : Int)))) <|
  gd (decide ((minmax false n1 (a0 : Int)).toNat ≤ y1.1.1)) <|
  gd (decide (0 + a0 ≤ y1.2.1.length)) <|
  gd (decide ((0 + (minmax false n1 (a0 : Int)).toNat) + (y1.1.1 - (minmax false n1 (a0 : Int)).toNat) ≤ y1.2.2.1.length)) <|
  some ((y1.1.1, ()), (y1.2.1, (y1.2.2.1.take (0 + (minmax false n1 (a0 : Int)).toNat) ++ ((y1.2.1.drop 0).take a0).take (min ((y1.2.1.drop 0).take a0).length (y1.1.1 - (minmax false n1 (a0 : Int)).toNat)) ++ y1.2.2.1.drop ((0 + (minmax false n1 (a0 : Int)).toNat) + (min ((y1.2.1.drop 0).take a0).length (y1.1.1 - (minmax false n1 (a0 : Int)).toNat)))), ()))
noncomputable def C100 (k : Nat) : Nat → Fun := mkC []
theorem c100_ok (k : Nat) : ∀ f, SoundFn Try.prog f (C100 k f) := mkC_nil
noncomputable def C100_6 (k : Nat) : Nat → Fun := mkC [(37, (F37o (f37o k)))]
theorem c100_6_ok (k : Nat) : ∀ f, SoundFn Try.prog f (C100_6 k f) := (mkC_cons (s37o k) mkC_nil)
noncomputable def H100_6 (k : Nat) : Nat → Option Cut := addH noH 6 ⟨runCut (wrC (codeAt 6 (bd Try.f100) 6)) 18 [0] pa100_6 pw100_6 (u100_6 (l100_6 k))⟩
theorem e100_6 (k : Nat) (x : (pa100_6).C) : pieceF (C100_6 k) tt noH (codeAt 6 (bd Try.f100) 6) 6 18 [0] pa100_6 pw100_6 x = u100_6 (l100_6 k) x := by kernel_rfl
theorem h100_6_ok (k : Nat) : ∀ p S, H100_6 k p = some S → ∀ c, At (bd Try.f100) p c → CutOk Try.prog c S :=
  have hC := c100_6_ok k
  addPiece hC ttOk (draw_ok hC ttOk mixed) noH_ok (fun x _ h => (e100_6 k x).trans h)
theorem e100 (k : Nat) (x : (a100).C) : bodyW (C100 k) tt (H100_6 k) Try.f100 a100 o100 x = u100 (f100 k) x := by kernel_rfl
theorem s100 (k : Nat) : SoundFn Try.prog 100 (F100 (f100 k)) :=
  have hC := c100_ok k
  fnW_sound hC ttOk (draw_ok hC ttOk mixed) Try.func100 (c0 := bd Try.f100) rfl (entry Try.func100 rfl (by decide)) (h100_6_ok k) (fun x _ h => (e100 k x).trans h)
/-! f28 (*fathom/aig.Aig).Ite (W) -/
noncomputable def a28 : Shape := ⟨[.ptr 0, .d i64, .d i64, .d i64], [.box [.own T_Gate, .mp 1], .map T_Gate i64]⟩
noncomputable def o28 : List Shape := [⟨[.d i64], [.box [.own T_Gate, .mp 1], .map T_Gate i64]⟩]
abbrev R28 : Type := ((Int × Unit) × (((List D_Gate) × Unit × Unit) × (List (D_Gate × Int)) × Unit))
abbrev T28 : Type := Int → Int → Int → (List D_Gate) → (List (D_Gate × Int)) → Option R28
noncomputable def u28 (f : T28) : (a28).C → Option (OutC o28) := fun (x : ((Unit × Int × Int × Int × Unit) × (((List D_Gate) × Unit × Unit) × (List (D_Gate × Int)) × Unit))) => f x.1.2.1 x.1.2.2.1 x.1.2.2.2.1 x.2.1.1 x.2.2.1
noncomputable def F28 (f : T28) : Fun := ⟨false, runW a28 o28 (u28 f)⟩
noncomputable def f28 (k : Nat) : T28 := fun c1 a2 b3 o0 o1 =>
  (f19 k c1 a2 o0 o1).bind fun y1 =>
  (f89 k c1).bind fun y2 =>
  (f19 k y2.1.1 b3 y1.2.1.1 y1.2.2.1).bind fun y3 =>
  (f26 k y1.1.1 y3.1.1 y3.2.1.1 y3.2.2.1).bind fun y4 =>
  some ((y4.1.1, ()), ((y4.2.1.1, (), ()), y4.2.2.1, ()))
noncomputable def C28 (k : Nat) : Nat → Fun := mkC [(19, (F19 (f19 k))), (26, (F26 (f26 k))), (89, (F89 (f89 k)))]
theorem c28_ok (k : Nat) : ∀ f, SoundFn Try.prog f (C28 k f) := (mkC_cons (s19 k) (mkC_cons (s26 k) (mkC_cons (s89 k) mkC_nil)))
theorem e28 (k : Nat) (x : (a28).C) : bodyW (C28 k) tt noH Try.f28 a28 o28 x = u28 (f28 k) x := by kernel_rfl
theorem s28 (k : Nat) : SoundFn Try.prog 28 (F28 (f28 k)) :=
  have hC := c28_ok k
  fnW_sound hC ttOk (draw_ok hC ttOk mixed) Try.func28 (c0 := bd Try.f28) rfl (entry Try.func28 rfl (by decide)) noH_ok (fun x _ h => (e28 k x).trans h)
/-! f99 fathom/vec.shift (W) -/
noncomputable def a99 : Shape := ⟨[.ptr 0, .d (.slice i64), .d (.slice i64), .fn 100 []], [.box [.own T_Gate, .mp 1], .map T_Gate i64]⟩
noncomputable def o99 : List Shape := [⟨[.own i64], [.box [.own T_Gate, .mp 1], .map T_Gate i64]⟩, ⟨[.msl 2 i64], [.box [.own T_Gate, .mp 1], .map T_Gate i64, .arr none i64]⟩]
abbrev R99 : Type := ((((List Int) × Unit) × (((List D_Gate) × Unit × Unit) × (List (D_Gate × Int)) × Unit)) ⊕ ((Nat × Unit) × (((List D_Gate) × Unit × Unit) × (List (D_Gate × Int)) × (List Int) × Unit)))
abbrev T99 : Type := (List Int) → (List Int) → (List D_Gate) → (List (D_Gate × Int)) → Option R99
noncomputable def u99 (f : T99) : (a99).C → Option (OutC o99) := fun (x : ((Unit × (List Int) × (List Int) × Unit × Unit) × (((List D_Gate) × Unit × Unit) × (List (D_Gate × Int)) × Unit))) => f x.1.2.1 x.1.2.2.1 x.2.1.1 x.2.2.1
noncomputable def F99 (f : T99) : Fun := ⟨false, runW a99 o99 (u99 f)⟩
noncomputable def pa99_62670 : Shape := ⟨[.ptr 0, .d (.slice i64), .msl 2 i64, .d i64, .msl 3 i64, .d i64, .d i64], [.box [.own T_Gate, .mp 1], .map T_Gate i64, .arr none i64, .arr none i64]⟩
noncomputable def pw99_62670 : List Vm.Way := [⟨.exit 2, [], ⟨[], [.box [.own T_Gate, .mp 1], .map T_Gate i64, .arr none i64, .arr none i64]⟩⟩]
abbrev R99_62670 : Type := (Unit × (((List D_Gate) × Unit × Unit) × (List (D_Gate × Int)) × (List Int) × (List Int) × Unit))
abbrev T99_62670 : Type := (List Int) → Nat → Int → Nat → Int → Int → (List D_Gate) → (List (D_Gate × Int)) → (List Int) → (List Int) → Option R99_62670
noncomputable def u99_62670 (f : T99_62670) : (pa99_62670).C → Option (WayC pw99_62670) := fun (x : ((Unit × (List Int) × Nat × Int × Nat × Int × Int × Unit) × (((List D_Gate) × Unit × Unit) × (List (D_Gate × Int)) × (List Int) × (List Int) × Unit))) => f x.1.2.1 x.1.2.2.1 x.1.2.2.2.1 x.1.2.2.2.2.1 x.1.2.2.2.2.2.1 x.1.2.2.2.2.2.2.1 x.2.1.1 x.2.2.1 x.2.2.2.1 x.2.2.2.2.1
noncomputable def b99_62670 (k : Nat) (rec : T99_62670) : T99_62670 := fun b2 out9 i10 far11 t31 t32 o0 o1 o2 o3 =>
  cond (decide (t32 < t31))
    (ix b2 i10 fun e1 =>
    gd (decide (0 ≤ t32)) <|
    gd (decide (t32.toNat < far11)) <|
    (o3[(0 + t32.toNat)]?).bind fun e2 =>
    gd (decide (0 ≤ t32)) <|
    gd (decide (t32.toNat < out9)) <|
    (o2[(0 + t32.toNat)]?).bind fun e3 =>
    (f28 k e1 e2 e3 o0 o1).bind fun y4 =>
    gd (decide (0 ≤ t32)) <|
    gd (decide (t32.toNat < out9)) <|
    gd (decide ((0 + t32.toNat) < o2.length)) <|
    (rec b2 out9 i10 far11 t31 (w64 (t32 + 1)) y4.2.1.1 y4.2.2.1 (o2.set (0 + t32.toNat) y4.1.1) o3).bind fun y5 =>
    some ((), ((y5.2.1.1, (), ()), y5.2.2.1, y5.2.2.2.1, y5.2.2.2.2.1, ())))
    (some ((), ((o0, (), ()), o1, o2, o3, ())))
noncomputable def l99_62670 (k : Nat) : Nat → T99_62670
  | 0 => fun _ _ _ _ _ _ _ _ _ _ => none
  | j + 1 => b99_62670 k (l99_62670 k j)
noncomputable def pa99_122 : Shape := ⟨[.ptr 0, .d (.slice i64), .fn 100 [], .msl 2 i64, .d i64, .d i64], [.box [.own T_Gate, .mp 1], .map T_Gate i64, .arr none i64]⟩
noncomputable def pw99_122 : List Vm.Way := [⟨.exit 0, [], ⟨[], [.box [.own T_Gate, .mp 1], .map T_Gate i64, .arr none i64]⟩⟩]
abbrev R99_122 : Type := (Unit × (((List D_Gate) × Unit × Unit) × (List (D_Gate × Int)) × (List Int) × Unit))
abbrev T99_122 : Type := (List Int) → Nat → Int → Int → (List D_Gate) → (List (D_Gate × Int)) → (List Int) → Option R99_122
noncomputable def u99_122 (f : T99_122) : (pa99_122).C → Option (WayC pw99_122) := fun (x : ((Unit × (List Int) × Unit × Nat × Int × Int × Unit) × (((List D_Gate) × Unit × Unit) × (List (D_Gate × Int)) × (List Int) × Unit))) => f x.1.2.1 x.1.2.2.2.1 x.1.2.2.2.2.1 x.1.2.2.2.2.2.1 x.2.1.1 x.2.2.1 x.2.2.2.1
noncomputable def b99_122 (k : Nat) (rec : T99_122) : T99_122 := fun b2 out9 t21 t22 o0 o1 o2 =>
  cond (decide (t22 < t21))
    (cond (decide (t22 < 0))
      (none)
      ((f100 k out9 (w64 (1 * 2 ^ (min t22.toNat 64))) o2).bind fun y1 =>
      (l99_62670 k k b2 out9 t22 y1.1.1 (out9 : Int) 0 o0 o1 y1.2.1 y1.2.2.1).bind fun y2 =>
      (rec b2 out9 t21 (w64 (t22 + 1)) y2.2.1.1 y2.2.2.1 y2.2.2.2.1).bind fun y3 =>
      some ((), ((y3.2.1.1, (), ()), y3.2.2.1, y3.2.2.2.1, ()))))
    (some ((), ((o0, (), ()), o1, o2, ())))
noncomputable def l99_122 (k : Nat) : Nat → T99_122
  | 0 => fun _ _ _ _ _ _ _ => none
  | j + 1 => b99_122 k (l99_122 k j)
noncomputable def pa99_14 : Shape := ⟨[.d (.slice i64)], []⟩
noncomputable def pw99_14 : List Vm.Way := [⟨.normal, [9], ⟨[.msl 0 i64], [.arr none i64]⟩⟩]
abbrev R99_14 : Type := ((Nat × Unit) × ((List Int) × Unit))
abbrev T99_14 : Type := (List Int) → Option R99_14
noncomputable def u99_14 (f : T99_14) : (pa99_14).C → Option (WayC pw99_14) := fun (x : (((List Int) × Unit) × Unit)) => f x.1.1
noncomputable def l99_14 (k : Nat) : T99_14 := fun a1 =>
  (f102v7 k a1).bind fun y1 =>
  some ((y1.1.1, ()), (y1.2.1, ()))
noncomputable def f99 (k : Nat) : T99 := fun a1 b2 o0 o1 =>
  (f95 k a1 b2 o0 o1).bind fun y1 =>
  cond (!y1.1.1)
    (some (.inl (([], ()), ((o0, (), ()), o1, ()))))
    ((l99_14 k a1).bind fun y2 =>
    (l99_122 k k b2 y2.1.1 (b2.length : Int) 0 o0 o1 y2.2.1).bind fun y3 =>
    (f92v2 k y2.1.1 y3.2.2.2.1).bind fun y4 =>
    match y4 with
    | .inl y4_0 =>
      some (.inl (([], ()), ((y3.2.1.1, (), ()), y3.2.2.1, ())))
    | .inr y4_1 =>
      some (.inr ((y4_1.1.1, ()), ((y3.2.1.1, (), ()), y3.2.2.1, y4_1.2.1, ()))))
noncomputable def C99 (k : Nat) : Nat → Fun := mkC [(28, (F28 (f28 k))), (1000092, ownF), (92, (F92v2 (f92v2 k))), (95, (F95 (f95 k))), (100, (F100 (f100 k)))]
theorem c99_ok (k : Nat) : ∀ f, SoundFn Try.prog f (C99 k f) := (mkC_cons (s28 k) (mkC_cons ownF_ok (mkC_cons (s92v2 k) (mkC_cons (s95 k) (mkC_cons (s100 k) mkC_nil)))))
noncomputable def H99_62670 (k : Nat) : Nat → Option Cut := addH noH 62670 ⟨runCut (wrC (bodyOf (codeAt 62670 (bd Try.f99) 62670))) 56 [0, 2, 9, 10, 11, 31, 32] pa99_62670 pw99_62670 (u99_62670 (l99_62670 k k))⟩
theorem e99_62670 (k : Nat) (rec : T99_62670) (x : (pa99_62670).C) : roundF (C99 k) tt noH (bodyOf (codeAt 62670 (bd Try.f99) 62670)) 125340 56 [0, 2, 9, 10, 11, 31, 32] pa99_62670 pw99_62670 (u99_62670 rec) x = u99_62670 (b99_62670 k rec) x := by kernel_rfl
theorem h99_62670_ok (k : Nat) : ∀ p S, H99_62670 k p = some S → ∀ c, At (bd Try.f99) p c → CutOk Try.prog c S :=
  have hC := c99_ok k
  addLoop hC ttOk (draw_ok hC ttOk mixed) noH_ok (by kernel_rfl) (F := fun j => u99_62670 (l99_62670 k j)) (fun _ => rfl) (fun j x _ h => (e99_62670 k (l99_62670 k j) x).trans h) k
noncomputable def H99_122 (k : Nat) : Nat → Option Cut := addH (H99_62670 k) 122 ⟨runCut (wrC (bodyOf (codeAt 122 (bd Try.f99) 122))) 56 [0, 2, 3, 9, 21, 22] pa99_122 pw99_122 (u99_122 (l99_122 k k))⟩
theorem e99_122 (k : Nat) (rec : T99_122) (x : (pa99_122).C) : roundF (C99 k) tt (H99_62670 k) (bodyOf (codeAt 122 (bd Try.f99) 122)) 244 56 [0, 2, 3, 9, 21, 22] pa99_122 pw99_122 (u99_122 rec) x = u99_122 (b99_122 k rec) x := by kernel_rfl
theorem h99_122_ok (k : Nat) : ∀ p S, H99_122 k p = some S → ∀ c, At (bd Try.f99) p c → CutOk Try.prog c S :=
  have hC := c99_ok k
  addLoop hC ttOk (draw_ok hC ttOk mixed) (h99_62670_ok k) (by kernel_rfl) (F := fun j => u99_122 (l99_122 k j)) (fun _ => rfl) (fun j x _ h => (e99_122 k (l99_122 k j) x).trans h) k
noncomputable def C99_14 (k : Nat) : Nat → Fun := mkC [(102, (F102v7 (f102v7 k)))]
theorem c99_14_ok (k : Nat) : ∀ f, SoundFn Try.prog f (C99_14 k f) := (mkC_cons (s102v7 k) mkC_nil)
noncomputable def H99_14 (k : Nat) : Nat → Option Cut := addH (H99_122 k) 14 ⟨runCut (wrC (codeAt 14 (bd Try.f99) 14)) 56 [1] pa99_14 pw99_14 (u99_14 (l99_14 k))⟩
theorem e99_14 (k : Nat) (x : (pa99_14).C) : pieceF (C99_14 k) tt (H99_122 k) (codeAt 14 (bd Try.f99) 14) 14 56 [1] pa99_14 pw99_14 x = u99_14 (l99_14 k) x := by kernel_rfl
theorem h99_14_ok (k : Nat) : ∀ p S, H99_14 k p = some S → ∀ c, At (bd Try.f99) p c → CutOk Try.prog c S :=
  have hC := c99_14_ok k
  addPiece hC ttOk (draw_ok hC ttOk mixed) (h99_122_ok k) (fun x _ h => (e99_14 k x).trans h)
theorem e99 (k : Nat) (x : (a99).C) : bodyW (C99 k) tt (H99_14 k) Try.f99 a99 o99 x = u99 (f99 k) x := by kernel_rfl
theorem s99 (k : Nat) : SoundFn Try.prog 99 (F99 (f99 k)) :=
  have hC := c99_ok k
  fnW_sound hC ttOk (draw_ok hC ttOk mixed) Try.func99 (c0 := bd Try.f99) rfl (entry Try.func99 rfl (by decide)) (h99_14_ok k) (fun x _ h => (e99 k x).trans h)
/-! f56 fathom/vec.Shl (W) -/
noncomputable def a56 : Shape := ⟨[.ptr 0, .d (.slice i64), .d (.slice i64)], [.box [.own T_Gate, .mp 1], .map T_Gate i64]⟩
noncomputable def o56 : List Shape := [⟨[.own i64], [.box [.own T_Gate, .mp 1], .map T_Gate i64]⟩, ⟨[.msl 2 i64], [.box [.own T_Gate, .mp 1], .map T_Gate i64, .arr none i64]⟩]
abbrev R56 : Type := ((((List Int) × Unit) × (((List D_Gate) × Unit × Unit) × (List (D_Gate × Int)) × Unit)) ⊕ ((Nat × Unit) × (((List D_Gate) × Unit × Unit) × (List (D_Gate × Int)) × (List Int) × Unit)))
abbrev T56 : Type := (List Int) → (List Int) → (List D_Gate) → (List (D_Gate × Int)) → Option R56
noncomputable def u56 (f : T56) : (a56).C → Option (OutC o56) := fun (x : ((Unit × (List Int) × (List Int) × Unit) × (((List D_Gate) × Unit × Unit) × (List (D_Gate × Int)) × Unit))) => f x.1.2.1 x.1.2.2.1 x.2.1.1 x.2.2.1
noncomputable def F56 (f : T56) : Fun := ⟨false, runW a56 o56 (u56 f)⟩
noncomputable def f56 (k : Nat) : T56 := fun a1 b2 o0 o1 =>
  (f99 k a1 b2 o0 o1).bind fun y1 =>
  match y1 with
  | .inl y1_0 =>
    some (.inl ((y1_0.1.1, ()), ((y1_0.2.1.1, (), ()), y1_0.2.2.1, ())))
  | .inr y1_1 =>
    some (.inr ((y1_1.1.1, ()), ((y1_1.2.1.1, (), ()), y1_1.2.2.1, y1_1.2.2.2.1, ())))
noncomputable def C56 (k : Nat) : Nat → Fun := mkC [(99, (F99 (f99 k)))]
theorem c56_ok (k : Nat) : ∀ f, SoundFn Try.prog f (C56 k f) := (mkC_cons (s99 k) mkC_nil)
theorem e56 (k : Nat) (x : (a56).C) : bodyW (C56 k) tt noH Try.f56 a56 o56 x = u56 (f56 k) x := by kernel_rfl
theorem s56 (k : Nat) : SoundFn Try.prog 56 (F56 (f56 k)) :=
  have hC := c56_ok k
  fnW_sound hC ttOk (draw_ok hC ttOk mixed) Try.func56 (c0 := bd Try.f56) rfl (entry Try.func56 rfl (by decide)) noH_ok (fun x _ h => (e56 k x).trans h)
/-! f57 fathom/fathomref16.Shl (R) -/
noncomputable def a57 : Shape := ⟨[.d i64, .d i64, .d i64], []⟩
noncomputable def o57 : List Shape := [⟨[.d i64], []⟩]
abbrev R57 : Type := ((Int × Unit) × Unit)
abbrev T57 : Type := Int → Int → Int → Option R57
noncomputable def u57 (f : T57) : (a57).C → Option (OutC o57) := fun (x : ((Int × Int × Int × Unit) × Unit)) => f x.1.1 x.1.2.1 x.1.2.2.1
noncomputable def F57 (f : T57) : Fun := ⟨true, runR a57 o57 (u57 f)⟩
noncomputable def f57 (k : Nat) : T57 := fun a0 b1 w2 =>
  cond (decide (b1 ≥ w2))
    (some ((0, ()), ()))
    ((f55 k b1).bind fun y1 =>
    (f42 k (w64 (a0 * y1.1.1)) w2).bind fun y2 =>
    some ((y2.1.1, ()), ()))
noncomputable def C57 (k : Nat) : Nat → Fun := mkC [(42, (F42 (f42 k))), (55, (F55 (f55 k)))]
theorem c57_ok (k : Nat) : ∀ f, SoundFn Try.prog f (C57 k f) := (mkC_cons (s42 k) (mkC_cons (s55 k) mkC_nil))
theorem e57 (k : Nat) (x : (a57).C) : bodyR (C57 k) tt noH Try.f57 a57 o57 x = u57 (f57 k) x := by kernel_rfl
theorem s57 (k : Nat) : SoundFn Try.prog 57 (F57 (f57 k)) :=
  have hC := c57_ok k
  fnR_sound hC ttOk (draw_ok hC ttOk mixed) Try.func57 (c0 := bd Try.f57) rfl (entry Try.func57 rfl (by decide)) noH_ok rfl (fun x _ h => (e57 k x).trans h)
/-! f101 fathom/vec.Shr$1 (W) -/
noncomputable def a101 : Shape := ⟨[.msl 0 i64, .d i64], [.arr none i64]⟩
noncomputable def o101 : List Shape := [⟨[.msl 1 i64], [.arr none i64, .arr none i64]⟩]
abbrev R101 : Type := ((Nat × Unit) × ((List Int) × (List Int) × Unit))
abbrev T101 : Type := Nat → Int → (List Int) → Option R101
noncomputable def u101 (f : T101) : (a101).C → Option (OutC o101) := fun (x : ((Nat × Int × Unit) × ((List Int) × Unit))) => f x.1.1 x.1.2.1 x.2.1
noncomputable def F101 (f : T101) : Fun := ⟨false, runW a101 o101 (u101 f)⟩
noncomputable def pa101_6 : Shape := ⟨[.msl 0 i64], [.arr none i64]⟩
noncomputable def pw101_6 : List Vm.Way := [⟨.normal, [5], ⟨[.msl 1 i64], [.arr none i64, .arr none i64]⟩⟩]
abbrev R101_6 : Type := ((Nat × Unit) × ((List Int) × (List Int) × Unit))
abbrev T101_6 : Type := Nat → (List Int) → Option R101_6
noncomputable def u101_6 (f : T101_6) : (pa101_6).C → Option (WayC pw101_6) := fun (x : ((Nat × Unit) × ((List Int) × Unit))) => f x.1.1 x.2.1
noncomputable def l101_6 (k : Nat) : T101_6 := fun a0 o0 =>
  (f37o k 0 (a0 : Int)).bind fun y1 =>
  some ((y1.1.1, ()), (o0, y1.2.1, ()))
noncomputable def f101 (k : Nat) : T101 := fun a0 n1 o0 =>
  (l101_6 k a0 o0).bind fun y1 =>
  gd (decide (0 ≤ (minmax false n1 (a0 : Int)))) <|
  gd (decide ((minmax false n1 (a0 : Int)).toNat ≤ a0)) <|
  gd (decide ((0 + (minmax false n1 (a0 : Int)).toNat) + (a0 - (minmax false n1 (a0 : Int)).toNat) ≤ y1.2.1.length)) <|
  gd (decide (0 + y1.1.1 ≤ y1.2.2.1.length)) <|
  some ((y1.1.1, ()), (y1.2.1, (y1.2.2.1.take 0 ++ ((y1.2.1.drop (0 + (minmax false n1 (a0 : Int)).toNat)).take (a0 - (minmax false n1 (a0 : Int)).toNat)).take (min ((y1.2.1.drop (0 + (minmax false n1 (a0 : Int)).toNat)).take (a0 - (minmax false n1 (a0 : Int)).toNat)).length y1.1.1) ++ y1.2.2.1.drop (0 + (min ((y1.2.1.drop (0 + (minmax false n1 (a0 : Int)).toNat)).take (a0 - (minmax false n1 (a0 : Int)).toNat)).length y1.1.1))), ()))
noncomputable def C101 (k : Nat) : Nat → Fun := mkC []
theorem c101_ok (k : Nat) : ∀ f, SoundFn Try.prog f (C101 k f) := mkC_nil
noncomputable def C101_6 (k : Nat) : Nat → Fun := mkC [(37, (F37o (f37o k)))]
theorem c101_6_ok (k : Nat) : ∀ f, SoundFn Try.prog f (C101_6 k f) := (mkC_cons (s37o k) mkC_nil)
noncomputable def H101_6 (k : Nat) : Nat → Option Cut := addH noH 6 ⟨runCut (wrC (codeAt 6 (bd Try.f101) 6)) 18 [0] pa101_6 pw101_6 (u101_6 (l101_6 k))⟩
theorem e101_6 (k : Nat) (x : (pa101_6).C) : pieceF (C101_6 k) tt noH (codeAt 6 (bd Try.f101) 6) 6 18 [0] pa101_6 pw101_6 x = u101_6 (l101_6 k) x := by kernel_rfl
theorem h101_6_ok (k : Nat) : ∀ p S, H101_6 k p = some S → ∀ c, At (bd Try.f101) p c → CutOk Try.prog c S :=
  have hC := c101_6_ok k
  addPiece hC ttOk (draw_ok hC ttOk mixed) noH_ok (fun x _ h => (e101_6 k x).trans h)
theorem e101 (k : Nat) (x : (a101).C) : bodyW (C101 k) tt (H101_6 k) Try.f101 a101 o101 x = u101 (f101 k) x := by kernel_rfl
theorem s101 (k : Nat) : SoundFn Try.prog 101 (F101 (f101 k)) :=
  have hC := c101_ok k
  fnW_sound hC ttOk (draw_ok hC ttOk mixed) Try.func101 (c0 := bd Try.f101) rfl (entry Try.func101 rfl (by decide)) (h101_6_ok k) (fun x _ h => (e101 k x).trans h)
/-! f99v2 fathom/vec.shift (W) -/
noncomputable def a99v2 : Shape := ⟨[.ptr 0, .d (.slice i64), .d (.slice i64), .fn 101 []], [.box [.own T_Gate, .mp 1], .map T_Gate i64]⟩
noncomputable def o99v2 : List Shape := [⟨[.own i64], [.box [.own T_Gate, .mp 1], .map T_Gate i64]⟩, ⟨[.msl 2 i64], [.box [.own T_Gate, .mp 1], .map T_Gate i64, .arr none i64]⟩]
abbrev R99v2 : Type := ((((List Int) × Unit) × (((List D_Gate) × Unit × Unit) × (List (D_Gate × Int)) × Unit)) ⊕ ((Nat × Unit) × (((List D_Gate) × Unit × Unit) × (List (D_Gate × Int)) × (List Int) × Unit)))
abbrev T99v2 : Type := (List Int) → (List Int) → (List D_Gate) → (List (D_Gate × Int)) → Option R99v2
noncomputable def u99v2 (f : T99v2) : (a99v2).C → Option (OutC o99v2) := fun (x : ((Unit × (List Int) × (List Int) × Unit × Unit) × (((List D_Gate) × Unit × Unit) × (List (D_Gate × Int)) × Unit))) => f x.1.2.1 x.1.2.2.1 x.2.1.1 x.2.2.1
noncomputable def F99v2 (f : T99v2) : Fun := ⟨false, runW a99v2 o99v2 (u99v2 f)⟩
noncomputable def pa99v2_62670 : Shape := ⟨[.ptr 0, .d (.slice i64), .msl 2 i64, .d i64, .msl 3 i64, .d i64, .d i64], [.box [.own T_Gate, .mp 1], .map T_Gate i64, .arr none i64, .arr none i64]⟩
noncomputable def pw99v2_62670 : List Vm.Way := [⟨.exit 2, [], ⟨[], [.box [.own T_Gate, .mp 1], .map T_Gate i64, .arr none i64, .arr none i64]⟩⟩]
abbrev R99v2_62670 : Type := (Unit × (((List D_Gate) × Unit × Unit) × (List (D_Gate × Int)) × (List Int) × (List Int) × Unit))
abbrev T99v2_62670 : Type := (List Int) → Nat → Int → Nat → Int → Int → (List D_Gate) → (List (D_Gate × Int)) → (List Int) → (List Int) → Option R99v2_62670
noncomputable def u99v2_62670 (f : T99v2_62670) : (pa99v2_62670).C → Option (WayC pw99v2_62670) := fun (x : ((Unit × (List Int) × Nat × Int × Nat × Int × Int × Unit) × (((List D_Gate) × Unit × Unit) × (List (D_Gate × Int)) × (List Int) × (List Int) × Unit))) => f x.1.2.1 x.1.2.2.1 x.1.2.2.2.1 x.1.2.2.2.2.1 x.1.2.2.2.2.2.1 x.1.2.2.2.2.2.2.1 x.2.1.1 x.2.2.1 x.2.2.2.1 x.2.2.2.2.1
noncomputable def b99v2_62670 (k : Nat) (rec : T99v2_62670) : T99v2_62670 := fun b2 out9 i10 far11 t31 t32 o0 o1 o2 o3 =>
  cond (decide (t32 < t31))
    (ix b2 i10 fun e1 =>
    gd (decide (0 ≤ t32)) <|
    gd (decide (t32.toNat < far11)) <|
    (o3[(0 + t32.toNat)]?).bind fun e2 =>
    gd (decide (0 ≤ t32)) <|
    gd (decide (t32.toNat < out9)) <|
    (o2[(0 + t32.toNat)]?).bind fun e3 =>
    (f28 k e1 e2 e3 o0 o1).bind fun y4 =>
    gd (decide (0 ≤ t32)) <|
    gd (decide (t32.toNat < out9)) <|
    gd (decide ((0 + t32.toNat) < o2.length)) <|
    (rec b2 out9 i10 far11 t31 (w64 (t32 + 1)) y4.2.1.1 y4.2.2.1 (o2.set (0 + t32.toNat) y4.1.1) o3).bind fun y5 =>
    some ((), ((y5.2.1.1, (), ()), y5.2.2.1, y5.2.2.2.1, y5.2.2.2.2.1, ())))
    (some ((), ((o0, (), ()), o1, o2, o3, ())))
noncomputable def l99v2_62670 (k : Nat) : Nat → T99v2_62670
  | 0 => fun _ _ _ _ _ _ _ _ _ _ => none
  | j + 1 => b99v2_62670 k (l99v2_62670 k j)
noncomputable def pa99v2_122 : Shape := ⟨[.ptr 0, .d (.slice i64), .fn 101 [], .msl 2 i64, .d i64, .d i64], [.box [.own T_Gate, .mp 1], .map T_Gate i64, .arr none i64]⟩
noncomputable def pw99v2_122 : List Vm.Way := [⟨.exit 0, [], ⟨[], [.box [.own T_Gate, .mp 1], .map T_Gate i64, .arr none i64]⟩⟩]
abbrev R99v2_122 : Type := (Unit × (((List D_Gate) × Unit × Unit) × (List (D_Gate × Int)) × (List Int) × Unit))
abbrev T99v2_122 : Type := (List Int) → Nat → Int → Int → (List D_Gate) → (List (D_Gate × Int)) → (List Int) → Option R99v2_122
noncomputable def u99v2_122 (f : T99v2_122) : (pa99v2_122).C → Option (WayC pw99v2_122) := fun (x : ((Unit × (List Int) × Unit × Nat × Int × Int × Unit) × (((List D_Gate) × Unit × Unit) × (List (D_Gate × Int)) × (List Int) × Unit))) => f x.1.2.1 x.1.2.2.2.1 x.1.2.2.2.2.1 x.1.2.2.2.2.2.1 x.2.1.1 x.2.2.1 x.2.2.2.1
noncomputable def b99v2_122 (k : Nat) (rec : T99v2_122) : T99v2_122 := fun b2 out9 t21 t22 o0 o1 o2 =>
  cond (decide (t22 < t21))
    (cond (decide (t22 < 0))
      (none)
      ((f101 k out9 (w64 (1 * 2 ^ (min t22.toNat 64))) o2).bind fun y1 =>
      (l99v2_62670 k k b2 out9 t22 y1.1.1 (out9 : Int) 0 o0 o1 y1.2.1 y1.2.2.1).bind fun y2 =>
      (rec b2 out9 t21 (w64 (t22 + 1)) y2.2.1.1 y2.2.2.1 y2.2.2.2.1).bind fun y3 =>
      some ((), ((y3.2.1.1, (), ()), y3.2.2.1, y3.2.2.2.1, ()))))
    (some ((), ((o0, (), ()), o1, o2, ())))
noncomputable def l99v2_122 (k : Nat) : Nat → T99v2_122
  | 0 => fun _ _ _ _ _ _ _ => none
  | j + 1 => b99v2_122 k (l99v2_122 k j)
noncomputable def pa99v2_14 : Shape := ⟨[.d (.slice i64)], []⟩
noncomputable def pw99v2_14 : List Vm.Way := [⟨.normal, [9], ⟨[.msl 0 i64], [.arr none i64]⟩⟩]
abbrev R99v2_14 : Type := ((Nat × Unit) × ((List Int) × Unit))
abbrev T99v2_14 : Type := (List Int) → Option R99v2_14
noncomputable def u99v2_14 (f : T99v2_14) : (pa99v2_14).C → Option (WayC pw99v2_14) := fun (x : (((List Int) × Unit) × Unit)) => f x.1.1
noncomputable def l99v2_14 (k : Nat) : T99v2_14 := fun a1 =>
  (f102v7 k a1).bind fun y1 =>
  some ((y1.1.1, ()), (y1.2.1, ()))
noncomputable def f99v2 (k : Nat) : T99v2 := fun a1 b2 o0 o1 =>
  (f95 k a1 b2 o0 o1).bind fun y1 =>
  cond (!y1.1.1)
    (some (.inl (([], ()), ((o0, (), ()), o1, ()))))
    ((l99v2_14 k a1).bind fun y2 =>
    (l99v2_122 k k b2 y2.1.1 (b2.length : Int) 0 o0 o1 y2.2.1).bind fun y3 =>
    (f92v2 k y2.1.1 y3.2.2.2.1).bind fun y4 =>
    match y4 with
    | .inl y4_0 =>
      some (.inl (([], ()), ((y3.2.1.1, (), ()), y3.2.2.1, ())))
    | .inr y4_1 =>
      some (.inr ((y4_1.1.1, ()), ((y3.2.1.1, (), ()), y3.2.2.1, y4_1.2.1, ()))))
noncomputable def C99v2 (k : Nat) : Nat → Fun := mkC [(28, (F28 (f28 k))), (1000092, ownF), (92, (F92v2 (f92v2 k))), (95, (F95 (f95 k))), (101, (F101 (f101 k)))]
theorem c99v2_ok (k : Nat) : ∀ f, SoundFn Try.prog f (C99v2 k f) := (mkC_cons (s28 k) (mkC_cons ownF_ok (mkC_cons (s92v2 k) (mkC_cons (s95 k) (mkC_cons (s101 k) mkC_nil)))))
noncomputable def H99v2_62670 (k : Nat) : Nat → Option Cut := addH noH 62670 ⟨runCut (wrC (bodyOf (codeAt 62670 (bd Try.f99) 62670))) 56 [0, 2, 9, 10, 11, 31, 32] pa99v2_62670 pw99v2_62670 (u99v2_62670 (l99v2_62670 k k))⟩
theorem e99v2_62670 (k : Nat) (rec : T99v2_62670) (x : (pa99v2_62670).C) : roundF (C99v2 k) tt noH (bodyOf (codeAt 62670 (bd Try.f99) 62670)) 125340 56 [0, 2, 9, 10, 11, 31, 32] pa99v2_62670 pw99v2_62670 (u99v2_62670 rec) x = u99v2_62670 (b99v2_62670 k rec) x := by kernel_rfl
theorem h99v2_62670_ok (k : Nat) : ∀ p S, H99v2_62670 k p = some S → ∀ c, At (bd Try.f99) p c → CutOk Try.prog c S :=
  have hC := c99v2_ok k
  addLoop hC ttOk (draw_ok hC ttOk mixed) noH_ok (by kernel_rfl) (F := fun j => u99v2_62670 (l99v2_62670 k j)) (fun _ => rfl) (fun j x _ h => (e99v2_62670 k (l99v2_62670 k j) x).trans h) k
noncomputable def H99v2_122 (k : Nat) : Nat → Option Cut := addH (H99v2_62670 k) 122 ⟨runCut (wrC (bodyOf (codeAt 122 (bd Try.f99) 122))) 56 [0, 2, 3, 9, 21, 22] pa99v2_122 pw99v2_122 (u99v2_122 (l99v2_122 k k))⟩
theorem e99v2_122 (k : Nat) (rec : T99v2_122) (x : (pa99v2_122).C) : roundF (C99v2 k) tt (H99v2_62670 k) (bodyOf (codeAt 122 (bd Try.f99) 122)) 244 56 [0, 2, 3, 9, 21, 22] pa99v2_122 pw99v2_122 (u99v2_122 rec) x = u99v2_122 (b99v2_122 k rec) x := by kernel_rfl
theorem h99v2_122_ok (k : Nat) : ∀ p S, H99v2_122 k p = some S → ∀ c, At (bd Try.f99) p c → CutOk Try.prog c S :=
  have hC := c99v2_ok k
  addLoop hC ttOk (draw_ok hC ttOk mixed) (h99v2_62670_ok k) (by kernel_rfl) (F := fun j => u99v2_122 (l99v2_122 k j)) (fun _ => rfl) (fun j x _ h => (e99v2_122 k (l99v2_122 k j) x).trans h) k
noncomputable def C99v2_14 (k : Nat) : Nat → Fun := mkC [(102, (F102v7 (f102v7 k)))]
theorem c99v2_14_ok (k : Nat) : ∀ f, SoundFn Try.prog f (C99v2_14 k f) := (mkC_cons (s102v7 k) mkC_nil)
noncomputable def H99v2_14 (k : Nat) : Nat → Option Cut := addH (H99v2_122 k) 14 ⟨runCut (wrC (codeAt 14 (bd Try.f99) 14)) 56 [1] pa99v2_14 pw99v2_14 (u99v2_14 (l99v2_14 k))⟩
theorem e99v2_14 (k : Nat) (x : (pa99v2_14).C) : pieceF (C99v2_14 k) tt (H99v2_122 k) (codeAt 14 (bd Try.f99) 14) 14 56 [1] pa99v2_14 pw99v2_14 x = u99v2_14 (l99v2_14 k) x := by kernel_rfl
theorem h99v2_14_ok (k : Nat) : ∀ p S, H99v2_14 k p = some S → ∀ c, At (bd Try.f99) p c → CutOk Try.prog c S :=
  have hC := c99v2_14_ok k
  addPiece hC ttOk (draw_ok hC ttOk mixed) (h99v2_122_ok k) (fun x _ h => (e99v2_14 k x).trans h)
theorem e99v2 (k : Nat) (x : (a99v2).C) : bodyW (C99v2 k) tt (H99v2_14 k) Try.f99 a99v2 o99v2 x = u99v2 (f99v2 k) x := by kernel_rfl
theorem s99v2 (k : Nat) : SoundFn Try.prog 99 (F99v2 (f99v2 k)) :=
  have hC := c99v2_ok k
  fnW_sound hC ttOk (draw_ok hC ttOk mixed) Try.func99 (c0 := bd Try.f99) rfl (entry Try.func99 rfl (by decide)) (h99v2_14_ok k) (fun x _ h => (e99v2 k x).trans h)
/-! f58 fathom/vec.Shr (W) -/
noncomputable def a58 : Shape := ⟨[.ptr 0, .d (.slice i64), .d (.slice i64)], [.box [.own T_Gate, .mp 1], .map T_Gate i64]⟩
noncomputable def o58 : List Shape := [⟨[.own i64], [.box [.own T_Gate, .mp 1], .map T_Gate i64]⟩, ⟨[.msl 2 i64], [.box [.own T_Gate, .mp 1], .map T_Gate i64, .arr none i64]⟩]
abbrev R58 : Type := ((((List Int) × Unit) × (((List D_Gate) × Unit × Unit) × (List (D_Gate × Int)) × Unit)) ⊕ ((Nat × Unit) × (((List D_Gate) × Unit × Unit) × (List (D_Gate × Int)) × (List Int) × Unit)))
abbrev T58 : Type := (List Int) → (List Int) → (List D_Gate) → (List (D_Gate × Int)) → Option R58
noncomputable def u58 (f : T58) : (a58).C → Option (OutC o58) := fun (x : ((Unit × (List Int) × (List Int) × Unit) × (((List D_Gate) × Unit × Unit) × (List (D_Gate × Int)) × Unit))) => f x.1.2.1 x.1.2.2.1 x.2.1.1 x.2.2.1
noncomputable def F58 (f : T58) : Fun := ⟨false, runW a58 o58 (u58 f)⟩
noncomputable def f58 (k : Nat) : T58 := fun a1 b2 o0 o1 =>
  (f99v2 k a1 b2 o0 o1).bind fun y1 =>
  match y1 with
  | .inl y1_0 =>
    some (.inl ((y1_0.1.1, ()), ((y1_0.2.1.1, (), ()), y1_0.2.2.1, ())))
  | .inr y1_1 =>
    some (.inr ((y1_1.1.1, ()), ((y1_1.2.1.1, (), ()), y1_1.2.2.1, y1_1.2.2.2.1, ())))
noncomputable def C58 (k : Nat) : Nat → Fun := mkC [(99, (F99v2 (f99v2 k)))]
theorem c58_ok (k : Nat) : ∀ f, SoundFn Try.prog f (C58 k f) := (mkC_cons (s99v2 k) mkC_nil)
theorem e58 (k : Nat) (x : (a58).C) : bodyW (C58 k) tt noH Try.f58 a58 o58 x = u58 (f58 k) x := by kernel_rfl
theorem s58 (k : Nat) : SoundFn Try.prog 58 (F58 (f58 k)) :=
  have hC := c58_ok k
  fnW_sound hC ttOk (draw_ok hC ttOk mixed) Try.func58 (c0 := bd Try.f58) rfl (entry Try.func58 rfl (by decide)) noH_ok (fun x _ h => (e58 k x).trans h)
/-! f59 fathom/fathomref16.Shr (R) -/
noncomputable def a59 : Shape := ⟨[.d i64, .d i64, .d i64], []⟩
noncomputable def o59 : List Shape := [⟨[.d i64], []⟩]
abbrev R59 : Type := ((Int × Unit) × Unit)
abbrev T59 : Type := Int → Int → Int → Option R59
noncomputable def u59 (f : T59) : (a59).C → Option (OutC o59) := fun (x : ((Int × Int × Int × Unit) × Unit)) => f x.1.1 x.1.2.1 x.1.2.2.1
noncomputable def F59 (f : T59) : Fun := ⟨true, runR a59 o59 (u59 f)⟩
noncomputable def f59 (k : Nat) : T59 := fun a0 b1 w2 =>
  cond (decide (b1 ≥ w2))
    (some ((0, ()), ()))
    ((f55 k b1).bind fun y1 =>
    cond (decide (y1.1.1 = 0))
      (none)
      (some (((w64 (Int.tdiv a0 y1.1.1)), ()), ())))
noncomputable def C59 (k : Nat) : Nat → Fun := mkC [(55, (F55 (f55 k)))]
theorem c59_ok (k : Nat) : ∀ f, SoundFn Try.prog f (C59 k f) := (mkC_cons (s55 k) mkC_nil)
theorem e59 (k : Nat) (x : (a59).C) : bodyR (C59 k) tt noH Try.f59 a59 o59 x = u59 (f59 k) x := by kernel_rfl
theorem s59 (k : Nat) : SoundFn Try.prog 59 (F59 (f59 k)) :=
  have hC := c59_ok k
  fnR_sound hC ttOk (draw_ok hC ttOk mixed) Try.func59 (c0 := bd Try.f59) rfl (entry Try.func59 rfl (by decide)) noH_ok rfl (fun x _ h => (e59 k x).trans h)
/-! f97v4 fathom/vec.each (W) -/
noncomputable def a97v4 : Shape := ⟨[.ptr 0, .d (.slice i64), .d (.slice i64), .bfn 19 [0]], [.box [.own T_Gate, .mp 1], .map T_Gate i64]⟩
noncomputable def o97v4 : List Shape := [⟨[.nils], [.box [.own T_Gate, .mp 1], .map T_Gate i64]⟩, ⟨[.own i64], [.box [.own T_Gate, .mp 1], .map T_Gate i64]⟩]
abbrev R97v4 : Type := (((Unit × Unit) × (((List D_Gate) × Unit × Unit) × (List (D_Gate × Int)) × Unit)) ⊕ (((List Int) × Unit) × (((List D_Gate) × Unit × Unit) × (List (D_Gate × Int)) × Unit)))
abbrev T97v4 : Type := (List Int) → (List Int) → (List D_Gate) → (List (D_Gate × Int)) → Option R97v4
noncomputable def u97v4 (f : T97v4) : (a97v4).C → Option (OutC o97v4) := fun (x : ((Unit × (List Int) × (List Int) × Unit × Unit) × (((List D_Gate) × Unit × Unit) × (List (D_Gate × Int)) × Unit))) => f x.1.2.1 x.1.2.2.1 x.2.1.1 x.2.2.1
noncomputable def F97v4 (f : T97v4) : Fun := ⟨false, runW a97v4 o97v4 (u97v4 f)⟩
noncomputable def pa97v4_122 : Shape := ⟨[.d (.slice i64), .d (.slice i64), .bfn 19 [0], .own i64, .d i64, .d i64], [.box [.own T_Gate, .mp 1], .map T_Gate i64]⟩
noncomputable def pw97v4_122 : List Vm.Way := [⟨.exit 0, [9], ⟨[.own i64], [.box [.own T_Gate, .mp 1], .map T_Gate i64]⟩⟩]
abbrev R97v4_122 : Type := (((List Int) × Unit) × (((List D_Gate) × Unit × Unit) × (List (D_Gate × Int)) × Unit))
abbrev T97v4_122 : Type := (List Int) → (List Int) → (List Int) → Int → Int → (List D_Gate) → (List (D_Gate × Int)) → Option R97v4_122
noncomputable def u97v4_122 (f : T97v4_122) : (pa97v4_122).C → Option (WayC pw97v4_122) := fun (x : (((List Int) × (List Int) × Unit × (List Int) × Int × Int × Unit) × (((List D_Gate) × Unit × Unit) × (List (D_Gate × Int)) × Unit))) => f x.1.1 x.1.2.1 x.1.2.2.2.1 x.1.2.2.2.2.1 x.1.2.2.2.2.2.1 x.2.1.1 x.2.2.1
noncomputable def b97v4_122 (k : Nat) (rec : T97v4_122) : T97v4_122 := fun a1 b2 out9 t17 t18 o0 o1 =>
  cond (decide (t18 < t17))
    (ix a1 t18 fun e1 =>
    ix b2 t18 fun e2 =>
    (f19 k e1 e2 o0 o1).bind fun y3 =>
    gd (decide ((out9.length + 1) * 8 ≤ room)) <|
    (rec a1 b2 (out9 ++ ([y3.1.1] : List Int)) t17 (w64 (t18 + 1)) y3.2.1.1 y3.2.2.1).bind fun y4 =>
    some ((y4.1.1, ()), ((y4.2.1.1, (), ()), y4.2.2.1, ())))
    (some ((out9, ()), ((o0, (), ()), o1, ())))
noncomputable def l97v4_122 (k : Nat) : Nat → T97v4_122
  | 0 => fun _ _ _ _ _ _ _ => none
  | j + 1 => b97v4_122 k (l97v4_122 k j)
noncomputable def f97v4 (k : Nat) : T97v4 := fun a1 b2 o0 o1 =>
  (f95 k a1 b2 o0 o1).bind fun y1 =>
  cond (!y1.1.1)
    (some (.inl (((), ()), ((o0, (), ()), o1, ()))))
    ((l97v4_122 k k a1 b2 [] (a1.length : Int) 0 o0 o1).bind fun y2 =>
    (f92 k y2.1.1).bind fun y3 =>
    match y3 with
    | .inl y3_0 =>
      some (.inl (((), ()), ((y2.2.1.1, (), ()), y2.2.2.1, ())))
    | .inr y3_1 =>
      some (.inr ((y3_1.1.1, ()), ((y2.2.1.1, (), ()), y2.2.2.1, ()))))
noncomputable def C97v4 (k : Nat) : Nat → Fun := mkC [(19, (F19 (f19 k))), (1000092, ownF), (92, (F92 (f92 k))), (95, (F95 (f95 k)))]
theorem c97v4_ok (k : Nat) : ∀ f, SoundFn Try.prog f (C97v4 k f) := (mkC_cons (s19 k) (mkC_cons ownF_ok (mkC_cons (s92 k) (mkC_cons (s95 k) mkC_nil))))
noncomputable def H97v4_122 (k : Nat) : Nat → Option Cut := addH noH 122 ⟨runCut (wrC (bodyOf (codeAt 122 (bd Try.f97) 122))) 37 [1, 2, 3, 9, 17, 18] pa97v4_122 pw97v4_122 (u97v4_122 (l97v4_122 k k))⟩
theorem e97v4_122 (k : Nat) (rec : T97v4_122) (x : (pa97v4_122).C) : roundF (C97v4 k) tt noH (bodyOf (codeAt 122 (bd Try.f97) 122)) 244 37 [1, 2, 3, 9, 17, 18] pa97v4_122 pw97v4_122 (u97v4_122 rec) x = u97v4_122 (b97v4_122 k rec) x := by kernel_rfl
theorem h97v4_122_ok (k : Nat) : ∀ p S, H97v4_122 k p = some S → ∀ c, At (bd Try.f97) p c → CutOk Try.prog c S :=
  have hC := c97v4_ok k
  addLoop hC ttOk (draw_ok hC ttOk mixed) noH_ok (by kernel_rfl) (F := fun j => u97v4_122 (l97v4_122 k j)) (fun _ => rfl) (fun j x _ h => (e97v4_122 k (l97v4_122 k j) x).trans h) k
theorem e97v4 (k : Nat) (x : (a97v4).C) : bodyW (C97v4 k) tt (H97v4_122 k) Try.f97 a97v4 o97v4 x = u97v4 (f97v4 k) x := by kernel_rfl
theorem s97v4 (k : Nat) : SoundFn Try.prog 97 (F97v4 (f97v4 k)) :=
  have hC := c97v4_ok k
  fnW_sound hC ttOk (draw_ok hC ttOk mixed) Try.func97 (c0 := bd Try.f97) rfl (entry Try.func97 rfl (by decide)) (h97v4_122_ok k) (fun x _ h => (e97v4 k x).trans h)
/-! f50 fathom/vec.And (W) -/
noncomputable def a50 : Shape := ⟨[.ptr 0, .d (.slice i64), .d (.slice i64)], [.box [.own T_Gate, .mp 1], .map T_Gate i64]⟩
noncomputable def o50 : List Shape := [⟨[.own i64], [.box [.own T_Gate, .mp 1], .map T_Gate i64]⟩]
abbrev R50 : Type := (((List Int) × Unit) × (((List D_Gate) × Unit × Unit) × (List (D_Gate × Int)) × Unit))
abbrev T50 : Type := (List Int) → (List Int) → (List D_Gate) → (List (D_Gate × Int)) → Option R50
noncomputable def u50 (f : T50) : (a50).C → Option (OutC o50) := fun (x : ((Unit × (List Int) × (List Int) × Unit) × (((List D_Gate) × Unit × Unit) × (List (D_Gate × Int)) × Unit))) => f x.1.2.1 x.1.2.2.1 x.2.1.1 x.2.2.1
noncomputable def F50 (f : T50) : Fun := ⟨false, runW a50 o50 (u50 f)⟩
noncomputable def f50 (k : Nat) : T50 := fun a1 b2 o0 o1 =>
  (f97v4 k a1 b2 o0 o1).bind fun y1 =>
  match y1 with
  | .inl y1_0 =>
    some (([], ()), ((y1_0.2.1.1, (), ()), y1_0.2.2.1, ()))
  | .inr y1_1 =>
    some ((y1_1.1.1, ()), ((y1_1.2.1.1, (), ()), y1_1.2.2.1, ()))
noncomputable def C50 (k : Nat) : Nat → Fun := mkC [(97, (F97v4 (f97v4 k)))]
theorem c50_ok (k : Nat) : ∀ f, SoundFn Try.prog f (C50 k f) := (mkC_cons (s97v4 k) mkC_nil)
theorem e50 (k : Nat) (x : (a50).C) : bodyW (C50 k) tt noH Try.f50 a50 o50 x = u50 (f50 k) x := by kernel_rfl
theorem s50 (k : Nat) : SoundFn Try.prog 50 (F50 (f50 k)) :=
  have hC := c50_ok k
  fnW_sound hC ttOk (draw_ok hC ttOk mixed) Try.func50 (c0 := bd Try.f50) rfl (entry Try.func50 rfl (by decide)) noH_ok (fun x _ h => (e50 k x).trans h)
/-! f51 fathom/fathomref16.Bits (R) -/
noncomputable def a51 : Shape := ⟨[.d i64, .d i64, .d i64, .d i64], []⟩
noncomputable def o51 : List Shape := [⟨[.d i64], []⟩]
abbrev R51 : Type := ((Int × Unit) × Unit)
abbrev T51 : Type := Int → Int → Int → Int → Option R51
noncomputable def u51 (f : T51) : (a51).C → Option (OutC o51) := fun (x : ((Int × Int × Int × Int × Unit) × Unit)) => f x.1.1 x.1.2.1 x.1.2.2.1 x.1.2.2.2.1
noncomputable def F51 (f : T51) : Fun := ⟨true, runR a51 o51 (u51 f)⟩
noncomputable def pa51_14924 : Shape := ⟨[.d i64, .d i64, .d i64], []⟩
noncomputable def pw51_14924 : List Vm.Way := [⟨.normal, [52], ⟨[.d .bool], []⟩⟩]
abbrev R51_14924 : Type := ((Bool × Unit) × Unit)
abbrev T51_14924 : Type := Int → Int → Int → Option R51_14924
noncomputable def u51_14924 (f : T51_14924) : (pa51_14924).C → Option (WayC pw51_14924) := fun (x : ((Int × Int × Int × Unit) × Unit)) => f x.1.1 x.1.2.1 x.1.2.2.1
noncomputable def l51_14924 (k : Nat) : T51_14924 := fun kind0 x11 y12 =>
  cond (kind0 == 0)
    (cond ((w64 (x11 + y12)) == 2)
      (some ((true, ()), ()))
      (cond (kind0 == 1)
        (cond (decide ((w64 (x11 + y12)) > 0))
          (some ((true, ()), ()))
          (cond (kind0 == 2)
            (some (((x11 != y12), ()), ()))
            (some ((false, ()), ()))))
        (cond (kind0 == 2)
          (some (((x11 != y12), ()), ()))
          (some ((false, ()), ())))))
    (cond (kind0 == 1)
      (cond (decide ((w64 (x11 + y12)) > 0))
        (some ((true, ()), ()))
        (cond (kind0 == 2)
          (some (((x11 != y12), ()), ()))
          (some ((false, ()), ()))))
      (cond (kind0 == 2)
        (some (((x11 != y12), ()), ()))
        (some ((false, ()), ()))))
noncomputable def pa51_58 : Shape := ⟨[.d i64, .d i64, .d i64, .d i64, .d i64], []⟩
noncomputable def pw51_58 : List Vm.Way := [⟨.exit 0, [9], ⟨[.d i64], []⟩⟩]
abbrev R51_58 : Type := ((Int × Unit) × Unit)
abbrev T51_58 : Type := Int → Int → Int → Int → Int → Option R51_58
noncomputable def u51_58 (f : T51_58) : (pa51_58).C → Option (WayC pw51_58) := fun (x : ((Int × Int × Int × Int × Int × Unit) × Unit)) => f x.1.1 x.1.2.1 x.1.2.2.1 x.1.2.2.2.1 x.1.2.2.2.2.1
noncomputable def b51_58 (k : Nat) (rec : T51_58) : T51_58 := fun kind0 a1 b2 out9 i10 =>
  cond (decide (i10 ≥ 0))
    ((f41 k a1 i10).bind fun y1 =>
    (f41 k b2 i10).bind fun y2 =>
    (l51_14924 k kind0 y1.1.1 y2.1.1).bind fun y3 =>
    cond y3.1.1
      ((rec kind0 a1 b2 (w64 ((w64 (2 * out9)) + 1)) (w64 (i10 - 1))).bind fun y4 =>
      some ((y4.1.1, ()), ()))
      ((rec kind0 a1 b2 (w64 ((w64 (2 * out9)) + 0)) (w64 (i10 - 1))).bind fun y5 =>
      some ((y5.1.1, ()), ())))
    (some ((out9, ()), ()))
noncomputable def l51_58 (k : Nat) : Nat → T51_58
  | 0 => fun _ _ _ _ _ => none
  | j + 1 => b51_58 k (l51_58 k j)
noncomputable def f51 (k : Nat) : T51 := fun kind0 a1 b2 w3 =>
  (l51_58 k k kind0 a1 b2 0 (w64 (w3 - 1))).bind fun y1 =>
  some ((y1.1.1, ()), ())
noncomputable def C51 (k : Nat) : Nat → Fun := mkC [(41, (F41 (f41 k)))]
theorem c51_ok (k : Nat) : ∀ f, SoundFn Try.prog f (C51 k f) := (mkC_cons (s41 k) mkC_nil)
noncomputable def H51_14924 (k : Nat) : Nat → Option Cut := addH noH 14924 ⟨runCut (wrC (codeAt 14924 (bd Try.f51) 14924)) 58 [0, 11, 12] pa51_14924 pw51_14924 (u51_14924 (l51_14924 k))⟩
theorem e51_14924 (k : Nat) (x : (pa51_14924).C) : pieceF (C51 k) tt noH (codeAt 14924 (bd Try.f51) 14924) 14924 58 [0, 11, 12] pa51_14924 pw51_14924 x = u51_14924 (l51_14924 k) x := by kernel_rfl
theorem h51_14924_ok (k : Nat) : ∀ p S, H51_14924 k p = some S → ∀ c, At (bd Try.f51) p c → CutOk Try.prog c S :=
  have hC := c51_ok k
  addPiece hC ttOk (draw_ok hC ttOk mixed) noH_ok (fun x _ h => (e51_14924 k x).trans h)
noncomputable def H51_58 (k : Nat) : Nat → Option Cut := addH (H51_14924 k) 58 ⟨runCut (wrC (bodyOf (codeAt 58 (bd Try.f51) 58))) 58 [0, 1, 2, 9, 10] pa51_58 pw51_58 (u51_58 (l51_58 k k))⟩
theorem e51_58 (k : Nat) (rec : T51_58) (x : (pa51_58).C) : roundF (C51 k) tt (H51_14924 k) (bodyOf (codeAt 58 (bd Try.f51) 58)) 116 58 [0, 1, 2, 9, 10] pa51_58 pw51_58 (u51_58 rec) x = u51_58 (b51_58 k rec) x := by kernel_rfl
theorem h51_58_ok (k : Nat) : ∀ p S, H51_58 k p = some S → ∀ c, At (bd Try.f51) p c → CutOk Try.prog c S :=
  have hC := c51_ok k
  addLoop hC ttOk (draw_ok hC ttOk mixed) (h51_14924_ok k) (by kernel_rfl) (F := fun j => u51_58 (l51_58 k j)) (fun _ => rfl) (fun j x _ h => (e51_58 k (l51_58 k j) x).trans h) k
theorem e51 (k : Nat) (x : (a51).C) : bodyR (C51 k) tt (H51_58 k) Try.f51 a51 o51 x = u51 (f51 k) x := by kernel_rfl
theorem s51 (k : Nat) : SoundFn Try.prog 51 (F51 (f51 k)) :=
  have hC := c51_ok k
  fnR_sound hC ttOk (draw_ok hC ttOk mixed) Try.func51 (c0 := bd Try.f51) rfl (entry Try.func51 rfl (by decide)) (h51_58_ok k) rfl (fun x _ h => (e51 k x).trans h)
/-! f97v5 fathom/vec.each (W) -/
noncomputable def a97v5 : Shape := ⟨[.ptr 0, .d (.slice i64), .d (.slice i64), .bfn 26 [0]], [.box [.own T_Gate, .mp 1], .map T_Gate i64]⟩
noncomputable def o97v5 : List Shape := [⟨[.nils], [.box [.own T_Gate, .mp 1], .map T_Gate i64]⟩, ⟨[.own i64], [.box [.own T_Gate, .mp 1], .map T_Gate i64]⟩]
abbrev R97v5 : Type := (((Unit × Unit) × (((List D_Gate) × Unit × Unit) × (List (D_Gate × Int)) × Unit)) ⊕ (((List Int) × Unit) × (((List D_Gate) × Unit × Unit) × (List (D_Gate × Int)) × Unit)))
abbrev T97v5 : Type := (List Int) → (List Int) → (List D_Gate) → (List (D_Gate × Int)) → Option R97v5
noncomputable def u97v5 (f : T97v5) : (a97v5).C → Option (OutC o97v5) := fun (x : ((Unit × (List Int) × (List Int) × Unit × Unit) × (((List D_Gate) × Unit × Unit) × (List (D_Gate × Int)) × Unit))) => f x.1.2.1 x.1.2.2.1 x.2.1.1 x.2.2.1
noncomputable def F97v5 (f : T97v5) : Fun := ⟨false, runW a97v5 o97v5 (u97v5 f)⟩
noncomputable def pa97v5_122 : Shape := ⟨[.d (.slice i64), .d (.slice i64), .bfn 26 [0], .own i64, .d i64, .d i64], [.box [.own T_Gate, .mp 1], .map T_Gate i64]⟩
noncomputable def pw97v5_122 : List Vm.Way := [⟨.exit 0, [9], ⟨[.own i64], [.box [.own T_Gate, .mp 1], .map T_Gate i64]⟩⟩]
abbrev R97v5_122 : Type := (((List Int) × Unit) × (((List D_Gate) × Unit × Unit) × (List (D_Gate × Int)) × Unit))
abbrev T97v5_122 : Type := (List Int) → (List Int) → (List Int) → Int → Int → (List D_Gate) → (List (D_Gate × Int)) → Option R97v5_122
noncomputable def u97v5_122 (f : T97v5_122) : (pa97v5_122).C → Option (WayC pw97v5_122) := fun (x : (((List Int) × (List Int) × Unit × (List Int) × Int × Int × Unit) × (((List D_Gate) × Unit × Unit) × (List (D_Gate × Int)) × Unit))) => f x.1.1 x.1.2.1 x.1.2.2.2.1 x.1.2.2.2.2.1 x.1.2.2.2.2.2.1 x.2.1.1 x.2.2.1
noncomputable def b97v5_122 (k : Nat) (rec : T97v5_122) : T97v5_122 := fun a1 b2 out9 t17 t18 o0 o1 =>
  cond (decide (t18 < t17))
    (ix a1 t18 fun e1 =>
    ix b2 t18 fun e2 =>
    (f26 k e1 e2 o0 o1).bind fun y3 =>
    gd (decide ((out9.length + 1) * 8 ≤ room)) <|
    (rec a1 b2 (out9 ++ ([y3.1.1] : List Int)) t17 (w64 (t18 + 1)) y3.2.1.1 y3.2.2.1).bind fun y4 =>
    some ((y4.1.1, ()), ((y4.2.1.1, (), ()), y4.2.2.1, ())))
    (some ((out9, ()), ((o0, (), ()), o1, ())))
noncomputable def l97v5_122 (k : Nat) : Nat → T97v5_122
  | 0 => fun _ _ _ _ _ _ _ => none
  | j + 1 => b97v5_122 k (l97v5_122 k j)
noncomputable def f97v5 (k : Nat) : T97v5 := fun a1 b2 o0 o1 =>
  (f95 k a1 b2 o0 o1).bind fun y1 =>
  cond (!y1.1.1)
    (some (.inl (((), ()), ((o0, (), ()), o1, ()))))
    ((l97v5_122 k k a1 b2 [] (a1.length : Int) 0 o0 o1).bind fun y2 =>
    (f92 k y2.1.1).bind fun y3 =>
    match y3 with
    | .inl y3_0 =>
      some (.inl (((), ()), ((y2.2.1.1, (), ()), y2.2.2.1, ())))
    | .inr y3_1 =>
      some (.inr ((y3_1.1.1, ()), ((y2.2.1.1, (), ()), y2.2.2.1, ()))))
noncomputable def C97v5 (k : Nat) : Nat → Fun := mkC [(26, (F26 (f26 k))), (1000092, ownF), (92, (F92 (f92 k))), (95, (F95 (f95 k)))]
theorem c97v5_ok (k : Nat) : ∀ f, SoundFn Try.prog f (C97v5 k f) := (mkC_cons (s26 k) (mkC_cons ownF_ok (mkC_cons (s92 k) (mkC_cons (s95 k) mkC_nil))))
noncomputable def H97v5_122 (k : Nat) : Nat → Option Cut := addH noH 122 ⟨runCut (wrC (bodyOf (codeAt 122 (bd Try.f97) 122))) 37 [1, 2, 3, 9, 17, 18] pa97v5_122 pw97v5_122 (u97v5_122 (l97v5_122 k k))⟩
theorem e97v5_122 (k : Nat) (rec : T97v5_122) (x : (pa97v5_122).C) : roundF (C97v5 k) tt noH (bodyOf (codeAt 122 (bd Try.f97) 122)) 244 37 [1, 2, 3, 9, 17, 18] pa97v5_122 pw97v5_122 (u97v5_122 rec) x = u97v5_122 (b97v5_122 k rec) x := by kernel_rfl
theorem h97v5_122_ok (k : Nat) : ∀ p S, H97v5_122 k p = some S → ∀ c, At (bd Try.f97) p c → CutOk Try.prog c S :=
  have hC := c97v5_ok k
  addLoop hC ttOk (draw_ok hC ttOk mixed) noH_ok (by kernel_rfl) (F := fun j => u97v5_122 (l97v5_122 k j)) (fun _ => rfl) (fun j x _ h => (e97v5_122 k (l97v5_122 k j) x).trans h) k
theorem e97v5 (k : Nat) (x : (a97v5).C) : bodyW (C97v5 k) tt (H97v5_122 k) Try.f97 a97v5 o97v5 x = u97v5 (f97v5 k) x := by kernel_rfl
theorem s97v5 (k : Nat) : SoundFn Try.prog 97 (F97v5 (f97v5 k)) :=
  have hC := c97v5_ok k
  fnW_sound hC ttOk (draw_ok hC ttOk mixed) Try.func97 (c0 := bd Try.f97) rfl (entry Try.func97 rfl (by decide)) (h97v5_122_ok k) (fun x _ h => (e97v5 k x).trans h)
/-! f52 fathom/vec.Or (W) -/
noncomputable def a52 : Shape := ⟨[.ptr 0, .d (.slice i64), .d (.slice i64)], [.box [.own T_Gate, .mp 1], .map T_Gate i64]⟩
noncomputable def o52 : List Shape := [⟨[.own i64], [.box [.own T_Gate, .mp 1], .map T_Gate i64]⟩]
abbrev R52 : Type := (((List Int) × Unit) × (((List D_Gate) × Unit × Unit) × (List (D_Gate × Int)) × Unit))
abbrev T52 : Type := (List Int) → (List Int) → (List D_Gate) → (List (D_Gate × Int)) → Option R52
noncomputable def u52 (f : T52) : (a52).C → Option (OutC o52) := fun (x : ((Unit × (List Int) × (List Int) × Unit) × (((List D_Gate) × Unit × Unit) × (List (D_Gate × Int)) × Unit))) => f x.1.2.1 x.1.2.2.1 x.2.1.1 x.2.2.1
noncomputable def F52 (f : T52) : Fun := ⟨false, runW a52 o52 (u52 f)⟩
noncomputable def f52 (k : Nat) : T52 := fun a1 b2 o0 o1 =>
  (f97v5 k a1 b2 o0 o1).bind fun y1 =>
  match y1 with
  | .inl y1_0 =>
    some (([], ()), ((y1_0.2.1.1, (), ()), y1_0.2.2.1, ()))
  | .inr y1_1 =>
    some ((y1_1.1.1, ()), ((y1_1.2.1.1, (), ()), y1_1.2.2.1, ()))
noncomputable def C52 (k : Nat) : Nat → Fun := mkC [(97, (F97v5 (f97v5 k)))]
theorem c52_ok (k : Nat) : ∀ f, SoundFn Try.prog f (C52 k f) := (mkC_cons (s97v5 k) mkC_nil)
theorem e52 (k : Nat) (x : (a52).C) : bodyW (C52 k) tt noH Try.f52 a52 o52 x = u52 (f52 k) x := by kernel_rfl
theorem s52 (k : Nat) : SoundFn Try.prog 52 (F52 (f52 k)) :=
  have hC := c52_ok k
  fnW_sound hC ttOk (draw_ok hC ttOk mixed) Try.func52 (c0 := bd Try.f52) rfl (entry Try.func52 rfl (by decide)) noH_ok (fun x _ h => (e52 k x).trans h)
/-! f97v2 fathom/vec.each (W) -/
noncomputable def a97v2 : Shape := ⟨[.ptr 0, .d (.slice i64), .d (.slice i64), .bfn 27 [0]], [.box [.own T_Gate, .mp 1], .map T_Gate i64]⟩
noncomputable def o97v2 : List Shape := [⟨[.nils], [.box [.own T_Gate, .mp 1], .map T_Gate i64]⟩, ⟨[.own i64], [.box [.own T_Gate, .mp 1], .map T_Gate i64]⟩]
abbrev R97v2 : Type := (((Unit × Unit) × (((List D_Gate) × Unit × Unit) × (List (D_Gate × Int)) × Unit)) ⊕ (((List Int) × Unit) × (((List D_Gate) × Unit × Unit) × (List (D_Gate × Int)) × Unit)))
abbrev T97v2 : Type := (List Int) → (List Int) → (List D_Gate) → (List (D_Gate × Int)) → Option R97v2
noncomputable def u97v2 (f : T97v2) : (a97v2).C → Option (OutC o97v2) := fun (x : ((Unit × (List Int) × (List Int) × Unit × Unit) × (((List D_Gate) × Unit × Unit) × (List (D_Gate × Int)) × Unit))) => f x.1.2.1 x.1.2.2.1 x.2.1.1 x.2.2.1
noncomputable def F97v2 (f : T97v2) : Fun := ⟨false, runW a97v2 o97v2 (u97v2 f)⟩
noncomputable def pa97v2_122 : Shape := ⟨[.d (.slice i64), .d (.slice i64), .bfn 27 [0], .own i64, .d i64, .d i64], [.box [.own T_Gate, .mp 1], .map T_Gate i64]⟩
noncomputable def pw97v2_122 : List Vm.Way := [⟨.exit 0, [9], ⟨[.own i64], [.box [.own T_Gate, .mp 1], .map T_Gate i64]⟩⟩]
abbrev R97v2_122 : Type := (((List Int) × Unit) × (((List D_Gate) × Unit × Unit) × (List (D_Gate × Int)) × Unit))
abbrev T97v2_122 : Type := (List Int) → (List Int) → (List Int) → Int → Int → (List D_Gate) → (List (D_Gate × Int)) → Option R97v2_122
noncomputable def u97v2_122 (f : T97v2_122) : (pa97v2_122).C → Option (WayC pw97v2_122) := fun (x : (((List Int) × (List Int) × Unit × (List Int) × Int × Int × Unit) × (((List D_Gate) × Unit × Unit) × (List (D_Gate × Int)) × Unit))) => f x.1.1 x.1.2.1 x.1.2.2.2.1 x.1.2.2.2.2.1 x.1.2.2.2.2.2.1 x.2.1.1 x.2.2.1
noncomputable def b97v2_122 (k : Nat) (rec : T97v2_122) : T97v2_122 := fun a1 b2 out9 t17 t18 o0 o1 =>
  cond (decide (t18 < t17))
    (ix a1 t18 fun e1 =>
    ix b2 t18 fun e2 =>
    (f27 k e1 e2 o0 o1).bind fun y3 =>
    gd (decide ((out9.length + 1) * 8 ≤ room)) <|
    (rec a1 b2 (out9 ++ ([y3.1.1] : List Int)) t17 (w64 (t18 + 1)) y3.2.1.1 y3.2.2.1).bind fun y4 =>
    some ((y4.1.1, ()), ((y4.2.1.1, (), ()), y4.2.2.1, ())))
    (some ((out9, ()), ((o0, (), ()), o1, ())))
noncomputable def l97v2_122 (k : Nat) : Nat → T97v2_122
  | 0 => fun _ _ _ _ _ _ _ => none
  | j + 1 => b97v2_122 k (l97v2_122 k j)
noncomputable def f97v2 (k : Nat) : T97v2 := fun a1 b2 o0 o1 =>
  (f95 k a1 b2 o0 o1).bind fun y1 =>
  cond (!y1.1.1)
    (some (.inl (((), ()), ((o0, (), ()), o1, ()))))
    ((l97v2_122 k k a1 b2 [] (a1.length : Int) 0 o0 o1).bind fun y2 =>
    (f92 k y2.1.1).bind fun y3 =>
    match y3 with
    | .inl y3_0 =>
      some (.inl (((), ()), ((y2.2.1.1, (), ()), y2.2.2.1, ())))
    | .inr y3_1 =>
      some (.inr ((y3_1.1.1, ()), ((y2.2.1.1, (), ()), y2.2.2.1, ()))))
noncomputable def C97v2 (k : Nat) : Nat → Fun := mkC [(27, (F27 (f27 k))), (1000092, ownF), (92, (F92 (f92 k))), (95, (F95 (f95 k)))]
theorem c97v2_ok (k : Nat) : ∀ f, SoundFn Try.prog f (C97v2 k f) := (mkC_cons (s27 k) (mkC_cons ownF_ok (mkC_cons (s92 k) (mkC_cons (s95 k) mkC_nil))))
noncomputable def H97v2_122 (k : Nat) : Nat → Option Cut := addH noH 122 ⟨runCut (wrC (bodyOf (codeAt 122 (bd Try.f97) 122))) 37 [1, 2, 3, 9, 17, 18] pa97v2_122 pw97v2_122 (u97v2_122 (l97v2_122 k k))⟩
theorem e97v2_122 (k : Nat) (rec : T97v2_122) (x : (pa97v2_122).C) : roundF (C97v2 k) tt noH (bodyOf (codeAt 122 (bd Try.f97) 122)) 244 37 [1, 2, 3, 9, 17, 18] pa97v2_122 pw97v2_122 (u97v2_122 rec) x = u97v2_122 (b97v2_122 k rec) x := by kernel_rfl
theorem h97v2_122_ok (k : Nat) : ∀ p S, H97v2_122 k p = some S → ∀ c, At (bd Try.f97) p c → CutOk Try.prog c S :=
  have hC := c97v2_ok k
  addLoop hC ttOk (draw_ok hC ttOk mixed) noH_ok (by kernel_rfl) (F := fun j => u97v2_122 (l97v2_122 k j)) (fun _ => rfl) (fun j x _ h => (e97v2_122 k (l97v2_122 k j) x).trans h) k
theorem e97v2 (k : Nat) (x : (a97v2).C) : bodyW (C97v2 k) tt (H97v2_122 k) Try.f97 a97v2 o97v2 x = u97v2 (f97v2 k) x := by kernel_rfl
theorem s97v2 (k : Nat) : SoundFn Try.prog 97 (F97v2 (f97v2 k)) :=
  have hC := c97v2_ok k
  fnW_sound hC ttOk (draw_ok hC ttOk mixed) Try.func97 (c0 := bd Try.f97) rfl (entry Try.func97 rfl (by decide)) (h97v2_122_ok k) (fun x _ h => (e97v2 k x).trans h)
/-! f53 fathom/vec.Xor (W) -/
noncomputable def a53 : Shape := ⟨[.ptr 0, .d (.slice i64), .d (.slice i64)], [.box [.own T_Gate, .mp 1], .map T_Gate i64]⟩
noncomputable def o53 : List Shape := [⟨[.nils], [.box [.own T_Gate, .mp 1], .map T_Gate i64]⟩, ⟨[.own i64], [.box [.own T_Gate, .mp 1], .map T_Gate i64]⟩]
abbrev R53 : Type := (((Unit × Unit) × (((List D_Gate) × Unit × Unit) × (List (D_Gate × Int)) × Unit)) ⊕ (((List Int) × Unit) × (((List D_Gate) × Unit × Unit) × (List (D_Gate × Int)) × Unit)))
abbrev T53 : Type := (List Int) → (List Int) → (List D_Gate) → (List (D_Gate × Int)) → Option R53
noncomputable def u53 (f : T53) : (a53).C → Option (OutC o53) := fun (x : ((Unit × (List Int) × (List Int) × Unit) × (((List D_Gate) × Unit × Unit) × (List (D_Gate × Int)) × Unit))) => f x.1.2.1 x.1.2.2.1 x.2.1.1 x.2.2.1
noncomputable def F53 (f : T53) : Fun := ⟨false, runW a53 o53 (u53 f)⟩
noncomputable def f53 (k : Nat) : T53 := fun a1 b2 o0 o1 =>
  (f97v2 k a1 b2 o0 o1).bind fun y1 =>
  match y1 with
  | .inl y1_0 =>
    some (.inl (((), ()), ((y1_0.2.1.1, (), ()), y1_0.2.2.1, ())))
  | .inr y1_1 =>
    some (.inr ((y1_1.1.1, ()), ((y1_1.2.1.1, (), ()), y1_1.2.2.1, ())))
noncomputable def C53 (k : Nat) : Nat → Fun := mkC [(97, (F97v2 (f97v2 k)))]
theorem c53_ok (k : Nat) : ∀ f, SoundFn Try.prog f (C53 k f) := (mkC_cons (s97v2 k) mkC_nil)
theorem e53 (k : Nat) (x : (a53).C) : bodyW (C53 k) tt noH Try.f53 a53 o53 x = u53 (f53 k) x := by kernel_rfl
theorem s53 (k : Nat) : SoundFn Try.prog 53 (F53 (f53 k)) :=
  have hC := c53_ok k
  fnW_sound hC ttOk (draw_ok hC ttOk mixed) Try.func53 (c0 := bd Try.f53) rfl (entry Try.func53 rfl (by decide)) noH_ok (fun x _ h => (e53 k x).trans h)
/-! f10 fathom/fathomlaw16.VecBits (R) -/
noncomputable def a10 : Shape := ⟨[.d T_Two, .d (.int .u8)], []⟩
noncomputable def o10 : List Shape := [⟨[.d .bool], []⟩]
abbrev R10 : Type := ((Bool × Unit) × Unit)
abbrev T10 : Type := D_Two → Int → Option R10
noncomputable def u10 (f : T10) : (a10).C → Option (OutC o10) := fun (x : ((D_Two × Int × Unit) × Unit)) => f x.1.1 x.1.2.1
noncomputable def F10 (f : T10) : Fun := ⟨true, runR a10 o10 (u10 f)⟩
noncomputable def pa10_124 : Shape := ⟨[.d i64, .ptr 0, .own i64, .own i64, .d (.slice .bool), .d i64, .d i64], [.box [.own T_Gate, .mp 1], .map T_Gate i64]⟩
noncomputable def pw10_124 : List Vm.Way := [⟨.normal, [7, 8, 76], ⟨[.own i64, .own i64, .d .bool], [.box [.own T_Gate, .mp 1], .map T_Gate i64]⟩⟩]
abbrev R10_124 : Type := (((List Int) × (List Int) × Bool × Unit) × (((List D_Gate) × Unit × Unit) × (List (D_Gate × Int)) × Unit))
abbrev T10_124 : Type := Int → (List Int) → (List Int) → (List Bool) → Int → Int → (List D_Gate) → (List (D_Gate × Int)) → Option R10_124
noncomputable def u10_124 (f : T10_124) : (pa10_124).C → Option (WayC pw10_124) := fun (x : ((Int × Unit × (List Int) × (List Int) × (List Bool) × Int × Int × Unit) × (((List D_Gate) × Unit × Unit) × (List (D_Gate × Int)) × Unit))) => f x.1.1 x.1.2.2.1 x.1.2.2.2.1 x.1.2.2.2.2.1 x.1.2.2.2.2.2.1 x.1.2.2.2.2.2.2.1 x.2.1.1 x.2.2.1
noncomputable def l10_124 (k : Nat) : T10_124 := fun w5 a7 b8 ins9 m10 n11 o0 o1 =>
  (f50 k a7 b8 o0 o1).bind fun y1 =>
  (f51 k 0 m10 n11 w5).bind fun y2 =>
  (f45 k ins9 y1.1.1 w5 y2.1.1 y1.2.1.1 y1.2.2.1).bind fun y3 =>
  cond (!y3.1.1)
    (some ((a7, b8, true, ()), ((y1.2.1.1, (), ()), y1.2.2.1, ())))
    ((f52 k a7 b8 y1.2.1.1 y1.2.2.1).bind fun y4 =>
    (f51 k 1 m10 n11 w5).bind fun y5 =>
    (f45 k ins9 y4.1.1 w5 y5.1.1 y4.2.1.1 y4.2.2.1).bind fun y6 =>
    cond (!y6.1.1)
      (some ((a7, b8, true, ()), ((y4.2.1.1, (), ()), y4.2.2.1, ())))
      ((f53 k a7 b8 y4.2.1.1 y4.2.2.1).bind fun y7 =>
      match y7 with
      | .inl y7_0 =>
        (f51 k 2 m10 n11 w5).bind fun y8 =>
        (f45 k ins9 [] w5 y8.1.1 y7_0.2.1.1 y7_0.2.2.1).bind fun y9 =>
        some ((a7, b8, (!y9.1.1), ()), ((y7_0.2.1.1, (), ()), y7_0.2.2.1, ()))
      | .inr y7_1 =>
        (f51 k 2 m10 n11 w5).bind fun y10 =>
        (f45 k ins9 y7_1.1.1 w5 y10.1.1 y7_1.2.1.1 y7_1.2.2.1).bind fun y11 =>
        some ((a7, b8, (!y11.1.1), ()), ((y7_1.2.1.1, (), ()), y7_1.2.2.1, ()))))
noncomputable def f10 (k : Nat) : T10 := fun t0 width1 =>
  (f44 k t0 (w64 (1 + (w64 ((Int.tmod width1 8)))))).bind fun y1 =>
  (f42 k (w64 (t0.1)) (w64 (1 + (w64 ((Int.tmod width1 8)))))).bind fun y2 =>
  (f42 k (w64 (t0.2.1)) (w64 (1 + (w64 ((Int.tmod width1 8)))))).bind fun y3 =>
  (l10_124 k (w64 (1 + (w64 ((Int.tmod width1 8))))) y1.1.2.1 y1.1.2.2.1 y1.1.2.2.2.1 y2.1.1 y3.1.1 y1.2.1.1 y1.2.2.1).bind fun y4 =>
  cond y4.1.2.2.1
    (some ((false, ()), ()))
    ((f54 k y4.1.1 y4.2.1.1 y4.2.2.1).bind fun y5 =>
    (f55 k (w64 (1 + (w64 ((Int.tmod width1 8)))))).bind fun y6 =>
    (f45 k y1.1.2.2.2.1 y5.1.1 (w64 (1 + (w64 ((Int.tmod width1 8))))) (w64 ((w64 (y6.1.1 - 1)) - y2.1.1)) y4.2.1.1 y4.2.2.1).bind fun y7 =>
    cond y7.1.1
      ((f56 k y4.1.1 y4.1.2.1 y4.2.1.1 y4.2.2.1).bind fun y8 =>
      match y8 with
      | .inl y8_0 =>
        (f57 k y2.1.1 y3.1.1 (w64 (1 + (w64 ((Int.tmod width1 8)))))).bind fun y9 =>
        (f45 k y1.1.2.2.2.1 y8_0.1.1 (w64 (1 + (w64 ((Int.tmod width1 8))))) y9.1.1 y8_0.2.1.1 y8_0.2.2.1).bind fun y10 =>
        cond y10.1.1
          ((f58 k y4.1.1 y4.1.2.1 y8_0.2.1.1 y8_0.2.2.1).bind fun y11 =>
          match y11 with
          | .inl y11_0 =>
            (f59 k y2.1.1 y3.1.1 (w64 (1 + (w64 ((Int.tmod width1 8)))))).bind fun y12 =>
            (f45 k y1.1.2.2.2.1 y11_0.1.1 (w64 (1 + (w64 ((Int.tmod width1 8))))) y12.1.1 y11_0.2.1.1 y11_0.2.2.1).bind fun y13 =>
            cond y13.1.1
              ((f40 k ()).bind fun y14 =>
              some ((y14.1.1, ()), ()))
              (some ((false, ()), ()))
          | .inr y11_1 =>
            (f59 k y2.1.1 y3.1.1 (w64 (1 + (w64 ((Int.tmod width1 8)))))).bind fun y15 =>
            gd (decide (0 + y11_1.1.1 ≤ y11_1.2.2.2.1.length)) <|
            (f45 k y1.1.2.2.2.1 ((y11_1.2.2.2.1.drop 0).take y11_1.1.1) (w64 (1 + (w64 ((Int.tmod width1 8))))) y15.1.1 y11_1.2.1.1 y11_1.2.2.1).bind fun y16 =>
            cond y16.1.1
              ((f40 k ()).bind fun y17 =>
              some ((y17.1.1, ()), ()))
              (some ((false, ()), ())))
          (some ((false, ()), ()))
      | .inr y8_1 =>
        (f57 k y2.1.1 y3.1.1 (w64 (1 + (w64 ((Int.tmod width1 8)))))).bind fun y18 =>
        gd (decide (0 + y8_1.1.1 ≤ y8_1.2.2.2.1.length)) <|
        (f45 k y1.1.2.2.2.1 ((y8_1.2.2.2.1.drop 0).take y8_1.1.1) (w64 (1 + (w64 ((Int.tmod width1 8))))) y18.1.1 y8_1.2.1.1 y8_1.2.2.1).bind fun y19 =>
        cond y19.1.1
          ((f58 k y4.1.1 y4.1.2.1 y8_1.2.1.1 y8_1.2.2.1).bind fun y20 =>
          match y20 with
          | .inl y20_0 =>
            (f59 k y2.1.1 y3.1.1 (w64 (1 + (w64 ((Int.tmod width1 8)))))).bind fun y21 =>
            (f45 k y1.1.2.2.2.1 y20_0.1.1 (w64 (1 + (w64 ((Int.tmod width1 8))))) y21.1.1 y20_0.2.1.1 y20_0.2.2.1).bind fun y22 =>
            cond y22.1.1
              ((f40 k ()).bind fun y23 =>
              some ((y23.1.1, ()), ()))
              (some ((false, ()), ()))
          | .inr y20_1 =>
            (f59 k y2.1.1 y3.1.1 (w64 (1 + (w64 ((Int.tmod width1 8)))))).bind fun y24 =>
            gd (decide (0 + y20_1.1.1 ≤ y20_1.2.2.2.1.length)) <|
            (f45 k y1.1.2.2.2.1 ((y20_1.2.2.2.1.drop 0).take y20_1.1.1) (w64 (1 + (w64 ((Int.tmod width1 8))))) y24.1.1 y20_1.2.1.1 y20_1.2.2.1).bind fun y25 =>
            cond y25.1.1
              ((f40 k ()).bind fun y26 =>
              some ((y26.1.1, ()), ()))
              (some ((false, ()), ())))
          (some ((false, ()), ())))
      (some ((false, ()), ())))
noncomputable def C10 (k : Nat) : Nat → Fun := mkC [(40, (F40 (f40 k))), (42, (F42 (f42 k))), (44, (F44 (f44 k))), (45, (F45 (f45 k))), (50, (F50 (f50 k))), (51, (F51 (f51 k))), (52, (F52 (f52 k))), (53, (F53 (f53 k))), (54, (F54 (f54 k))), (55, (F55 (f55 k))), (56, (F56 (f56 k))), (57, (F57 (f57 k))), (58, (F58 (f58 k))), (59, (F59 (f59 k)))]
theorem c10_ok (k : Nat) : ∀ f, SoundFn Try.prog f (C10 k f) := (mkC_cons (s40 k) (mkC_cons (s42 k) (mkC_cons (s44 k) (mkC_cons (s45 k) (mkC_cons (s50 k) (mkC_cons (s51 k) (mkC_cons (s52 k) (mkC_cons (s53 k) (mkC_cons (s54 k) (mkC_cons (s55 k) (mkC_cons (s56 k) (mkC_cons (s57 k) (mkC_cons (s58 k) (mkC_cons (s59 k) mkC_nil))))))))))))))
noncomputable def H10_124 (k : Nat) : Nat → Option Cut := addH noH 124 ⟨runCut (wrC (codeAt 124 (bd Try.f10) 124)) 120 [5, 6, 7, 8, 9, 10, 11] pa10_124 pw10_124 (u10_124 (l10_124 k))⟩
theorem e10_124 (k : Nat) (x : (pa10_124).C) : pieceF (C10 k) tt noH (codeAt 124 (bd Try.f10) 124) 124 120 [5, 6, 7, 8, 9, 10, 11] pa10_124 pw10_124 x = u10_124 (l10_124 k) x := by kernel_rfl
theorem h10_124_ok (k : Nat) : ∀ p S, H10_124 k p = some S → ∀ c, At (bd Try.f10) p c → CutOk Try.prog c S :=
  have hC := c10_ok k
  addPiece hC ttOk (draw_ok hC ttOk mixed) noH_ok (fun x _ h => (e10_124 k x).trans h)
theorem e10 (k : Nat) (x : (a10).C) : bodyR (C10 k) tt (H10_124 k) Try.f10 a10 o10 x = u10 (f10 k) x := by kernel_rfl
theorem s10 (k : Nat) : SoundFn Try.prog 10 (F10 (f10 k)) :=
  have hC := c10_ok k
  fnR_sound hC ttOk (draw_ok hC ttOk mixed) Try.func10 (c0 := bd Try.f10) rfl (entry Try.func10 rfl (by decide)) (h10_124_ok k) rfl (fun x _ h => (e10 k x).trans h)
/-! f61 fathom/fathomref16.Div (R) -/
noncomputable def a61 : Shape := ⟨[.d i64, .d i64, .d i64], []⟩
noncomputable def o61 : List Shape := [⟨[.d i64], []⟩]
abbrev R61 : Type := ((Int × Unit) × Unit)
abbrev T61 : Type := Int → Int → Int → Option R61
noncomputable def u61 (f : T61) : (a61).C → Option (OutC o61) := fun (x : ((Int × Int × Int × Unit) × Unit)) => f x.1.1 x.1.2.1 x.1.2.2.1
noncomputable def F61 (f : T61) : Fun := ⟨true, runR a61 o61 (u61 f)⟩
noncomputable def f61 (k : Nat) : T61 := fun a0 b1 w2 =>
  cond (b1 == 0)
    ((f55 k w2).bind fun y1 =>
    some (((w64 (y1.1.1 - 1)), ()), ()))
    (cond (decide (b1 = 0))
      (none)
      (some (((w64 (Int.tdiv a0 b1)), ()), ())))
noncomputable def C61 (k : Nat) : Nat → Fun := mkC [(55, (F55 (f55 k)))]
theorem c61_ok (k : Nat) : ∀ f, SoundFn Try.prog f (C61 k f) := (mkC_cons (s55 k) mkC_nil)
theorem e61 (k : Nat) (x : (a61).C) : bodyR (C61 k) tt noH Try.f61 a61 o61 x = u61 (f61 k) x := by kernel_rfl
theorem s61 (k : Nat) : SoundFn Try.prog 61 (F61 (f61 k)) :=
  have hC := c61_ok k
  fnR_sound hC ttOk (draw_ok hC ttOk mixed) Try.func61 (c0 := bd Try.f61) rfl (entry Try.func61 rfl (by decide)) noH_ok rfl (fun x _ h => (e61 k x).trans h)
/-! f62 fathom/fathomref16.Rest (R) -/
noncomputable def a62 : Shape := ⟨[.d i64, .d i64], []⟩
noncomputable def o62 : List Shape := [⟨[.d i64], []⟩]
abbrev R62 : Type := ((Int × Unit) × Unit)
abbrev T62 : Type := Int → Int → Option R62
noncomputable def u62 (f : T62) : (a62).C → Option (OutC o62) := fun (x : ((Int × Int × Unit) × Unit)) => f x.1.1 x.1.2.1
noncomputable def F62 (f : T62) : Fun := ⟨true, runR a62 o62 (u62 f)⟩
noncomputable def f62 (k : Nat) : T62 := fun a0 b1 =>
  cond (b1 == 0)
    (some ((a0, ()), ()))
    (cond (decide (b1 = 0))
      (none)
      (some (((Int.tmod a0 b1), ()), ())))
noncomputable def C62 (k : Nat) : Nat → Fun := mkC []
theorem c62_ok (k : Nat) : ∀ f, SoundFn Try.prog f (C62 k f) := mkC_nil
theorem e62 (k : Nat) (x : (a62).C) : bodyR (C62 k) tt noH Try.f62 a62 o62 x = u62 (f62 k) x := by kernel_rfl
theorem s62 (k : Nat) : SoundFn Try.prog 62 (F62 (f62 k)) :=
  have hC := c62_ok k
  fnR_sound hC ttOk (draw_ok hC ttOk mixed) Try.func62 (c0 := bd Try.f62) rfl (entry Try.func62 rfl (by decide)) noH_ok rfl (fun x _ h => (e62 k x).trans h)
/-! f102v5 slices.Clone[[]int,int] (W) -/
noncomputable def a102v5 : Shape := ⟨[.nils], []⟩
noncomputable def o102v5 : List Shape := [⟨[.own i64], []⟩]
abbrev R102v5 : Type := (((List Int) × Unit) × Unit)
abbrev T102v5 : Type := Unit → Option R102v5
noncomputable def u102v5 (f : T102v5) : (a102v5).C → Option (OutC o102v5) := fun (x : ((Unit × Unit) × Unit)) => f ()
noncomputable def F102v5 (f : T102v5) : Fun := ⟨false, runW a102v5 o102v5 (u102v5 f)⟩
noncomputable def f102v5 (k : Nat) : T102v5 := fun _ =>
  some (([], ()), ())
noncomputable def C102v5 (k : Nat) : Nat → Fun := mkC []
theorem c102v5_ok (k : Nat) : ∀ f, SoundFn Try.prog f (C102v5 k f) := mkC_nil
theorem e102v5 (k : Nat) (x : (a102v5).C) : bodyW (C102v5 k) tt noH Try.f102 a102v5 o102v5 x = u102v5 (f102v5 k) x := by kernel_rfl
theorem s102v5 (k : Nat) : SoundFn Try.prog 102 (F102v5 (f102v5 k)) :=
  have hC := c102v5_ok k
  fnW_sound hC ttOk (draw_ok hC ttOk mixed) Try.func102 (c0 := bd Try.f102) rfl (entry Try.func102 rfl (by decide)) noH_ok (fun x _ h => (e102v5 k x).trans h)
/-! f102v6 slices.Clone[[]int,int] (W) -/
noncomputable def a102v6 : Shape := ⟨[.nn i64], []⟩
noncomputable def o102v6 : List Shape := [⟨[.own i64], []⟩]
abbrev R102v6 : Type := (((List Int) × Unit) × Unit)
abbrev T102v6 : Type := (List Int) → Option R102v6
noncomputable def u102v6 (f : T102v6) : (a102v6).C → Option (OutC o102v6) := fun (x : (((List Int) × Unit) × Unit)) => f x.1.1
noncomputable def F102v6 (f : T102v6) : Fun := ⟨false, runW a102v6 o102v6 (u102v6 f)⟩
noncomputable def f102v6 (k : Nat) : T102v6 := fun s0 =>
  gd (decide ((0 + s0.length) * 8 ≤ room)) <|
  some (((([] : List Int) ++ s0), ()), ())
noncomputable def C102v6 (k : Nat) : Nat → Fun := mkC []
theorem c102v6_ok (k : Nat) : ∀ f, SoundFn Try.prog f (C102v6 k f) := mkC_nil
theorem e102v6 (k : Nat) (x : (a102v6).C) : bodyW (C102v6 k) tt noH Try.f102 a102v6 o102v6 x = u102v6 (f102v6 k) x := by kernel_rfl
theorem s102v6 (k : Nat) : SoundFn Try.prog 102 (F102v6 (f102v6 k)) :=
  have hC := c102v6_ok k
  fnW_sound hC ttOk (draw_ok hC ttOk mixed) Try.func102 (c0 := bd Try.f102) rfl (entry Try.func102 rfl (by decide)) noH_ok (fun x _ h => (e102v6 k x).trans h)
/-! f102v4 slices.Clone[[]int,int] (W) -/
noncomputable def a102v4 : Shape := ⟨[.d (.slice i64)], []⟩
noncomputable def o102v4 : List Shape := [⟨[.own i64], []⟩]
abbrev R102v4 : Type := (((List Int) × Unit) × Unit)
abbrev T102v4 : Type := (List Int) → Option R102v4
noncomputable def u102v4 (f : T102v4) : (a102v4).C → Option (OutC o102v4) := fun (x : (((List Int) × Unit) × Unit)) => f x.1.1
noncomputable def F102v4 (f : T102v4) : Fun := ⟨false, runW a102v4 o102v4 (u102v4 f)⟩
noncomputable def f102v4 (k : Nat) : T102v4 := fun s0 => f102v6 k s0
theorem s102v4 (k : Nat) : SoundFn Try.prog 102 (F102v4 (f102v4 k)) := splitW (s102v5 k) (s102v6 k) (fun xs y h => ⟨h, fun e => by subst e; exact (show u102v5 (f102v5 k) (((), ()), ()) = u102v6 (f102v6 k) (([], ()), ()) from by kernel_rfl).trans h⟩)
/-! f92v3 fathom/vec.whole (W) -/
noncomputable def a92v3 : Shape := ⟨[.d (.slice i64)], []⟩
noncomputable def o92v3 : List Shape := [⟨[.nils], []⟩, ⟨[.d (.slice i64)], []⟩]
abbrev R92v3 : Type := (((Unit × Unit) × Unit) ⊕ (((List Int) × Unit) × Unit))
abbrev T92v3 : Type := (List Int) → Option R92v3
noncomputable def u92v3 (f : T92v3) : (a92v3).C → Option (OutC o92v3) := fun (x : (((List Int) × Unit) × Unit)) => f x.1.1
noncomputable def F92v3 (f : T92v3) : Fun := ⟨false, runW a92v3 o92v3 (u92v3 f)⟩
noncomputable def f92v3 (k : Nat) : T92v3 := fun a0 =>
  (f112 k a0 (-1)).bind fun y1 =>
  cond y1.1.1
    (some (.inl (((), ()), ())))
    (some (.inr ((a0, ()), ())))
noncomputable def C92v3 (k : Nat) : Nat → Fun := mkC [(112, (F112 (f112 k)))]
theorem c92v3_ok (k : Nat) : ∀ f, SoundFn Try.prog f (C92v3 k f) := (mkC_cons (s112 k) mkC_nil)
theorem e92v3 (k : Nat) (x : (a92v3).C) : bodyW (C92v3 k) tt noH Try.f92 a92v3 o92v3 x = u92v3 (f92v3 k) x := by kernel_rfl
theorem s92v3 (k : Nat) : SoundFn Try.prog 92 (F92v3 (f92v3 k)) :=
  have hC := c92v3_ok k
  fnW_sound hC ttOk (draw_ok hC ttOk mixed) Try.func92 (c0 := bd Try.f92) rfl (entry Try.func92 rfl (by decide)) noH_ok (fun x _ h => (e92v3 k x).trans h)
/-! f104 fathom/vec.turned (R) -/
noncomputable def a104 : Shape := ⟨[.d (.slice i64)], []⟩
noncomputable def o104 : List Shape := [⟨[.d (.slice i64)], []⟩]
abbrev R104 : Type := (((List Int) × Unit) × Unit)
abbrev T104 : Type := (List Int) → Option R104
noncomputable def u104 (f : T104) : (a104).C → Option (OutC o104) := fun (x : (((List Int) × Unit) × Unit)) => f x.1.1
noncomputable def F104 (f : T104) : Fun := ⟨true, runR a104 o104 (u104 f)⟩
noncomputable def pa104_58 : Shape := ⟨[.own i64, .d (.slice i64), .d i64, .d i64], []⟩
noncomputable def pw104_58 : List Vm.Way := [⟨.exit 0, [3], ⟨[.own i64], []⟩⟩]
abbrev R104_58 : Type := (((List Int) × Unit) × Unit)
abbrev T104_58 : Type := (List Int) → (List Int) → Int → Int → Option R104_58
noncomputable def u104_58 (f : T104_58) : (pa104_58).C → Option (WayC pw104_58) := fun (x : (((List Int) × (List Int) × Int × Int × Unit) × Unit)) => f x.1.1 x.1.2.1 x.1.2.2.1 x.1.2.2.2.1
noncomputable def b104_58 (k : Nat) (rec : T104_58) : T104_58 := fun out3 t6 t7 t8 =>
  cond (decide (t8 < t7))
    (ix t6 t8 fun e1 =>
    gd (decide ((out3.length + 1) * 8 ≤ room)) <|
    (rec (out3 ++ ([(ibits .xor .i64 e1 1)] : List Int)) t6 t7 (w64 (t8 + 1))).bind fun y2 =>
    some ((y2.1.1, ()), ()))
    (some ((out3, ()), ()))
noncomputable def l104_58 (k : Nat) : Nat → T104_58
  | 0 => fun _ _ _ _ => none
  | j + 1 => b104_58 k (l104_58 k j)
noncomputable def f104 (k : Nat) : T104 := fun a0 =>
  (l104_58 k k [] a0 (a0.length : Int) 0).bind fun y1 =>
  some ((y1.1.1, ()), ())
noncomputable def C104 (k : Nat) : Nat → Fun := mkC []
theorem c104_ok (k : Nat) : ∀ f, SoundFn Try.prog f (C104 k f) := mkC_nil
noncomputable def H104_58 (k : Nat) : Nat → Option Cut := addH noH 58 ⟨runCut (wrC (bodyOf (codeAt 58 (bd Try.f104) 58))) 19 [3, 6, 7, 8] pa104_58 pw104_58 (u104_58 (l104_58 k k))⟩
theorem e104_58 (k : Nat) (rec : T104_58) (x : (pa104_58).C) : roundF (C104 k) tt noH (bodyOf (codeAt 58 (bd Try.f104) 58)) 116 19 [3, 6, 7, 8] pa104_58 pw104_58 (u104_58 rec) x = u104_58 (b104_58 k rec) x := by kernel_rfl
theorem h104_58_ok (k : Nat) : ∀ p S, H104_58 k p = some S → ∀ c, At (bd Try.f104) p c → CutOk Try.prog c S :=
  have hC := c104_ok k
  addLoop hC ttOk (draw_ok hC ttOk mixed) noH_ok (by kernel_rfl) (F := fun j => u104_58 (l104_58 k j)) (fun _ => rfl) (fun j x _ h => (e104_58 k (l104_58 k j) x).trans h) k
theorem e104 (k : Nat) (x : (a104).C) : bodyR (C104 k) tt (H104_58 k) Try.f104 a104 o104 x = u104 (f104 k) x := by kernel_rfl
theorem s104 (k : Nat) : SoundFn Try.prog 104 (F104 (f104 k)) :=
  have hC := c104_ok k
  fnR_sound hC ttOk (draw_ok hC ttOk mixed) Try.func104 (c0 := bd Try.f104) rfl (entry Try.func104 rfl (by decide)) (h104_58_ok k) rfl (fun x _ h => (e104 k x).trans h)
/-! f96v4 fathom/vec.sum (W) -/
noncomputable def a96v4 : Shape := ⟨[.ptr 0, .msl 2 i64, .d (.slice i64), .d i64], [.box [.own T_Gate, .mp 1], .map T_Gate i64, .arr none i64]⟩
noncomputable def o96v4 : List Shape := [⟨[.own i64, .d i64], [.box [.own T_Gate, .mp 1], .map T_Gate i64, .arr none i64]⟩]
abbrev R96v4 : Type := (((List Int) × Int × Unit) × (((List D_Gate) × Unit × Unit) × (List (D_Gate × Int)) × (List Int) × Unit))
abbrev T96v4 : Type := Nat → (List Int) → Int → (List D_Gate) → (List (D_Gate × Int)) → (List Int) → Option R96v4
noncomputable def u96v4 (f : T96v4) : (a96v4).C → Option (OutC o96v4) := fun (x : ((Unit × Nat × (List Int) × Int × Unit) × (((List D_Gate) × Unit × Unit) × (List (D_Gate × Int)) × (List Int) × Unit))) => f x.1.2.1 x.1.2.2.1 x.1.2.2.2.1 x.2.1.1 x.2.2.1 x.2.2.2.1
noncomputable def F96v4 (f : T96v4) : Fun := ⟨false, runW a96v4 o96v4 (u96v4 f)⟩
noncomputable def pa96v4_58 : Shape := ⟨[.ptr 0, .msl 2 i64, .d (.slice i64), .d i64, .own i64, .d i64, .d i64], [.box [.own T_Gate, .mp 1], .map T_Gate i64, .arr none i64]⟩
noncomputable def pw96v4_58 : List Vm.Way := [⟨.exit 0, [3, 10], ⟨[.d i64, .own i64], [.box [.own T_Gate, .mp 1], .map T_Gate i64, .arr none i64]⟩⟩]
abbrev R96v4_58 : Type := ((Int × (List Int) × Unit) × (((List D_Gate) × Unit × Unit) × (List (D_Gate × Int)) × (List Int) × Unit))
abbrev T96v4_58 : Type := Nat → (List Int) → Int → (List Int) → Int → Int → (List D_Gate) → (List (D_Gate × Int)) → (List Int) → Option R96v4_58
noncomputable def u96v4_58 (f : T96v4_58) : (pa96v4_58).C → Option (WayC pw96v4_58) := fun (x : ((Unit × Nat × (List Int) × Int × (List Int) × Int × Int × Unit) × (((List D_Gate) × Unit × Unit) × (List (D_Gate × Int)) × (List Int) × Unit))) => f x.1.2.1 x.1.2.2.1 x.1.2.2.2.1 x.1.2.2.2.2.1 x.1.2.2.2.2.2.1 x.1.2.2.2.2.2.2.1 x.2.1.1 x.2.2.1 x.2.2.2.1
noncomputable def b96v4_58 (k : Nat) (rec : T96v4_58) : T96v4_58 := fun a1 b2 c3 out10 t14 t15 o0 o1 o2 =>
  cond (decide (t15 < t14))
    (gd (decide (0 ≤ t15)) <|
    gd (decide (t15.toNat < a1)) <|
    (o2[(0 + t15.toNat)]?).bind fun e1 =>
    ix b2 t15 fun e2 =>
    (f27 k e1 e2 o0 o1).bind fun y3 =>
    (f27 k y3.1.1 c3 y3.2.1.1 y3.2.2.1).bind fun y4 =>
    gd (decide ((out10.length + 1) * 8 ≤ room)) <|
    gd (decide (0 ≤ t15)) <|
    gd (decide (t15.toNat < a1)) <|
    (o2[(0 + t15.toNat)]?).bind fun e5 =>
    ix b2 t15 fun e6 =>
    (f19 k e5 e6 y4.2.1.1 y4.2.2.1).bind fun y7 =>
    (f19 k y3.1.1 c3 y7.2.1.1 y7.2.2.1).bind fun y8 =>
    (f26 k y7.1.1 y8.1.1 y8.2.1.1 y8.2.2.1).bind fun y9 =>
    (rec a1 b2 y9.1.1 (out10 ++ ([y4.1.1] : List Int)) t14 (w64 (t15 + 1)) y9.2.1.1 y9.2.2.1 o2).bind fun y10 =>
    some ((y10.1.1, y10.1.2.1, ()), ((y10.2.1.1, (), ()), y10.2.2.1, y10.2.2.2.1, ())))
    (some ((c3, out10, ()), ((o0, (), ()), o1, o2, ())))
noncomputable def l96v4_58 (k : Nat) : Nat → T96v4_58
  | 0 => fun _ _ _ _ _ _ _ _ _ => none
  | j + 1 => b96v4_58 k (l96v4_58 k j)
noncomputable def f96v4 (k : Nat) : T96v4 := fun a1 b2 c3 o0 o1 o2 =>
  (l96v4_58 k k a1 b2 c3 [] (a1 : Int) 0 o0 o1 o2).bind fun y1 =>
  some ((y1.1.2.1, y1.1.1, ()), ((y1.2.1.1, (), ()), y1.2.2.1, y1.2.2.2.1, ()))
noncomputable def C96v4 (k : Nat) : Nat → Fun := mkC [(19, (F19 (f19 k))), (26, (F26 (f26 k))), (27, (F27 (f27 k)))]
theorem c96v4_ok (k : Nat) : ∀ f, SoundFn Try.prog f (C96v4 k f) := (mkC_cons (s19 k) (mkC_cons (s26 k) (mkC_cons (s27 k) mkC_nil)))
noncomputable def H96v4_58 (k : Nat) : Nat → Option Cut := addH noH 58 ⟨runCut (wrC (bodyOf (codeAt 58 (bd Try.f96) 58))) 54 [0, 1, 2, 3, 10, 14, 15] pa96v4_58 pw96v4_58 (u96v4_58 (l96v4_58 k k))⟩
theorem e96v4_58 (k : Nat) (rec : T96v4_58) (x : (pa96v4_58).C) : roundF (C96v4 k) tt noH (bodyOf (codeAt 58 (bd Try.f96) 58)) 116 54 [0, 1, 2, 3, 10, 14, 15] pa96v4_58 pw96v4_58 (u96v4_58 rec) x = u96v4_58 (b96v4_58 k rec) x := by kernel_rfl
theorem h96v4_58_ok (k : Nat) : ∀ p S, H96v4_58 k p = some S → ∀ c, At (bd Try.f96) p c → CutOk Try.prog c S :=
  have hC := c96v4_ok k
  addLoop hC ttOk (draw_ok hC ttOk mixed) noH_ok (by kernel_rfl) (F := fun j => u96v4_58 (l96v4_58 k j)) (fun _ => rfl) (fun j x _ h => (e96v4_58 k (l96v4_58 k j) x).trans h) k
theorem e96v4 (k : Nat) (x : (a96v4).C) : bodyW (C96v4 k) tt (H96v4_58 k) Try.f96 a96v4 o96v4 x = u96v4 (f96v4 k) x := by kernel_rfl
theorem s96v4 (k : Nat) : SoundFn Try.prog 96 (F96v4 (f96v4 k)) :=
  have hC := c96v4_ok k
  fnW_sound hC ttOk (draw_ok hC ttOk mixed) Try.func96 (c0 := bd Try.f96) rfl (entry Try.func96 rfl (by decide)) (h96v4_58_ok k) (fun x _ h => (e96v4 k x).trans h)
/-! f103v2 fathom/vec.less (W) -/
noncomputable def a103v2 : Shape := ⟨[.ptr 0, .msl 2 i64, .d (.slice i64)], [.box [.own T_Gate, .mp 1], .map T_Gate i64, .arr none i64]⟩
noncomputable def o103v2 : List Shape := [⟨[.d i64], [.box [.own T_Gate, .mp 1], .map T_Gate i64, .arr none i64]⟩]
abbrev R103v2 : Type := ((Int × Unit) × (((List D_Gate) × Unit × Unit) × (List (D_Gate × Int)) × (List Int) × Unit))
abbrev T103v2 : Type := Nat → (List Int) → (List D_Gate) → (List (D_Gate × Int)) → (List Int) → Option R103v2
noncomputable def u103v2 (f : T103v2) : (a103v2).C → Option (OutC o103v2) := fun (x : ((Unit × Nat × (List Int) × Unit) × (((List D_Gate) × Unit × Unit) × (List (D_Gate × Int)) × (List Int) × Unit))) => f x.1.2.1 x.1.2.2.1 x.2.1.1 x.2.2.1 x.2.2.2.1
noncomputable def F103v2 (f : T103v2) : Fun := ⟨false, runW a103v2 o103v2 (u103v2 f)⟩
noncomputable def f103v2 (k : Nat) : T103v2 := fun a1 b2 o0 o1 o2 =>
  (f104 k b2).bind fun y1 =>
  (f96v4 k a1 y1.1.1 1 o0 o1 o2).bind fun y2 =>
  cond (y2.1.2.1 == (-1))
    (some (((-1), ()), ((y2.2.1.1, (), ()), y2.2.2.1, y2.2.2.2.1, ())))
    (some (((ibits .xor .i64 y2.1.2.1 1), ()), ((y2.2.1.1, (), ()), y2.2.2.1, y2.2.2.2.1, ())))
noncomputable def C103v2 (k : Nat) : Nat → Fun := mkC [(96, (F96v4 (f96v4 k))), (104, (F104 (f104 k)))]
theorem c103v2_ok (k : Nat) : ∀ f, SoundFn Try.prog f (C103v2 k f) := (mkC_cons (s96v4 k) (mkC_cons (s104 k) mkC_nil))
theorem e103v2 (k : Nat) (x : (a103v2).C) : bodyW (C103v2 k) tt noH Try.f103 a103v2 o103v2 x = u103v2 (f103v2 k) x := by kernel_rfl
theorem s103v2 (k : Nat) : SoundFn Try.prog 103 (F103v2 (f103v2 k)) :=
  have hC := c103v2_ok k
  fnW_sound hC ttOk (draw_ok hC ttOk mixed) Try.func103 (c0 := bd Try.f103) rfl (entry Try.func103 rfl (by decide)) noH_ok (fun x _ h => (e103v2 k x).trans h)
/-! f60 fathom/vec.Div (W) -/
noncomputable def a60 : Shape := ⟨[.ptr 0, .d (.slice i64), .d (.slice i64)], [.box [.own T_Gate, .mp 1], .map T_Gate i64]⟩
noncomputable def o60 : List Shape := [⟨[.own i64, .own i64], [.box [.own T_Gate, .mp 1], .map T_Gate i64]⟩, ⟨[.msl 2 i64, .d (.slice i64)], [.box [.own T_Gate, .mp 1], .map T_Gate i64, .arr none i64]⟩, ⟨[.msl 2 i64, .msl 3 i64], [.box [.own T_Gate, .mp 1], .map T_Gate i64, .arr none i64, .arr none i64]⟩]
abbrev R60 : Type := ((((List Int) × (List Int) × Unit) × (((List D_Gate) × Unit × Unit) × (List (D_Gate × Int)) × Unit)) ⊕ (((Nat × (List Int) × Unit) × (((List D_Gate) × Unit × Unit) × (List (D_Gate × Int)) × (List Int) × Unit)) ⊕ ((Nat × Nat × Unit) × (((List D_Gate) × Unit × Unit) × (List (D_Gate × Int)) × (List Int) × (List Int) × Unit))))
abbrev T60 : Type := (List Int) → (List Int) → (List D_Gate) → (List (D_Gate × Int)) → Option R60
noncomputable def u60 (f : T60) : (a60).C → Option (OutC o60) := fun (x : ((Unit × (List Int) × (List Int) × Unit) × (((List D_Gate) × Unit × Unit) × (List (D_Gate × Int)) × Unit))) => f x.1.2.1 x.1.2.2.1 x.2.1.1 x.2.2.1
noncomputable def F60 (f : T60) : Fun := ⟨false, runW a60 o60 (u60 f)⟩
noncomputable def pa60_4182654 : Shape := ⟨[.ptr 0, .msl 2 i64, .msl 3 i64, .d i64, .own i64, .d i64, .d i64], [.box [.own T_Gate, .mp 1], .map T_Gate i64, .arr none i64, .arr none i64]⟩
noncomputable def pw60_4182654 : List Vm.Way := [⟨.exit 2, [], ⟨[], [.box [.own T_Gate, .mp 1], .map T_Gate i64, .arr none i64, .arr none i64]⟩⟩]
abbrev R60_4182654 : Type := (Unit × (((List D_Gate) × Unit × Unit) × (List (D_Gate × Int)) × (List Int) × (List Int) × Unit))
abbrev T60_4182654 : Type := Nat → Nat → Int → (List Int) → Int → Int → (List D_Gate) → (List (D_Gate × Int)) → (List Int) → (List Int) → Option R60_4182654
noncomputable def u60_4182654 (f : T60_4182654) : (pa60_4182654).C → Option (WayC pw60_4182654) := fun (x : ((Unit × Nat × Nat × Int × (List Int) × Int × Int × Unit) × (((List D_Gate) × Unit × Unit) × (List (D_Gate × Int)) × (List Int) × (List Int) × Unit))) => f x.1.2.1 x.1.2.2.1 x.1.2.2.2.1 x.1.2.2.2.2.1 x.1.2.2.2.2.2.1 x.1.2.2.2.2.2.2.1 x.2.1.1 x.2.2.1 x.2.2.2.1 x.2.2.2.2.1
noncomputable def b60_4182654 (k : Nat) (rec : T60_4182654) : T60_4182654 := fun quotient6 rest7 i10 d12 t68 t69 o0 o1 o2 o3 =>
  cond (decide (t69 < t68))
    (gd (decide (0 ≤ i10)) <|
    gd (decide (i10.toNat < quotient6)) <|
    (o2[(0 + i10.toNat)]?).bind fun e1 =>
    ix d12 t69 fun e2 =>
    gd (decide (0 ≤ t69)) <|
    gd (decide (t69.toNat < rest7)) <|
    (o3[(0 + t69.toNat)]?).bind fun e3 =>
    (f28 k e1 e2 e3 o0 o1).bind fun y4 =>
    gd (decide (0 ≤ t69)) <|
    gd (decide (t69.toNat < rest7)) <|
    gd (decide ((0 + t69.toNat) < o3.length)) <|
    (rec quotient6 rest7 i10 d12 t68 (w64 (t69 + 1)) y4.2.1.1 y4.2.2.1 o2 (o3.set (0 + t69.toNat) y4.1.1)).bind fun y5 =>
    some ((), ((y5.2.1.1, (), ()), y5.2.2.1, y5.2.2.2.1, y5.2.2.2.2.1, ())))
    (some ((), ((o0, (), ()), o1, o2, o3, ())))
noncomputable def l60_4182654 (k : Nat) : Nat → T60_4182654
  | 0 => fun _ _ _ _ _ _ _ _ _ _ => none
  | j + 1 => b60_4182654 k (l60_4182654 k j)
noncomputable def pa60_2042s0 : Shape := ⟨[.ptr 0, .d (.slice i64), .msl 2 i64, .own i64, .d i64, .own i64, .d i64], [.box [.own T_Gate, .mp 1], .map T_Gate i64, .arr none i64]⟩
noncomputable def pw60_2042s0 : List Vm.Way := [⟨.exit 0, [6, 7], ⟨[.msl 2 i64, .own i64], [.box [.own T_Gate, .mp 1], .map T_Gate i64, .arr none i64]⟩⟩, ⟨.exit 0, [6, 7], ⟨[.msl 2 i64, .msl 3 i64], [.box [.own T_Gate, .mp 1], .map T_Gate i64, .arr none i64, .arr none i64]⟩⟩, ⟨.ret, [6, 7], ⟨[.own i64, .own i64], [.box [.own T_Gate, .mp 1], .map T_Gate i64, .arr none i64]⟩⟩]
abbrev R60_2042s0 : Type := (((Nat × (List Int) × Unit) × (((List D_Gate) × Unit × Unit) × (List (D_Gate × Int)) × (List Int) × Unit)) ⊕ (((Nat × Nat × Unit) × (((List D_Gate) × Unit × Unit) × (List (D_Gate × Int)) × (List Int) × (List Int) × Unit)) ⊕ (((List Int) × (List Int) × Unit) × (((List D_Gate) × Unit × Unit) × (List (D_Gate × Int)) × (List Int) × Unit))))
abbrev T60_2042s0 : Type := (List Int) → Nat → (List Int) → Int → (List Int) → Int → (List D_Gate) → (List (D_Gate × Int)) → (List Int) → Option R60_2042s0
noncomputable def u60_2042s0 (f : T60_2042s0) : (pa60_2042s0).C → Option (WayC pw60_2042s0) := fun (x : ((Unit × (List Int) × Nat × (List Int) × Int × (List Int) × Int × Unit) × (((List D_Gate) × Unit × Unit) × (List (D_Gate × Int)) × (List Int) × Unit))) => f x.1.2.1 x.1.2.2.1 x.1.2.2.2.1 x.1.2.2.2.2.1 x.1.2.2.2.2.2.1 x.1.2.2.2.2.2.2.1 x.2.1.1 x.2.2.1 x.2.2.2.1
noncomputable def pa60_2042s1 : Shape := ⟨[.ptr 0, .d (.slice i64), .msl 2 i64, .msl 3 i64, .d i64, .own i64, .d i64], [.box [.own T_Gate, .mp 1], .map T_Gate i64, .arr none i64, .arr none i64]⟩
noncomputable def pw60_2042s1 : List Vm.Way := [⟨.exit 0, [6, 7], ⟨[.msl 2 i64, .msl 3 i64], [.box [.own T_Gate, .mp 1], .map T_Gate i64, .arr none i64, .arr none i64]⟩⟩, ⟨.exit 0, [6, 7], ⟨[.msl 2 i64, .msl 4 i64], [.box [.own T_Gate, .mp 1], .map T_Gate i64, .arr none i64, .arr none i64, .arr none i64]⟩⟩, ⟨.ret, [6, 7], ⟨[.own i64, .own i64], [.box [.own T_Gate, .mp 1], .map T_Gate i64, .arr none i64, .arr none i64]⟩⟩]
abbrev R60_2042s1 : Type := (((Nat × Nat × Unit) × (((List D_Gate) × Unit × Unit) × (List (D_Gate × Int)) × (List Int) × (List Int) × Unit)) ⊕ (((Nat × Nat × Unit) × (((List D_Gate) × Unit × Unit) × (List (D_Gate × Int)) × (List Int) × (List Int) × (List Int) × Unit)) ⊕ (((List Int) × (List Int) × Unit) × (((List D_Gate) × Unit × Unit) × (List (D_Gate × Int)) × (List Int) × (List Int) × Unit))))
abbrev T60_2042s1 : Type := (List Int) → Nat → Nat → Int → (List Int) → Int → (List D_Gate) → (List (D_Gate × Int)) → (List Int) → (List Int) → Option R60_2042s1
noncomputable def u60_2042s1 (f : T60_2042s1) : (pa60_2042s1).C → Option (WayC pw60_2042s1) := fun (x : ((Unit × (List Int) × Nat × Nat × Int × (List Int) × Int × Unit) × (((List D_Gate) × Unit × Unit) × (List (D_Gate × Int)) × (List Int) × (List Int) × Unit))) => f x.1.2.1 x.1.2.2.1 x.1.2.2.2.1 x.1.2.2.2.2.1 x.1.2.2.2.2.2.1 x.1.2.2.2.2.2.2.1 x.2.1.1 x.2.2.1 x.2.2.2.1 x.2.2.2.2.1
noncomputable def b60_2042s0 (k : Nat) (rec0 : T60_2042s0) (rec1 : T60_2042s1) : T60_2042s0 := fun a1 quotient6 rest7 w8 wide9 i10 o0 o1 o2 =>
  cond (decide (i10 ≥ 0))
    (ix a1 i10 fun e1 =>
    gd (decide (0 ≤ w8)) <|
    gd (decide (w8.toNat ≤ rest7.length)) <|
    cond ((rest7.take w8.toNat).drop 0).isEmpty
      (none)
      (gd (decide ((1 + ((rest7.take w8.toNat).drop 0).length) * 8 ≤ room)) <|
      (f103v2 k (1 + ((rest7.take w8.toNat).drop 0).length) wide9 o0 o1 (([e1] : List Int) ++ ((rest7.take w8.toNat).drop 0))).bind fun y2 =>
      cond (y2.1.1 == (-1))
        (some (.inr (.inr (([], [], ()), ((y2.2.1.1, (), ()), y2.2.2.1, o2, ())))))
        (gd (decide (0 ≤ i10)) <|
        gd (decide (i10.toNat < quotient6)) <|
        gd (decide ((0 + i10.toNat) < o2.length)) <|
        (f104 k wide9).bind fun y3 =>
        (f96v4 k (1 + ((rest7.take w8.toNat).drop 0).length) y3.1.1 1 y2.2.1.1 y2.2.2.1 y2.2.2.2.1).bind fun y4 =>
        (l60_4182654 k k quotient6 (1 + ((rest7.take w8.toNat).drop 0).length) i10 y4.1.1 ((1 + ((rest7.take w8.toNat).drop 0).length) : Int) 0 y4.2.1.1 y4.2.2.1 (o2.set (0 + i10.toNat) (ibits .xor .i64 y2.1.1 1)) y4.2.2.2.1).bind fun y5 =>
        (rec1 a1 quotient6 (1 + ((rest7.take w8.toNat).drop 0).length) w8 wide9 (w64 (i10 - 1)) y5.2.1.1 y5.2.2.1 y5.2.2.2.1 y5.2.2.2.2.1).bind fun y6 =>
        match y6 with
        | .inl y6_0 =>
          some (.inr (.inl ((y6_0.1.1, y6_0.1.2.1, ()), ((y6_0.2.1.1, (), ()), y6_0.2.2.1, y6_0.2.2.2.1, y6_0.2.2.2.2.1, ()))))
        | .inr y6r =>
          match y6r with
          | .inl y6_1 =>
            some (.inr (.inl ((y6_1.1.1, y6_1.1.2.1, ()), ((y6_1.2.1.1, (), ()), y6_1.2.2.1, y6_1.2.2.2.1, y6_1.2.2.2.2.2.1, ()))))
          | .inr y6_2 =>
            some (.inr (.inr ((y6_2.1.1, y6_2.1.2.1, ()), ((y6_2.2.1.1, (), ()), y6_2.2.2.1, y6_2.2.2.2.1, ())))))))
    (some (.inl ((quotient6, rest7, ()), ((o0, (), ()), o1, o2, ()))))
noncomputable def b60_2042s1 (k : Nat) (rec0 : T60_2042s0) (rec1 : T60_2042s1) : T60_2042s1 := fun a1 quotient6 rest7 w8 wide9 i10 o0 o1 o2 o3 =>
  cond (decide (i10 ≥ 0))
    (ix a1 i10 fun e1 =>
    gd (decide (0 ≤ w8)) <|
    gd (decide (w8.toNat ≤ rest7)) <|
    gd (decide (0 + w8.toNat ≤ o3.length)) <|
    cond ((o3.drop 0).take w8.toNat).isEmpty
      (none)
      (gd (decide ((1 + ((o3.drop 0).take w8.toNat).length) * 8 ≤ room)) <|
      (f103v2 k (1 + ((o3.drop 0).take w8.toNat).length) wide9 o0 o1 (([e1] : List Int) ++ ((o3.drop 0).take w8.toNat))).bind fun y2 =>
      cond (y2.1.1 == (-1))
        (some (.inr (.inr (([], [], ()), ((y2.2.1.1, (), ()), y2.2.2.1, o2, o3, ())))))
        (gd (decide (0 ≤ i10)) <|
        gd (decide (i10.toNat < quotient6)) <|
        gd (decide ((0 + i10.toNat) < o2.length)) <|
        (f104 k wide9).bind fun y3 =>
        (f96v4 k (1 + ((o3.drop 0).take w8.toNat).length) y3.1.1 1 y2.2.1.1 y2.2.2.1 y2.2.2.2.1).bind fun y4 =>
        (l60_4182654 k k quotient6 (1 + ((o3.drop 0).take w8.toNat).length) i10 y4.1.1 ((1 + ((o3.drop 0).take w8.toNat).length) : Int) 0 y4.2.1.1 y4.2.2.1 (o2.set (0 + i10.toNat) (ibits .xor .i64 y2.1.1 1)) y4.2.2.2.1).bind fun y5 =>
        (rec1 a1 quotient6 (1 + ((o3.drop 0).take w8.toNat).length) w8 wide9 (w64 (i10 - 1)) y5.2.1.1 y5.2.2.1 y5.2.2.2.1 y5.2.2.2.2.1).bind fun y6 =>
        match y6 with
        | .inl y6_0 =>
          some (.inr (.inl ((y6_0.1.1, y6_0.1.2.1, ()), ((y6_0.2.1.1, (), ()), y6_0.2.2.1, y6_0.2.2.2.1, o3, y6_0.2.2.2.2.1, ()))))
        | .inr y6r =>
          match y6r with
          | .inl y6_1 =>
            some (.inr (.inl ((y6_1.1.1, y6_1.1.2.1, ()), ((y6_1.2.1.1, (), ()), y6_1.2.2.1, y6_1.2.2.2.1, o3, y6_1.2.2.2.2.2.1, ()))))
          | .inr y6_2 =>
            some (.inr (.inr ((y6_2.1.1, y6_2.1.2.1, ()), ((y6_2.2.1.1, (), ()), y6_2.2.2.1, y6_2.2.2.2.1, o3, ())))))))
    (some (.inl ((quotient6, rest7, ()), ((o0, (), ()), o1, o2, o3, ()))))
noncomputable def L60_2042 (k : Nat) : Nat → T60_2042s0 × T60_2042s1
  | 0 => (fun _ _ _ _ _ _ _ _ _ => none, fun _ _ _ _ _ _ _ _ _ _ => none)
  | j + 1 => (b60_2042s0 k (L60_2042 k j).1 (L60_2042 k j).2, b60_2042s1 k (L60_2042 k j).1 (L60_2042 k j).2)
noncomputable def l60_2042s0 (k : Nat) (j : Nat) : T60_2042s0 := (L60_2042 k j).1
noncomputable def l60_2042s1 (k : Nat) (j : Nat) : T60_2042s1 := (L60_2042 k j).2
theorem l60_2042s0_succ (k : Nat) (j : Nat) : l60_2042s0 k (j + 1) = b60_2042s0 k (l60_2042s0 k j) (l60_2042s1 k j) := rfl
theorem l60_2042s1_succ (k : Nat) (j : Nat) : l60_2042s1 k (j + 1) = b60_2042s1 k (l60_2042s0 k j) (l60_2042s1 k j) := rfl
noncomputable def pa60_510 : Shape := ⟨[.ptr 0, .d (.slice i64), .msl 2 i64, .own i64, .d i64, .own i64], [.box [.own T_Gate, .mp 1], .map T_Gate i64, .arr none i64]⟩
noncomputable def pw60_510 : List Vm.Way := [⟨.normal, [6, 7], ⟨[.msl 2 i64, .own i64], [.box [.own T_Gate, .mp 1], .map T_Gate i64, .arr none i64]⟩⟩, ⟨.normal, [6, 7], ⟨[.msl 2 i64, .msl 3 i64], [.box [.own T_Gate, .mp 1], .map T_Gate i64, .arr none i64, .arr none i64]⟩⟩, ⟨.ret, [6, 7], ⟨[.own i64, .own i64], [.box [.own T_Gate, .mp 1], .map T_Gate i64, .arr none i64]⟩⟩]
abbrev R60_510 : Type := (((Nat × (List Int) × Unit) × (((List D_Gate) × Unit × Unit) × (List (D_Gate × Int)) × (List Int) × Unit)) ⊕ (((Nat × Nat × Unit) × (((List D_Gate) × Unit × Unit) × (List (D_Gate × Int)) × (List Int) × (List Int) × Unit)) ⊕ (((List Int) × (List Int) × Unit) × (((List D_Gate) × Unit × Unit) × (List (D_Gate × Int)) × (List Int) × Unit))))
abbrev T60_510 : Type := (List Int) → Nat → (List Int) → Int → (List Int) → (List D_Gate) → (List (D_Gate × Int)) → (List Int) → Option R60_510
noncomputable def u60_510 (f : T60_510) : (pa60_510).C → Option (WayC pw60_510) := fun (x : ((Unit × (List Int) × Nat × (List Int) × Int × (List Int) × Unit) × (((List D_Gate) × Unit × Unit) × (List (D_Gate × Int)) × (List Int) × Unit))) => f x.1.2.1 x.1.2.2.1 x.1.2.2.2.1 x.1.2.2.2.2.1 x.1.2.2.2.2.2.1 x.2.1.1 x.2.2.1 x.2.2.2.1
noncomputable def l60_510 (k : Nat) : T60_510 := fun a1 quotient6 rest7 w8 wide9 o0 o1 o2 =>
  (l60_2042s0 k k a1 quotient6 rest7 w8 wide9 (w64 (w8 - 1)) o0 o1 o2).bind fun y1 =>
  match y1 with
  | .inl y1_0 =>
    some (.inl ((y1_0.1.1, y1_0.1.2.1, ()), ((y1_0.2.1.1, (), ()), y1_0.2.2.1, y1_0.2.2.2.1, ())))
  | .inr y1r =>
    match y1r with
    | .inl y1_1 =>
      some (.inr (.inl ((y1_1.1.1, y1_1.1.2.1, ()), ((y1_1.2.1.1, (), ()), y1_1.2.2.1, y1_1.2.2.2.1, y1_1.2.2.2.2.1, ()))))
    | .inr y1_2 =>
      some (.inr (.inr ((y1_2.1.1, y1_2.1.2.1, ()), ((y1_2.2.1.1, (), ()), y1_2.2.2.1, y1_2.2.2.2.1, ()))))
noncomputable def pa60_254 : Shape := ⟨[.d i64], []⟩
noncomputable def pw60_254 : List Vm.Way := [⟨.normal, [6], ⟨[.msl 0 i64], [.arr none i64]⟩⟩]
abbrev R60_254 : Type := ((Nat × Unit) × ((List Int) × Unit))
abbrev T60_254 : Type := Int → Option R60_254
noncomputable def u60_254 (f : T60_254) : (pa60_254).C → Option (WayC pw60_254) := fun (x : ((Int × Unit) × Unit)) => f x.1.1
noncomputable def l60_254 (k : Nat) : T60_254 := fun w8 =>
  (f37o k 0 w8).bind fun y1 =>
  some ((y1.1.1, ()), (y1.2.1, ()))
noncomputable def f60 (k : Nat) : T60 := fun a1 b2 o0 o1 =>
  (f95 k a1 b2 o0 o1).bind fun y1 =>
  cond (!y1.1.1)
    (some (.inl (([], [], ()), ((o0, (), ()), o1, ()))))
    ((f102v4 k b2).bind fun y2 =>
    gd (decide ((y2.1.1.length + 1) * 8 ≤ room)) <|
    (f37v2 k 0 (a1.length : Int)).bind fun y3 =>
    gd (decide ((y3.1.1.length + 1) * 8 ≤ room)) <|
    (l60_254 k (a1.length : Int)).bind fun y4 =>
    (l60_510 k a1 y4.1.1 (y3.1.1 ++ ([0] : List Int)) (a1.length : Int) (y2.1.1 ++ ([0] : List Int)) o0 o1 y4.2.1).bind fun y5 =>
    match y5 with
    | .inl y5_0 =>
      (f92v2 k y5_0.1.1 y5_0.2.2.2.1).bind fun y6 =>
      match y6 with
      | .inl y6_0 =>
        some (.inl (([], [], ()), ((y5_0.2.1.1, (), ()), y5_0.2.2.1, ())))
      | .inr y6_1 =>
        cond (decide (y6_1.1.1 = 0))
          (none)
          (gd (decide (0 ≤ (a1.length : Int))) <|
          gd (decide ((a1.length : Int).toNat ≤ y5_0.1.2.1.length)) <|
          (f92v3 k ((y5_0.1.2.1.take (a1.length : Int).toNat).drop 0)).bind fun y7 =>
          match y7 with
          | .inl y7_0 =>
            some (.inl (([], [], ()), ((y5_0.2.1.1, (), ()), y5_0.2.2.1, ())))
          | .inr y7_1 =>
            cond y7_1.1.1.isEmpty
              (none)
              (gd (decide (0 ≤ (a1.length : Int))) <|
              gd (decide ((a1.length : Int).toNat ≤ y5_0.1.2.1.length)) <|
              some (.inr (.inl ((y5_0.1.1, ((y5_0.1.2.1.take (a1.length : Int).toNat).drop 0), ()), ((y5_0.2.1.1, (), ()), y5_0.2.2.1, y6_1.2.1, ()))))))
    | .inr y5r =>
      match y5r with
      | .inl y5_1 =>
        (f92v2 k y5_1.1.1 y5_1.2.2.2.1).bind fun y8 =>
        match y8 with
        | .inl y8_0 =>
          some (.inl (([], [], ()), ((y5_1.2.1.1, (), ()), y5_1.2.2.1, ())))
        | .inr y8_1 =>
          cond (decide (y8_1.1.1 = 0))
            (none)
            (gd (decide (0 ≤ (a1.length : Int))) <|
            gd (decide ((a1.length : Int).toNat ≤ y5_1.1.2.1)) <|
            (f92v2 k (a1.length : Int).toNat y5_1.2.2.2.2.1).bind fun y9 =>
            match y9 with
            | .inl y9_0 =>
              some (.inl (([], [], ()), ((y5_1.2.1.1, (), ()), y5_1.2.2.1, ())))
            | .inr y9_1 =>
              cond (decide (y9_1.1.1 = 0))
                (none)
                (gd (decide (0 ≤ (a1.length : Int))) <|
                gd (decide ((a1.length : Int).toNat ≤ y5_1.1.2.1)) <|
                some (.inr (.inr ((y5_1.1.1, (a1.length : Int).toNat, ()), ((y5_1.2.1.1, (), ()), y5_1.2.2.1, y8_1.2.1, y9_1.2.1, ()))))))
      | .inr y5_2 =>
        some (.inl ((y5_2.1.1, y5_2.1.2.1, ()), ((y5_2.2.1.1, (), ()), y5_2.2.2.1, ()))))
noncomputable def C60 (k : Nat) : Nat → Fun := mkC [(2000000, ownF), (28, (F28 (f28 k))), (37, (F37v2 (f37v2 k))), (1000092, ownF), (92, (altF a92v2 true (F92v2 (f92v2 k)) (F92v3 (f92v3 k)))), (95, (F95 (f95 k))), (96, (F96v4 (f96v4 k))), (102, (F102v4 (f102v4 k))), (103, (F103v2 (f103v2 k))), (104, (F104 (f104 k)))]
theorem c60_ok (k : Nat) : ∀ f, SoundFn Try.prog f (C60 k f) := (mkC_cons ownF_ok (mkC_cons (s28 k) (mkC_cons (s37v2 k) (mkC_cons ownF_ok (mkC_cons (altF_ok (s92v2 k) (s92v3 k) rfl) (mkC_cons (s95 k) (mkC_cons (s96v4 k) (mkC_cons (s102v4 k) (mkC_cons (s103v2 k) (mkC_cons (s104 k) mkC_nil))))))))))
noncomputable def H60_4182654 (k : Nat) : Nat → Option Cut := addH noH 4182654 ⟨runCut (wrC (bodyOf (codeAt 4182654 (bd Try.f60) 4182654))) 104 [0, 6, 7, 10, 12, 68, 69] pa60_4182654 pw60_4182654 (u60_4182654 (l60_4182654 k k))⟩
theorem e60_4182654 (k : Nat) (rec : T60_4182654) (x : (pa60_4182654).C) : roundF (C60 k) tt noH (bodyOf (codeAt 4182654 (bd Try.f60) 4182654)) 8365308 104 [0, 6, 7, 10, 12, 68, 69] pa60_4182654 pw60_4182654 (u60_4182654 rec) x = u60_4182654 (b60_4182654 k rec) x := by kernel_rfl
theorem h60_4182654_ok (k : Nat) : ∀ p S, H60_4182654 k p = some S → ∀ c, At (bd Try.f60) p c → CutOk Try.prog c S :=
  have hC := c60_ok k
  addLoop hC ttOk (draw_ok hC ttOk mixed) noH_ok (by kernel_rfl) (F := fun j => u60_4182654 (l60_4182654 k j)) (fun _ => rfl) (fun j x _ h => (e60_4182654 k (l60_4182654 k j) x).trans h) k
noncomputable def X60_2042 (k : Nat) (r_0 : T60_2042s0) (r_1 : T60_2042s1) : Cut := (altCut [0, 1, 6, 7, 8, 9, 10] pa60_2042s0 ⟨runCut (wrC (bodyOf (codeAt 2042 (bd Try.f60) 2042))) 104 [0, 1, 6, 7, 8, 9, 10] pa60_2042s0 pw60_2042s0 (u60_2042s0 r_0)⟩ ⟨runCut (wrC (bodyOf (codeAt 2042 (bd Try.f60) 2042))) 104 [0, 1, 6, 7, 8, 9, 10] pa60_2042s1 pw60_2042s1 (u60_2042s1 r_1)⟩)
noncomputable def H60_2042 (k : Nat) : Nat → Option Cut := addH (H60_4182654 k) 2042 (X60_2042 k (l60_2042s0 k k) (l60_2042s1 k k))
theorem e60_2042s0 (k : Nat) (r_0 : T60_2042s0) (r_1 : T60_2042s1) (x : (pa60_2042s0).C) : roundS (C60 k) tt (H60_4182654 k) (bodyOf (codeAt 2042 (bd Try.f60) 2042)) 4084 104 [0, 1, 6, 7, 8, 9, 10] pa60_2042s0 pw60_2042s0 (X60_2042 k r_0 r_1) x = u60_2042s0 (b60_2042s0 k r_0 r_1) x := by kernel_rfl
theorem e60_2042s1 (k : Nat) (r_0 : T60_2042s0) (r_1 : T60_2042s1) (x : (pa60_2042s1).C) : roundS (C60 k) tt (H60_4182654 k) (bodyOf (codeAt 2042 (bd Try.f60) 2042)) 4084 104 [0, 1, 6, 7, 8, 9, 10] pa60_2042s1 pw60_2042s1 (X60_2042 k r_0 r_1) x = u60_2042s1 (b60_2042s1 k r_0 r_1) x := by kernel_rfl
theorem h60_2042_ok (k : Nat) : ∀ p S, H60_2042 k p = some S → ∀ c, At (bd Try.f60) p c → CutOk Try.prog c S :=
  have hC := c60_ok k
  addLoops (h60_4182654_ok k) (by kernel_rfl) (S := fun j => X60_2042 k (l60_2042s0 k j) (l60_2042s1 k j)) (fun hb => ⟨(rounds_alt (rounds_none (fun _ => rfl)) (rounds_none (fun _ => rfl))), fun j ih => (rounds_alt (rounds_step hC ttOk (draw_ok hC ttOk mixed) (h60_4182654_ok k) hb ih (fun x _ h => (e60_2042s0 k (l60_2042s0 k j) (l60_2042s1 k j) x).trans h)) (rounds_step hC ttOk (draw_ok hC ttOk mixed) (h60_4182654_ok k) hb ih (fun x _ h => (e60_2042s1 k (l60_2042s0 k j) (l60_2042s1 k j) x).trans h)))⟩) k
noncomputable def H60_510 (k : Nat) : Nat → Option Cut := addH (H60_2042 k) 510 ⟨runCut (wrC (codeAt 510 (bd Try.f60) 510)) 104 [0, 1, 6, 7, 8, 9] pa60_510 pw60_510 (u60_510 (l60_510 k))⟩
theorem e60_510 (k : Nat) (x : (pa60_510).C) : pieceF (C60 k) tt (H60_2042 k) (codeAt 510 (bd Try.f60) 510) 510 104 [0, 1, 6, 7, 8, 9] pa60_510 pw60_510 x = u60_510 (l60_510 k) x := by kernel_rfl
theorem h60_510_ok (k : Nat) : ∀ p S, H60_510 k p = some S → ∀ c, At (bd Try.f60) p c → CutOk Try.prog c S :=
  have hC := c60_ok k
  addPiece hC ttOk (draw_ok hC ttOk mixed) (h60_2042_ok k) (fun x _ h => (e60_510 k x).trans h)
noncomputable def C60_254 (k : Nat) : Nat → Fun := mkC [(2000000, ownF), (37, (F37o (f37o k)))]
theorem c60_254_ok (k : Nat) : ∀ f, SoundFn Try.prog f (C60_254 k f) := (mkC_cons ownF_ok (mkC_cons (s37o k) mkC_nil))
noncomputable def H60_254 (k : Nat) : Nat → Option Cut := addH (H60_510 k) 254 ⟨runCut (wrC (codeAt 254 (bd Try.f60) 254)) 104 [8] pa60_254 pw60_254 (u60_254 (l60_254 k))⟩
theorem e60_254 (k : Nat) (x : (pa60_254).C) : pieceF (C60_254 k) tt (H60_510 k) (codeAt 254 (bd Try.f60) 254) 254 104 [8] pa60_254 pw60_254 x = u60_254 (l60_254 k) x := by kernel_rfl
theorem h60_254_ok (k : Nat) : ∀ p S, H60_254 k p = some S → ∀ c, At (bd Try.f60) p c → CutOk Try.prog c S :=
  have hC := c60_254_ok k
  addPiece hC ttOk (draw_ok hC ttOk mixed) (h60_510_ok k) (fun x _ h => (e60_254 k x).trans h)
theorem e60 (k : Nat) (x : (a60).C) : bodyW (C60 k) tt (H60_254 k) Try.f60 a60 o60 x = u60 (f60 k) x := by kernel_rfl
theorem s60 (k : Nat) : SoundFn Try.prog 60 (F60 (f60 k)) :=
  have hC := c60_ok k
  fnW_sound hC ttOk (draw_ok hC ttOk mixed) Try.func60 (c0 := bd Try.f60) rfl (entry Try.func60 rfl (by decide)) (h60_254_ok k) (fun x _ h => (e60 k x).trans h)
/-! f49v2 fathom/vec.Mul (W) -/
noncomputable def a49v2 : Shape := ⟨[.ptr 0, .msl 2 i64, .d (.slice i64)], [.box [.own T_Gate, .mp 1], .map T_Gate i64, .arr none i64]⟩
noncomputable def o49v2 : List Shape := [⟨[.own i64], [.box [.own T_Gate, .mp 1], .map T_Gate i64, .arr none i64]⟩]
abbrev R49v2 : Type := (((List Int) × Unit) × (((List D_Gate) × Unit × Unit) × (List (D_Gate × Int)) × (List Int) × Unit))
abbrev T49v2 : Type := Nat → (List Int) → (List D_Gate) → (List (D_Gate × Int)) → (List Int) → Option R49v2
noncomputable def u49v2 (f : T49v2) : (a49v2).C → Option (OutC o49v2) := fun (x : ((Unit × Nat × (List Int) × Unit) × (((List D_Gate) × Unit × Unit) × (List (D_Gate × Int)) × (List Int) × Unit))) => f x.1.2.1 x.1.2.2.1 x.2.1.1 x.2.2.1 x.2.2.2.1
noncomputable def F49v2 (f : T49v2) : Fun := ⟨false, runW a49v2 o49v2 (u49v2 f)⟩
noncomputable def pa49v2_125338 : Shape := ⟨[.ptr 0, .msl 2 i64, .d (.slice i64), .d i64, .msl 3 i64, .d i64], [.box [.own T_Gate, .mp 1], .map T_Gate i64, .arr none i64, .arr none i64]⟩
noncomputable def pw49v2_125338 : List Vm.Way := [⟨.exit 2, [], ⟨[], [.box [.own T_Gate, .mp 1], .map T_Gate i64, .arr none i64, .arr none i64]⟩⟩]
abbrev R49v2_125338 : Type := (Unit × (((List D_Gate) × Unit × Unit) × (List (D_Gate × Int)) × (List Int) × (List Int) × Unit))
abbrev T49v2_125338 : Type := Nat → (List Int) → Int → Nat → Int → (List D_Gate) → (List (D_Gate × Int)) → (List Int) → (List Int) → Option R49v2_125338
noncomputable def u49v2_125338 (f : T49v2_125338) : (pa49v2_125338).C → Option (WayC pw49v2_125338) := fun (x : ((Unit × Nat × (List Int) × Int × Nat × Int × Unit) × (((List D_Gate) × Unit × Unit) × (List (D_Gate × Int)) × (List Int) × (List Int) × Unit))) => f x.1.2.1 x.1.2.2.1 x.1.2.2.2.1 x.1.2.2.2.2.1 x.1.2.2.2.2.2.1 x.2.1.1 x.2.2.1 x.2.2.2.1 x.2.2.2.2.1
noncomputable def b49v2_125338 (k : Nat) (rec : T49v2_125338) : T49v2_125338 := fun a1 b2 i8 row9 k10 o0 o1 o2 o3 =>
  cond (decide (k10 < (a1 : Int)))
    (gd (decide (0 ≤ (w64 (k10 - i8)))) <|
    gd (decide ((w64 (k10 - i8)).toNat < a1)) <|
    (o2[(0 + (w64 (k10 - i8)).toNat)]?).bind fun e1 =>
    ix b2 i8 fun e2 =>
    (f19 k e1 e2 o0 o1).bind fun y3 =>
    gd (decide (0 ≤ k10)) <|
    gd (decide (k10.toNat < row9)) <|
    gd (decide ((0 + k10.toNat) < o3.length)) <|
    (rec a1 b2 i8 row9 (w64 (k10 + 1)) y3.2.1.1 y3.2.2.1 o2 (o3.set (0 + k10.toNat) y3.1.1)).bind fun y4 =>
    some ((), ((y4.2.1.1, (), ()), y4.2.2.1, y4.2.2.2.1, y4.2.2.2.2.1, ())))
    (some ((), ((o0, (), ()), o1, o2, o3, ())))
noncomputable def l49v2_125338 (k : Nat) : Nat → T49v2_125338
  | 0 => fun _ _ _ _ _ _ _ _ _ => none
  | j + 1 => b49v2_125338 k (l49v2_125338 k j)
noncomputable def pa49v2_15666 : Shape := ⟨[.msl 0 i64], [.arr none i64]⟩
noncomputable def pw49v2_15666 : List Vm.Way := [⟨.normal, [9], ⟨[.msl 1 i64], [.arr none i64, .arr none i64]⟩⟩]
abbrev R49v2_15666 : Type := ((Nat × Unit) × ((List Int) × (List Int) × Unit))
abbrev T49v2_15666 : Type := Nat → (List Int) → Option R49v2_15666
noncomputable def u49v2_15666 (f : T49v2_15666) : (pa49v2_15666).C → Option (WayC pw49v2_15666) := fun (x : ((Nat × Unit) × ((List Int) × Unit))) => f x.1.1 x.2.1
noncomputable def l49v2_15666 (k : Nat) : T49v2_15666 := fun a1 o0 =>
  (f37o k 0 (a1 : Int)).bind fun y1 =>
  some ((y1.1.1, ()), (o0, y1.2.1, ()))
noncomputable def pa49v2_122 : Shape := ⟨[.ptr 0, .msl 2 i64, .d (.slice i64), .own i64, .d i64, .d i64], [.box [.own T_Gate, .mp 1], .map T_Gate i64, .arr none i64]⟩
noncomputable def pw49v2_122 : List Vm.Way := [⟨.exit 0, [7], ⟨[.own i64], [.box [.own T_Gate, .mp 1], .map T_Gate i64, .arr none i64]⟩⟩, ⟨.ret, [6], ⟨[.own i64], [.box [.own T_Gate, .mp 1], .map T_Gate i64, .arr none i64]⟩⟩]
abbrev R49v2_122 : Type := ((((List Int) × Unit) × (((List D_Gate) × Unit × Unit) × (List (D_Gate × Int)) × (List Int) × Unit)) ⊕ (((List Int) × Unit) × (((List D_Gate) × Unit × Unit) × (List (D_Gate × Int)) × (List Int) × Unit)))
abbrev T49v2_122 : Type := Nat → (List Int) → (List Int) → Int → Int → (List D_Gate) → (List (D_Gate × Int)) → (List Int) → Option R49v2_122
noncomputable def u49v2_122 (f : T49v2_122) : (pa49v2_122).C → Option (WayC pw49v2_122) := fun (x : ((Unit × Nat × (List Int) × (List Int) × Int × Int × Unit) × (((List D_Gate) × Unit × Unit) × (List (D_Gate × Int)) × (List Int) × Unit))) => f x.1.2.1 x.1.2.2.1 x.1.2.2.2.1 x.1.2.2.2.2.1 x.1.2.2.2.2.2.1 x.2.1.1 x.2.2.1 x.2.2.2.1
noncomputable def b49v2_122 (k : Nat) (rec : T49v2_122) : T49v2_122 := fun a1 b2 out7 t20 t21 o0 o1 o2 =>
  cond (decide (t21 < t20))
    ((l49v2_15666 k a1 o2).bind fun y1 =>
    (l49v2_125338 k k a1 b2 t21 y1.1.1 t21 o0 o1 y1.2.1 y1.2.2.1).bind fun y2 =>
    (f46v3 k out7 y1.1.1 y2.2.1.1 y2.2.2.1 y2.2.2.2.2.1).bind fun y3 =>
    match y3 with
    | .inl y3_0 =>
      some (.inr (([], ()), ((y3_0.2.1.1, (), ()), y3_0.2.2.1, y2.2.2.2.1, ())))
    | .inr y3_1 =>
      cond y3_1.1.1.isEmpty
        (none)
        ((rec a1 b2 y3_1.1.1 t20 (w64 (t21 + 1)) y3_1.2.1.1 y3_1.2.2.1 y2.2.2.2.1).bind fun y4 =>
        match y4 with
        | .inl y4_0 =>
          some (.inl ((y4_0.1.1, ()), ((y4_0.2.1.1, (), ()), y4_0.2.2.1, y4_0.2.2.2.1, ())))
        | .inr y4_1 =>
          some (.inr ((y4_1.1.1, ()), ((y4_1.2.1.1, (), ()), y4_1.2.2.1, y4_1.2.2.2.1, ())))))
    (some (.inl ((out7, ()), ((o0, (), ()), o1, o2, ()))))
noncomputable def l49v2_122 (k : Nat) : Nat → T49v2_122
  | 0 => fun _ _ _ _ _ _ _ _ => none
  | j + 1 => b49v2_122 k (l49v2_122 k j)
noncomputable def f49v2 (k : Nat) : T49v2 := fun a1 b2 o0 o1 o2 =>
  gd (decide (0 + a1 ≤ o2.length)) <|
  (f95 k ((o2.drop 0).take a1) b2 o0 o1).bind fun y1 =>
  cond (!y1.1.1)
    (some (([], ()), ((o0, (), ()), o1, o2, ())))
    ((f37v2 k 0 (a1 : Int)).bind fun y2 =>
    (l49v2_122 k k a1 b2 y2.1.1 (a1 : Int) 0 o0 o1 o2).bind fun y3 =>
    match y3 with
    | .inl y3_0 =>
      some ((y3_0.1.1, ()), ((y3_0.2.1.1, (), ()), y3_0.2.2.1, y3_0.2.2.2.1, ()))
    | .inr y3_1 =>
      some ((y3_1.1.1, ()), ((y3_1.2.1.1, (), ()), y3_1.2.2.1, y3_1.2.2.2.1, ())))
noncomputable def C49v2 (k : Nat) : Nat → Fun := mkC [(19, (F19 (f19 k))), (37, (F37v2 (f37v2 k))), (46, (F46v3 (f46v3 k))), (95, (F95 (f95 k)))]
theorem c49v2_ok (k : Nat) : ∀ f, SoundFn Try.prog f (C49v2 k f) := (mkC_cons (s19 k) (mkC_cons (s37v2 k) (mkC_cons (s46v3 k) (mkC_cons (s95 k) mkC_nil))))
noncomputable def H49v2_125338 (k : Nat) : Nat → Option Cut := addH noH 125338 ⟨runCut (wrC (bodyOf (codeAt 125338 (bd Try.f49) 125338))) 57 [0, 1, 2, 8, 9, 10] pa49v2_125338 pw49v2_125338 (u49v2_125338 (l49v2_125338 k k))⟩
theorem e49v2_125338 (k : Nat) (rec : T49v2_125338) (x : (pa49v2_125338).C) : roundF (C49v2 k) tt noH (bodyOf (codeAt 125338 (bd Try.f49) 125338)) 250676 57 [0, 1, 2, 8, 9, 10] pa49v2_125338 pw49v2_125338 (u49v2_125338 rec) x = u49v2_125338 (b49v2_125338 k rec) x := by kernel_rfl
theorem h49v2_125338_ok (k : Nat) : ∀ p S, H49v2_125338 k p = some S → ∀ c, At (bd Try.f49) p c → CutOk Try.prog c S :=
  have hC := c49v2_ok k
  addLoop hC ttOk (draw_ok hC ttOk mixed) noH_ok (by kernel_rfl) (F := fun j => u49v2_125338 (l49v2_125338 k j)) (fun _ => rfl) (fun j x _ h => (e49v2_125338 k (l49v2_125338 k j) x).trans h) k
noncomputable def C49v2_15666 (k : Nat) : Nat → Fun := mkC [(37, (F37o (f37o k)))]
theorem c49v2_15666_ok (k : Nat) : ∀ f, SoundFn Try.prog f (C49v2_15666 k f) := (mkC_cons (s37o k) mkC_nil)
noncomputable def H49v2_15666 (k : Nat) : Nat → Option Cut := addH (H49v2_125338 k) 15666 ⟨runCut (wrC (codeAt 15666 (bd Try.f49) 15666)) 57 [1] pa49v2_15666 pw49v2_15666 (u49v2_15666 (l49v2_15666 k))⟩
theorem e49v2_15666 (k : Nat) (x : (pa49v2_15666).C) : pieceF (C49v2_15666 k) tt (H49v2_125338 k) (codeAt 15666 (bd Try.f49) 15666) 15666 57 [1] pa49v2_15666 pw49v2_15666 x = u49v2_15666 (l49v2_15666 k) x := by kernel_rfl
theorem h49v2_15666_ok (k : Nat) : ∀ p S, H49v2_15666 k p = some S → ∀ c, At (bd Try.f49) p c → CutOk Try.prog c S :=
  have hC := c49v2_15666_ok k
  addPiece hC ttOk (draw_ok hC ttOk mixed) (h49v2_125338_ok k) (fun x _ h => (e49v2_15666 k x).trans h)
noncomputable def H49v2_122 (k : Nat) : Nat → Option Cut := addH (H49v2_15666 k) 122 ⟨runCut (wrC (bodyOf (codeAt 122 (bd Try.f49) 122))) 57 [0, 1, 2, 7, 20, 21] pa49v2_122 pw49v2_122 (u49v2_122 (l49v2_122 k k))⟩
theorem e49v2_122 (k : Nat) (rec : T49v2_122) (x : (pa49v2_122).C) : roundF (C49v2 k) tt (H49v2_15666 k) (bodyOf (codeAt 122 (bd Try.f49) 122)) 244 57 [0, 1, 2, 7, 20, 21] pa49v2_122 pw49v2_122 (u49v2_122 rec) x = u49v2_122 (b49v2_122 k rec) x := by kernel_rfl
theorem h49v2_122_ok (k : Nat) : ∀ p S, H49v2_122 k p = some S → ∀ c, At (bd Try.f49) p c → CutOk Try.prog c S :=
  have hC := c49v2_ok k
  addLoop hC ttOk (draw_ok hC ttOk mixed) (h49v2_15666_ok k) (by kernel_rfl) (F := fun j => u49v2_122 (l49v2_122 k j)) (fun _ => rfl) (fun j x _ h => (e49v2_122 k (l49v2_122 k j) x).trans h) k
theorem e49v2 (k : Nat) (x : (a49v2).C) : bodyW (C49v2 k) tt (H49v2_122 k) Try.f49 a49v2 o49v2 x = u49v2 (f49v2 k) x := by kernel_rfl
theorem s49v2 (k : Nat) : SoundFn Try.prog 49 (F49v2 (f49v2 k)) :=
  have hC := c49v2_ok k
  fnW_sound hC ttOk (draw_ok hC ttOk mixed) Try.func49 (c0 := bd Try.f49) rfl (entry Try.func49 rfl (by decide)) (h49v2_122_ok k) (fun x _ h => (e49v2 k x).trans h)
/-! f11 fathom/fathomlaw16.VecDivides (R) -/
noncomputable def a11 : Shape := ⟨[.d T_Two, .d (.int .u8)], []⟩
noncomputable def o11 : List Shape := [⟨[.d .bool], []⟩]
abbrev R11 : Type := ((Bool × Unit) × Unit)
abbrev T11 : Type := D_Two → Int → Option R11
noncomputable def u11 (f : T11) : (a11).C → Option (OutC o11) := fun (x : ((D_Two × Int × Unit) × Unit)) => f x.1.1 x.1.2.1
noncomputable def F11 (f : T11) : Fun := ⟨true, runR a11 o11 (u11 f)⟩
noncomputable def pa11_126s0 : Shape := ⟨[.ptr 0, .own i64, .own i64, .own i64], [.box [.own T_Gate, .mp 1], .map T_Gate i64]⟩
noncomputable def pw11_126s0 : List Vm.Way := [⟨.normal, [12, 13, 14], ⟨[.own i64, .own i64, .own i64], [.box [.own T_Gate, .mp 1], .map T_Gate i64]⟩⟩]
abbrev R11_126s0 : Type := (((List Int) × (List Int) × (List Int) × Unit) × (((List D_Gate) × Unit × Unit) × (List (D_Gate × Int)) × Unit))
abbrev T11_126s0 : Type := (List Int) → (List Int) → (List Int) → (List D_Gate) → (List (D_Gate × Int)) → Option R11_126s0
noncomputable def u11_126s0 (f : T11_126s0) : (pa11_126s0).C → Option (WayC pw11_126s0) := fun (x : ((Unit × (List Int) × (List Int) × (List Int) × Unit) × (((List D_Gate) × Unit × Unit) × (List (D_Gate × Int)) × Unit))) => f x.1.2.1 x.1.2.2.1 x.1.2.2.2.1 x.2.1.1 x.2.2.1
noncomputable def pa11_126s1 : Shape := ⟨[.ptr 0, .own i64, .msl 2 i64, .d (.slice i64)], [.box [.own T_Gate, .mp 1], .map T_Gate i64, .arr none i64]⟩
noncomputable def pw11_126s1 : List Vm.Way := [⟨.normal, [14], ⟨[.own i64], [.box [.own T_Gate, .mp 1], .map T_Gate i64, .arr none i64]⟩⟩]
abbrev R11_126s1 : Type := (((List Int) × Unit) × (((List D_Gate) × Unit × Unit) × (List (D_Gate × Int)) × (List Int) × Unit))
abbrev T11_126s1 : Type := (List Int) → Nat → (List Int) → (List D_Gate) → (List (D_Gate × Int)) → (List Int) → Option R11_126s1
noncomputable def u11_126s1 (f : T11_126s1) : (pa11_126s1).C → Option (WayC pw11_126s1) := fun (x : ((Unit × (List Int) × Nat × (List Int) × Unit) × (((List D_Gate) × Unit × Unit) × (List (D_Gate × Int)) × (List Int) × Unit))) => f x.1.2.1 x.1.2.2.1 x.1.2.2.2.1 x.2.1.1 x.2.2.1 x.2.2.2.1
noncomputable def pa11_126s2 : Shape := ⟨[.ptr 0, .own i64, .msl 2 i64, .msl 3 i64], [.box [.own T_Gate, .mp 1], .map T_Gate i64, .arr none i64, .arr none i64]⟩
noncomputable def pw11_126s2 : List Vm.Way := [⟨.normal, [14], ⟨[.own i64], [.box [.own T_Gate, .mp 1], .map T_Gate i64, .arr none i64, .arr none i64]⟩⟩]
abbrev R11_126s2 : Type := (((List Int) × Unit) × (((List D_Gate) × Unit × Unit) × (List (D_Gate × Int)) × (List Int) × (List Int) × Unit))
abbrev T11_126s2 : Type := (List Int) → Nat → Nat → (List D_Gate) → (List (D_Gate × Int)) → (List Int) → (List Int) → Option R11_126s2
noncomputable def u11_126s2 (f : T11_126s2) : (pa11_126s2).C → Option (WayC pw11_126s2) := fun (x : ((Unit × (List Int) × Nat × Nat × Unit) × (((List D_Gate) × Unit × Unit) × (List (D_Gate × Int)) × (List Int) × (List Int) × Unit))) => f x.1.2.1 x.1.2.2.1 x.1.2.2.2.1 x.2.1.1 x.2.2.1 x.2.2.2.1 x.2.2.2.2.1
noncomputable def l11_126s0 (k : Nat) : T11_126s0 := fun b8 q12 r13 o0 o1 =>
  (f49 k q12 b8 o0 o1).bind fun y1 =>
  (f46 k y1.1.1 r13 y1.2.1.1 y1.2.2.1).bind fun y2 =>
  match y2 with
  | .inl y2_0 =>
    some ((q12, r13, [], ()), ((y2_0.2.1.1, (), ()), y2_0.2.2.1, ()))
  | .inr y2_1 =>
    some ((q12, r13, y2_1.1.1, ()), ((y2_1.2.1.1, (), ()), y2_1.2.2.1, ()))
noncomputable def l11_126s1 (k : Nat) : T11_126s1 := fun b8 q12 r13 o0 o1 o2 =>
  (f49v2 k q12 b8 o0 o1 o2).bind fun y1 =>
  (f46 k y1.1.1 r13 y1.2.1.1 y1.2.2.1).bind fun y2 =>
  match y2 with
  | .inl y2_0 =>
    some (([], ()), ((y2_0.2.1.1, (), ()), y2_0.2.2.1, y1.2.2.2.1, ()))
  | .inr y2_1 =>
    some ((y2_1.1.1, ()), ((y2_1.2.1.1, (), ()), y2_1.2.2.1, y1.2.2.2.1, ()))
noncomputable def l11_126s2 (k : Nat) : T11_126s2 := fun b8 q12 r13 o0 o1 o2 o3 =>
  (f49v2 k q12 b8 o0 o1 o2).bind fun y1 =>
  (f46v3 k y1.1.1 r13 y1.2.1.1 y1.2.2.1 o3).bind fun y2 =>
  match y2 with
  | .inl y2_0 =>
    some (([], ()), ((y2_0.2.1.1, (), ()), y2_0.2.2.1, y1.2.2.2.1, y2_0.2.2.2.1, ()))
  | .inr y2_1 =>
    some ((y2_1.1.1, ()), ((y2_1.2.1.1, (), ()), y2_1.2.2.1, y1.2.2.2.1, y2_1.2.2.2.1, ()))
noncomputable def pa11_62 : Shape := ⟨[.ptr 0, .own i64, .own i64], [.box [.own T_Gate, .mp 1], .map T_Gate i64]⟩
noncomputable def pw11_62 : List Vm.Way := [⟨.normal, [8, 12, 13], ⟨[.own i64, .own i64, .own i64], [.box [.own T_Gate, .mp 1], .map T_Gate i64]⟩⟩, ⟨.normal, [8, 12, 13], ⟨[.own i64, .msl 2 i64, .d (.slice i64)], [.box [.own T_Gate, .mp 1], .map T_Gate i64, .arr none i64]⟩⟩, ⟨.normal, [8, 12, 13], ⟨[.own i64, .msl 2 i64, .msl 3 i64], [.box [.own T_Gate, .mp 1], .map T_Gate i64, .arr none i64, .arr none i64]⟩⟩]
abbrev R11_62 : Type := ((((List Int) × (List Int) × (List Int) × Unit) × (((List D_Gate) × Unit × Unit) × (List (D_Gate × Int)) × Unit)) ⊕ ((((List Int) × Nat × (List Int) × Unit) × (((List D_Gate) × Unit × Unit) × (List (D_Gate × Int)) × (List Int) × Unit)) ⊕ (((List Int) × Nat × Nat × Unit) × (((List D_Gate) × Unit × Unit) × (List (D_Gate × Int)) × (List Int) × (List Int) × Unit))))
abbrev T11_62 : Type := (List Int) → (List Int) → (List D_Gate) → (List (D_Gate × Int)) → Option R11_62
noncomputable def u11_62 (f : T11_62) : (pa11_62).C → Option (WayC pw11_62) := fun (x : ((Unit × (List Int) × (List Int) × Unit) × (((List D_Gate) × Unit × Unit) × (List (D_Gate × Int)) × Unit))) => f x.1.2.1 x.1.2.2.1 x.2.1.1 x.2.2.1
noncomputable def l11_62 (k : Nat) : T11_62 := fun a7 b8 o0 o1 =>
  (f60 k a7 b8 o0 o1).bind fun y1 =>
  match y1 with
  | .inl y1_0 =>
    some (.inl ((b8, y1_0.1.1, y1_0.1.2.1, ()), ((y1_0.2.1.1, (), ()), y1_0.2.2.1, ())))
  | .inr y1r =>
    match y1r with
    | .inl y1_1 =>
      some (.inr (.inl ((b8, y1_1.1.1, y1_1.1.2.1, ()), ((y1_1.2.1.1, (), ()), y1_1.2.2.1, y1_1.2.2.2.1, ()))))
    | .inr y1_2 =>
      some (.inr (.inr ((b8, y1_2.1.1, y1_2.1.2.1, ()), ((y1_2.2.1.1, (), ()), y1_2.2.2.1, y1_2.2.2.2.1, y1_2.2.2.2.2.1, ()))))
noncomputable def f11 (k : Nat) : T11 := fun t0 width1 =>
  (f44 k t0 (w64 (1 + (w64 ((Int.tmod width1 8)))))).bind fun y1 =>
  (f42 k (w64 (t0.1)) (w64 (1 + (w64 ((Int.tmod width1 8)))))).bind fun y2 =>
  (f42 k (w64 (t0.2.1)) (w64 (1 + (w64 ((Int.tmod width1 8)))))).bind fun y3 =>
  (l11_62 k y1.1.2.1 y1.1.2.2.1 y1.2.1.1 y1.2.2.1).bind fun y4 =>
  match y4 with
  | .inl y4_0 =>
    (l11_126s0 k y4_0.1.1 y4_0.1.2.1 y4_0.1.2.2.1 y4_0.2.1.1 y4_0.2.2.1).bind fun y5 =>
    (f61 k y2.1.1 y3.1.1 (w64 (1 + (w64 ((Int.tmod width1 8)))))).bind fun y6 =>
    (f45 k y1.1.2.2.2.1 y5.1.1 (w64 (1 + (w64 ((Int.tmod width1 8))))) y6.1.1 y5.2.1.1 y5.2.2.1).bind fun y7 =>
    cond y7.1.1
      ((f62 k y2.1.1 y3.1.1).bind fun y8 =>
      (f45 k y1.1.2.2.2.1 y5.1.2.1 (w64 (1 + (w64 ((Int.tmod width1 8))))) y8.1.1 y5.2.1.1 y5.2.2.1).bind fun y9 =>
      cond y9.1.1
        ((f45 k y1.1.2.2.2.1 y5.1.2.2.1 (w64 (1 + (w64 ((Int.tmod width1 8))))) y2.1.1 y5.2.1.1 y5.2.2.1).bind fun y10 =>
        cond y10.1.1
          ((f40 k ()).bind fun y11 =>
          some ((y11.1.1, ()), ()))
          (some ((false, ()), ())))
        (some ((false, ()), ())))
      (some ((false, ()), ()))
  | .inr y4r =>
    match y4r with
    | .inl y4_1 =>
      (l11_126s1 k y4_1.1.1 y4_1.1.2.1 y4_1.1.2.2.1 y4_1.2.1.1 y4_1.2.2.1 y4_1.2.2.2.1).bind fun y12 =>
      (f61 k y2.1.1 y3.1.1 (w64 (1 + (w64 ((Int.tmod width1 8)))))).bind fun y13 =>
      gd (decide (0 + y4_1.1.2.1 ≤ y12.2.2.2.1.length)) <|
      (f45 k y1.1.2.2.2.1 ((y12.2.2.2.1.drop 0).take y4_1.1.2.1) (w64 (1 + (w64 ((Int.tmod width1 8))))) y13.1.1 y12.2.1.1 y12.2.2.1).bind fun y14 =>
      cond y14.1.1
        ((f62 k y2.1.1 y3.1.1).bind fun y15 =>
        (f45 k y1.1.2.2.2.1 y4_1.1.2.2.1 (w64 (1 + (w64 ((Int.tmod width1 8))))) y15.1.1 y12.2.1.1 y12.2.2.1).bind fun y16 =>
        cond y16.1.1
          ((f45 k y1.1.2.2.2.1 y12.1.1 (w64 (1 + (w64 ((Int.tmod width1 8))))) y2.1.1 y12.2.1.1 y12.2.2.1).bind fun y17 =>
          cond y17.1.1
            ((f40 k ()).bind fun y18 =>
            some ((y18.1.1, ()), ()))
            (some ((false, ()), ())))
          (some ((false, ()), ())))
        (some ((false, ()), ()))
    | .inr y4_2 =>
      (l11_126s2 k y4_2.1.1 y4_2.1.2.1 y4_2.1.2.2.1 y4_2.2.1.1 y4_2.2.2.1 y4_2.2.2.2.1 y4_2.2.2.2.2.1).bind fun y19 =>
      (f61 k y2.1.1 y3.1.1 (w64 (1 + (w64 ((Int.tmod width1 8)))))).bind fun y20 =>
      gd (decide (0 + y4_2.1.2.1 ≤ y19.2.2.2.1.length)) <|
      (f45 k y1.1.2.2.2.1 ((y19.2.2.2.1.drop 0).take y4_2.1.2.1) (w64 (1 + (w64 ((Int.tmod width1 8))))) y20.1.1 y19.2.1.1 y19.2.2.1).bind fun y21 =>
      cond y21.1.1
        ((f62 k y2.1.1 y3.1.1).bind fun y22 =>
        gd (decide (0 + y4_2.1.2.2.1 ≤ y19.2.2.2.2.1.length)) <|
        (f45 k y1.1.2.2.2.1 ((y19.2.2.2.2.1.drop 0).take y4_2.1.2.2.1) (w64 (1 + (w64 ((Int.tmod width1 8))))) y22.1.1 y19.2.1.1 y19.2.2.1).bind fun y23 =>
        cond y23.1.1
          ((f45 k y1.1.2.2.2.1 y19.1.1 (w64 (1 + (w64 ((Int.tmod width1 8))))) y2.1.1 y19.2.1.1 y19.2.2.1).bind fun y24 =>
          cond y24.1.1
            ((f40 k ()).bind fun y25 =>
            some ((y25.1.1, ()), ()))
            (some ((false, ()), ())))
          (some ((false, ()), ())))
        (some ((false, ()), ()))
noncomputable def C11 (k : Nat) : Nat → Fun := mkC [(40, (F40 (f40 k))), (42, (F42 (f42 k))), (44, (F44 (f44 k))), (45, (F45 (f45 k))), (46, (altF a46v3 true (F46v3 (f46v3 k)) (F46 (f46 k)))), (49, (altF a49v2 true (F49v2 (f49v2 k)) (F49 (f49 k)))), (60, (F60 (f60 k))), (61, (F61 (f61 k))), (62, (F62 (f62 k)))]
theorem c11_ok (k : Nat) : ∀ f, SoundFn Try.prog f (C11 k f) := (mkC_cons (s40 k) (mkC_cons (s42 k) (mkC_cons (s44 k) (mkC_cons (s45 k) (mkC_cons (altF_ok (s46v3 k) (s46 k) rfl) (mkC_cons (altF_ok (s49v2 k) (s49 k) rfl) (mkC_cons (s60 k) (mkC_cons (s61 k) (mkC_cons (s62 k) mkC_nil)))))))))
noncomputable def H11_126 (k : Nat) : Nat → Option Cut := addH noH 126 (altCut [6, 8, 12, 13] pa11_126s0 ⟨runCut (wrC (codeAt 126 (bd Try.f11) 126)) 81 [6, 8, 12, 13] pa11_126s0 pw11_126s0 (u11_126s0 (l11_126s0 k))⟩ (altCut [6, 8, 12, 13] pa11_126s1 ⟨runCut (wrC (codeAt 126 (bd Try.f11) 126)) 81 [6, 8, 12, 13] pa11_126s1 pw11_126s1 (u11_126s1 (l11_126s1 k))⟩ ⟨runCut (wrC (codeAt 126 (bd Try.f11) 126)) 81 [6, 8, 12, 13] pa11_126s2 pw11_126s2 (u11_126s2 (l11_126s2 k))⟩))
theorem e11_126s0 (k : Nat) (x : (pa11_126s0).C) : pieceF (C11 k) tt noH (codeAt 126 (bd Try.f11) 126) 126 81 [6, 8, 12, 13] pa11_126s0 pw11_126s0 x = u11_126s0 (l11_126s0 k) x := by kernel_rfl
theorem e11_126s1 (k : Nat) (x : (pa11_126s1).C) : pieceF (C11 k) tt noH (codeAt 126 (bd Try.f11) 126) 126 81 [6, 8, 12, 13] pa11_126s1 pw11_126s1 x = u11_126s1 (l11_126s1 k) x := by kernel_rfl
theorem e11_126s2 (k : Nat) (x : (pa11_126s2).C) : pieceF (C11 k) tt noH (codeAt 126 (bd Try.f11) 126) 126 81 [6, 8, 12, 13] pa11_126s2 pw11_126s2 x = u11_126s2 (l11_126s2 k) x := by kernel_rfl
theorem h11_126_ok (k : Nat) : ∀ p S, H11_126 k p = some S → ∀ c, At (bd Try.f11) p c → CutOk Try.prog c S :=
  have hC := c11_ok k
  addCut noH_ok (fun hc => (altCut_ok (piece_ok hC ttOk (draw_ok hC ttOk mixed) noH_ok hc (fun x _ h => (e11_126s0 k x).trans h)) (altCut_ok (piece_ok hC ttOk (draw_ok hC ttOk mixed) noH_ok hc (fun x _ h => (e11_126s1 k x).trans h)) (piece_ok hC ttOk (draw_ok hC ttOk mixed) noH_ok hc (fun x _ h => (e11_126s2 k x).trans h)))))
noncomputable def H11_62 (k : Nat) : Nat → Option Cut := addH (H11_126 k) 62 ⟨runCut (wrC (codeAt 62 (bd Try.f11) 62)) 81 [6, 7, 8] pa11_62 pw11_62 (u11_62 (l11_62 k))⟩
theorem e11_62 (k : Nat) (x : (pa11_62).C) : pieceF (C11 k) tt (H11_126 k) (codeAt 62 (bd Try.f11) 62) 62 81 [6, 7, 8] pa11_62 pw11_62 x = u11_62 (l11_62 k) x := by kernel_rfl
theorem h11_62_ok (k : Nat) : ∀ p S, H11_62 k p = some S → ∀ c, At (bd Try.f11) p c → CutOk Try.prog c S :=
  have hC := c11_ok k
  addPiece hC ttOk (draw_ok hC ttOk mixed) (h11_126_ok k) (fun x _ h => (e11_62 k x).trans h)
theorem e11 (k : Nat) (x : (a11).C) : bodyR (C11 k) tt (H11_62 k) Try.f11 a11 o11 x = u11 (f11 k) x := by kernel_rfl
theorem s11 (k : Nat) : SoundFn Try.prog 11 (F11 (f11 k)) :=
  have hC := c11_ok k
  fnR_sound hC ttOk (draw_ok hC ttOk mixed) Try.func11 (c0 := bd Try.f11) rfl (entry Try.func11 rfl (by decide)) (h11_62_ok k) rfl (fun x _ h => (e11 k x).trans h)
/-! f32 fathom/fathomref15.May (R) -/
noncomputable def a32 : Shape := ⟨[.d (.slice T_Gate)], []⟩
noncomputable def o32 : List Shape := [⟨[.d .bool], []⟩]
abbrev R32 : Type := ((Bool × Unit) × Unit)
abbrev T32 : Type := (List D_Gate) → Option R32
noncomputable def u32 (f : T32) : (a32).C → Option (OutC o32) := fun (x : (((List D_Gate) × Unit) × Unit)) => f x.1.1
noncomputable def F32 (f : T32) : Fun := ⟨true, runR a32 o32 (u32 f)⟩
noncomputable def pa32_1682 : Shape := ⟨[.d (.slice T_Gate), .d i64, .d .bool], []⟩
noncomputable def pw32_1682 : List Vm.Way := [⟨.normal, [64], ⟨[.d .bool], []⟩⟩]
abbrev R32_1682 : Type := ((Bool × Unit) × Unit)
abbrev T32_1682 : Type := (List D_Gate) → Int → Bool → Option R32_1682
noncomputable def u32_1682 (f : T32_1682) : (pa32_1682).C → Option (WayC pw32_1682) := fun (x : (((List D_Gate) × Int × Bool × Unit) × Unit)) => f x.1.1 x.1.2.1 x.1.2.2.1
noncomputable def l32_1682 (k : Nat) : T32_1682 := fun g0 i3 in4 =>
  cond (!in4)
    (ix g0 i3 fun e1 =>
    cond (decide (e1.1 < 0))
      (some ((true, ()), ()))
      (ix g0 i3 fun e2 =>
      cond (decide (e2.2.1 < 0))
        (some ((true, ()), ()))
        (ix g0 i3 fun e3 =>
        cond (decide (e3.1 > (w64 ((w64 (2 * i3)) + 1))))
          (some ((true, ()), ()))
          (ix g0 i3 fun e4 =>
          some (((decide (e4.2.1 > (w64 ((w64 (2 * i3)) + 1)))), ()), ())))))
    (some ((false, ()), ()))
noncomputable def pa32_26 : Shape := ⟨[.d (.slice T_Gate), .d i64], []⟩
noncomputable def pw32_26 : List Vm.Way := [⟨.exit 0, [], ⟨[], []⟩⟩, ⟨.ret, [2], ⟨[.d .bool], []⟩⟩]
abbrev R32_26 : Type := ((Unit × Unit) ⊕ ((Bool × Unit) × Unit))
abbrev T32_26 : Type := (List D_Gate) → Int → Option R32_26
noncomputable def u32_26 (f : T32_26) : (pa32_26).C → Option (WayC pw32_26) := fun (x : (((List D_Gate) × Int × Unit) × Unit)) => f x.1.1 x.1.2.1
noncomputable def b32_26 (k : Nat) (rec : T32_26) : T32_26 := fun g0 i3 =>
  cond (decide (i3 < (g0.length : Int)))
    (ix g0 i3 fun e1 =>
    cond (e1.1 == (-1))
      (ix g0 i3 fun e2 =>
      (l32_1682 k g0 i3 (e2.2.1 == (-1))).bind fun y3 =>
      cond y3.1.1
        (some (.inr ((false, ()), ())))
        ((rec g0 (w64 (i3 + 1))).bind fun y4 =>
        match y4 with
        | .inl y4_0 =>
          some (.inl ((), ()))
        | .inr y4_1 =>
          some (.inr ((y4_1.1.1, ()), ()))))
      ((l32_1682 k g0 i3 false).bind fun y5 =>
      cond y5.1.1
        (some (.inr ((false, ()), ())))
        ((rec g0 (w64 (i3 + 1))).bind fun y6 =>
        match y6 with
        | .inl y6_0 =>
          some (.inl ((), ()))
        | .inr y6_1 =>
          some (.inr ((y6_1.1.1, ()), ())))))
    (some (.inl ((), ())))
noncomputable def l32_26 (k : Nat) : Nat → T32_26
  | 0 => fun _ _ => none
  | j + 1 => b32_26 k (l32_26 k j)
noncomputable def f32 (k : Nat) : T32 := fun g0 =>
  (l32_26 k k g0 0).bind fun y1 =>
  match y1 with
  | .inl y1_0 =>
    some (((decide ((g0.length : Int) ≤ 1048576)), ()), ())
  | .inr y1_1 =>
    some ((y1_1.1.1, ()), ())
noncomputable def C32 (k : Nat) : Nat → Fun := mkC []
theorem c32_ok (k : Nat) : ∀ f, SoundFn Try.prog f (C32 k f) := mkC_nil
noncomputable def H32_1682 (k : Nat) : Nat → Option Cut := addH noH 1682 ⟨runCut (wrC (codeAt 1682 (bd Try.f32) 1682)) 68 [0, 3, 4] pa32_1682 pw32_1682 (u32_1682 (l32_1682 k))⟩
theorem e32_1682 (k : Nat) (x : (pa32_1682).C) : pieceF (C32 k) tt noH (codeAt 1682 (bd Try.f32) 1682) 1682 68 [0, 3, 4] pa32_1682 pw32_1682 x = u32_1682 (l32_1682 k) x := by kernel_rfl
theorem h32_1682_ok (k : Nat) : ∀ p S, H32_1682 k p = some S → ∀ c, At (bd Try.f32) p c → CutOk Try.prog c S :=
  have hC := c32_ok k
  addPiece hC ttOk (draw_ok hC ttOk mixed) noH_ok (fun x _ h => (e32_1682 k x).trans h)
noncomputable def H32_26 (k : Nat) : Nat → Option Cut := addH (H32_1682 k) 26 ⟨runCut (wrC (bodyOf (codeAt 26 (bd Try.f32) 26))) 68 [0, 3] pa32_26 pw32_26 (u32_26 (l32_26 k k))⟩
theorem e32_26 (k : Nat) (rec : T32_26) (x : (pa32_26).C) : roundF (C32 k) tt (H32_1682 k) (bodyOf (codeAt 26 (bd Try.f32) 26)) 52 68 [0, 3] pa32_26 pw32_26 (u32_26 rec) x = u32_26 (b32_26 k rec) x := by kernel_rfl
theorem h32_26_ok (k : Nat) : ∀ p S, H32_26 k p = some S → ∀ c, At (bd Try.f32) p c → CutOk Try.prog c S :=
  have hC := c32_ok k
  addLoop hC ttOk (draw_ok hC ttOk mixed) (h32_1682_ok k) (by kernel_rfl) (F := fun j => u32_26 (l32_26 k j)) (fun _ => rfl) (fun j x _ h => (e32_26 k (l32_26 k j) x).trans h) k
theorem e32 (k : Nat) (x : (a32).C) : bodyR (C32 k) tt (H32_26 k) Try.f32 a32 o32 x = u32 (f32 k) x := by kernel_rfl
theorem s32 (k : Nat) : SoundFn Try.prog 32 (F32 (f32 k)) :=
  have hC := c32_ok k
  fnR_sound hC ttOk (draw_ok hC ttOk mixed) Try.func32 (c0 := bd Try.f32) rfl (entry Try.func32 rfl (by decide)) (h32_26_ok k) rfl (fun x _ h => (e32 k x).trans h)
/-! f30 fathom/aig.Load (W) -/
noncomputable def a30 : Shape := ⟨[.d (.slice T_Gate)], []⟩
noncomputable def o30 : List Shape := [⟨[.nilp, .d i64], []⟩, ⟨[.ptr 0, .d i64], [.box [.own T_Gate, .mp 1], .map T_Gate i64]⟩]
abbrev R30 : Type := (((Unit × Int × Unit) × Unit) ⊕ ((Unit × Int × Unit) × (((List D_Gate) × Unit × Unit) × (List (D_Gate × Int)) × Unit)))
abbrev T30 : Type := (List D_Gate) → Option R30
noncomputable def u30 (f : T30) : (a30).C → Option (OutC o30) := fun (x : (((List D_Gate) × Unit) × Unit)) => f x.1.1
noncomputable def F30 (f : T30) : Fun := ⟨false, runW a30 o30 (u30 f)⟩
noncomputable def pa30_250 : Shape := ⟨[.ptr 0, .d (.slice T_Gate), .d i64, .d i64], [.box [.own T_Gate, .mp 1], .map T_Gate i64]⟩
noncomputable def pw30_250 : List Vm.Way := [⟨.exit 0, [], ⟨[], [.box [.own T_Gate, .mp 1], .map T_Gate i64]⟩⟩]
abbrev R30_250 : Type := (Unit × (((List D_Gate) × Unit × Unit) × (List (D_Gate × Int)) × Unit))
abbrev T30_250 : Type := (List D_Gate) → Int → Int → (List D_Gate) → (List (D_Gate × Int)) → Option R30_250
noncomputable def u30_250 (f : T30_250) : (pa30_250).C → Option (WayC pw30_250) := fun (x : ((Unit × (List D_Gate) × Int × Int × Unit) × (((List D_Gate) × Unit × Unit) × (List (D_Gate × Int)) × Unit))) => f x.1.2.1 x.1.2.2.1 x.1.2.2.2.1 x.2.1.1 x.2.2.1
noncomputable def b30_250 (k : Nat) (rec : T30_250) : T30_250 := fun t21 t22 t23 o0 o1 =>
  cond (decide (t23 < t22))
    (ix t21 t23 fun e1 =>
    (f88 k ()).bind fun y2 =>
    cond (!(beqD T_Gate e1 y2.1.1))
      (cond (!(mget T_Gate e1 o1).isSome)
        ((rec t21 t22 (w64 (t23 + 1)) o0 (mput T_Gate e1 (w64 (2 * (w64 (t23 + 1)))) o1)).bind fun y3 =>
        some ((), ((y3.2.1.1, (), ()), y3.2.2.1, ())))
        ((rec t21 t22 (w64 (t23 + 1)) o0 o1).bind fun y4 =>
        some ((), ((y4.2.1.1, (), ()), y4.2.2.1, ()))))
      ((rec t21 t22 (w64 (t23 + 1)) o0 o1).bind fun y5 =>
      some ((), ((y5.2.1.1, (), ()), y5.2.2.1, ()))))
    (some ((), ((o0, (), ()), o1, ())))
noncomputable def l30_250 (k : Nat) : Nat → T30_250
  | 0 => fun _ _ _ _ _ => none
  | j + 1 => b30_250 k (l30_250 k j)
noncomputable def f30 (k : Nat) : T30 := fun g0 =>
  (f33 k g0).bind fun y1 =>
  cond (y1.1.1 != 0)
    (some (.inl (((), y1.1.1, ()), ())))
    ((f38 k ()).bind fun y2 =>
    (f87 k g0).bind fun y3 =>
    (l30_250 k k g0 (g0.length : Int) 0 y3.1.1 y2.2.2.1).bind fun y4 =>
    some (.inr (((), 0, ()), ((y4.2.1.1, (), ()), y4.2.2.1, ()))))
noncomputable def C30 (k : Nat) : Nat → Fun := mkC [(33, (F33 (f33 k))), (38, (F38 (f38 k))), (87, (F87 (f87 k))), (88, (F88 (f88 k)))]
theorem c30_ok (k : Nat) : ∀ f, SoundFn Try.prog f (C30 k f) := (mkC_cons (s33 k) (mkC_cons (s38 k) (mkC_cons (s87 k) (mkC_cons (s88 k) mkC_nil))))
noncomputable def H30_250 (k : Nat) : Nat → Option Cut := addH noH 250 ⟨runCut (wrC (bodyOf (codeAt 250 (bd Try.f30) 250))) 54 [5, 21, 22, 23] pa30_250 pw30_250 (u30_250 (l30_250 k k))⟩
theorem e30_250 (k : Nat) (rec : T30_250) (x : (pa30_250).C) : roundF (C30 k) tt noH (bodyOf (codeAt 250 (bd Try.f30) 250)) 500 54 [5, 21, 22, 23] pa30_250 pw30_250 (u30_250 rec) x = u30_250 (b30_250 k rec) x := by kernel_rfl
theorem h30_250_ok (k : Nat) : ∀ p S, H30_250 k p = some S → ∀ c, At (bd Try.f30) p c → CutOk Try.prog c S :=
  have hC := c30_ok k
  addLoop hC ttOk (draw_ok hC ttOk mixed) noH_ok (by kernel_rfl) (F := fun j => u30_250 (l30_250 k j)) (fun _ => rfl) (fun j x _ h => (e30_250 k (l30_250 k j) x).trans h) k
theorem e30 (k : Nat) (x : (a30).C) : bodyW (C30 k) tt (H30_250 k) Try.f30 a30 o30 x = u30 (f30 k) x := by kernel_rfl
theorem s30 (k : Nat) : SoundFn Try.prog 30 (F30 (f30 k)) :=
  have hC := c30_ok k
  fnW_sound hC ttOk (draw_ok hC ttOk mixed) Try.func30 (c0 := bd Try.f30) rfl (entry Try.func30 rfl (by decide)) (h30_250_ok k) (fun x _ h => (e30 k x).trans h)
/-! f29 (*fathom/aig.Aig).All (W) -/
noncomputable def a29 : Shape := ⟨[.ptr 0, .d (.slice i64)], [.box [.own T_Gate, .mp 1], .map T_Gate i64]⟩
noncomputable def o29 : List Shape := [⟨[.d i64], [.box [.own T_Gate, .mp 1], .map T_Gate i64]⟩]
abbrev R29 : Type := ((Int × Unit) × (((List D_Gate) × Unit × Unit) × (List (D_Gate × Int)) × Unit))
abbrev T29 : Type := (List Int) → (List D_Gate) → (List (D_Gate × Int)) → Option R29
noncomputable def u29 (f : T29) : (a29).C → Option (OutC o29) := fun (x : ((Unit × (List Int) × Unit) × (((List D_Gate) × Unit × Unit) × (List (D_Gate × Int)) × Unit))) => f x.1.2.1 x.2.1.1 x.2.2.1
noncomputable def F29 (f : T29) : Fun := ⟨false, runW a29 o29 (u29 f)⟩
noncomputable def pa29_122 : Shape := ⟨[.ptr 0, .d i64, .d (.slice i64), .d i64, .d i64], [.box [.own T_Gate, .mp 1], .map T_Gate i64]⟩
noncomputable def pw29_122 : List Vm.Way := [⟨.exit 0, [5], ⟨[.d i64], [.box [.own T_Gate, .mp 1], .map T_Gate i64]⟩⟩]
abbrev R29_122 : Type := ((Int × Unit) × (((List D_Gate) × Unit × Unit) × (List (D_Gate × Int)) × Unit))
abbrev T29_122 : Type := Int → (List Int) → Int → Int → (List D_Gate) → (List (D_Gate × Int)) → Option R29_122
noncomputable def u29_122 (f : T29_122) : (pa29_122).C → Option (WayC pw29_122) := fun (x : ((Unit × Int × (List Int) × Int × Int × Unit) × (((List D_Gate) × Unit × Unit) × (List (D_Gate × Int)) × Unit))) => f x.1.2.1 x.1.2.2.1 x.1.2.2.2.1 x.1.2.2.2.2.1 x.2.1.1 x.2.2.1
noncomputable def b29_122 (k : Nat) (rec : T29_122) : T29_122 := fun out5 t17 t18 t19 o0 o1 =>
  cond (decide (t19 < t18))
    (ix t17 t19 fun e1 =>
    (f19 k out5 e1 o0 o1).bind fun y2 =>
    (rec y2.1.1 t17 t18 (w64 (t19 + 1)) y2.2.1.1 y2.2.2.1).bind fun y3 =>
    some ((y3.1.1, ()), ((y3.2.1.1, (), ()), y3.2.2.1, ())))
    (some ((out5, ()), ((o0, (), ()), o1, ())))
noncomputable def l29_122 (k : Nat) : Nat → T29_122
  | 0 => fun _ _ _ _ _ _ => none
  | j + 1 => b29_122 k (l29_122 k j)
noncomputable def f29 (k : Nat) : T29 := fun l1 o0 o1 =>
  (l29_122 k k 1 l1 (l1.length : Int) 0 o0 o1).bind fun y1 =>
  some ((y1.1.1, ()), ((y1.2.1.1, (), ()), y1.2.2.1, ()))
noncomputable def C29 (k : Nat) : Nat → Fun := mkC [(19, (F19 (f19 k)))]
theorem c29_ok (k : Nat) : ∀ f, SoundFn Try.prog f (C29 k f) := (mkC_cons (s19 k) mkC_nil)
noncomputable def H29_122 (k : Nat) : Nat → Option Cut := addH noH 122 ⟨runCut (wrC (bodyOf (codeAt 122 (bd Try.f29) 122))) 29 [0, 5, 17, 18, 19] pa29_122 pw29_122 (u29_122 (l29_122 k k))⟩
theorem e29_122 (k : Nat) (rec : T29_122) (x : (pa29_122).C) : roundF (C29 k) tt noH (bodyOf (codeAt 122 (bd Try.f29) 122)) 244 29 [0, 5, 17, 18, 19] pa29_122 pw29_122 (u29_122 rec) x = u29_122 (b29_122 k rec) x := by kernel_rfl
theorem h29_122_ok (k : Nat) : ∀ p S, H29_122 k p = some S → ∀ c, At (bd Try.f29) p c → CutOk Try.prog c S :=
  have hC := c29_ok k
  addLoop hC ttOk (draw_ok hC ttOk mixed) noH_ok (by kernel_rfl) (F := fun j => u29_122 (l29_122 k j)) (fun _ => rfl) (fun j x _ h => (e29_122 k (l29_122 k j) x).trans h) k
theorem e29 (k : Nat) (x : (a29).C) : bodyW (C29 k) tt (H29_122 k) Try.f29 a29 o29 x = u29 (f29 k) x := by kernel_rfl
theorem s29 (k : Nat) : SoundFn Try.prog 29 (F29 (f29 k)) :=
  have hC := c29_ok k
  fnW_sound hC ttOk (draw_ok hC ttOk mixed) Try.func29 (c0 := bd Try.f29) rfl (entry Try.func29 rfl (by decide)) (h29_122_ok k) (fun x _ h => (e29 k x).trans h)
/-! f64 fathom/vec.Eq (W) -/
noncomputable def a64 : Shape := ⟨[.ptr 0, .d (.slice i64), .d (.slice i64)], [.box [.own T_Gate, .mp 1], .map T_Gate i64]⟩
noncomputable def o64 : List Shape := [⟨[.d i64], [.box [.own T_Gate, .mp 1], .map T_Gate i64]⟩]
abbrev R64 : Type := ((Int × Unit) × (((List D_Gate) × Unit × Unit) × (List (D_Gate × Int)) × Unit))
abbrev T64 : Type := (List Int) → (List Int) → (List D_Gate) → (List (D_Gate × Int)) → Option R64
noncomputable def u64 (f : T64) : (a64).C → Option (OutC o64) := fun (x : ((Unit × (List Int) × (List Int) × Unit) × (((List D_Gate) × Unit × Unit) × (List (D_Gate × Int)) × Unit))) => f x.1.2.1 x.1.2.2.1 x.2.1.1 x.2.2.1
noncomputable def F64 (f : T64) : Fun := ⟨false, runW a64 o64 (u64 f)⟩
noncomputable def f64 (k : Nat) : T64 := fun a1 b2 o0 o1 =>
  (f53 k a1 b2 o0 o1).bind fun y1 =>
  match y1 with
  | .inl y1_0 =>
    some (((-1), ()), ((y1_0.2.1.1, (), ()), y1_0.2.2.1, ()))
  | .inr y1_1 =>
    cond y1_1.1.1.isEmpty
      (none)
      ((f54 k y1_1.1.1 y1_1.2.1.1 y1_1.2.2.1).bind fun y2 =>
      (f29 k y2.1.1 y1_1.2.1.1 y1_1.2.2.1).bind fun y3 =>
      some ((y3.1.1, ()), ((y3.2.1.1, (), ()), y3.2.2.1, ())))
noncomputable def C64 (k : Nat) : Nat → Fun := mkC [(29, (F29 (f29 k))), (53, (F53 (f53 k))), (54, (F54 (f54 k)))]
theorem c64_ok (k : Nat) : ∀ f, SoundFn Try.prog f (C64 k f) := (mkC_cons (s29 k) (mkC_cons (s53 k) (mkC_cons (s54 k) mkC_nil)))
theorem e64 (k : Nat) (x : (a64).C) : bodyW (C64 k) tt noH Try.f64 a64 o64 x = u64 (f64 k) x := by kernel_rfl
theorem s64 (k : Nat) : SoundFn Try.prog 64 (F64 (f64 k)) :=
  have hC := c64_ok k
  fnW_sound hC ttOk (draw_ok hC ttOk mixed) Try.func64 (c0 := bd Try.f64) rfl (entry Try.func64 rfl (by decide)) noH_ok (fun x _ h => (e64 k x).trans h)
/-! f103 fathom/vec.less (W) -/
noncomputable def a103 : Shape := ⟨[.ptr 0, .d (.slice i64), .d (.slice i64)], [.box [.own T_Gate, .mp 1], .map T_Gate i64]⟩
noncomputable def o103 : List Shape := [⟨[.d i64], [.box [.own T_Gate, .mp 1], .map T_Gate i64]⟩]
abbrev R103 : Type := ((Int × Unit) × (((List D_Gate) × Unit × Unit) × (List (D_Gate × Int)) × Unit))
abbrev T103 : Type := (List Int) → (List Int) → (List D_Gate) → (List (D_Gate × Int)) → Option R103
noncomputable def u103 (f : T103) : (a103).C → Option (OutC o103) := fun (x : ((Unit × (List Int) × (List Int) × Unit) × (((List D_Gate) × Unit × Unit) × (List (D_Gate × Int)) × Unit))) => f x.1.2.1 x.1.2.2.1 x.2.1.1 x.2.2.1
noncomputable def F103 (f : T103) : Fun := ⟨false, runW a103 o103 (u103 f)⟩
noncomputable def f103 (k : Nat) : T103 := fun a1 b2 o0 o1 =>
  (f104 k b2).bind fun y1 =>
  (f96 k a1 y1.1.1 1 o0 o1).bind fun y2 =>
  cond (y2.1.2.1 == (-1))
    (some (((-1), ()), ((y2.2.1.1, (), ()), y2.2.2.1, ())))
    (some (((ibits .xor .i64 y2.1.2.1 1), ()), ((y2.2.1.1, (), ()), y2.2.2.1, ())))
noncomputable def C103 (k : Nat) : Nat → Fun := mkC [(96, (F96 (f96 k))), (104, (F104 (f104 k)))]
theorem c103_ok (k : Nat) : ∀ f, SoundFn Try.prog f (C103 k f) := (mkC_cons (s96 k) (mkC_cons (s104 k) mkC_nil))
theorem e103 (k : Nat) (x : (a103).C) : bodyW (C103 k) tt noH Try.f103 a103 o103 x = u103 (f103 k) x := by kernel_rfl
theorem s103 (k : Nat) : SoundFn Try.prog 103 (F103 (f103 k)) :=
  have hC := c103_ok k
  fnW_sound hC ttOk (draw_ok hC ttOk mixed) Try.func103 (c0 := bd Try.f103) rfl (entry Try.func103 rfl (by decide)) noH_ok (fun x _ h => (e103 k x).trans h)
/-! f65 fathom/vec.Less (W) -/
noncomputable def a65 : Shape := ⟨[.ptr 0, .d (.slice i64), .d (.slice i64)], [.box [.own T_Gate, .mp 1], .map T_Gate i64]⟩
noncomputable def o65 : List Shape := [⟨[.d i64], [.box [.own T_Gate, .mp 1], .map T_Gate i64]⟩]
abbrev R65 : Type := ((Int × Unit) × (((List D_Gate) × Unit × Unit) × (List (D_Gate × Int)) × Unit))
abbrev T65 : Type := (List Int) → (List Int) → (List D_Gate) → (List (D_Gate × Int)) → Option R65
noncomputable def u65 (f : T65) : (a65).C → Option (OutC o65) := fun (x : ((Unit × (List Int) × (List Int) × Unit) × (((List D_Gate) × Unit × Unit) × (List (D_Gate × Int)) × Unit))) => f x.1.2.1 x.1.2.2.1 x.2.1.1 x.2.2.1
noncomputable def F65 (f : T65) : Fun := ⟨false, runW a65 o65 (u65 f)⟩
noncomputable def f65 (k : Nat) : T65 := fun a1 b2 o0 o1 =>
  (f95 k a1 b2 o0 o1).bind fun y1 =>
  cond (!y1.1.1)
    (some (((-1), ()), ((o0, (), ()), o1, ())))
    ((f103 k a1 b2 o0 o1).bind fun y2 =>
    some ((y2.1.1, ()), ((y2.2.1.1, (), ()), y2.2.2.1, ())))
noncomputable def C65 (k : Nat) : Nat → Fun := mkC [(95, (F95 (f95 k))), (103, (F103 (f103 k)))]
theorem c65_ok (k : Nat) : ∀ f, SoundFn Try.prog f (C65 k f) := (mkC_cons (s95 k) (mkC_cons (s103 k) mkC_nil))
theorem e65 (k : Nat) (x : (a65).C) : bodyW (C65 k) tt noH Try.f65 a65 o65 x = u65 (f65 k) x := by kernel_rfl
theorem s65 (k : Nat) : SoundFn Try.prog 65 (F65 (f65 k)) :=
  have hC := c65_ok k
  fnW_sound hC ttOk (draw_ok hC ttOk mixed) Try.func65 (c0 := bd Try.f65) rfl (entry Try.func65 rfl (by decide)) noH_ok (fun x _ h => (e65 k x).trans h)
/-! f105 fathom/vec.Ite$1 (W) -/
noncomputable def a105 : Shape := ⟨[.d i64, .d i64, .ptr 0, .ptr 3], [.box [.ptr 1], .box [.own T_Gate, .mp 2], .map T_Gate i64, .box [.d i64]]⟩
noncomputable def o105 : List Shape := [⟨[.d i64], [.box [.ptr 1], .box [.own T_Gate, .mp 2], .map T_Gate i64, .box [.d i64]]⟩]
abbrev R105 : Type := ((Int × Unit) × ((Unit × Unit) × ((List D_Gate) × Unit × Unit) × (List (D_Gate × Int)) × (Int × Unit) × Unit))
abbrev T105 : Type := Int → Int → (List D_Gate) → (List (D_Gate × Int)) → Int → Option R105
noncomputable def u105 (f : T105) : (a105).C → Option (OutC o105) := fun (x : ((Int × Int × Unit × Unit × Unit) × ((Unit × Unit) × ((List D_Gate) × Unit × Unit) × (List (D_Gate × Int)) × (Int × Unit) × Unit))) => f x.1.1 x.1.2.1 x.2.2.1.1 x.2.2.2.1 x.2.2.2.2.1.1
noncomputable def F105 (f : T105) : Fun := ⟨false, runW a105 o105 (u105 f)⟩
noncomputable def f105 (k : Nat) : T105 := fun a0 b1 o1 o2 o3 =>
  (f28 k o3 a0 b1 o1 o2).bind fun y1 =>
  some ((y1.1.1, ()), (((), ()), (y1.2.1.1, (), ()), y1.2.2.1, (o3, ()), ()))
noncomputable def C105 (k : Nat) : Nat → Fun := mkC [(28, (F28 (f28 k)))]
theorem c105_ok (k : Nat) : ∀ f, SoundFn Try.prog f (C105 k f) := (mkC_cons (s28 k) mkC_nil)
theorem e105 (k : Nat) (x : (a105).C) : bodyW (C105 k) tt noH Try.f105 a105 o105 x = u105 (f105 k) x := by kernel_rfl
theorem s105 (k : Nat) : SoundFn Try.prog 105 (F105 (f105 k)) :=
  have hC := c105_ok k
  fnW_sound hC ttOk (draw_ok hC ttOk mixed) Try.func105 (c0 := bd Try.f105) rfl (entry Try.func105 rfl (by decide)) noH_ok (fun x _ h => (e105 k x).trans h)
/-! f97 fathom/vec.each (W) -/
noncomputable def a97 : Shape := ⟨[.ptr 0, .d (.slice i64), .d (.slice i64), .fn 105 [2, 3]], [.box [.own T_Gate, .mp 1], .map T_Gate i64, .box [.ptr 0], .box [.d i64]]⟩
noncomputable def o97 : List Shape := [⟨[.nils], [.box [.own T_Gate, .mp 1], .map T_Gate i64, .box [.ptr 0], .box [.d i64]]⟩, ⟨[.own i64], [.box [.own T_Gate, .mp 1], .map T_Gate i64, .box [.ptr 0], .box [.d i64]]⟩]
abbrev R97 : Type := (((Unit × Unit) × (((List D_Gate) × Unit × Unit) × (List (D_Gate × Int)) × (Unit × Unit) × (Int × Unit) × Unit)) ⊕ (((List Int) × Unit) × (((List D_Gate) × Unit × Unit) × (List (D_Gate × Int)) × (Unit × Unit) × (Int × Unit) × Unit)))
abbrev T97 : Type := (List Int) → (List Int) → (List D_Gate) → (List (D_Gate × Int)) → Int → Option R97
noncomputable def u97 (f : T97) : (a97).C → Option (OutC o97) := fun (x : ((Unit × (List Int) × (List Int) × Unit × Unit) × (((List D_Gate) × Unit × Unit) × (List (D_Gate × Int)) × (Unit × Unit) × (Int × Unit) × Unit))) => f x.1.2.1 x.1.2.2.1 x.2.1.1 x.2.2.1 x.2.2.2.2.1.1
noncomputable def F97 (f : T97) : Fun := ⟨false, runW a97 o97 (u97 f)⟩
noncomputable def pa97_122 : Shape := ⟨[.d (.slice i64), .d (.slice i64), .fn 105 [0, 3], .own i64, .d i64, .d i64], [.box [.ptr 1], .box [.own T_Gate, .mp 2], .map T_Gate i64, .box [.d i64]]⟩
noncomputable def pw97_122 : List Vm.Way := [⟨.exit 0, [9], ⟨[.own i64], [.box [.ptr 1], .box [.own T_Gate, .mp 2], .map T_Gate i64, .box [.d i64]]⟩⟩]
abbrev R97_122 : Type := (((List Int) × Unit) × ((Unit × Unit) × ((List D_Gate) × Unit × Unit) × (List (D_Gate × Int)) × (Int × Unit) × Unit))
abbrev T97_122 : Type := (List Int) → (List Int) → (List Int) → Int → Int → (List D_Gate) → (List (D_Gate × Int)) → Int → Option R97_122
noncomputable def u97_122 (f : T97_122) : (pa97_122).C → Option (WayC pw97_122) := fun (x : (((List Int) × (List Int) × Unit × (List Int) × Int × Int × Unit) × ((Unit × Unit) × ((List D_Gate) × Unit × Unit) × (List (D_Gate × Int)) × (Int × Unit) × Unit))) => f x.1.1 x.1.2.1 x.1.2.2.2.1 x.1.2.2.2.2.1 x.1.2.2.2.2.2.1 x.2.2.1.1 x.2.2.2.1 x.2.2.2.2.1.1
noncomputable def b97_122 (k : Nat) (rec : T97_122) : T97_122 := fun a1 b2 out9 t17 t18 o1 o2 o3 =>
  cond (decide (t18 < t17))
    (ix a1 t18 fun e1 =>
    ix b2 t18 fun e2 =>
    (f105 k e1 e2 o1 o2 o3).bind fun y3 =>
    gd (decide ((out9.length + 1) * 8 ≤ room)) <|
    (rec a1 b2 (out9 ++ ([y3.1.1] : List Int)) t17 (w64 (t18 + 1)) y3.2.2.1.1 y3.2.2.2.1 y3.2.2.2.2.1.1).bind fun y4 =>
    some ((y4.1.1, ()), (((), ()), (y4.2.2.1.1, (), ()), y4.2.2.2.1, (y4.2.2.2.2.1.1, ()), ())))
    (some ((out9, ()), (((), ()), (o1, (), ()), o2, (o3, ()), ())))
noncomputable def l97_122 (k : Nat) : Nat → T97_122
  | 0 => fun _ _ _ _ _ _ _ _ => none
  | j + 1 => b97_122 k (l97_122 k j)
noncomputable def f97 (k : Nat) : T97 := fun a1 b2 o0 o1 o3 =>
  (f95 k a1 b2 o0 o1).bind fun y1 =>
  cond (!y1.1.1)
    (some (.inl (((), ()), ((o0, (), ()), o1, ((), ()), (o3, ()), ()))))
    ((l97_122 k k a1 b2 [] (a1.length : Int) 0 o0 o1 o3).bind fun y2 =>
    (f92 k y2.1.1).bind fun y3 =>
    match y3 with
    | .inl y3_0 =>
      some (.inl (((), ()), ((y2.2.2.1.1, (), ()), y2.2.2.2.1, ((), ()), (y2.2.2.2.2.1.1, ()), ())))
    | .inr y3_1 =>
      some (.inr ((y3_1.1.1, ()), ((y2.2.2.1.1, (), ()), y2.2.2.2.1, ((), ()), (y2.2.2.2.2.1.1, ()), ()))))
noncomputable def C97 (k : Nat) : Nat → Fun := mkC [(1000092, ownF), (92, (F92 (f92 k))), (95, (F95 (f95 k))), (105, (F105 (f105 k)))]
theorem c97_ok (k : Nat) : ∀ f, SoundFn Try.prog f (C97 k f) := (mkC_cons ownF_ok (mkC_cons (s92 k) (mkC_cons (s95 k) (mkC_cons (s105 k) mkC_nil))))
noncomputable def H97_122 (k : Nat) : Nat → Option Cut := addH noH 122 ⟨runCut (wrC (bodyOf (codeAt 122 (bd Try.f97) 122))) 37 [1, 2, 3, 9, 17, 18] pa97_122 pw97_122 (u97_122 (l97_122 k k))⟩
theorem e97_122 (k : Nat) (rec : T97_122) (x : (pa97_122).C) : roundF (C97 k) tt noH (bodyOf (codeAt 122 (bd Try.f97) 122)) 244 37 [1, 2, 3, 9, 17, 18] pa97_122 pw97_122 (u97_122 rec) x = u97_122 (b97_122 k rec) x := by kernel_rfl
theorem h97_122_ok (k : Nat) : ∀ p S, H97_122 k p = some S → ∀ c, At (bd Try.f97) p c → CutOk Try.prog c S :=
  have hC := c97_ok k
  addLoop hC ttOk (draw_ok hC ttOk mixed) noH_ok (by kernel_rfl) (F := fun j => u97_122 (l97_122 k j)) (fun _ => rfl) (fun j x _ h => (e97_122 k (l97_122 k j) x).trans h) k
theorem e97 (k : Nat) (x : (a97).C) : bodyW (C97 k) tt (H97_122 k) Try.f97 a97 o97 x = u97 (f97 k) x := by kernel_rfl
theorem s97 (k : Nat) : SoundFn Try.prog 97 (F97 (f97 k)) :=
  have hC := c97_ok k
  fnW_sound hC ttOk (draw_ok hC ttOk mixed) Try.func97 (c0 := bd Try.f97) rfl (entry Try.func97 rfl (by decide)) (h97_122_ok k) (fun x _ h => (e97 k x).trans h)
/-! f63 fathom/vec.Ite (W) -/
noncomputable def a63 : Shape := ⟨[.ptr 0, .d i64, .d (.slice i64), .d (.slice i64)], [.box [.own T_Gate, .mp 1], .map T_Gate i64]⟩
noncomputable def o63 : List Shape := [⟨[.own i64], [.box [.own T_Gate, .mp 1], .map T_Gate i64]⟩]
abbrev R63 : Type := (((List Int) × Unit) × (((List D_Gate) × Unit × Unit) × (List (D_Gate × Int)) × Unit))
abbrev T63 : Type := Int → (List Int) → (List Int) → (List D_Gate) → (List (D_Gate × Int)) → Option R63
noncomputable def u63 (f : T63) : (a63).C → Option (OutC o63) := fun (x : ((Unit × Int × (List Int) × (List Int) × Unit) × (((List D_Gate) × Unit × Unit) × (List (D_Gate × Int)) × Unit))) => f x.1.2.1 x.1.2.2.1 x.1.2.2.2.1 x.2.1.1 x.2.2.1
noncomputable def F63 (f : T63) : Fun := ⟨false, runW a63 o63 (u63 f)⟩
noncomputable def f63 (k : Nat) : T63 := fun c1 a2 b3 o0 o1 =>
  (f24 k c1 o0 o1).bind fun y1 =>
  cond (!y1.1.1)
    (some (([], ()), ((o0, (), ()), o1, ())))
    ((f97 k a2 b3 o0 o1 c1).bind fun y2 =>
    match y2 with
    | .inl y2_0 =>
      some (([], ()), ((y2_0.2.1.1, (), ()), y2_0.2.2.1, ()))
    | .inr y2_1 =>
      some ((y2_1.1.1, ()), ((y2_1.2.1.1, (), ()), y2_1.2.2.1, ())))
noncomputable def C63 (k : Nat) : Nat → Fun := mkC [(24, (F24 (f24 k))), (97, (F97 (f97 k)))]
theorem c63_ok (k : Nat) : ∀ f, SoundFn Try.prog f (C63 k f) := (mkC_cons (s24 k) (mkC_cons (s97 k) mkC_nil))
theorem e63 (k : Nat) (x : (a63).C) : bodyW (C63 k) tt noH Try.f63 a63 o63 x = u63 (f63 k) x := by kernel_rfl
theorem s63 (k : Nat) : SoundFn Try.prog 63 (F63 (f63 k)) :=
  have hC := c63_ok k
  fnW_sound hC ttOk (draw_ok hC ttOk mixed) Try.func63 (c0 := bd Try.f63) rfl (entry Try.func63 rfl (by decide)) noH_ok (fun x _ h => (e63 k x).trans h)
/-! f67 fathom/fathomref15.Is (R) -/
noncomputable def a67 : Shape := ⟨[.d (.slice T_Gate), .d i64], []⟩
noncomputable def o67 : List Shape := [⟨[.d .bool], []⟩]
abbrev R67 : Type := ((Bool × Unit) × Unit)
abbrev T67 : Type := (List D_Gate) → Int → Option R67
noncomputable def u67 (f : T67) : (a67).C → Option (OutC o67) := fun (x : (((List D_Gate) × Int × Unit) × Unit)) => f x.1.1 x.1.2.1
noncomputable def F67 (f : T67) : Fun := ⟨true, runR a67 o67 (u67 f)⟩
noncomputable def f67 (k : Nat) : T67 := fun g0 l1 =>
  cond (decide (l1 ≥ 0))
    (some (((decide (l1 ≤ (w64 ((w64 (2 * (g0.length : Int))) + 1)))), ()), ()))
    (some ((false, ()), ()))
noncomputable def C67 (k : Nat) : Nat → Fun := mkC []
theorem c67_ok (k : Nat) : ∀ f, SoundFn Try.prog f (C67 k f) := mkC_nil
theorem e67 (k : Nat) (x : (a67).C) : bodyR (C67 k) tt noH Try.f67 a67 o67 x = u67 (f67 k) x := by kernel_rfl
theorem s67 (k : Nat) : SoundFn Try.prog 67 (F67 (f67 k)) :=
  have hC := c67_ok k
  fnR_sound hC ttOk (draw_ok hC ttOk mixed) Try.func67 (c0 := bd Try.f67) rfl (entry Try.func67 rfl (by decide)) noH_ok rfl (fun x _ h => (e67 k x).trans h)
end Go.Proofs.Ytgljnnokifggkaa.M
