/-
PRINTED BY vmp.py: the functions of a law, each as a Lean function, and that it is what the code computes.
-/
import Derived.Test.YticelgnmcjkknaaGiv
import Derived.Test.YticelgnmcjkknaaVm42
import Derived.Test.YticelgnmcjkknaaProg
import Derived.Test.YticelgnmcjkknaaChecked
import Derived.KernelRfl
set_option linter.unusedVariables false
set_option maxRecDepth 100000
namespace Go.Proofs.Yticelgnmcjkknaa.M
open Go Go.Proofs Go.Proofs.Yticelgnmcjkknaa.Vm
abbrev T_errorAddressString : Ty := (.pair .str (.pair (.int .u64) .unit))
abbrev D_errorAddressString : Type := (ByteArray × Int × Unit)
abbrev T_Found : Ty := (.pair i64 (.pair i64 .unit))
abbrev D_Found : Type := (Int × Int × Unit)
abbrev T_around : Ty := (.pair .bool (.pair .str .unit))
abbrev D_around : Type := (Bool × ByteArray × Unit)
abbrev T_Proc : Ty := (.pair .str (.pair (.slice (.rc 1)) (.pair i64 .unit)))
abbrev D_Proc : Type := (ByteArray × (List PStmt) × Int × Unit)
abbrev T_boundsError : Ty := (.pair i64 (.pair i64 (.pair .bool (.pair (.int .u8) .unit))))
abbrev D_boundsError : Type := (Int × Int × Bool × Int × Unit)
abbrev T_Token : Ty := (.pair i64 (.pair i64 (.pair .str (.pair i64 .unit))))
abbrev D_Token : Type := (Int × Int × ByteArray × Int × Unit)
abbrev T_Decl : Ty := (.pair i64 (.pair .str (.pair i64 (.pair i64 .unit))))
abbrev D_Decl : Type := (Int × ByteArray × Int × Int × Unit)
abbrev T_form : Ty := (.pair .bool (.pair .bool (.pair i64 (.pair .bool (.pair .bool .unit)))))
abbrev D_form : Type := (Bool × Bool × Int × Bool × Bool × Unit)
abbrev T_reader : Ty := (.pair (.slice T_Token) (.pair i64 (.pair i64 (.pair i64 (.pair i64 .unit)))))
abbrev D_reader : Type := ((List D_Token) × Int × Int × Int × Int × Unit)
abbrev T_Prog : Ty := (.pair i64 (.pair (.slice T_Decl) (.pair (.slice T_Proc) .unit)))
abbrev D_Prog : Type := (Int × (List D_Decl) × (List D_Proc) × Unit)
def s_0 : ByteArray := ByteArray.mk #[32, 119, 105, 100, 116, 104, 32, 118, 97, 114, 32, 97, 116, 111, 109, 105, 99, 32, 109, 117, 116, 101, 120, 32, 99, 104, 97, 110, 32, 112, 114, 111, 99, 32, 115, 101, 116, 32, 108, 111, 97, 100, 32, 115, 116, 111, 114, 101, 32, 103, 101, 116, 32, 112, 117, 116, 32, 97, 100, 100, 32, 99, 97, 115, 32, 108, 111, 99, 107, 32, 115, 101, 110, 100, 32, 114, 101, 99, 118, 32, 103, 111, 32, 105, 102, 32, 101, 108, 115, 101, 32, 119, 104, 105, 108, 101, 32, 98, 114, 101, 97, 107, 32, 99, 111, 110, 116, 105, 110, 117, 101, 32, 97, 115, 115, 101, 114, 116, 32]
def s_1 : ByteArray := ByteArray.mk #[119, 105, 100, 116, 104]
def s_2 : ByteArray := ByteArray.mk #[118, 97, 114]
def s_3 : ByteArray := ByteArray.mk #[97, 116, 111, 109, 105, 99]
def s_4 : ByteArray := ByteArray.mk #[109, 117, 116, 101, 120]
def s_5 : ByteArray := ByteArray.mk #[99, 104, 97, 110]
def s_6 : ByteArray := ByteArray.mk #[112, 114, 111, 99]
def s_7 : ByteArray := ByteArray.mk #[115, 101, 116]
def s_8 : ByteArray := ByteArray.mk #[108, 111, 97, 100]
def s_9 : ByteArray := ByteArray.mk #[115, 116, 111, 114, 101]
def s_10 : ByteArray := ByteArray.mk #[103, 101, 116]
def s_11 : ByteArray := ByteArray.mk #[112, 117, 116]
def s_12 : ByteArray := ByteArray.mk #[97, 100, 100]
def s_13 : ByteArray := ByteArray.mk #[99, 97, 115]
def s_14 : ByteArray := ByteArray.mk #[108, 111, 99, 107]
def s_15 : ByteArray := ByteArray.mk #[115, 101, 110, 100]
def s_16 : ByteArray := ByteArray.mk #[114, 101, 99, 118]
def s_17 : ByteArray := ByteArray.mk #[101, 108, 115, 101]
def s_18 : ByteArray := ByteArray.mk #[119, 104, 105, 108, 101]
def s_19 : ByteArray := ByteArray.mk #[98, 114, 101, 97, 107]
def s_20 : ByteArray := ByteArray.mk #[99, 111, 110, 116, 105, 110, 117, 101]
def s_21 : ByteArray := ByteArray.mk #[97, 115, 115, 101, 114, 116]
def tl : List (Nat × TI) := [(3, .dat i64 0), (4, .dat .bool 0), (5, .dat (.int .u8) 0), (9, .dat .str 0), (22, .dat (.slice (.int .u8)) 1), (34, .dat (.slice T_Decl) 40), (35, .dat (.slice T_Proc) 48), (37, .dat T_Prog 0), (38, .dat (.slice (.rc 0)) 80), (40, .dat (.rc 0) 0), (51, .dat (.slice (.rc 1)) 120), (53, .dat T_Proc 0), (57, .dat (.slice .str) 16), (82, .dat (.rc 1) 0), (83, .dat (.slice (.slice .str)) 24), (86, .dat T_Decl 0), (93, .ref 0), (95, .dat T_Found 0), (132, .dat (.arr 5 i64) 0), (133, .dat (.slice (.arr 5 i64)) 40), (166, .dat T_form 0)]
def tt := mkT tl
theorem ttOk : TtOk Try.prog tt := mkT_ok (by kernel_rfl)
theorem mixed : Try.prog.follows .mixedOrders = true := by kernel_rfl
/-! f25 fathom/fathomlaw21.kids (R) -/
noncomputable def a25 : Shape := ⟨[.d (.rc 0), .d i64], []⟩
noncomputable def o25 : List Shape := [⟨[.d i64], []⟩]
abbrev R25 : Type := ((Int × Unit) × Unit)
abbrev T25 : Type := PExpr → Int → Option R25
noncomputable def u25 (f : T25) : (a25).C → Option (OutC o25) := fun (x : ((PExpr × Int × Unit) × Unit)) => f x.1.1 x.1.2.1
noncomputable def F25 (f : T25) : Fun := ⟨true, runR a25 o25 (u25 f)⟩
noncomputable def pa25_58 : Shape := ⟨[.d i64, .ptr 0, .d i64, .d i64], [.box [.d i64, .d .str, .d i64, .d .str, .d (.slice (.rc 0)), .d i64]]⟩
noncomputable def pw25_58 : List Vm.Way := [⟨.exit 0, [5], ⟨[.d i64], [.box [.d i64, .d .str, .d i64, .d .str, .d (.slice (.rc 0)), .d i64]]⟩⟩]
abbrev R25_58 : Type := ((Int × Unit) × ((Int × ByteArray × Int × ByteArray × (List PExpr) × Int × Unit) × Unit))
abbrev T25_58 : Type := Int → Int → Int → Int → ByteArray → Int → ByteArray → (List PExpr) → Int → Option R25_58
noncomputable def u25_58 (f : T25_58) : (pa25_58).C → Option (WayC pw25_58) := fun (x : ((Int × Unit × Int × Int × Unit) × ((Int × ByteArray × Int × ByteArray × (List PExpr) × Int × Unit) × Unit))) => f x.1.1 x.1.2.2.1 x.1.2.2.2.1 x.2.1.1 x.2.1.2.1 x.2.1.2.2.1 x.2.1.2.2.2.1 x.2.1.2.2.2.2.1 x.2.1.2.2.2.2.2.1
noncomputable def b25_58 (k : Nat) (r25 : T25) (rec : T25_58) : T25_58 := fun most1 n5 i6 o0_0 o0_1 o0_2 o0_3 o0_4 o0_5 =>
  cond (decide (i6 < (o0_4.length : Int)))
    (cond (decide (n5 ≤ most1))
      (ix o0_4 i6 fun e1 =>
      (r25 e1 most1).bind fun y2 =>
      (rec most1 (w64 (n5 + y2.1.1)) (w64 (i6 + 1)) o0_0 o0_1 o0_2 o0_3 o0_4 o0_5).bind fun y3 =>
      some ((y3.1.1, ()), ((y3.2.1.1, y3.2.1.2.1, y3.2.1.2.2.1, y3.2.1.2.2.2.1, y3.2.1.2.2.2.2.1, y3.2.1.2.2.2.2.2.1, ()), ())))
      (some ((n5, ()), ((o0_0, o0_1, o0_2, o0_3, o0_4, o0_5, ()), ()))))
    (some ((n5, ()), ((o0_0, o0_1, o0_2, o0_3, o0_4, o0_5, ()), ())))
noncomputable def l25_58 (k : Nat) (r25 : T25) : Nat → T25_58
  | 0 => fun _ _ _ _ _ _ _ _ _ => none
  | j + 1 => b25_58 k r25 (l25_58 k r25 j)
noncomputable def b25 (k : Nat) (r25 : T25) : T25 := fun e_0 most1 =>
  (l25_58 k r25 k most1 1 0 (eKind e_0) (eOp e_0) (eNum e_0) (eName e_0) (eKids e_0) (ePos e_0)).bind fun y1 =>
  some ((y1.1.1, ()), ())
noncomputable def S25 : Nat → T25
  | 0 => (fun _ _ => none)
  | k + 1 => (b25 k (S25 k))
noncomputable def f25 (k : Nat) : T25 := (S25 k)
theorem f25_succ (k : Nat) : f25 (k + 1) = b25 k (f25 k) := rfl
noncomputable def C25 (k : Nat) (r25 : T25) : Nat → Fun := mkC [(25, (F25 r25))]
theorem c25_ok (k : Nat) (r25 : T25) (h25 : SoundFn Try.prog 25 (F25 r25)) : ∀ f, SoundFn Try.prog f (C25 k r25 f) := (mkC_cons h25 mkC_nil)
noncomputable def H25_58 (k : Nat) (r25 : T25) : Nat → Option Cut := addH noH 58 ⟨runCut (wrC (bodyOf (codeAt 58 (bd Try.f25) 58))) 29 [1, 2, 5, 6] pa25_58 pw25_58 (u25_58 (l25_58 k r25 k))⟩
theorem e25_58 (k : Nat) (r25 : T25) (rec : T25_58) (x : (pa25_58).C) : roundF (C25 k r25) tt noH (bodyOf (codeAt 58 (bd Try.f25) 58)) 116 29 [1, 2, 5, 6] pa25_58 pw25_58 (u25_58 rec) x = u25_58 (b25_58 k r25 rec) x := by kernel_rfl
theorem h25_58_ok (k : Nat) (r25 : T25) (h25 : SoundFn Try.prog 25 (F25 r25)) : ∀ p S, H25_58 k r25 p = some S → ∀ c, At (bd Try.f25) p c → CutOk Try.prog c S :=
  have hC := c25_ok k r25 h25
  addLoop hC ttOk (draw_ok hC ttOk mixed) noH_ok (by kernel_rfl) (F := fun j => u25_58 (l25_58 k r25 j)) (fun _ => rfl) (fun j x _ h => (e25_58 k r25 (l25_58 k r25 j) x).trans h) k
theorem e25 (k : Nat) (r25 : T25) (x : (a25).C) : bodyR (C25 k r25) tt (H25_58 k r25) Try.f25 a25 o25 x = u25 (b25 k r25) x := by kernel_rfl
theorem q25 (k : Nat) (r25 : T25) (h25 : SoundFn Try.prog 25 (F25 r25)) : SoundFn Try.prog 25 (F25 (b25 k r25)) :=
  have hC := c25_ok k r25 h25
  fnR_sound hC ttOk (draw_ok hC ttOk mixed) Try.func25 (c0 := bd Try.f25) rfl (entry Try.func25 rfl (by decide)) (h25_58_ok k r25 h25) rfl (fun x _ h => (e25 k r25 x).trans h)
theorem sAll25 : ∀ k : Nat, SoundFn Try.prog 25 (F25 (f25 k))
  | 0 => noneR_ok (by intro x; rfl)
  | k + 1 =>
    have ih := sAll25 k
    q25 k (f25 k) ih
theorem s25 (k : Nat) : SoundFn Try.prog 25 (F25 (f25 k)) := (sAll25 k)
/-! f61 fathom/fathomlaw21.parts (R) -/
noncomputable def a61 : Shape := ⟨[.d (.slice (.rc 1)), .d i64], []⟩
noncomputable def o61 : List Shape := [⟨[.d i64], []⟩]
abbrev R61 : Type := ((Int × Unit) × Unit)
abbrev T61 : Type := (List PStmt) → Int → Option R61
noncomputable def u61 (f : T61) : (a61).C → Option (OutC o61) := fun (x : (((List PStmt) × Int × Unit) × Unit)) => f x.1.1 x.1.2.1
noncomputable def F61 (f : T61) : Fun := ⟨true, runR a61 o61 (u61 f)⟩
noncomputable def pa61_7462 : Shape := ⟨[.d (.slice (.rc 1)), .d i64, .d i64, .d i64, .d i64], []⟩
noncomputable def pw61_7462 : List Vm.Way := [⟨.exit 2, [5], ⟨[.d i64], []⟩⟩]
abbrev R61_7462 : Type := ((Int × Unit) × Unit)
abbrev T61_7462 : Type := (List PStmt) → Int → Int → Int → Int → Option R61_7462
noncomputable def u61_7462 (f : T61_7462) : (pa61_7462).C → Option (WayC pw61_7462) := fun (x : (((List PStmt) × Int × Int × Int × Int × Unit) × Unit)) => f x.1.1 x.1.2.1 x.1.2.2.1 x.1.2.2.2.1 x.1.2.2.2.2.1
noncomputable def b61_7462 (k : Nat) (r61 : T61) (rec : T61_7462) : T61_7462 := fun l0 most1 n5 i6 k7 =>
  ix l0 i6 fun e1 =>
  cond (decide (k7 < ((sExprs e1).length : Int)))
    (cond (decide (n5 ≤ most1))
      (ix l0 i6 fun e2 =>
      ix (sExprs e2) k7 fun e3 =>
      (f25 k e3 most1).bind fun y4 =>
      (rec l0 most1 (w64 (n5 + y4.1.1)) i6 (w64 (k7 + 1))).bind fun y5 =>
      some ((y5.1.1, ()), ()))
      (some ((n5, ()), ())))
    (some ((n5, ()), ()))
noncomputable def l61_7462 (k : Nat) (r61 : T61) : Nat → T61_7462
  | 0 => fun _ _ _ _ _ => none
  | j + 1 => b61_7462 k r61 (l61_7462 k r61 j)
noncomputable def pa61_58 : Shape := ⟨[.d (.slice (.rc 1)), .d i64, .d i64, .d i64], []⟩
noncomputable def pw61_58 : List Vm.Way := [⟨.exit 0, [5], ⟨[.d i64], []⟩⟩]
abbrev R61_58 : Type := ((Int × Unit) × Unit)
abbrev T61_58 : Type := (List PStmt) → Int → Int → Int → Option R61_58
noncomputable def u61_58 (f : T61_58) : (pa61_58).C → Option (WayC pw61_58) := fun (x : (((List PStmt) × Int × Int × Int × Unit) × Unit)) => f x.1.1 x.1.2.1 x.1.2.2.1 x.1.2.2.2.1
noncomputable def b61_58 (k : Nat) (r61 : T61) (rec : T61_58) : T61_58 := fun l0 most1 n5 i6 =>
  cond (decide (i6 < (l0.length : Int)))
    (cond (decide (n5 ≤ most1))
      (ix l0 i6 fun e1 =>
      ix l0 i6 fun e2 =>
      (r61 (sBody e2) most1).bind fun y3 =>
      ix l0 i6 fun e4 =>
      (r61 (sEls e4) most1).bind fun y5 =>
      let v6 := w64 ((w64 ((w64 ((w64 (n5 + 1)) + ((sExprs e1).length : Int))) + y3.1.1)) + y5.1.1)
      (l61_7462 k r61 k l0 most1 v6 i6 0).bind fun y7 =>
      (rec l0 most1 y7.1.1 (w64 (i6 + 1))).bind fun y8 =>
      some ((y8.1.1, ()), ()))
      (some ((n5, ()), ())))
    (some ((n5, ()), ()))
noncomputable def l61_58 (k : Nat) (r61 : T61) : Nat → T61_58
  | 0 => fun _ _ _ _ => none
  | j + 1 => b61_58 k r61 (l61_58 k r61 j)
noncomputable def b61 (k : Nat) (r61 : T61) : T61 := fun l0 most1 =>
  (l61_58 k r61 k l0 most1 0 0).bind fun y1 =>
  some ((y1.1.1, ()), ())
noncomputable def S61 : Nat → T61
  | 0 => (fun _ _ => none)
  | k + 1 => (b61 k (S61 k))
noncomputable def f61 (k : Nat) : T61 := (S61 k)
theorem f61_succ (k : Nat) : f61 (k + 1) = b61 k (f61 k) := rfl
noncomputable def C61 (k : Nat) (r61 : T61) : Nat → Fun := mkC [(25, (F25 (f25 k))), (61, (F61 r61))]
theorem c61_ok (k : Nat) (r61 : T61) (h61 : SoundFn Try.prog 61 (F61 r61)) : ∀ f, SoundFn Try.prog f (C61 k r61 f) := (mkC_cons (s25 k) (mkC_cons h61 mkC_nil))
noncomputable def H61_7462 (k : Nat) (r61 : T61) : Nat → Option Cut := addH noH 7462 ⟨runCut (wrC (bodyOf (codeAt 7462 (bd Try.f61) 7462))) 72 [0, 1, 5, 6, 7] pa61_7462 pw61_7462 (u61_7462 (l61_7462 k r61 k))⟩
theorem e61_7462 (k : Nat) (r61 : T61) (rec : T61_7462) (x : (pa61_7462).C) : roundF (C61 k r61) tt noH (bodyOf (codeAt 7462 (bd Try.f61) 7462)) 14924 72 [0, 1, 5, 6, 7] pa61_7462 pw61_7462 (u61_7462 rec) x = u61_7462 (b61_7462 k r61 rec) x := by kernel_rfl
theorem h61_7462_ok (k : Nat) (r61 : T61) (h61 : SoundFn Try.prog 61 (F61 r61)) : ∀ p S, H61_7462 k r61 p = some S → ∀ c, At (bd Try.f61) p c → CutOk Try.prog c S :=
  have hC := c61_ok k r61 h61
  addLoop hC ttOk (draw_ok hC ttOk mixed) noH_ok (by kernel_rfl) (F := fun j => u61_7462 (l61_7462 k r61 j)) (fun _ => rfl) (fun j x _ h => (e61_7462 k r61 (l61_7462 k r61 j) x).trans h) k
noncomputable def H61_58 (k : Nat) (r61 : T61) : Nat → Option Cut := addH (H61_7462 k r61) 58 ⟨runCut (wrC (bodyOf (codeAt 58 (bd Try.f61) 58))) 72 [0, 1, 5, 6] pa61_58 pw61_58 (u61_58 (l61_58 k r61 k))⟩
theorem e61_58 (k : Nat) (r61 : T61) (rec : T61_58) (x : (pa61_58).C) : roundF (C61 k r61) tt (H61_7462 k r61) (bodyOf (codeAt 58 (bd Try.f61) 58)) 116 72 [0, 1, 5, 6] pa61_58 pw61_58 (u61_58 rec) x = u61_58 (b61_58 k r61 rec) x := by kernel_rfl
theorem h61_58_ok (k : Nat) (r61 : T61) (h61 : SoundFn Try.prog 61 (F61 r61)) : ∀ p S, H61_58 k r61 p = some S → ∀ c, At (bd Try.f61) p c → CutOk Try.prog c S :=
  have hC := c61_ok k r61 h61
  addLoop hC ttOk (draw_ok hC ttOk mixed) (h61_7462_ok k r61 h61) (by kernel_rfl) (F := fun j => u61_58 (l61_58 k r61 j)) (fun _ => rfl) (fun j x _ h => (e61_58 k r61 (l61_58 k r61 j) x).trans h) k
theorem e61 (k : Nat) (r61 : T61) (x : (a61).C) : bodyR (C61 k r61) tt (H61_58 k r61) Try.f61 a61 o61 x = u61 (b61 k r61) x := by kernel_rfl
theorem q61 (k : Nat) (r61 : T61) (h61 : SoundFn Try.prog 61 (F61 r61)) : SoundFn Try.prog 61 (F61 (b61 k r61)) :=
  have hC := c61_ok k r61 h61
  fnR_sound hC ttOk (draw_ok hC ttOk mixed) Try.func61 (c0 := bd Try.f61) rfl (entry Try.func61 rfl (by decide)) (h61_58_ok k r61 h61) rfl (fun x _ h => (e61 k r61 x).trans h)
theorem sAll61 : ∀ k : Nat, SoundFn Try.prog 61 (F61 (f61 k))
  | 0 => noneR_ok (by intro x; rfl)
  | k + 1 =>
    have ih := sAll61 k
    q61 k (f61 k) ih
theorem s61 (k : Nat) : SoundFn Try.prog 61 (F61 (f61 k)) := (sAll61 k)
/-! f24 fathom/fathomlaw21.Light (R) -/
noncomputable def a24 : Shape := ⟨[.d T_Prog], []⟩
noncomputable def o24 : List Shape := [⟨[.d .bool], []⟩]
abbrev R24 : Type := ((Bool × Unit) × Unit)
abbrev T24 : Type := D_Prog → Option R24
noncomputable def u24 (f : T24) : (a24).C → Option (OutC o24) := fun (x : ((D_Prog × Unit) × Unit)) => f x.1.1
noncomputable def F24 (f : T24) : Fun := ⟨true, runR a24 o24 (u24 f)⟩
noncomputable def pa24_58 : Shape := ⟨[.ptr 0, .d i64, .d i64], [.box [.d i64, .d (.slice T_Decl), .d (.slice T_Proc)]]⟩
noncomputable def pw24_58 : List Vm.Way := [⟨.exit 0, [3], ⟨[.d i64], [.box [.d i64, .d (.slice T_Decl), .d (.slice T_Proc)]]⟩⟩]
abbrev R24_58 : Type := ((Int × Unit) × ((Int × (List D_Decl) × (List D_Proc) × Unit) × Unit))
abbrev T24_58 : Type := Int → Int → Int → (List D_Decl) → (List D_Proc) → Option R24_58
noncomputable def u24_58 (f : T24_58) : (pa24_58).C → Option (WayC pw24_58) := fun (x : ((Unit × Int × Int × Unit) × ((Int × (List D_Decl) × (List D_Proc) × Unit) × Unit))) => f x.1.2.1 x.1.2.2.1 x.2.1.1 x.2.1.2.1 x.2.1.2.2.1
noncomputable def b24_58 (k : Nat) (rec : T24_58) : T24_58 := fun n3 i4 o0_0 o0_1 o0_2 =>
  cond (decide (i4 < (o0_2.length : Int)))
    (cond (decide (i4 < 20))
      (ix o0_2 i4 fun e1 =>
      (f61 k e1.2.1 800).bind fun y2 =>
      (rec (w64 (n3 + y2.1.1)) (w64 (i4 + 1)) o0_0 o0_1 o0_2).bind fun y3 =>
      some ((y3.1.1, ()), ((y3.2.1.1, y3.2.1.2.1, y3.2.1.2.2.1, ()), ())))
      (some ((n3, ()), ((o0_0, o0_1, o0_2, ()), ()))))
    (some ((n3, ()), ((o0_0, o0_1, o0_2, ()), ())))
noncomputable def l24_58 (k : Nat) : Nat → T24_58
  | 0 => fun _ _ _ _ _ => none
  | j + 1 => b24_58 k (l24_58 k j)
noncomputable def f24 (k : Nat) : T24 := fun p0 =>
  (l24_58 k k (p0.2.1.length : Int) 0 p0.1 p0.2.1 p0.2.2.1).bind fun y1 =>
  cond (decide (y1.1.1 ≤ 800))
    (some (((decide ((y1.2.1.2.2.1.length : Int) ≤ 20)), ()), ()))
    (some ((false, ()), ()))
noncomputable def C24 (k : Nat) : Nat → Fun := mkC [(61, (F61 (f61 k)))]
theorem c24_ok (k : Nat) : ∀ f, SoundFn Try.prog f (C24 k f) := (mkC_cons (s61 k) mkC_nil)
noncomputable def H24_58 (k : Nat) : Nat → Option Cut := addH noH 58 ⟨runCut (wrC (bodyOf (codeAt 58 (bd Try.f24) 58))) 36 [1, 3, 4] pa24_58 pw24_58 (u24_58 (l24_58 k k))⟩
theorem e24_58 (k : Nat) (rec : T24_58) (x : (pa24_58).C) : roundF (C24 k) tt noH (bodyOf (codeAt 58 (bd Try.f24) 58)) 116 36 [1, 3, 4] pa24_58 pw24_58 (u24_58 rec) x = u24_58 (b24_58 k rec) x := by kernel_rfl
theorem h24_58_ok (k : Nat) : ∀ p S, H24_58 k p = some S → ∀ c, At (bd Try.f24) p c → CutOk Try.prog c S :=
  have hC := c24_ok k
  addLoop hC ttOk (draw_ok hC ttOk mixed) noH_ok (by kernel_rfl) (F := fun j => u24_58 (l24_58 k j)) (fun _ => rfl) (fun j x _ h => (e24_58 k (l24_58 k j) x).trans h) k
theorem e24 (k : Nat) (x : (a24).C) : bodyR (C24 k) tt (H24_58 k) Try.f24 a24 o24 x = u24 (f24 k) x := by kernel_rfl
theorem s24 (k : Nat) : SoundFn Try.prog 24 (F24 (f24 k)) :=
  have hC := c24_ok k
  fnR_sound hC ttOk (draw_ok hC ttOk mixed) Try.func24 (c0 := bd Try.f24) rfl (entry Try.func24 rfl (by decide)) (h24_58_ok k) rfl (fun x _ h => (e24 k x).trans h)
/-! f57 fathom/lex.letter (R) -/
noncomputable def a57 : Shape := ⟨[.d (.int .u8)], []⟩
noncomputable def o57 : List Shape := [⟨[.d .bool], []⟩]
abbrev R57 : Type := ((Bool × Unit) × Unit)
abbrev T57 : Type := Int → Option R57
noncomputable def u57 (f : T57) : (a57).C → Option (OutC o57) := fun (x : ((Int × Unit) × Unit)) => f x.1.1
noncomputable def F57 (f : T57) : Fun := ⟨true, runR a57 o57 (u57 f)⟩
noncomputable def f57 (k : Nat) : T57 := fun c_0 =>
  cond (decide (c_0 ≥ 97))
    (some (((decide (c_0 ≤ 122)), ()), ()))
    (some ((false, ()), ()))
noncomputable def C57 (k : Nat) : Nat → Fun := mkC []
theorem c57_ok (k : Nat) : ∀ f, SoundFn Try.prog f (C57 k f) := mkC_nil
theorem e57 (k : Nat) (x : (a57).C) : bodyR (C57 k) tt noH Try.f57 a57 o57 x = u57 (f57 k) x := by kernel_rfl
theorem s57 (k : Nat) : SoundFn Try.prog 57 (F57 (f57 k)) :=
  have hC := c57_ok k
  fnR_sound hC ttOk (draw_ok hC ttOk mixed) Try.func57 (c0 := bd Try.f57) rfl (entry Try.func57 rfl (by decide)) noH_ok rfl (fun x _ h => (e57 k x).trans h)
/-! f96 fathom/lex.digit (R) -/
noncomputable def a96 : Shape := ⟨[.d (.int .u8)], []⟩
noncomputable def o96 : List Shape := [⟨[.d .bool], []⟩]
abbrev R96 : Type := ((Bool × Unit) × Unit)
abbrev T96 : Type := Int → Option R96
noncomputable def u96 (f : T96) : (a96).C → Option (OutC o96) := fun (x : ((Int × Unit) × Unit)) => f x.1.1
noncomputable def F96 (f : T96) : Fun := ⟨true, runR a96 o96 (u96 f)⟩
noncomputable def f96 (k : Nat) : T96 := fun c_0 =>
  cond (decide (c_0 ≥ 48))
    (some (((decide (c_0 ≤ 57)), ()), ()))
    (some ((false, ()), ()))
noncomputable def C96 (k : Nat) : Nat → Fun := mkC []
theorem c96_ok (k : Nat) : ∀ f, SoundFn Try.prog f (C96 k f) := mkC_nil
theorem e96 (k : Nat) (x : (a96).C) : bodyR (C96 k) tt noH Try.f96 a96 o96 x = u96 (f96 k) x := by kernel_rfl
theorem s96 (k : Nat) : SoundFn Try.prog 96 (F96 (f96 k)) :=
  have hC := c96_ok k
  fnR_sound hC ttOk (draw_ok hC ttOk mixed) Try.func96 (c0 := bd Try.f96) rfl (entry Try.func96 rfl (by decide)) noH_ok rfl (fun x _ h => (e96 k x).trans h)
/-! f58 fathom/lex.run (R) -/
noncomputable def a58 : Shape := ⟨[.d (.slice (.int .u8)), .d i64], []⟩
noncomputable def o58 : List Shape := [⟨[.d i64], []⟩]
abbrev R58 : Type := ((Int × Unit) × Unit)
abbrev T58 : Type := (List Int) → Int → Option R58
noncomputable def u58 (f : T58) : (a58).C → Option (OutC o58) := fun (x : (((List Int) × Int × Unit) × Unit)) => f x.1.1 x.1.2.1
noncomputable def F58 (f : T58) : Fun := ⟨true, runR a58 o58 (u58 f)⟩
noncomputable def pa58_12 : Shape := ⟨[.d (.slice (.int .u8)), .d i64], []⟩
noncomputable def pw58_12 : List Vm.Way := [⟨.exit 0, [1], ⟨[.d i64], []⟩⟩]
abbrev R58_12 : Type := ((Int × Unit) × Unit)
abbrev T58_12 : Type := (List Int) → Int → Option R58_12
noncomputable def u58_12 (f : T58_12) : (pa58_12).C → Option (WayC pw58_12) := fun (x : (((List Int) × Int × Unit) × Unit)) => f x.1.1 x.1.2.1
noncomputable def b58_12 (k : Nat) (rec : T58_12) : T58_12 := fun b0 at1 =>
  cond (decide (at1 < (b0.length : Int)))
    (ix b0 at1 fun e1 =>
    (f57 k e1).bind fun y2 =>
    cond y2.1.1
      ((rec b0 (w64 (at1 + 1))).bind fun y3 =>
      some ((y3.1.1, ()), ()))
      (ix b0 at1 fun e4 =>
      (f96 k e4).bind fun y5 =>
      cond y5.1.1
        ((rec b0 (w64 (at1 + 1))).bind fun y6 =>
        some ((y6.1.1, ()), ()))
        (some ((at1, ()), ()))))
    (some ((at1, ()), ()))
noncomputable def l58_12 (k : Nat) : Nat → T58_12
  | 0 => fun _ _ => none
  | j + 1 => b58_12 k (l58_12 k j)
noncomputable def f58 (k : Nat) : T58 := fun b0 at1 =>
  (l58_12 k k b0 at1).bind fun y1 =>
  some ((y1.1.1, ()), ())
noncomputable def C58 (k : Nat) : Nat → Fun := mkC [(57, (F57 (f57 k))), (96, (F96 (f96 k)))]
theorem c58_ok (k : Nat) : ∀ f, SoundFn Try.prog f (C58 k f) := (mkC_cons (s57 k) (mkC_cons (s96 k) mkC_nil))
noncomputable def H58_12 (k : Nat) : Nat → Option Cut := addH noH 12 ⟨runCut (wrC (bodyOf (codeAt 12 (bd Try.f58) 12))) 26 [0, 1] pa58_12 pw58_12 (u58_12 (l58_12 k k))⟩
theorem e58_12 (k : Nat) (rec : T58_12) (x : (pa58_12).C) : roundF (C58 k) tt noH (bodyOf (codeAt 12 (bd Try.f58) 12)) 24 26 [0, 1] pa58_12 pw58_12 (u58_12 rec) x = u58_12 (b58_12 k rec) x := by kernel_rfl
theorem h58_12_ok (k : Nat) : ∀ p S, H58_12 k p = some S → ∀ c, At (bd Try.f58) p c → CutOk Try.prog c S :=
  have hC := c58_ok k
  addLoop hC ttOk (draw_ok hC ttOk mixed) noH_ok (by kernel_rfl) (F := fun j => u58_12 (l58_12 k j)) (fun _ => rfl) (fun j x _ h => (e58_12 k (l58_12 k j) x).trans h) k
theorem e58 (k : Nat) (x : (a58).C) : bodyR (C58 k) tt (H58_12 k) Try.f58 a58 o58 x = u58 (f58 k) x := by kernel_rfl
theorem s58 (k : Nat) : SoundFn Try.prog 58 (F58 (f58 k)) :=
  have hC := c58_ok k
  fnR_sound hC ttOk (draw_ok hC ttOk mixed) Try.func58 (c0 := bd Try.f58) rfl (entry Try.func58 rfl (by decide)) (h58_12_ok k) rfl (fun x _ h => (e58 k x).trans h)


/-! f17 fathom/lex.Key (R) -/
noncomputable def a17 : Shape := ⟨[.d .str], []⟩
noncomputable def o17 : List Shape := [⟨[.d .bool], []⟩]
abbrev R17 : Type := ((Bool × Unit) × Unit)
abbrev T17 : Type := ByteArray → Option R17
noncomputable def u17 (f : T17) : (a17).C → Option (OutC o17) := fun (x : ((ByteArray × Unit) × Unit)) => f x.1.1
noncomputable def F17 (f : T17) : Fun := ⟨true, runR a17 o17 (u17 f)⟩
noncomputable def f17 (k : Nat) : T17 := fun s0 =>
  cond (!(s0.toList == ByteArray.empty.toList))
    ((f54 k s0 32).bind fun y1 =>
    cond (decide (y1.1.1 < 0))
      (gd (decide ((ByteArray.mk #[32]).size + s0.size ≤ 9223372036854775807)) <|
      gd (decide (((ByteArray.mk #[32]) ++ s0).size + (ByteArray.mk #[32]).size ≤ 9223372036854775807)) <|
      (f55 k s_0 (((ByteArray.mk #[32]) ++ s0) ++ (ByteArray.mk #[32]))).bind fun y2 =>
      some ((y2.1.1, ()), ()))
      (some ((false, ()), ())))
    (some ((false, ()), ()))
noncomputable def C17 (k : Nat) : Nat → Fun := mkC [(54, (F54 (f54 k))), (55, (F55 (f55 k)))]
theorem c17_ok (k : Nat) : ∀ f, SoundFn Try.prog f (C17 k f) := (mkC_cons (s54 k) (mkC_cons (s55 k) mkC_nil))
theorem e17 (k : Nat) (x : (a17).C) : bodyR (C17 k) tt noH Try.f17 a17 o17 x = u17 (f17 k) x := by kernel_rfl
theorem s17 (k : Nat) : SoundFn Try.prog 17 (F17 (f17 k)) :=
  have hC := c17_ok k
  fnR_sound hC ttOk (draw_ok hC ttOk mixed) Try.func17 (c0 := bd Try.f17) rfl (entry Try.func17 rfl (by decide)) noH_ok rfl (fun x _ h => (e17 k x).trans h)
/-! f19 fathom/lex.Name (R) -/
noncomputable def a19 : Shape := ⟨[.d .str], []⟩
noncomputable def o19 : List Shape := [⟨[.d .bool], []⟩]
abbrev R19 : Type := ((Bool × Unit) × Unit)
abbrev T19 : Type := ByteArray → Option R19
noncomputable def u19 (f : T19) : (a19).C → Option (OutC o19) := fun (x : ((ByteArray × Unit) × Unit)) => f x.1.1
noncomputable def F19 (f : T19) : Fun := ⟨true, runR a19 o19 (u19 f)⟩
noncomputable def f19 (k : Nat) : T19 := fun s0 =>
  cond (!(s0.toList == ByteArray.empty.toList))
    (cond (decide ((s0.size : Int) ≤ 12))
      (ixs s0 0 fun c1 =>
      (f57 k c1).bind fun y2 =>
      cond y2.1.1
        ((f58 k (bytesD s0) 0).bind fun y3 =>
        cond (y3.1.1 == (s0.size : Int))
          ((f17 k s0).bind fun y4 =>
          some (((!y4.1.1), ()), ()))
          (some ((false, ()), ())))
        (some ((false, ()), ())))
      (some ((false, ()), ())))
    (some ((false, ()), ()))
noncomputable def C19 (k : Nat) : Nat → Fun := mkC [(17, (F17 (f17 k))), (57, (F57 (f57 k))), (58, (F58 (f58 k)))]
theorem c19_ok (k : Nat) : ∀ f, SoundFn Try.prog f (C19 k f) := (mkC_cons (s17 k) (mkC_cons (s57 k) (mkC_cons (s58 k) mkC_nil)))
theorem e19 (k : Nat) (x : (a19).C) : bodyR (C19 k) tt noH Try.f19 a19 o19 x = u19 (f19 k) x := by kernel_rfl
theorem s19 (k : Nat) : SoundFn Try.prog 19 (F19 (f19 k)) :=
  have hC := c19_ok k
  fnR_sound hC ttOk (draw_ok hC ttOk mixed) Try.func19 (c0 := bd Try.f19) rfl (entry Try.func19 rfl (by decide)) noH_ok rfl (fun x _ h => (e19 k x).trans h)
/-! f106 fathom/tree.decl (R) -/
noncomputable def a106 : Shape := ⟨[.d T_Decl], []⟩
noncomputable def o106 : List Shape := [⟨[.d .bool], []⟩]
abbrev R106 : Type := ((Bool × Unit) × Unit)
abbrev T106 : Type := D_Decl → Option R106
noncomputable def u106 (f : T106) : (a106).C → Option (OutC o106) := fun (x : ((D_Decl × Unit) × Unit)) => f x.1.1
noncomputable def F106 (f : T106) : Fun := ⟨true, runR a106 o106 (u106 f)⟩
noncomputable def f106 (k : Nat) : T106 := fun d0 =>
  cond (decide (d0.1 ≥ 1))
    (cond (decide (d0.1 ≤ 4))
      ((f19 k d0.2.1).bind fun y1 =>
      cond y1.1.1
        (cond (decide (d0.2.2.1 ≥ 0))
          (cond (decide (d0.2.2.1 ≤ 65535))
            (cond (d0.1 != 3)
              (some ((true, ()), ()))
              (some (((d0.2.2.1 == 0), ()), ())))
            (some ((false, ()), ())))
          (some ((false, ()), ())))
        (some ((false, ()), ())))
      (some ((false, ()), ())))
    (some ((false, ()), ()))
noncomputable def C106 (k : Nat) : Nat → Fun := mkC [(19, (F19 (f19 k)))]
theorem c106_ok (k : Nat) : ∀ f, SoundFn Try.prog f (C106 k f) := (mkC_cons (s19 k) mkC_nil)
theorem e106 (k : Nat) (x : (a106).C) : bodyR (C106 k) tt noH Try.f106 a106 o106 x = u106 (f106 k) x := by kernel_rfl
theorem s106 (k : Nat) : SoundFn Try.prog 106 (F106 (f106 k)) :=
  have hC := c106_ok k
  fnR_sound hC ttOk (draw_ok hC ttOk mixed) Try.func106 (c0 := bd Try.f106) rfl (entry Try.func106 rfl (by decide)) noH_ok rfl (fun x _ h => (e106 k x).trans h)
/-! f105 fathom/tree.count$1 (R) -/
noncomputable def a105 : Shape := ⟨[.d T_Decl], []⟩
noncomputable def o105 : List Shape := [⟨[.d .bool], []⟩]
abbrev R105 : Type := ((Bool × Unit) × Unit)
abbrev T105 : Type := D_Decl → Option R105
noncomputable def u105 (f : T105) : (a105).C → Option (OutC o105) := fun (x : ((D_Decl × Unit) × Unit)) => f x.1.1
noncomputable def F105 (f : T105) : Fun := ⟨true, runR a105 o105 (u105 f)⟩
noncomputable def f105 (k : Nat) : T105 := fun d0 =>
  (f106 k d0).bind fun y1 =>
  some (((!y1.1.1), ()), ())
noncomputable def C105 (k : Nat) : Nat → Fun := mkC [(106, (F106 (f106 k)))]
theorem c105_ok (k : Nat) : ∀ f, SoundFn Try.prog f (C105 k f) := (mkC_cons (s106 k) mkC_nil)
theorem e105 (k : Nat) (x : (a105).C) : bodyR (C105 k) tt noH Try.f105 a105 o105 x = u105 (f105 k) x := by kernel_rfl
theorem s105 (k : Nat) : SoundFn Try.prog 105 (F105 (f105 k)) :=
  have hC := c105_ok k
  fnR_sound hC ttOk (draw_ok hC ttOk mixed) Try.func105 (c0 := bd Try.f105) rfl (entry Try.func105 rfl (by decide)) noH_ok rfl (fun x _ h => (e105 k x).trans h)
/-! f87 slices.IndexFunc[[]fathom/api.Decl,fathom/api.Decl] (R) -/
noncomputable def a87 : Shape := ⟨[.d (.slice T_Decl), .fn 105 []], []⟩
noncomputable def o87 : List Shape := [⟨[.d i64], []⟩]
abbrev R87 : Type := ((Int × Unit) × Unit)
abbrev T87 : Type := (List D_Decl) → Option R87
noncomputable def u87 (f : T87) : (a87).C → Option (OutC o87) := fun (x : (((List D_Decl) × Unit × Unit) × Unit)) => f x.1.1
noncomputable def F87 (f : T87) : Fun := ⟨true, runR a87 o87 (u87 f)⟩
noncomputable def pa87_26 : Shape := ⟨[.d (.slice T_Decl), .fn 105 [], .d i64, .d i64], []⟩
noncomputable def pw87_26 : List Vm.Way := [⟨.exit 0, [], ⟨[], []⟩⟩, ⟨.ret, [4], ⟨[.d i64], []⟩⟩]
abbrev R87_26 : Type := ((Unit × Unit) ⊕ ((Int × Unit) × Unit))
abbrev T87_26 : Type := (List D_Decl) → Int → Int → Option R87_26
noncomputable def u87_26 (f : T87_26) : (pa87_26).C → Option (WayC pw87_26) := fun (x : (((List D_Decl) × Unit × Int × Int × Unit) × Unit)) => f x.1.1 x.1.2.2.1 x.1.2.2.2.1
noncomputable def b87_26 (k : Nat) (rec : T87_26) : T87_26 := fun s0 t7 t8 =>
  cond (decide (t8 < t7))
    (ix s0 t8 fun e1 =>
    (f105 k e1).bind fun y2 =>
    cond y2.1.1
      (some (.inr ((t8, ()), ())))
      ((rec s0 t7 (w64 (t8 + 1))).bind fun y3 =>
      match y3 with
      | .inl y3_0 =>
        some (.inl ((), ()))
      | .inr y3_1 =>
        some (.inr ((y3_1.1.1, ()), ()))))
    (some (.inl ((), ())))
noncomputable def l87_26 (k : Nat) : Nat → T87_26
  | 0 => fun _ _ _ => none
  | j + 1 => b87_26 k (l87_26 k j)
noncomputable def f87 (k : Nat) : T87 := fun s0 =>
  (l87_26 k k s0 (s0.length : Int) 0).bind fun y1 =>
  match y1 with
  | .inl y1_0 =>
    some (((-1), ()), ())
  | .inr y1_1 =>
    some ((y1_1.1.1, ()), ())
noncomputable def C87 (k : Nat) : Nat → Fun := mkC [(105, (F105 (f105 k)))]
theorem c87_ok (k : Nat) : ∀ f, SoundFn Try.prog f (C87 k f) := (mkC_cons (s105 k) mkC_nil)
noncomputable def H87_26 (k : Nat) : Nat → Option Cut := addH noH 26 ⟨runCut (wrC (bodyOf (codeAt 26 (bd Try.f87) 26))) 19 [0, 1, 7, 8] pa87_26 pw87_26 (u87_26 (l87_26 k k))⟩
theorem e87_26 (k : Nat) (rec : T87_26) (x : (pa87_26).C) : roundF (C87 k) tt noH (bodyOf (codeAt 26 (bd Try.f87) 26)) 52 19 [0, 1, 7, 8] pa87_26 pw87_26 (u87_26 rec) x = u87_26 (b87_26 k rec) x := by kernel_rfl
theorem h87_26_ok (k : Nat) : ∀ p S, H87_26 k p = some S → ∀ c, At (bd Try.f87) p c → CutOk Try.prog c S :=
  have hC := c87_ok k
  addLoop hC ttOk (draw_ok hC ttOk mixed) noH_ok (by kernel_rfl) (F := fun j => u87_26 (l87_26 k j)) (fun _ => rfl) (fun j x _ h => (e87_26 k (l87_26 k j) x).trans h) k
theorem e87 (k : Nat) (x : (a87).C) : bodyR (C87 k) tt (H87_26 k) Try.f87 a87 o87 x = u87 (f87 k) x := by kernel_rfl
theorem s87 (k : Nat) : SoundFn Try.prog 87 (F87 (f87 k)) :=
  have hC := c87_ok k
  fnR_sound hC ttOk (draw_ok hC ttOk mixed) Try.func87 (c0 := bd Try.f87) rfl (entry Try.func87 rfl (by decide)) (h87_26_ok k) rfl (fun x _ h => (e87 k x).trans h)
/-! f104 slices.ContainsFunc[[]fathom/api.Decl,fathom/api.Decl] (R) -/
noncomputable def a104 : Shape := ⟨[.d (.slice T_Decl), .fn 105 []], []⟩
noncomputable def o104 : List Shape := [⟨[.d .bool], []⟩]
abbrev R104 : Type := ((Bool × Unit) × Unit)
abbrev T104 : Type := (List D_Decl) → Option R104
noncomputable def u104 (f : T104) : (a104).C → Option (OutC o104) := fun (x : (((List D_Decl) × Unit × Unit) × Unit)) => f x.1.1
noncomputable def F104 (f : T104) : Fun := ⟨true, runR a104 o104 (u104 f)⟩
noncomputable def f104 (k : Nat) : T104 := fun s0 =>
  (f87 k s0).bind fun y1 =>
  some (((decide (y1.1.1 ≥ 0)), ()), ())
noncomputable def C104 (k : Nat) : Nat → Fun := mkC [(87, (F87 (f87 k)))]
theorem c104_ok (k : Nat) : ∀ f, SoundFn Try.prog f (C104 k f) := (mkC_cons (s87 k) mkC_nil)
theorem e104 (k : Nat) (x : (a104).C) : bodyR (C104 k) tt noH Try.f104 a104 o104 x = u104 (f104 k) x := by kernel_rfl
theorem s104 (k : Nat) : SoundFn Try.prog 104 (F104 (f104 k)) :=
  have hC := c104_ok k
  fnR_sound hC ttOk (draw_ok hC ttOk mixed) Try.func104 (c0 := bd Try.f104) rfl (entry Try.func104 rfl (by decide)) noH_ok rfl (fun x _ h => (e104 k x).trans h)
/-! f141 fathom/tree.asked (R) -/
noncomputable def a141 : Shape := ⟨[.d i64], []⟩
noncomputable def o141 : List Shape := [⟨[.d T_form, .d .bool], []⟩]
abbrev R141 : Type := ((D_form × Bool × Unit) × Unit)
abbrev T141 : Type := Int → Option R141
noncomputable def u141 (f : T141) : (a141).C → Option (OutC o141) := fun (x : ((Int × Unit) × Unit)) => f x.1.1
noncomputable def F141 (f : T141) : Fun := ⟨true, runR a141 o141 (u141 f)⟩
noncomputable def pa141_14155774 : Shape := ⟨[.d i64], []⟩
noncomputable def pw141_14155774 : List Vm.Way := [⟨.normal, [38], ⟨[.d .bool], []⟩⟩]
abbrev R141_14155774 : Type := ((Bool × Unit) × Unit)
abbrev T141_14155774 : Type := Int → Option R141_14155774
noncomputable def u141_14155774 (f : T141_14155774) : (pa141_14155774).C → Option (WayC pw141_14155774) := fun (x : ((Int × Unit) × Unit)) => f x.1.1
noncomputable def l141_14155774 (k : Nat) : T141_14155774 := fun t4 =>
  some (((t4 == 16), ()), ())
noncomputable def pa141_3538942 : Shape := ⟨[.d i64], []⟩
noncomputable def pw141_3538942 : List Vm.Way := [⟨.normal, [35], ⟨[.d .bool], []⟩⟩]
abbrev R141_3538942 : Type := ((Bool × Unit) × Unit)
abbrev T141_3538942 : Type := Int → Option R141_3538942
noncomputable def u141_3538942 (f : T141_3538942) : (pa141_3538942).C → Option (WayC pw141_3538942) := fun (x : ((Int × Unit) × Unit)) => f x.1.1
noncomputable def l141_3538942 (k : Nat) : T141_3538942 := fun t4 =>
  some (((t4 == 13), ()), ())
noncomputable def pa141_1769462 : Shape := ⟨[.d i64], []⟩
noncomputable def pw141_1769462 : List Vm.Way := [⟨.normal, [27], ⟨[.d .bool], []⟩⟩]
abbrev R141_1769462 : Type := ((Bool × Unit) × Unit)
abbrev T141_1769462 : Type := Int → Option R141_1769462
noncomputable def u141_1769462 (f : T141_1769462) : (pa141_1769462).C → Option (WayC pw141_1769462) := fun (x : ((Int × Unit) × Unit)) => f x.1.1
noncomputable def l141_1769462 (k : Nat) : T141_1769462 := fun t4 =>
  some (((t4 == 14), ()), ())
noncomputable def pa141_884734 : Shape := ⟨[.d i64], []⟩
noncomputable def pw141_884734 : List Vm.Way := [⟨.normal, [32], ⟨[.d .bool], []⟩⟩]
abbrev R141_884734 : Type := ((Bool × Unit) × Unit)
abbrev T141_884734 : Type := Int → Option R141_884734
noncomputable def u141_884734 (f : T141_884734) : (pa141_884734).C → Option (WayC pw141_884734) := fun (x : ((Int × Unit) × Unit)) => f x.1.1
noncomputable def l141_884734 (k : Nat) : T141_884734 := fun t4 =>
  some (((t4 == 12), ()), ())
noncomputable def pa141_442364 : Shape := ⟨[.d i64], []⟩
noncomputable def pw141_442364 : List Vm.Way := [⟨.normal, [27], ⟨[.d .bool], []⟩⟩]
abbrev R141_442364 : Type := ((Bool × Unit) × Unit)
abbrev T141_442364 : Type := Int → Option R141_442364
noncomputable def u141_442364 (f : T141_442364) : (pa141_442364).C → Option (WayC pw141_442364) := fun (x : ((Int × Unit) × Unit)) => f x.1.1
noncomputable def l141_442364 (k : Nat) : T141_442364 := fun t4 =>
  some (((t4 == 11), ()), ())
noncomputable def pa141_221182 : Shape := ⟨[.d i64], []⟩
noncomputable def pw141_221182 : List Vm.Way := [⟨.normal, [27], ⟨[.d .bool], []⟩⟩]
abbrev R141_221182 : Type := ((Bool × Unit) × Unit)
abbrev T141_221182 : Type := Int → Option R141_221182
noncomputable def u141_221182 (f : T141_221182) : (pa141_221182).C → Option (WayC pw141_221182) := fun (x : ((Int × Unit) × Unit)) => f x.1.1
noncomputable def l141_221182 (k : Nat) : T141_221182 := fun t4 =>
  (l141_442364 k t4).bind fun y1 =>
  cond y1.1.1
    (some ((y1.1.1, ()), ()))
    ((l141_1769462 k t4).bind fun y2 =>
    cond y2.1.1
      (some ((y2.1.1, ()), ()))
      (some (((t4 == 15), ()), ())))
noncomputable def pa141_55294 : Shape := ⟨[.d i64], []⟩
noncomputable def pw141_55294 : List Vm.Way := [⟨.normal, [24], ⟨[.d .bool], []⟩⟩]
abbrev R141_55294 : Type := ((Bool × Unit) × Unit)
abbrev T141_55294 : Type := Int → Option R141_55294
noncomputable def u141_55294 (f : T141_55294) : (pa141_55294).C → Option (WayC pw141_55294) := fun (x : ((Int × Unit) × Unit)) => f x.1.1
noncomputable def l141_55294 (k : Nat) : T141_55294 := fun t4 =>
  some (((t4 == 8), ()), ())
noncomputable def pa141_13822 : Shape := ⟨[.d i64], []⟩
noncomputable def pw141_13822 : List Vm.Way := [⟨.normal, [21], ⟨[.d .bool], []⟩⟩]
abbrev R141_13822 : Type := ((Bool × Unit) × Unit)
abbrev T141_13822 : Type := Int → Option R141_13822
noncomputable def u141_13822 (f : T141_13822) : (pa141_13822).C → Option (WayC pw141_13822) := fun (x : ((Int × Unit) × Unit)) => f x.1.1
noncomputable def l141_13822 (k : Nat) : T141_13822 := fun t4 =>
  some (((t4 == 7), ()), ())
noncomputable def pa141_6902 : Shape := ⟨[.d i64], []⟩
noncomputable def pw141_6902 : List Vm.Way := [⟨.normal, [13], ⟨[.d .bool], []⟩⟩]
abbrev R141_6902 : Type := ((Bool × Unit) × Unit)
abbrev T141_6902 : Type := Int → Option R141_6902
noncomputable def u141_6902 (f : T141_6902) : (pa141_6902).C → Option (WayC pw141_6902) := fun (x : ((Int × Unit) × Unit)) => f x.1.1
noncomputable def l141_6902 (k : Nat) : T141_6902 := fun t4 =>
  some (((t4 == 5), ()), ())
noncomputable def pa141_3454 : Shape := ⟨[.d i64], []⟩
noncomputable def pw141_3454 : List Vm.Way := [⟨.normal, [18], ⟨[.d .bool], []⟩⟩]
abbrev R141_3454 : Type := ((Bool × Unit) × Unit)
abbrev T141_3454 : Type := Int → Option R141_3454
noncomputable def u141_3454 (f : T141_3454) : (pa141_3454).C → Option (WayC pw141_3454) := fun (x : ((Int × Unit) × Unit)) => f x.1.1
noncomputable def l141_3454 (k : Nat) : T141_3454 := fun t4 =>
  some (((t4 == 6), ()), ())
noncomputable def pa141_1724 : Shape := ⟨[.d i64], []⟩
noncomputable def pw141_1724 : List Vm.Way := [⟨.normal, [13], ⟨[.d .bool], []⟩⟩]
abbrev R141_1724 : Type := ((Bool × Unit) × Unit)
abbrev T141_1724 : Type := Int → Option R141_1724
noncomputable def u141_1724 (f : T141_1724) : (pa141_1724).C → Option (WayC pw141_1724) := fun (x : ((Int × Unit) × Unit)) => f x.1.1
noncomputable def l141_1724 (k : Nat) : T141_1724 := fun t4 =>
  some (((t4 == 3), ()), ())
noncomputable def pa141_862 : Shape := ⟨[.d i64], []⟩
noncomputable def pw141_862 : List Vm.Way := [⟨.normal, [13], ⟨[.d .bool], []⟩⟩]
abbrev R141_862 : Type := ((Bool × Unit) × Unit)
abbrev T141_862 : Type := Int → Option R141_862
noncomputable def u141_862 (f : T141_862) : (pa141_862).C → Option (WayC pw141_862) := fun (x : ((Int × Unit) × Unit)) => f x.1.1
noncomputable def l141_862 (k : Nat) : T141_862 := fun t4 =>
  (l141_1724 k t4).bind fun y1 =>
  cond y1.1.1
    (some ((y1.1.1, ()), ()))
    ((l141_6902 k t4).bind fun y2 =>
    cond y2.1.1
      (some ((y2.1.1, ()), ()))
      (some (((t4 == 9), ()), ())))
noncomputable def pa141_214 : Shape := ⟨[.d i64], []⟩
noncomputable def pw141_214 : List Vm.Way := [⟨.normal, [8], ⟨[.d .bool], []⟩⟩]
abbrev R141_214 : Type := ((Bool × Unit) × Unit)
abbrev T141_214 : Type := Int → Option R141_214
noncomputable def u141_214 (f : T141_214) : (pa141_214).C → Option (WayC pw141_214) := fun (x : ((Int × Unit) × Unit)) => f x.1.1
noncomputable def l141_214 (k : Nat) : T141_214 := fun t4 =>
  cond (t4 == 2)
    (some (((t4 == 2), ()), ()))
    (cond (t4 == 4)
      (some (((t4 == 4), ()), ()))
      (some (((t4 == 10), ()), ())))
noncomputable def f141 (k : Nat) : T141 := fun kind0 =>
  cond (kind0 == 1)
    (some (((false, true, 1, false, false, ()), true, ()), ()))
    ((l141_214 k kind0).bind fun y1 =>
    cond y1.1.1
      (some (((true, true, 0, false, false, ()), true, ()), ()))
      ((l141_862 k kind0).bind fun y2 =>
      cond y2.1.1
        (some (((true, false, 1, false, false, ()), true, ()), ()))
        ((l141_3454 k kind0).bind fun y3 =>
        cond y3.1.1
          (some (((true, true, 1, false, false, ()), true, ()), ()))
          ((l141_13822 k kind0).bind fun y4 =>
          cond y4.1.1
            (some (((true, true, 2, false, false, ()), true, ()), ()))
            ((l141_55294 k kind0).bind fun y5 =>
            cond y5.1.1
              (some (((true, false, 0, true, false, ()), true, ()), ()))
              ((l141_221182 k kind0).bind fun y6 =>
              cond y6.1.1
                (some (((true, false, 0, false, false, ()), true, ()), ()))
                ((l141_884734 k kind0).bind fun y7 =>
                cond y7.1.1
                  (some (((false, false, 1, true, true, ()), true, ()), ()))
                  ((l141_3538942 k kind0).bind fun y8 =>
                  cond y8.1.1
                    (some (((true, false, 1, true, false, ()), true, ()), ()))
                    ((l141_14155774 k kind0).bind fun y9 =>
                    cond y9.1.1
                      (some (((false, false, 1, false, false, ()), true, ()), ()))
                      (some (((false, false, 0, false, false, ()), false, ()), ())))))))))))
noncomputable def C141 (k : Nat) : Nat → Fun := mkC []
theorem c141_ok (k : Nat) : ∀ f, SoundFn Try.prog f (C141 k f) := mkC_nil
noncomputable def H141_14155774 (k : Nat) : Nat → Option Cut := addH noH 14155774 ⟨runCut (wrC (codeAt 14155774 (bd Try.f141) 14155774)) 42 [4] pa141_14155774 pw141_14155774 (u141_14155774 (l141_14155774 k))⟩
theorem e141_14155774 (k : Nat) (x : (pa141_14155774).C) : pieceF (C141 k) tt noH (codeAt 14155774 (bd Try.f141) 14155774) 14155774 42 [4] pa141_14155774 pw141_14155774 x = u141_14155774 (l141_14155774 k) x := by kernel_rfl
theorem h141_14155774_ok (k : Nat) : ∀ p S, H141_14155774 k p = some S → ∀ c, At (bd Try.f141) p c → CutOk Try.prog c S :=
  have hC := c141_ok k
  addPiece hC ttOk (draw_ok hC ttOk mixed) noH_ok (fun x _ h => (e141_14155774 k x).trans h)
noncomputable def H141_3538942 (k : Nat) : Nat → Option Cut := addH (H141_14155774 k) 3538942 ⟨runCut (wrC (codeAt 3538942 (bd Try.f141) 3538942)) 42 [4] pa141_3538942 pw141_3538942 (u141_3538942 (l141_3538942 k))⟩
theorem e141_3538942 (k : Nat) (x : (pa141_3538942).C) : pieceF (C141 k) tt (H141_14155774 k) (codeAt 3538942 (bd Try.f141) 3538942) 3538942 42 [4] pa141_3538942 pw141_3538942 x = u141_3538942 (l141_3538942 k) x := by kernel_rfl
theorem h141_3538942_ok (k : Nat) : ∀ p S, H141_3538942 k p = some S → ∀ c, At (bd Try.f141) p c → CutOk Try.prog c S :=
  have hC := c141_ok k
  addPiece hC ttOk (draw_ok hC ttOk mixed) (h141_14155774_ok k) (fun x _ h => (e141_3538942 k x).trans h)
noncomputable def H141_1769462 (k : Nat) : Nat → Option Cut := addH (H141_3538942 k) 1769462 ⟨runCut (wrC (codeAt 1769462 (bd Try.f141) 1769462)) 42 [4] pa141_1769462 pw141_1769462 (u141_1769462 (l141_1769462 k))⟩
theorem e141_1769462 (k : Nat) (x : (pa141_1769462).C) : pieceF (C141 k) tt (H141_3538942 k) (codeAt 1769462 (bd Try.f141) 1769462) 1769462 42 [4] pa141_1769462 pw141_1769462 x = u141_1769462 (l141_1769462 k) x := by kernel_rfl
theorem h141_1769462_ok (k : Nat) : ∀ p S, H141_1769462 k p = some S → ∀ c, At (bd Try.f141) p c → CutOk Try.prog c S :=
  have hC := c141_ok k
  addPiece hC ttOk (draw_ok hC ttOk mixed) (h141_3538942_ok k) (fun x _ h => (e141_1769462 k x).trans h)
noncomputable def H141_884734 (k : Nat) : Nat → Option Cut := addH (H141_1769462 k) 884734 ⟨runCut (wrC (codeAt 884734 (bd Try.f141) 884734)) 42 [4] pa141_884734 pw141_884734 (u141_884734 (l141_884734 k))⟩
theorem e141_884734 (k : Nat) (x : (pa141_884734).C) : pieceF (C141 k) tt (H141_1769462 k) (codeAt 884734 (bd Try.f141) 884734) 884734 42 [4] pa141_884734 pw141_884734 x = u141_884734 (l141_884734 k) x := by kernel_rfl
theorem h141_884734_ok (k : Nat) : ∀ p S, H141_884734 k p = some S → ∀ c, At (bd Try.f141) p c → CutOk Try.prog c S :=
  have hC := c141_ok k
  addPiece hC ttOk (draw_ok hC ttOk mixed) (h141_1769462_ok k) (fun x _ h => (e141_884734 k x).trans h)
noncomputable def H141_442364 (k : Nat) : Nat → Option Cut := addH (H141_884734 k) 442364 ⟨runCut (wrC (codeAt 442364 (bd Try.f141) 442364)) 42 [4] pa141_442364 pw141_442364 (u141_442364 (l141_442364 k))⟩
theorem e141_442364 (k : Nat) (x : (pa141_442364).C) : pieceF (C141 k) tt (H141_884734 k) (codeAt 442364 (bd Try.f141) 442364) 442364 42 [4] pa141_442364 pw141_442364 x = u141_442364 (l141_442364 k) x := by kernel_rfl
theorem h141_442364_ok (k : Nat) : ∀ p S, H141_442364 k p = some S → ∀ c, At (bd Try.f141) p c → CutOk Try.prog c S :=
  have hC := c141_ok k
  addPiece hC ttOk (draw_ok hC ttOk mixed) (h141_884734_ok k) (fun x _ h => (e141_442364 k x).trans h)
noncomputable def H141_221182 (k : Nat) : Nat → Option Cut := addH (H141_442364 k) 221182 ⟨runCut (wrC (codeAt 221182 (bd Try.f141) 221182)) 42 [4] pa141_221182 pw141_221182 (u141_221182 (l141_221182 k))⟩
theorem e141_221182 (k : Nat) (x : (pa141_221182).C) : pieceF (C141 k) tt (H141_442364 k) (codeAt 221182 (bd Try.f141) 221182) 221182 42 [4] pa141_221182 pw141_221182 x = u141_221182 (l141_221182 k) x := by kernel_rfl
theorem h141_221182_ok (k : Nat) : ∀ p S, H141_221182 k p = some S → ∀ c, At (bd Try.f141) p c → CutOk Try.prog c S :=
  have hC := c141_ok k
  addPiece hC ttOk (draw_ok hC ttOk mixed) (h141_442364_ok k) (fun x _ h => (e141_221182 k x).trans h)
noncomputable def H141_55294 (k : Nat) : Nat → Option Cut := addH (H141_221182 k) 55294 ⟨runCut (wrC (codeAt 55294 (bd Try.f141) 55294)) 42 [4] pa141_55294 pw141_55294 (u141_55294 (l141_55294 k))⟩
theorem e141_55294 (k : Nat) (x : (pa141_55294).C) : pieceF (C141 k) tt (H141_221182 k) (codeAt 55294 (bd Try.f141) 55294) 55294 42 [4] pa141_55294 pw141_55294 x = u141_55294 (l141_55294 k) x := by kernel_rfl
theorem h141_55294_ok (k : Nat) : ∀ p S, H141_55294 k p = some S → ∀ c, At (bd Try.f141) p c → CutOk Try.prog c S :=
  have hC := c141_ok k
  addPiece hC ttOk (draw_ok hC ttOk mixed) (h141_221182_ok k) (fun x _ h => (e141_55294 k x).trans h)
noncomputable def H141_13822 (k : Nat) : Nat → Option Cut := addH (H141_55294 k) 13822 ⟨runCut (wrC (codeAt 13822 (bd Try.f141) 13822)) 42 [4] pa141_13822 pw141_13822 (u141_13822 (l141_13822 k))⟩
theorem e141_13822 (k : Nat) (x : (pa141_13822).C) : pieceF (C141 k) tt (H141_55294 k) (codeAt 13822 (bd Try.f141) 13822) 13822 42 [4] pa141_13822 pw141_13822 x = u141_13822 (l141_13822 k) x := by kernel_rfl
theorem h141_13822_ok (k : Nat) : ∀ p S, H141_13822 k p = some S → ∀ c, At (bd Try.f141) p c → CutOk Try.prog c S :=
  have hC := c141_ok k
  addPiece hC ttOk (draw_ok hC ttOk mixed) (h141_55294_ok k) (fun x _ h => (e141_13822 k x).trans h)
noncomputable def H141_6902 (k : Nat) : Nat → Option Cut := addH (H141_13822 k) 6902 ⟨runCut (wrC (codeAt 6902 (bd Try.f141) 6902)) 42 [4] pa141_6902 pw141_6902 (u141_6902 (l141_6902 k))⟩
theorem e141_6902 (k : Nat) (x : (pa141_6902).C) : pieceF (C141 k) tt (H141_13822 k) (codeAt 6902 (bd Try.f141) 6902) 6902 42 [4] pa141_6902 pw141_6902 x = u141_6902 (l141_6902 k) x := by kernel_rfl
theorem h141_6902_ok (k : Nat) : ∀ p S, H141_6902 k p = some S → ∀ c, At (bd Try.f141) p c → CutOk Try.prog c S :=
  have hC := c141_ok k
  addPiece hC ttOk (draw_ok hC ttOk mixed) (h141_13822_ok k) (fun x _ h => (e141_6902 k x).trans h)
noncomputable def H141_3454 (k : Nat) : Nat → Option Cut := addH (H141_6902 k) 3454 ⟨runCut (wrC (codeAt 3454 (bd Try.f141) 3454)) 42 [4] pa141_3454 pw141_3454 (u141_3454 (l141_3454 k))⟩
theorem e141_3454 (k : Nat) (x : (pa141_3454).C) : pieceF (C141 k) tt (H141_6902 k) (codeAt 3454 (bd Try.f141) 3454) 3454 42 [4] pa141_3454 pw141_3454 x = u141_3454 (l141_3454 k) x := by kernel_rfl
theorem h141_3454_ok (k : Nat) : ∀ p S, H141_3454 k p = some S → ∀ c, At (bd Try.f141) p c → CutOk Try.prog c S :=
  have hC := c141_ok k
  addPiece hC ttOk (draw_ok hC ttOk mixed) (h141_6902_ok k) (fun x _ h => (e141_3454 k x).trans h)
noncomputable def H141_1724 (k : Nat) : Nat → Option Cut := addH (H141_3454 k) 1724 ⟨runCut (wrC (codeAt 1724 (bd Try.f141) 1724)) 42 [4] pa141_1724 pw141_1724 (u141_1724 (l141_1724 k))⟩
theorem e141_1724 (k : Nat) (x : (pa141_1724).C) : pieceF (C141 k) tt (H141_3454 k) (codeAt 1724 (bd Try.f141) 1724) 1724 42 [4] pa141_1724 pw141_1724 x = u141_1724 (l141_1724 k) x := by kernel_rfl
theorem h141_1724_ok (k : Nat) : ∀ p S, H141_1724 k p = some S → ∀ c, At (bd Try.f141) p c → CutOk Try.prog c S :=
  have hC := c141_ok k
  addPiece hC ttOk (draw_ok hC ttOk mixed) (h141_3454_ok k) (fun x _ h => (e141_1724 k x).trans h)
noncomputable def H141_862 (k : Nat) : Nat → Option Cut := addH (H141_1724 k) 862 ⟨runCut (wrC (codeAt 862 (bd Try.f141) 862)) 42 [4] pa141_862 pw141_862 (u141_862 (l141_862 k))⟩
theorem e141_862 (k : Nat) (x : (pa141_862).C) : pieceF (C141 k) tt (H141_1724 k) (codeAt 862 (bd Try.f141) 862) 862 42 [4] pa141_862 pw141_862 x = u141_862 (l141_862 k) x := by kernel_rfl
theorem h141_862_ok (k : Nat) : ∀ p S, H141_862 k p = some S → ∀ c, At (bd Try.f141) p c → CutOk Try.prog c S :=
  have hC := c141_ok k
  addPiece hC ttOk (draw_ok hC ttOk mixed) (h141_1724_ok k) (fun x _ h => (e141_862 k x).trans h)
noncomputable def H141_214 (k : Nat) : Nat → Option Cut := addH (H141_862 k) 214 ⟨runCut (wrC (codeAt 214 (bd Try.f141) 214)) 42 [4] pa141_214 pw141_214 (u141_214 (l141_214 k))⟩
theorem e141_214 (k : Nat) (x : (pa141_214).C) : pieceF (C141 k) tt (H141_862 k) (codeAt 214 (bd Try.f141) 214) 214 42 [4] pa141_214 pw141_214 x = u141_214 (l141_214 k) x := by kernel_rfl
theorem h141_214_ok (k : Nat) : ∀ p S, H141_214 k p = some S → ∀ c, At (bd Try.f141) p c → CutOk Try.prog c S :=
  have hC := c141_ok k
  addPiece hC ttOk (draw_ok hC ttOk mixed) (h141_862_ok k) (fun x _ h => (e141_214 k x).trans h)
theorem e141 (k : Nat) (x : (a141).C) : bodyR (C141 k) tt (H141_214 k) Try.f141 a141 o141 x = u141 (f141 k) x := by kernel_rfl
theorem s141 (k : Nat) : SoundFn Try.prog 141 (F141 (f141 k)) :=
  have hC := c141_ok k
  fnR_sound hC ttOk (draw_ok hC ttOk mixed) Try.func141 (c0 := bd Try.f141) rfl (entry Try.func141 rfl (by decide)) (h141_214_ok k) rfl (fun x _ h => (e141 k x).trans h)
/-! f142 fathom/tree.fits (R) -/
noncomputable def a142 : Shape := ⟨[.d .str, .d .bool], []⟩
noncomputable def o142 : List Shape := [⟨[.d .bool], []⟩]
abbrev R142 : Type := ((Bool × Unit) × Unit)
abbrev T142 : Type := ByteArray → Bool → Option R142
noncomputable def u142 (f : T142) : (a142).C → Option (OutC o142) := fun (x : ((ByteArray × Bool × Unit) × Unit)) => f x.1.1 x.1.2.1
noncomputable def F142 (f : T142) : Fun := ⟨true, runR a142 o142 (u142 f)⟩
noncomputable def f142 (k : Nat) : T142 := fun s0 want1 =>
  cond want1
    ((f19 k s0).bind fun y1 =>
    some ((y1.1.1, ()), ()))
    (some (((s0.toList == ByteArray.empty.toList), ()), ()))
noncomputable def C142 (k : Nat) : Nat → Fun := mkC [(19, (F19 (f19 k)))]
theorem c142_ok (k : Nat) : ∀ f, SoundFn Try.prog f (C142 k f) := (mkC_cons (s19 k) mkC_nil)
theorem e142 (k : Nat) (x : (a142).C) : bodyR (C142 k) tt noH Try.f142 a142 o142 x = u142 (f142 k) x := by kernel_rfl
theorem s142 (k : Nat) : SoundFn Try.prog 142 (F142 (f142 k)) :=
  have hC := c142_ok k
  fnR_sound hC ttOk (draw_ok hC ttOk mixed) Try.func142 (c0 := bd Try.f142) rfl (entry Try.func142 rfl (by decide)) noH_ok rfl (fun x _ h => (e142 k x).trans h)
/-! f22 fathom/tree.Binary (R) -/
noncomputable def a22 : Shape := ⟨[.d .str], []⟩
noncomputable def o22 : List Shape := [⟨[.d i64], []⟩]
abbrev R22 : Type := ((Int × Unit) × Unit)
abbrev T22 : Type := ByteArray → Option R22
noncomputable def u22 (f : T22) : (a22).C → Option (OutC o22) := fun (x : ((ByteArray × Unit) × Unit)) => f x.1.1
noncomputable def F22 (f : T22) : Fun := ⟨true, runR a22 o22 (u22 f)⟩
noncomputable def pa22_441854 : Shape := ⟨[.d .str], []⟩
noncomputable def pw22_441854 : List Vm.Way := [⟨.normal, [16], ⟨[.d .bool], []⟩⟩]
abbrev R22_441854 : Type := ((Bool × Unit) × Unit)
abbrev T22_441854 : Type := ByteArray → Option R22_441854
noncomputable def u22_441854 (f : T22_441854) : (pa22_441854).C → Option (WayC pw22_441854) := fun (x : ((ByteArray × Unit) × Unit)) => f x.1.1
noncomputable def l22_441854 (k : Nat) : T22_441854 := fun t3 =>
  some (((t3.toList == (ByteArray.mk #[62]).toList), ()), ())
noncomputable def pa22_110462 : Shape := ⟨[.d .str], []⟩
noncomputable def pw22_110462 : List Vm.Way := [⟨.normal, [16], ⟨[.d .bool], []⟩⟩]
abbrev R22_110462 : Type := ((Bool × Unit) × Unit)
abbrev T22_110462 : Type := ByteArray → Option R22_110462
noncomputable def u22_110462 (f : T22_110462) : (pa22_110462).C → Option (WayC pw22_110462) := fun (x : ((ByteArray × Unit) × Unit)) => f x.1.1
noncomputable def l22_110462 (k : Nat) : T22_110462 := fun t3 =>
  some (((t3.toList == (ByteArray.mk #[60, 61]).toList), ()), ())
noncomputable def pa22_27614 : Shape := ⟨[.d .str], []⟩
noncomputable def pw22_27614 : List Vm.Way := [⟨.normal, [16], ⟨[.d .bool], []⟩⟩]
abbrev R22_27614 : Type := ((Bool × Unit) × Unit)
abbrev T22_27614 : Type := ByteArray → Option R22_27614
noncomputable def u22_27614 (f : T22_27614) : (pa22_27614).C → Option (WayC pw22_27614) := fun (x : ((ByteArray × Unit) × Unit)) => f x.1.1
noncomputable def l22_27614 (k : Nat) : T22_27614 := fun t3 =>
  some (((t3.toList == (ByteArray.mk #[60]).toList), ()), ())
noncomputable def pa22_13822 : Shape := ⟨[.d .str], []⟩
noncomputable def pw22_13822 : List Vm.Way := [⟨.normal, [25], ⟨[.d .bool], []⟩⟩]
abbrev R22_13822 : Type := ((Bool × Unit) × Unit)
abbrev T22_13822 : Type := ByteArray → Option R22_13822
noncomputable def u22_13822 (f : T22_13822) : (pa22_13822).C → Option (WayC pw22_13822) := fun (x : ((ByteArray × Unit) × Unit)) => f x.1.1
noncomputable def l22_13822 (k : Nat) : T22_13822 := fun t3 =>
  some (((t3.toList == (ByteArray.mk #[124, 124]).toList), ()), ())
noncomputable def pa22_6902 : Shape := ⟨[.d .str], []⟩
noncomputable def pw22_6902 : List Vm.Way := [⟨.normal, [16], ⟨[.d .bool], []⟩⟩]
abbrev R22_6902 : Type := ((Bool × Unit) × Unit)
abbrev T22_6902 : Type := ByteArray → Option R22_6902
noncomputable def u22_6902 (f : T22_6902) : (pa22_6902).C → Option (WayC pw22_6902) := fun (x : ((ByteArray × Unit) × Unit)) => f x.1.1
noncomputable def l22_6902 (k : Nat) : T22_6902 := fun t3 =>
  some (((t3.toList == (ByteArray.mk #[33, 61]).toList), ()), ())
noncomputable def pa22_6878 : Shape := ⟨[.d .str], []⟩
noncomputable def pw22_6878 : List Vm.Way := [⟨.normal, [11], ⟨[.d .bool], []⟩⟩]
abbrev R22_6878 : Type := ((Bool × Unit) × Unit)
abbrev T22_6878 : Type := ByteArray → Option R22_6878
noncomputable def u22_6878 (f : T22_6878) : (pa22_6878).C → Option (WayC pw22_6878) := fun (x : ((ByteArray × Unit) × Unit)) => f x.1.1
noncomputable def l22_6878 (k : Nat) : T22_6878 := fun t3 =>
  some (((t3.toList == (ByteArray.mk #[124]).toList), ()), ())
noncomputable def pa22_3454 : Shape := ⟨[.d .str], []⟩
noncomputable def pw22_3454 : List Vm.Way := [⟨.normal, [23], ⟨[.d .bool], []⟩⟩]
abbrev R22_3454 : Type := ((Bool × Unit) × Unit)
abbrev T22_3454 : Type := ByteArray → Option R22_3454
noncomputable def u22_3454 (f : T22_3454) : (pa22_3454).C → Option (WayC pw22_3454) := fun (x : ((ByteArray × Unit) × Unit)) => f x.1.1
noncomputable def l22_3454 (k : Nat) : T22_3454 := fun t3 =>
  some (((t3.toList == (ByteArray.mk #[38, 38]).toList), ()), ())
noncomputable def pa22_1724 : Shape := ⟨[.d .str], []⟩
noncomputable def pw22_1724 : List Vm.Way := [⟨.normal, [16], ⟨[.d .bool], []⟩⟩]
abbrev R22_1724 : Type := ((Bool × Unit) × Unit)
abbrev T22_1724 : Type := ByteArray → Option R22_1724
noncomputable def u22_1724 (f : T22_1724) : (pa22_1724).C → Option (WayC pw22_1724) := fun (x : ((ByteArray × Unit) × Unit)) => f x.1.1
noncomputable def l22_1724 (k : Nat) : T22_1724 := fun t3 =>
  some (((t3.toList == (ByteArray.mk #[61, 61]).toList), ()), ())
noncomputable def pa22_1718 : Shape := ⟨[.d .str], []⟩
noncomputable def pw22_1718 : List Vm.Way := [⟨.normal, [11], ⟨[.d .bool], []⟩⟩]
abbrev R22_1718 : Type := ((Bool × Unit) × Unit)
abbrev T22_1718 : Type := ByteArray → Option R22_1718
noncomputable def u22_1718 (f : T22_1718) : (pa22_1718).C → Option (WayC pw22_1718) := fun (x : ((ByteArray × Unit) × Unit)) => f x.1.1
noncomputable def l22_1718 (k : Nat) : T22_1718 := fun t3 =>
  some (((t3.toList == (ByteArray.mk #[45]).toList), ()), ())
noncomputable def pa22_862 : Shape := ⟨[.d .str], []⟩
noncomputable def pw22_862 : List Vm.Way := [⟨.normal, [16], ⟨[.d .bool], []⟩⟩]
abbrev R22_862 : Type := ((Bool × Unit) × Unit)
abbrev T22_862 : Type := ByteArray → Option R22_862
noncomputable def u22_862 (f : T22_862) : (pa22_862).C → Option (WayC pw22_862) := fun (x : ((ByteArray × Unit) × Unit)) => f x.1.1
noncomputable def l22_862 (k : Nat) : T22_862 := fun t3 =>
  (l22_1724 k t3).bind fun y1 =>
  cond y1.1.1
    (some ((y1.1.1, ()), ()))
    ((l22_6902 k t3).bind fun y2 =>
    cond y2.1.1
      (some ((y2.1.1, ()), ()))
      ((l22_27614 k t3).bind fun y3 =>
      cond y3.1.1
        (some ((y3.1.1, ()), ()))
        ((l22_110462 k t3).bind fun y4 =>
        cond y4.1.1
          (some ((y4.1.1, ()), ()))
          ((l22_441854 k t3).bind fun y5 =>
          cond y5.1.1
            (some ((y5.1.1, ()), ()))
            (some (((t3.toList == (ByteArray.mk #[62, 61]).toList), ()), ()))))))
noncomputable def pa22_428 : Shape := ⟨[.d .str], []⟩
noncomputable def pw22_428 : List Vm.Way := [⟨.normal, [11], ⟨[.d .bool], []⟩⟩]
abbrev R22_428 : Type := ((Bool × Unit) × Unit)
abbrev T22_428 : Type := ByteArray → Option R22_428
noncomputable def u22_428 (f : T22_428) : (pa22_428).C → Option (WayC pw22_428) := fun (x : ((ByteArray × Unit) × Unit)) => f x.1.1
noncomputable def l22_428 (k : Nat) : T22_428 := fun t3 =>
  some (((t3.toList == (ByteArray.mk #[43]).toList), ()), ())
noncomputable def pa22_214 : Shape := ⟨[.d .str], []⟩
noncomputable def pw22_214 : List Vm.Way := [⟨.normal, [11], ⟨[.d .bool], []⟩⟩]
abbrev R22_214 : Type := ((Bool × Unit) × Unit)
abbrev T22_214 : Type := ByteArray → Option R22_214
noncomputable def u22_214 (f : T22_214) : (pa22_214).C → Option (WayC pw22_214) := fun (x : ((ByteArray × Unit) × Unit)) => f x.1.1
noncomputable def l22_214 (k : Nat) : T22_214 := fun t3 =>
  (l22_428 k t3).bind fun y1 =>
  cond y1.1.1
    (some ((y1.1.1, ()), ()))
    ((l22_1718 k t3).bind fun y2 =>
    cond y2.1.1
      (some ((y2.1.1, ()), ()))
      ((l22_6878 k t3).bind fun y3 =>
      cond y3.1.1
        (some ((y3.1.1, ()), ()))
        (some (((t3.toList == (ByteArray.mk #[94]).toList), ()), ()))))
noncomputable def pa22_52 : Shape := ⟨[.d .str], []⟩
noncomputable def pw22_52 : List Vm.Way := [⟨.normal, [4], ⟨[.d .bool], []⟩⟩]
abbrev R22_52 : Type := ((Bool × Unit) × Unit)
abbrev T22_52 : Type := ByteArray → Option R22_52
noncomputable def u22_52 (f : T22_52) : (pa22_52).C → Option (WayC pw22_52) := fun (x : ((ByteArray × Unit) × Unit)) => f x.1.1
noncomputable def l22_52 (k : Nat) : T22_52 := fun t3 =>
  cond (t3.toList == (ByteArray.mk #[42]).toList)
    (some (((t3.toList == (ByteArray.mk #[42]).toList), ()), ()))
    (cond (t3.toList == (ByteArray.mk #[47]).toList)
      (some (((t3.toList == (ByteArray.mk #[47]).toList), ()), ()))
      (cond (t3.toList == (ByteArray.mk #[37]).toList)
        (some (((t3.toList == (ByteArray.mk #[37]).toList), ()), ()))
        (cond (t3.toList == (ByteArray.mk #[60, 60]).toList)
          (some (((t3.toList == (ByteArray.mk #[60, 60]).toList), ()), ()))
          (cond (t3.toList == (ByteArray.mk #[62, 62]).toList)
            (some (((t3.toList == (ByteArray.mk #[62, 62]).toList), ()), ()))
            (some (((t3.toList == (ByteArray.mk #[38]).toList), ()), ()))))))
noncomputable def f22 (k : Nat) : T22 := fun op0 =>
  (l22_52 k op0).bind fun y1 =>
  cond y1.1.1
    (some ((5, ()), ()))
    ((l22_214 k op0).bind fun y2 =>
    cond y2.1.1
      (some ((4, ()), ()))
      ((l22_862 k op0).bind fun y3 =>
      cond y3.1.1
        (some ((3, ()), ()))
        ((l22_3454 k op0).bind fun y4 =>
        cond y4.1.1
          (some ((2, ()), ()))
          ((l22_13822 k op0).bind fun y5 =>
          cond y5.1.1
            (some ((1, ()), ()))
            (some ((0, ()), ()))))))
noncomputable def C22 (k : Nat) : Nat → Fun := mkC []
theorem c22_ok (k : Nat) : ∀ f, SoundFn Try.prog f (C22 k f) := mkC_nil
noncomputable def H22_441854 (k : Nat) : Nat → Option Cut := addH noH 441854 ⟨runCut (wrC (codeAt 441854 (bd Try.f22) 441854)) 27 [3] pa22_441854 pw22_441854 (u22_441854 (l22_441854 k))⟩
theorem e22_441854 (k : Nat) (x : (pa22_441854).C) : pieceF (C22 k) tt noH (codeAt 441854 (bd Try.f22) 441854) 441854 27 [3] pa22_441854 pw22_441854 x = u22_441854 (l22_441854 k) x := by kernel_rfl
theorem h22_441854_ok (k : Nat) : ∀ p S, H22_441854 k p = some S → ∀ c, At (bd Try.f22) p c → CutOk Try.prog c S :=
  have hC := c22_ok k
  addPiece hC ttOk (draw_ok hC ttOk mixed) noH_ok (fun x _ h => (e22_441854 k x).trans h)
noncomputable def H22_110462 (k : Nat) : Nat → Option Cut := addH (H22_441854 k) 110462 ⟨runCut (wrC (codeAt 110462 (bd Try.f22) 110462)) 27 [3] pa22_110462 pw22_110462 (u22_110462 (l22_110462 k))⟩
theorem e22_110462 (k : Nat) (x : (pa22_110462).C) : pieceF (C22 k) tt (H22_441854 k) (codeAt 110462 (bd Try.f22) 110462) 110462 27 [3] pa22_110462 pw22_110462 x = u22_110462 (l22_110462 k) x := by kernel_rfl
theorem h22_110462_ok (k : Nat) : ∀ p S, H22_110462 k p = some S → ∀ c, At (bd Try.f22) p c → CutOk Try.prog c S :=
  have hC := c22_ok k
  addPiece hC ttOk (draw_ok hC ttOk mixed) (h22_441854_ok k) (fun x _ h => (e22_110462 k x).trans h)
noncomputable def H22_27614 (k : Nat) : Nat → Option Cut := addH (H22_110462 k) 27614 ⟨runCut (wrC (codeAt 27614 (bd Try.f22) 27614)) 27 [3] pa22_27614 pw22_27614 (u22_27614 (l22_27614 k))⟩
theorem e22_27614 (k : Nat) (x : (pa22_27614).C) : pieceF (C22 k) tt (H22_110462 k) (codeAt 27614 (bd Try.f22) 27614) 27614 27 [3] pa22_27614 pw22_27614 x = u22_27614 (l22_27614 k) x := by kernel_rfl
theorem h22_27614_ok (k : Nat) : ∀ p S, H22_27614 k p = some S → ∀ c, At (bd Try.f22) p c → CutOk Try.prog c S :=
  have hC := c22_ok k
  addPiece hC ttOk (draw_ok hC ttOk mixed) (h22_110462_ok k) (fun x _ h => (e22_27614 k x).trans h)
noncomputable def H22_13822 (k : Nat) : Nat → Option Cut := addH (H22_27614 k) 13822 ⟨runCut (wrC (codeAt 13822 (bd Try.f22) 13822)) 27 [3] pa22_13822 pw22_13822 (u22_13822 (l22_13822 k))⟩
theorem e22_13822 (k : Nat) (x : (pa22_13822).C) : pieceF (C22 k) tt (H22_27614 k) (codeAt 13822 (bd Try.f22) 13822) 13822 27 [3] pa22_13822 pw22_13822 x = u22_13822 (l22_13822 k) x := by kernel_rfl
theorem h22_13822_ok (k : Nat) : ∀ p S, H22_13822 k p = some S → ∀ c, At (bd Try.f22) p c → CutOk Try.prog c S :=
  have hC := c22_ok k
  addPiece hC ttOk (draw_ok hC ttOk mixed) (h22_27614_ok k) (fun x _ h => (e22_13822 k x).trans h)
noncomputable def H22_6902 (k : Nat) : Nat → Option Cut := addH (H22_13822 k) 6902 ⟨runCut (wrC (codeAt 6902 (bd Try.f22) 6902)) 27 [3] pa22_6902 pw22_6902 (u22_6902 (l22_6902 k))⟩
theorem e22_6902 (k : Nat) (x : (pa22_6902).C) : pieceF (C22 k) tt (H22_13822 k) (codeAt 6902 (bd Try.f22) 6902) 6902 27 [3] pa22_6902 pw22_6902 x = u22_6902 (l22_6902 k) x := by kernel_rfl
theorem h22_6902_ok (k : Nat) : ∀ p S, H22_6902 k p = some S → ∀ c, At (bd Try.f22) p c → CutOk Try.prog c S :=
  have hC := c22_ok k
  addPiece hC ttOk (draw_ok hC ttOk mixed) (h22_13822_ok k) (fun x _ h => (e22_6902 k x).trans h)
noncomputable def H22_6878 (k : Nat) : Nat → Option Cut := addH (H22_6902 k) 6878 ⟨runCut (wrC (codeAt 6878 (bd Try.f22) 6878)) 27 [3] pa22_6878 pw22_6878 (u22_6878 (l22_6878 k))⟩
theorem e22_6878 (k : Nat) (x : (pa22_6878).C) : pieceF (C22 k) tt (H22_6902 k) (codeAt 6878 (bd Try.f22) 6878) 6878 27 [3] pa22_6878 pw22_6878 x = u22_6878 (l22_6878 k) x := by kernel_rfl
theorem h22_6878_ok (k : Nat) : ∀ p S, H22_6878 k p = some S → ∀ c, At (bd Try.f22) p c → CutOk Try.prog c S :=
  have hC := c22_ok k
  addPiece hC ttOk (draw_ok hC ttOk mixed) (h22_6902_ok k) (fun x _ h => (e22_6878 k x).trans h)
noncomputable def H22_3454 (k : Nat) : Nat → Option Cut := addH (H22_6878 k) 3454 ⟨runCut (wrC (codeAt 3454 (bd Try.f22) 3454)) 27 [3] pa22_3454 pw22_3454 (u22_3454 (l22_3454 k))⟩
theorem e22_3454 (k : Nat) (x : (pa22_3454).C) : pieceF (C22 k) tt (H22_6878 k) (codeAt 3454 (bd Try.f22) 3454) 3454 27 [3] pa22_3454 pw22_3454 x = u22_3454 (l22_3454 k) x := by kernel_rfl
theorem h22_3454_ok (k : Nat) : ∀ p S, H22_3454 k p = some S → ∀ c, At (bd Try.f22) p c → CutOk Try.prog c S :=
  have hC := c22_ok k
  addPiece hC ttOk (draw_ok hC ttOk mixed) (h22_6878_ok k) (fun x _ h => (e22_3454 k x).trans h)
noncomputable def H22_1724 (k : Nat) : Nat → Option Cut := addH (H22_3454 k) 1724 ⟨runCut (wrC (codeAt 1724 (bd Try.f22) 1724)) 27 [3] pa22_1724 pw22_1724 (u22_1724 (l22_1724 k))⟩
theorem e22_1724 (k : Nat) (x : (pa22_1724).C) : pieceF (C22 k) tt (H22_3454 k) (codeAt 1724 (bd Try.f22) 1724) 1724 27 [3] pa22_1724 pw22_1724 x = u22_1724 (l22_1724 k) x := by kernel_rfl
theorem h22_1724_ok (k : Nat) : ∀ p S, H22_1724 k p = some S → ∀ c, At (bd Try.f22) p c → CutOk Try.prog c S :=
  have hC := c22_ok k
  addPiece hC ttOk (draw_ok hC ttOk mixed) (h22_3454_ok k) (fun x _ h => (e22_1724 k x).trans h)
noncomputable def H22_1718 (k : Nat) : Nat → Option Cut := addH (H22_1724 k) 1718 ⟨runCut (wrC (codeAt 1718 (bd Try.f22) 1718)) 27 [3] pa22_1718 pw22_1718 (u22_1718 (l22_1718 k))⟩
theorem e22_1718 (k : Nat) (x : (pa22_1718).C) : pieceF (C22 k) tt (H22_1724 k) (codeAt 1718 (bd Try.f22) 1718) 1718 27 [3] pa22_1718 pw22_1718 x = u22_1718 (l22_1718 k) x := by kernel_rfl
theorem h22_1718_ok (k : Nat) : ∀ p S, H22_1718 k p = some S → ∀ c, At (bd Try.f22) p c → CutOk Try.prog c S :=
  have hC := c22_ok k
  addPiece hC ttOk (draw_ok hC ttOk mixed) (h22_1724_ok k) (fun x _ h => (e22_1718 k x).trans h)
noncomputable def H22_862 (k : Nat) : Nat → Option Cut := addH (H22_1718 k) 862 ⟨runCut (wrC (codeAt 862 (bd Try.f22) 862)) 27 [3] pa22_862 pw22_862 (u22_862 (l22_862 k))⟩
theorem e22_862 (k : Nat) (x : (pa22_862).C) : pieceF (C22 k) tt (H22_1718 k) (codeAt 862 (bd Try.f22) 862) 862 27 [3] pa22_862 pw22_862 x = u22_862 (l22_862 k) x := by kernel_rfl
theorem h22_862_ok (k : Nat) : ∀ p S, H22_862 k p = some S → ∀ c, At (bd Try.f22) p c → CutOk Try.prog c S :=
  have hC := c22_ok k
  addPiece hC ttOk (draw_ok hC ttOk mixed) (h22_1718_ok k) (fun x _ h => (e22_862 k x).trans h)
noncomputable def H22_428 (k : Nat) : Nat → Option Cut := addH (H22_862 k) 428 ⟨runCut (wrC (codeAt 428 (bd Try.f22) 428)) 27 [3] pa22_428 pw22_428 (u22_428 (l22_428 k))⟩
theorem e22_428 (k : Nat) (x : (pa22_428).C) : pieceF (C22 k) tt (H22_862 k) (codeAt 428 (bd Try.f22) 428) 428 27 [3] pa22_428 pw22_428 x = u22_428 (l22_428 k) x := by kernel_rfl
theorem h22_428_ok (k : Nat) : ∀ p S, H22_428 k p = some S → ∀ c, At (bd Try.f22) p c → CutOk Try.prog c S :=
  have hC := c22_ok k
  addPiece hC ttOk (draw_ok hC ttOk mixed) (h22_862_ok k) (fun x _ h => (e22_428 k x).trans h)
noncomputable def H22_214 (k : Nat) : Nat → Option Cut := addH (H22_428 k) 214 ⟨runCut (wrC (codeAt 214 (bd Try.f22) 214)) 27 [3] pa22_214 pw22_214 (u22_214 (l22_214 k))⟩
theorem e22_214 (k : Nat) (x : (pa22_214).C) : pieceF (C22 k) tt (H22_428 k) (codeAt 214 (bd Try.f22) 214) 214 27 [3] pa22_214 pw22_214 x = u22_214 (l22_214 k) x := by kernel_rfl
theorem h22_214_ok (k : Nat) : ∀ p S, H22_214 k p = some S → ∀ c, At (bd Try.f22) p c → CutOk Try.prog c S :=
  have hC := c22_ok k
  addPiece hC ttOk (draw_ok hC ttOk mixed) (h22_428_ok k) (fun x _ h => (e22_214 k x).trans h)
noncomputable def H22_52 (k : Nat) : Nat → Option Cut := addH (H22_214 k) 52 ⟨runCut (wrC (codeAt 52 (bd Try.f22) 52)) 27 [3] pa22_52 pw22_52 (u22_52 (l22_52 k))⟩
theorem e22_52 (k : Nat) (x : (pa22_52).C) : pieceF (C22 k) tt (H22_214 k) (codeAt 52 (bd Try.f22) 52) 52 27 [3] pa22_52 pw22_52 x = u22_52 (l22_52 k) x := by kernel_rfl
theorem h22_52_ok (k : Nat) : ∀ p S, H22_52 k p = some S → ∀ c, At (bd Try.f22) p c → CutOk Try.prog c S :=
  have hC := c22_ok k
  addPiece hC ttOk (draw_ok hC ttOk mixed) (h22_214_ok k) (fun x _ h => (e22_52 k x).trans h)
theorem e22 (k : Nat) (x : (a22).C) : bodyR (C22 k) tt (H22_52 k) Try.f22 a22 o22 x = u22 (f22 k) x := by kernel_rfl
theorem s22 (k : Nat) : SoundFn Try.prog 22 (F22 (f22 k)) :=
  have hC := c22_ok k
  fnR_sound hC ttOk (draw_ok hC ttOk mixed) Try.func22 (c0 := bd Try.f22) rfl (entry Try.func22 rfl (by decide)) (h22_52_ok k) rfl (fun x _ h => (e22 k x).trans h)
/-! f69 (*fathom/tree.counter).expr (W) -/
noncomputable def a69 : Shape := ⟨[.ptr 0, .d (.rc 0), .d i64], [.box [.d i64, .d i64]]⟩
noncomputable def o69 : List Shape := [⟨[.d .bool], [.box [.d i64, .d i64]]⟩]
abbrev R69 : Type := ((Bool × Unit) × ((Int × Int × Unit) × Unit))
abbrev T69 : Type := PExpr → Int → Int → Int → Option R69
noncomputable def u69 (f : T69) : (a69).C → Option (OutC o69) := fun (x : ((Unit × PExpr × Int × Unit) × ((Int × Int × Unit) × Unit))) => f x.1.2.1 x.1.2.2.1 x.2.1.1 x.2.1.2.1
noncomputable def F69 (f : T69) : Fun := ⟨false, runW a69 o69 (u69 f)⟩
/-! f102 slices.ContainsFunc[[]fathom/api.Expr,fathom/api.Expr] (W) -/
noncomputable def a102 : Shape := ⟨[.d (.slice (.rc 0)), .fn 103 [0, 2]], [.box [.ptr 1], .box [.d i64, .d i64], .box [.d i64]]⟩
noncomputable def o102 : List Shape := [⟨[.d .bool], [.box [.ptr 1], .box [.d i64, .d i64], .box [.d i64]]⟩]
abbrev R102 : Type := ((Bool × Unit) × ((Unit × Unit) × (Int × Int × Unit) × (Int × Unit) × Unit))
abbrev T102 : Type := (List PExpr) → Int → Int → Int → Option R102
noncomputable def u102 (f : T102) : (a102).C → Option (OutC o102) := fun (x : (((List PExpr) × Unit × Unit) × ((Unit × Unit) × (Int × Int × Unit) × (Int × Unit) × Unit))) => f x.1.1 x.2.2.1.1 x.2.2.1.2.1 x.2.2.2.1.1
noncomputable def F102 (f : T102) : Fun := ⟨false, runW a102 o102 (u102 f)⟩
/-! f103 (*fathom/tree.counter).expr$1 (W) -/
noncomputable def a103 : Shape := ⟨[.d (.rc 0), .ptr 0, .ptr 2], [.box [.ptr 1], .box [.d i64, .d i64], .box [.d i64]]⟩
noncomputable def o103 : List Shape := [⟨[.d .bool], [.box [.ptr 1], .box [.d i64, .d i64], .box [.d i64]]⟩]
abbrev R103 : Type := ((Bool × Unit) × ((Unit × Unit) × (Int × Int × Unit) × (Int × Unit) × Unit))
abbrev T103 : Type := PExpr → Int → Int → Int → Option R103
noncomputable def u103 (f : T103) : (a103).C → Option (OutC o103) := fun (x : ((PExpr × Unit × Unit × Unit) × ((Unit × Unit) × (Int × Int × Unit) × (Int × Unit) × Unit))) => f x.1.1 x.2.2.1.1 x.2.2.1.2.1 x.2.2.2.1.1
noncomputable def F103 (f : T103) : Fun := ⟨false, runW a103 o103 (u103 f)⟩
/-! f140 slices.IndexFunc[[]fathom/api.Expr,fathom/api.Expr] (W) -/
noncomputable def a140 : Shape := ⟨[.d (.slice (.rc 0)), .fn 103 [0, 2]], [.box [.ptr 1], .box [.d i64, .d i64], .box [.d i64]]⟩
noncomputable def o140 : List Shape := [⟨[.d i64], [.box [.ptr 1], .box [.d i64, .d i64], .box [.d i64]]⟩]
abbrev R140 : Type := ((Int × Unit) × ((Unit × Unit) × (Int × Int × Unit) × (Int × Unit) × Unit))
abbrev T140 : Type := (List PExpr) → Int → Int → Int → Option R140
noncomputable def u140 (f : T140) : (a140).C → Option (OutC o140) := fun (x : (((List PExpr) × Unit × Unit) × ((Unit × Unit) × (Int × Int × Unit) × (Int × Unit) × Unit))) => f x.1.1 x.2.2.1.1 x.2.2.1.2.1 x.2.2.2.1.1
noncomputable def F140 (f : T140) : Fun := ⟨false, runW a140 o140 (u140 f)⟩
noncomputable def pa69_62 : Shape := ⟨[.ptr 0, .d i64, .d .bool], [.box [.d i64, .d .str, .d i64, .d .str, .d (.slice (.rc 0)), .d i64]]⟩
noncomputable def pw69_62 : List Vm.Way := [⟨.normal, [7, 8], ⟨[.d i64, .d .bool], [.box [.d i64, .d .str, .d i64, .d .str, .d (.slice (.rc 0)), .d i64]]⟩⟩]
abbrev R69_62 : Type := ((Int × Bool × Unit) × ((Int × ByteArray × Int × ByteArray × (List PExpr) × Int × Unit) × Unit))
abbrev T69_62 : Type := Int → Bool → Int → ByteArray → Int → ByteArray → (List PExpr) → Int → Option R69_62
noncomputable def u69_62 (f : T69_62) : (pa69_62).C → Option (WayC pw69_62) := fun (x : ((Unit × Int × Bool × Unit) × ((Int × ByteArray × Int × ByteArray × (List PExpr) × Int × Unit) × Unit))) => f x.1.2.1 x.1.2.2.1 x.2.1.1 x.2.1.2.1 x.2.1.2.2.1 x.2.1.2.2.2.1 x.2.1.2.2.2.2.1 x.2.1.2.2.2.2.2.1
noncomputable def l69_62 (k : Nat) (r69 : T69) (r102 : T102) (r103 : T103) (r140 : T140) : T69_62 := fun kids7 ok8 o0_0 o0_1 o0_2 o0_3 o0_4 o0_5 =>
  cond (o0_0 == 1)
    (cond (o0_1.toList == ByteArray.empty.toList)
      (cond (o0_3.toList == ByteArray.empty.toList)
        (cond (decide (o0_2 ≥ 0))
          (some ((kids7, (decide (o0_2 ≤ 65535)), ()), ((o0_0, o0_1, o0_2, o0_3, o0_4, o0_5, ()), ())))
          (some ((kids7, false, ()), ((o0_0, o0_1, o0_2, o0_3, o0_4, o0_5, ()), ()))))
        (some ((kids7, false, ()), ((o0_0, o0_1, o0_2, o0_3, o0_4, o0_5, ()), ()))))
      (some ((kids7, false, ()), ((o0_0, o0_1, o0_2, o0_3, o0_4, o0_5, ()), ()))))
    (cond (o0_0 == 2)
      (cond (o0_1.toList == ByteArray.empty.toList)
        (cond (o0_2 == 0)
          ((f19 k o0_3).bind fun y1 =>
          some ((kids7, y1.1.1, ()), ((o0_0, o0_1, o0_2, o0_3, o0_4, o0_5, ()), ())))
          (some ((kids7, false, ()), ((o0_0, o0_1, o0_2, o0_3, o0_4, o0_5, ()), ()))))
        (some ((kids7, false, ()), ((o0_0, o0_1, o0_2, o0_3, o0_4, o0_5, ()), ()))))
      (cond (o0_0 == 3)
        (cond (o0_1.toList == (ByteArray.mk #[45]).toList)
          (cond (o0_2 == 0)
            (some ((1, (o0_3.toList == ByteArray.empty.toList), ()), ((o0_0, o0_1, o0_2, o0_3, o0_4, o0_5, ()), ())))
            (some ((1, false, ()), ((o0_0, o0_1, o0_2, o0_3, o0_4, o0_5, ()), ()))))
          (cond (o0_1.toList == (ByteArray.mk #[126]).toList)
            (cond (o0_2 == 0)
              (some ((1, (o0_3.toList == ByteArray.empty.toList), ()), ((o0_0, o0_1, o0_2, o0_3, o0_4, o0_5, ()), ())))
              (some ((1, false, ()), ((o0_0, o0_1, o0_2, o0_3, o0_4, o0_5, ()), ()))))
            (cond (o0_1.toList == (ByteArray.mk #[33]).toList)
              (cond (o0_2 == 0)
                (some ((1, (o0_3.toList == ByteArray.empty.toList), ()), ((o0_0, o0_1, o0_2, o0_3, o0_4, o0_5, ()), ())))
                (some ((1, false, ()), ((o0_0, o0_1, o0_2, o0_3, o0_4, o0_5, ()), ()))))
              (some ((1, false, ()), ((o0_0, o0_1, o0_2, o0_3, o0_4, o0_5, ()), ()))))))
        (cond (o0_0 == 4)
          ((f22 k o0_1).bind fun y2 =>
          cond (decide (y2.1.1 > 0))
            (cond (o0_2 == 0)
              (some ((2, (o0_3.toList == ByteArray.empty.toList), ()), ((o0_0, o0_1, o0_2, o0_3, o0_4, o0_5, ()), ())))
              (some ((2, false, ()), ((o0_0, o0_1, o0_2, o0_3, o0_4, o0_5, ()), ()))))
            (some ((2, false, ()), ((o0_0, o0_1, o0_2, o0_3, o0_4, o0_5, ()), ()))))
          (some ((kids7, ok8, ()), ((o0_0, o0_1, o0_2, o0_3, o0_4, o0_5, ()), ()))))))
noncomputable def b69 (k : Nat) (r69 : T69) (r102 : T102) (r103 : T103) (r140 : T140) : T69 := fun e_1 deep2 o0_0 o0_1 =>
  cond (decide ((w64 (o0_1 + 1)) > 8192))
    (some ((false, ()), ((o0_0, (w64 (o0_1 + 1)), ()), ())))
    (cond (decide (deep2 < 1))
      (some ((false, ()), ((o0_0, (w64 (o0_1 + 1)), ()), ())))
      ((l69_62 k r69 r102 r103 r140 0 false (eKind e_1) (eOp e_1) (eNum e_1) (eName e_1) (eKids e_1) (ePos e_1)).bind fun y1 =>
      cond y1.1.2.1
        (cond ((y1.2.1.2.2.2.2.1.length : Int) == y1.1.1)
          ((r102 y1.2.1.2.2.2.2.1 o0_0 (w64 (o0_1 + 1)) deep2).bind fun y2 =>
          some (((!y2.1.1), ()), ((y2.2.2.1.1, y2.2.2.1.2.1, ()), ())))
          (some ((false, ()), ((o0_0, (w64 (o0_1 + 1)), ()), ()))))
        (some ((false, ()), ((o0_0, (w64 (o0_1 + 1)), ()), ())))))
noncomputable def b102 (k : Nat) (r69 : T69) (r102 : T102) (r103 : T103) (r140 : T140) : T102 := fun s0 o1_0 o1_1 o2 =>
  (r140 s0 o1_0 o1_1 o2).bind fun y1 =>
  some (((decide (y1.1.1 ≥ 0)), ()), (((), ()), (y1.2.2.1.1, y1.2.2.1.2.1, ()), (y1.2.2.2.1.1, ()), ()))
noncomputable def b103 (k : Nat) (r69 : T69) (r102 : T102) (r103 : T103) (r140 : T140) : T103 := fun k0 o1_0 o1_1 o2 =>
  (r69 (ePack k0) (w64 (o2 - 1)) o1_0 o1_1).bind fun y1 =>
  some (((!y1.1.1), ()), (((), ()), (y1.2.1.1, y1.2.1.2.1, ()), (o2, ()), ()))
noncomputable def pa140_26 : Shape := ⟨[.d (.slice (.rc 0)), .fn 103 [0, 2], .d i64, .d i64], [.box [.ptr 1], .box [.d i64, .d i64], .box [.d i64]]⟩
noncomputable def pw140_26 : List Vm.Way := [⟨.exit 0, [], ⟨[], [.box [.ptr 1], .box [.d i64, .d i64], .box [.d i64]]⟩⟩, ⟨.ret, [4], ⟨[.d i64], [.box [.ptr 1], .box [.d i64, .d i64], .box [.d i64]]⟩⟩]
abbrev R140_26 : Type := ((Unit × ((Unit × Unit) × (Int × Int × Unit) × (Int × Unit) × Unit)) ⊕ ((Int × Unit) × ((Unit × Unit) × (Int × Int × Unit) × (Int × Unit) × Unit)))
abbrev T140_26 : Type := (List PExpr) → Int → Int → Int → Int → Int → Option R140_26
noncomputable def u140_26 (f : T140_26) : (pa140_26).C → Option (WayC pw140_26) := fun (x : (((List PExpr) × Unit × Int × Int × Unit) × ((Unit × Unit) × (Int × Int × Unit) × (Int × Unit) × Unit))) => f x.1.1 x.1.2.2.1 x.1.2.2.2.1 x.2.2.1.1 x.2.2.1.2.1 x.2.2.2.1.1
noncomputable def b140_26 (k : Nat) (r69 : T69) (r102 : T102) (r103 : T103) (r140 : T140) (rec : T140_26) : T140_26 := fun s0 t7 t8 o1_0 o1_1 o2 =>
  cond (decide (t8 < t7))
    (ix s0 t8 fun e1 =>
    (r103 e1 o1_0 o1_1 o2).bind fun y2 =>
    cond y2.1.1
      (some (.inr ((t8, ()), (((), ()), (y2.2.2.1.1, y2.2.2.1.2.1, ()), (y2.2.2.2.1.1, ()), ()))))
      ((rec s0 t7 (w64 (t8 + 1)) y2.2.2.1.1 y2.2.2.1.2.1 y2.2.2.2.1.1).bind fun y3 =>
      match y3 with
      | .inl y3_0 =>
        some (.inl ((), (((), ()), (y3_0.2.2.1.1, y3_0.2.2.1.2.1, ()), (y3_0.2.2.2.1.1, ()), ())))
      | .inr y3_1 =>
        some (.inr ((y3_1.1.1, ()), (((), ()), (y3_1.2.2.1.1, y3_1.2.2.1.2.1, ()), (y3_1.2.2.2.1.1, ()), ())))))
    (some (.inl ((), (((), ()), (o1_0, o1_1, ()), (o2, ()), ()))))
noncomputable def l140_26 (k : Nat) (r69 : T69) (r102 : T102) (r103 : T103) (r140 : T140) : Nat → T140_26
  | 0 => fun _ _ _ _ _ _ => none
  | j + 1 => b140_26 k r69 r102 r103 r140 (l140_26 k r69 r102 r103 r140 j)
noncomputable def b140 (k : Nat) (r69 : T69) (r102 : T102) (r103 : T103) (r140 : T140) : T140 := fun s0 o1_0 o1_1 o2 =>
  (l140_26 k r69 r102 r103 r140 k s0 (s0.length : Int) 0 o1_0 o1_1 o2).bind fun y1 =>
  match y1 with
  | .inl y1_0 =>
    some (((-1), ()), (((), ()), (y1_0.2.2.1.1, y1_0.2.2.1.2.1, ()), (y1_0.2.2.2.1.1, ()), ()))
  | .inr y1_1 =>
    some ((y1_1.1.1, ()), (((), ()), (y1_1.2.2.1.1, y1_1.2.2.1.2.1, ()), (y1_1.2.2.2.1.1, ()), ()))
noncomputable def S69 : Nat → T69 × T102 × T103 × T140
  | 0 => (fun _ _ _ _ => none, fun _ _ _ _ => none, fun _ _ _ _ => none, fun _ _ _ _ => none)
  | k + 1 => (b69 k (S69 k).1 (S69 k).2.1 (S69 k).2.2.1 (S69 k).2.2.2, b102 k (S69 k).1 (S69 k).2.1 (S69 k).2.2.1 (S69 k).2.2.2, b103 k (S69 k).1 (S69 k).2.1 (S69 k).2.2.1 (S69 k).2.2.2, b140 k (S69 k).1 (S69 k).2.1 (S69 k).2.2.1 (S69 k).2.2.2)
noncomputable def f69 (k : Nat) : T69 := (S69 k).1
noncomputable def f102 (k : Nat) : T102 := (S69 k).2.1
noncomputable def f103 (k : Nat) : T103 := (S69 k).2.2.1
noncomputable def f140 (k : Nat) : T140 := (S69 k).2.2.2
theorem f69_succ (k : Nat) : f69 (k + 1) = b69 k (f69 k) (f102 k) (f103 k) (f140 k) := rfl
theorem f102_succ (k : Nat) : f102 (k + 1) = b102 k (f69 k) (f102 k) (f103 k) (f140 k) := rfl
theorem f103_succ (k : Nat) : f103 (k + 1) = b103 k (f69 k) (f102 k) (f103 k) (f140 k) := rfl
theorem f140_succ (k : Nat) : f140 (k + 1) = b140 k (f69 k) (f102 k) (f103 k) (f140 k) := rfl
noncomputable def C69 (k : Nat) (r69 : T69) (r102 : T102) (r103 : T103) (r140 : T140) : Nat → Fun := mkC [(19, (F19 (f19 k))), (22, (F22 (f22 k))), (102, (F102 r102))]
theorem c69_ok (k : Nat) (r69 : T69) (r102 : T102) (r103 : T103) (r140 : T140) (h69 : SoundFn Try.prog 69 (F69 r69)) (h102 : SoundFn Try.prog 102 (F102 r102)) (h103 : SoundFn Try.prog 103 (F103 r103)) (h140 : SoundFn Try.prog 140 (F140 r140)) : ∀ f, SoundFn Try.prog f (C69 k r69 r102 r103 r140 f) := (mkC_cons (s19 k) (mkC_cons (s22 k) (mkC_cons h102 mkC_nil)))
noncomputable def H69_62 (k : Nat) (r69 : T69) (r102 : T102) (r103 : T103) (r140 : T140) : Nat → Option Cut := addH noH 62 ⟨runCut (wrC (codeAt 62 (bd Try.f69) 62)) 118 [4, 7, 8] pa69_62 pw69_62 (u69_62 (l69_62 k r69 r102 r103 r140))⟩
theorem e69_62 (k : Nat) (r69 : T69) (r102 : T102) (r103 : T103) (r140 : T140) (x : (pa69_62).C) : pieceF (C69 k r69 r102 r103 r140) tt noH (codeAt 62 (bd Try.f69) 62) 62 118 [4, 7, 8] pa69_62 pw69_62 x = u69_62 (l69_62 k r69 r102 r103 r140) x := by kernel_rfl
theorem h69_62_ok (k : Nat) (r69 : T69) (r102 : T102) (r103 : T103) (r140 : T140) (h69 : SoundFn Try.prog 69 (F69 r69)) (h102 : SoundFn Try.prog 102 (F102 r102)) (h103 : SoundFn Try.prog 103 (F103 r103)) (h140 : SoundFn Try.prog 140 (F140 r140)) : ∀ p S, H69_62 k r69 r102 r103 r140 p = some S → ∀ c, At (bd Try.f69) p c → CutOk Try.prog c S :=
  have hC := c69_ok k r69 r102 r103 r140 h69 h102 h103 h140
  addPiece hC ttOk (draw_ok hC ttOk mixed) noH_ok (fun x _ h => (e69_62 k r69 r102 r103 r140 x).trans h)
theorem e69 (k : Nat) (r69 : T69) (r102 : T102) (r103 : T103) (r140 : T140) (x : (a69).C) : bodyW (C69 k r69 r102 r103 r140) tt (H69_62 k r69 r102 r103 r140) Try.f69 a69 o69 x = u69 (b69 k r69 r102 r103 r140) x := by kernel_rfl
theorem q69 (k : Nat) (r69 : T69) (r102 : T102) (r103 : T103) (r140 : T140) (h69 : SoundFn Try.prog 69 (F69 r69)) (h102 : SoundFn Try.prog 102 (F102 r102)) (h103 : SoundFn Try.prog 103 (F103 r103)) (h140 : SoundFn Try.prog 140 (F140 r140)) : SoundFn Try.prog 69 (F69 (b69 k r69 r102 r103 r140)) :=
  have hC := c69_ok k r69 r102 r103 r140 h69 h102 h103 h140
  fnW_sound hC ttOk (draw_ok hC ttOk mixed) Try.func69 (c0 := bd Try.f69) rfl (entry Try.func69 rfl (by decide)) (h69_62_ok k r69 r102 r103 r140 h69 h102 h103 h140) (fun x _ h => (e69 k r69 r102 r103 r140 x).trans h)
noncomputable def C102 (k : Nat) (r69 : T69) (r102 : T102) (r103 : T103) (r140 : T140) : Nat → Fun := mkC [(140, (F140 r140))]
theorem c102_ok (k : Nat) (r69 : T69) (r102 : T102) (r103 : T103) (r140 : T140) (h69 : SoundFn Try.prog 69 (F69 r69)) (h102 : SoundFn Try.prog 102 (F102 r102)) (h103 : SoundFn Try.prog 103 (F103 r103)) (h140 : SoundFn Try.prog 140 (F140 r140)) : ∀ f, SoundFn Try.prog f (C102 k r69 r102 r103 r140 f) := (mkC_cons h140 mkC_nil)
theorem e102 (k : Nat) (r69 : T69) (r102 : T102) (r103 : T103) (r140 : T140) (x : (a102).C) : bodyW (C102 k r69 r102 r103 r140) tt noH Try.f102 a102 o102 x = u102 (b102 k r69 r102 r103 r140) x := by kernel_rfl
theorem q102 (k : Nat) (r69 : T69) (r102 : T102) (r103 : T103) (r140 : T140) (h69 : SoundFn Try.prog 69 (F69 r69)) (h102 : SoundFn Try.prog 102 (F102 r102)) (h103 : SoundFn Try.prog 103 (F103 r103)) (h140 : SoundFn Try.prog 140 (F140 r140)) : SoundFn Try.prog 102 (F102 (b102 k r69 r102 r103 r140)) :=
  have hC := c102_ok k r69 r102 r103 r140 h69 h102 h103 h140
  fnW_sound hC ttOk (draw_ok hC ttOk mixed) Try.func102 (c0 := bd Try.f102) rfl (entry Try.func102 rfl (by decide)) noH_ok (fun x _ h => (e102 k r69 r102 r103 r140 x).trans h)
noncomputable def C103 (k : Nat) (r69 : T69) (r102 : T102) (r103 : T103) (r140 : T140) : Nat → Fun := mkC [(69, (F69 r69))]
theorem c103_ok (k : Nat) (r69 : T69) (r102 : T102) (r103 : T103) (r140 : T140) (h69 : SoundFn Try.prog 69 (F69 r69)) (h102 : SoundFn Try.prog 102 (F102 r102)) (h103 : SoundFn Try.prog 103 (F103 r103)) (h140 : SoundFn Try.prog 140 (F140 r140)) : ∀ f, SoundFn Try.prog f (C103 k r69 r102 r103 r140 f) := (mkC_cons h69 mkC_nil)
theorem e103 (k : Nat) (r69 : T69) (r102 : T102) (r103 : T103) (r140 : T140) (x : (a103).C) : bodyW (C103 k r69 r102 r103 r140) tt noH Try.f103 a103 o103 x = u103 (b103 k r69 r102 r103 r140) x := by kernel_rfl
theorem q103 (k : Nat) (r69 : T69) (r102 : T102) (r103 : T103) (r140 : T140) (h69 : SoundFn Try.prog 69 (F69 r69)) (h102 : SoundFn Try.prog 102 (F102 r102)) (h103 : SoundFn Try.prog 103 (F103 r103)) (h140 : SoundFn Try.prog 140 (F140 r140)) : SoundFn Try.prog 103 (F103 (b103 k r69 r102 r103 r140)) :=
  have hC := c103_ok k r69 r102 r103 r140 h69 h102 h103 h140
  fnW_sound hC ttOk (draw_ok hC ttOk mixed) Try.func103 (c0 := bd Try.f103) rfl (entry Try.func103 rfl (by decide)) noH_ok (fun x _ h => (e103 k r69 r102 r103 r140 x).trans h)
noncomputable def C140 (k : Nat) (r69 : T69) (r102 : T102) (r103 : T103) (r140 : T140) : Nat → Fun := mkC [(103, (F103 r103))]
theorem c140_ok (k : Nat) (r69 : T69) (r102 : T102) (r103 : T103) (r140 : T140) (h69 : SoundFn Try.prog 69 (F69 r69)) (h102 : SoundFn Try.prog 102 (F102 r102)) (h103 : SoundFn Try.prog 103 (F103 r103)) (h140 : SoundFn Try.prog 140 (F140 r140)) : ∀ f, SoundFn Try.prog f (C140 k r69 r102 r103 r140 f) := (mkC_cons h103 mkC_nil)
noncomputable def H140_26 (k : Nat) (r69 : T69) (r102 : T102) (r103 : T103) (r140 : T140) : Nat → Option Cut := addH noH 26 ⟨runCut (wrC (bodyOf (codeAt 26 (bd Try.f140) 26))) 19 [0, 1, 7, 8] pa140_26 pw140_26 (u140_26 (l140_26 k r69 r102 r103 r140 k))⟩
theorem e140_26 (k : Nat) (r69 : T69) (r102 : T102) (r103 : T103) (r140 : T140) (rec : T140_26) (x : (pa140_26).C) : roundF (C140 k r69 r102 r103 r140) tt noH (bodyOf (codeAt 26 (bd Try.f140) 26)) 52 19 [0, 1, 7, 8] pa140_26 pw140_26 (u140_26 rec) x = u140_26 (b140_26 k r69 r102 r103 r140 rec) x := by kernel_rfl
theorem h140_26_ok (k : Nat) (r69 : T69) (r102 : T102) (r103 : T103) (r140 : T140) (h69 : SoundFn Try.prog 69 (F69 r69)) (h102 : SoundFn Try.prog 102 (F102 r102)) (h103 : SoundFn Try.prog 103 (F103 r103)) (h140 : SoundFn Try.prog 140 (F140 r140)) : ∀ p S, H140_26 k r69 r102 r103 r140 p = some S → ∀ c, At (bd Try.f140) p c → CutOk Try.prog c S :=
  have hC := c140_ok k r69 r102 r103 r140 h69 h102 h103 h140
  addLoop hC ttOk (draw_ok hC ttOk mixed) noH_ok (by kernel_rfl) (F := fun j => u140_26 (l140_26 k r69 r102 r103 r140 j)) (fun _ => rfl) (fun j x _ h => (e140_26 k r69 r102 r103 r140 (l140_26 k r69 r102 r103 r140 j) x).trans h) k
theorem e140 (k : Nat) (r69 : T69) (r102 : T102) (r103 : T103) (r140 : T140) (x : (a140).C) : bodyW (C140 k r69 r102 r103 r140) tt (H140_26 k r69 r102 r103 r140) Try.f140 a140 o140 x = u140 (b140 k r69 r102 r103 r140) x := by kernel_rfl
theorem q140 (k : Nat) (r69 : T69) (r102 : T102) (r103 : T103) (r140 : T140) (h69 : SoundFn Try.prog 69 (F69 r69)) (h102 : SoundFn Try.prog 102 (F102 r102)) (h103 : SoundFn Try.prog 103 (F103 r103)) (h140 : SoundFn Try.prog 140 (F140 r140)) : SoundFn Try.prog 140 (F140 (b140 k r69 r102 r103 r140)) :=
  have hC := c140_ok k r69 r102 r103 r140 h69 h102 h103 h140
  fnW_sound hC ttOk (draw_ok hC ttOk mixed) Try.func140 (c0 := bd Try.f140) rfl (entry Try.func140 rfl (by decide)) (h140_26_ok k r69 r102 r103 r140 h69 h102 h103 h140) (fun x _ h => (e140 k r69 r102 r103 r140 x).trans h)
theorem sAll69 : ∀ k : Nat, SoundFn Try.prog 69 (F69 (f69 k)) ∧ SoundFn Try.prog 102 (F102 (f102 k)) ∧ SoundFn Try.prog 103 (F103 (f103 k)) ∧ SoundFn Try.prog 140 (F140 (f140 k))
  | 0 => ⟨noneW_ok (by intro x; rfl), noneW_ok (by intro x; rfl), noneW_ok (by intro x; rfl), noneW_ok (by intro x; rfl)⟩
  | k + 1 =>
    have ih := sAll69 k
    ⟨q69 k (f69 k) (f102 k) (f103 k) (f140 k) ih.1 ih.2.1 ih.2.2.1 ih.2.2.2, q102 k (f69 k) (f102 k) (f103 k) (f140 k) ih.1 ih.2.1 ih.2.2.1 ih.2.2.2, q103 k (f69 k) (f102 k) (f103 k) (f140 k) ih.1 ih.2.1 ih.2.2.1 ih.2.2.2, q140 k (f69 k) (f102 k) (f103 k) (f140 k) ih.1 ih.2.1 ih.2.2.1 ih.2.2.2⟩
theorem s69 (k : Nat) : SoundFn Try.prog 69 (F69 (f69 k)) := (sAll69 k).1
theorem s102 (k : Nat) : SoundFn Try.prog 102 (F102 (f102 k)) := (sAll69 k).2.1
theorem s103 (k : Nat) : SoundFn Try.prog 103 (F103 (f103 k)) := (sAll69 k).2.2.1
theorem s140 (k : Nat) : SoundFn Try.prog 140 (F140 (f140 k)) := (sAll69 k).2.2.2
/-! f107 (*fathom/tree.counter).all (W) -/
noncomputable def a107 : Shape := ⟨[.ptr 0, .d (.slice (.rc 1)), .d i64], [.box [.d i64, .d i64]]⟩
noncomputable def o107 : List Shape := [⟨[.d .bool], [.box [.d i64, .d i64]]⟩]
abbrev R107 : Type := ((Bool × Unit) × ((Int × Int × Unit) × Unit))
abbrev T107 : Type := (List PStmt) → Int → Int → Int → Option R107
noncomputable def u107 (f : T107) : (a107).C → Option (OutC o107) := fun (x : ((Unit × (List PStmt) × Int × Unit) × ((Int × Int × Unit) × Unit))) => f x.1.2.1 x.1.2.2.1 x.2.1.1 x.2.1.2.1
noncomputable def F107 (f : T107) : Fun := ⟨false, runW a107 o107 (u107 f)⟩
noncomputable def pa107_108154 : Shape := ⟨[.ptr 0, .d (.slice (.rc 0)), .d i64, .d i64], [.box [.d i64, .d i64]]⟩
noncomputable def pw107_108154 : List Vm.Way := [⟨.exit 2, [], ⟨[], [.box [.d i64, .d i64]]⟩⟩, ⟨.ret, [6], ⟨[.d .bool], [.box [.d i64, .d i64]]⟩⟩]
abbrev R107_108154 : Type := ((Unit × ((Int × Int × Unit) × Unit)) ⊕ ((Bool × Unit) × ((Int × Int × Unit) × Unit)))
abbrev T107_108154 : Type := (List PExpr) → Int → Int → Int → Int → Option R107_108154
noncomputable def u107_108154 (f : T107_108154) : (pa107_108154).C → Option (WayC pw107_108154) := fun (x : ((Unit × (List PExpr) × Int × Int × Unit) × ((Int × Int × Unit) × Unit))) => f x.1.2.1 x.1.2.2.1 x.1.2.2.2.1 x.2.1.1 x.2.1.2.1
noncomputable def b107_108154 (k : Nat) (r107 : T107) (rec : T107_108154) : T107_108154 := fun t90 t91 t92 o0_0 o0_1 =>
  cond (decide (t92 < t91))
    (ix t90 t92 fun e1 =>
    (f69 k (ePack e1) 12 o0_0 o0_1).bind fun y2 =>
    cond (!y2.1.1)
      (some (.inr ((false, ()), ((y2.2.1.1, y2.2.1.2.1, ()), ()))))
      ((rec t90 t91 (w64 (t92 + 1)) y2.2.1.1 y2.2.1.2.1).bind fun y3 =>
      match y3 with
      | .inl y3_0 =>
        some (.inl ((), ((y3_0.2.1.1, y3_0.2.1.2.1, ()), ())))
      | .inr y3_1 =>
        some (.inr ((y3_1.1.1, ()), ((y3_1.2.1.1, y3_1.2.1.2.1, ()), ())))))
    (some (.inl ((), ((o0_0, o0_1, ()), ()))))
noncomputable def l107_108154 (k : Nat) (r107 : T107) : Nat → T107_108154
  | 0 => fun _ _ _ _ _ => none
  | j + 1 => b107_108154 k r107 (l107_108154 k r107 j)
noncomputable def pa107_54078 : Shape := ⟨[.ptr 0, .d i64, .ptr 1], [.box [.d i64, .d i64], .box [.d i64, .d .str, .d .str, .d (.slice (.rc 0)), .d (.slice (.rc 1)), .d (.slice (.rc 1)), .d i64]]⟩
noncomputable def pw107_54078 : List Vm.Way := [⟨.normal, [116], ⟨[.d .bool], [.box [.d i64, .d i64], .box [.d i64, .d .str, .d .str, .d (.slice (.rc 0)), .d (.slice (.rc 1)), .d (.slice (.rc 1)), .d i64]]⟩⟩]
abbrev R107_54078 : Type := ((Bool × Unit) × ((Int × Int × Unit) × (Int × ByteArray × ByteArray × (List PExpr) × (List PStmt) × (List PStmt) × Int × Unit) × Unit))
abbrev T107_54078 : Type := Int → Int → Int → Int → ByteArray → ByteArray → (List PExpr) → (List PStmt) → (List PStmt) → Int → Option R107_54078
noncomputable def u107_54078 (f : T107_54078) : (pa107_54078).C → Option (WayC pw107_54078) := fun (x : ((Unit × Int × Unit × Unit) × ((Int × Int × Unit) × (Int × ByteArray × ByteArray × (List PExpr) × (List PStmt) × (List PStmt) × Int × Unit) × Unit))) => f x.1.2.1 x.2.1.1 x.2.1.2.1 x.2.2.1.1 x.2.2.1.2.1 x.2.2.1.2.2.1 x.2.2.1.2.2.2.1 x.2.2.1.2.2.2.2.1 x.2.2.1.2.2.2.2.2.1 x.2.2.1.2.2.2.2.2.2.1
noncomputable def l107_54078 (k : Nat) (r107 : T107) : T107_54078 := fun deep2 o0_0 o0_1 o1_0 o1_1 o1_2 o1_3 o1_4 o1_5 o1_6 =>
  (r107 o1_4 (w64 (deep2 - 1)) o0_0 o0_1).bind fun y1 =>
  cond (!y1.1.1)
    (some ((true, ()), ((y1.2.1.1, y1.2.1.2.1, ()), (o1_0, o1_1, o1_2, o1_3, o1_4, o1_5, o1_6, ()), ())))
    ((r107 o1_5 (w64 (deep2 - 1)) y1.2.1.1 y1.2.1.2.1).bind fun y2 =>
    some (((!y2.1.1), ()), ((y2.2.1.1, y2.2.1.2.1, ()), (o1_0, o1_1, o1_2, o1_3, o1_4, o1_5, o1_6, ()), ())))
noncomputable def pa107_54076 : Shape := ⟨[.ptr 0], [.box [.d i64, .d .str, .d .str, .d (.slice (.rc 0)), .d (.slice (.rc 1)), .d (.slice (.rc 1)), .d i64]]⟩
noncomputable def pw107_54076 : List Vm.Way := [⟨.normal, [90, 91, 92], ⟨[.d (.slice (.rc 0)), .d i64, .d i64], [.box [.d i64, .d .str, .d .str, .d (.slice (.rc 0)), .d (.slice (.rc 1)), .d (.slice (.rc 1)), .d i64]]⟩⟩]
abbrev R107_54076 : Type := (((List PExpr) × Int × Int × Unit) × ((Int × ByteArray × ByteArray × (List PExpr) × (List PStmt) × (List PStmt) × Int × Unit) × Unit))
abbrev T107_54076 : Type := Int → ByteArray → ByteArray → (List PExpr) → (List PStmt) → (List PStmt) → Int → Option R107_54076
noncomputable def u107_54076 (f : T107_54076) : (pa107_54076).C → Option (WayC pw107_54076) := fun (x : ((Unit × Unit) × ((Int × ByteArray × ByteArray × (List PExpr) × (List PStmt) × (List PStmt) × Int × Unit) × Unit))) => f x.2.1.1 x.2.1.2.1 x.2.1.2.2.1 x.2.1.2.2.2.1 x.2.1.2.2.2.2.1 x.2.1.2.2.2.2.2.1 x.2.1.2.2.2.2.2.2.1
noncomputable def l107_54076 (k : Nat) (r107 : T107) : T107_54076 := fun o0_0 o0_1 o0_2 o0_3 o0_4 o0_5 o0_6 =>
  some ((o0_3, (o0_3.length : Int), 0, ()), ((o0_0, o0_1, o0_2, o0_3, o0_4, o0_5, o0_6, ()), ()))
noncomputable def pa107_27038 : Shape := ⟨[.ptr 0, .ptr 1], [.box [.d i64, .d i64], .box [.d i64, .d .str, .d .str, .d (.slice (.rc 0)), .d (.slice (.rc 1)), .d (.slice (.rc 1)), .d i64]]⟩
noncomputable def pw107_27038 : List Vm.Way := [⟨.normal, [], ⟨[], [.box [.d i64, .d i64], .box [.d i64, .d .str, .d .str, .d (.slice (.rc 0)), .d (.slice (.rc 1)), .d (.slice (.rc 1)), .d i64]]⟩⟩, ⟨.ret, [6], ⟨[.d .bool], [.box [.d i64, .d i64], .box [.d i64, .d .str, .d .str, .d (.slice (.rc 0)), .d (.slice (.rc 1)), .d (.slice (.rc 1)), .d i64]]⟩⟩]
abbrev R107_27038 : Type := ((Unit × ((Int × Int × Unit) × (Int × ByteArray × ByteArray × (List PExpr) × (List PStmt) × (List PStmt) × Int × Unit) × Unit)) ⊕ ((Bool × Unit) × ((Int × Int × Unit) × (Int × ByteArray × ByteArray × (List PExpr) × (List PStmt) × (List PStmt) × Int × Unit) × Unit)))
abbrev T107_27038 : Type := Int → Int → Int → ByteArray → ByteArray → (List PExpr) → (List PStmt) → (List PStmt) → Int → Option R107_27038
noncomputable def u107_27038 (f : T107_27038) : (pa107_27038).C → Option (WayC pw107_27038) := fun (x : ((Unit × Unit × Unit) × ((Int × Int × Unit) × (Int × ByteArray × ByteArray × (List PExpr) × (List PStmt) × (List PStmt) × Int × Unit) × Unit))) => f x.2.1.1 x.2.1.2.1 x.2.2.1.1 x.2.2.1.2.1 x.2.2.1.2.2.1 x.2.2.1.2.2.2.1 x.2.2.1.2.2.2.2.1 x.2.2.1.2.2.2.2.2.1 x.2.2.1.2.2.2.2.2.2.1
noncomputable def l107_27038 (k : Nat) (r107 : T107) : T107_27038 := fun o0_0 o0_1 o1_0 o1_1 o1_2 o1_3 o1_4 o1_5 o1_6 =>
  (l107_54076 k r107 o1_0 o1_1 o1_2 o1_3 o1_4 o1_5 o1_6).bind fun y1 =>
  (l107_108154 k r107 k y1.1.1 y1.1.2.1 y1.1.2.2.1 o0_0 o0_1).bind fun y2 =>
  match y2 with
  | .inl y2_0 =>
    some (.inl ((), ((y2_0.2.1.1, y2_0.2.1.2.1, ()), (y1.2.1.1, y1.2.1.2.1, y1.2.1.2.2.1, y1.2.1.2.2.2.1, y1.2.1.2.2.2.2.1, y1.2.1.2.2.2.2.2.1, y1.2.1.2.2.2.2.2.2.1, ()), ())))
  | .inr y2_1 =>
    some (.inr ((y2_1.1.1, ()), ((y2_1.2.1.1, y2_1.2.1.2.1, ()), (y1.2.1.1, y1.2.1.2.1, y1.2.1.2.2.1, y1.2.1.2.2.2.1, y1.2.1.2.2.2.2.1, y1.2.1.2.2.2.2.2.1, y1.2.1.2.2.2.2.2.2.1, ()), ())))
noncomputable def pa107_27036 : Shape := ⟨[.ptr 0, .ptr 1, .d .bool], [.box [.d i64, .d .str, .d .str, .d (.slice (.rc 0)), .d (.slice (.rc 1)), .d (.slice (.rc 1)), .d i64], .box [.d .bool, .d .bool, .d i64, .d .bool, .d .bool]]⟩
noncomputable def pw107_27036 : List Vm.Way := [⟨.normal, [88], ⟨[.d .bool], [.box [.d i64, .d .str, .d .str, .d (.slice (.rc 0)), .d (.slice (.rc 1)), .d (.slice (.rc 1)), .d i64], .box [.d .bool, .d .bool, .d i64, .d .bool, .d .bool]]⟩⟩]
abbrev R107_27036 : Type := ((Bool × Unit) × ((Int × ByteArray × ByteArray × (List PExpr) × (List PStmt) × (List PStmt) × Int × Unit) × (Bool × Bool × Int × Bool × Bool × Unit) × Unit))
abbrev T107_27036 : Type := Bool → Int → ByteArray → ByteArray → (List PExpr) → (List PStmt) → (List PStmt) → Int → Bool → Bool → Int → Bool → Bool → Option R107_27036
noncomputable def u107_27036 (f : T107_27036) : (pa107_27036).C → Option (WayC pw107_27036) := fun (x : ((Unit × Unit × Bool × Unit) × ((Int × ByteArray × ByteArray × (List PExpr) × (List PStmt) × (List PStmt) × Int × Unit) × (Bool × Bool × Int × Bool × Bool × Unit) × Unit))) => f x.1.2.2.1 x.2.1.1 x.2.1.2.1 x.2.1.2.2.1 x.2.1.2.2.2.1 x.2.1.2.2.2.2.1 x.2.1.2.2.2.2.2.1 x.2.1.2.2.2.2.2.2.1 x.2.2.1.1 x.2.2.1.2.1 x.2.2.1.2.2.1 x.2.2.1.2.2.2.1 x.2.2.1.2.2.2.2.1
noncomputable def l107_27036 (k : Nat) (r107 : T107) : T107_27036 := fun ok10 o0_0 o0_1 o0_2 o0_3 o0_4 o0_5 o0_6 o1_0 o1_1 o1_2 o1_3 o1_4 =>
  cond (!ok10)
    (some ((true, ()), ((o0_0, o0_1, o0_2, o0_3, o0_4, o0_5, o0_6, ()), (o1_0, o1_1, o1_2, o1_3, o1_4, ()), ())))
    ((f142 k o0_1 o1_0).bind fun y1 =>
    cond (!y1.1.1)
      (some ((true, ()), ((o0_0, o0_1, o0_2, o0_3, o0_4, o0_5, o0_6, ()), (o1_0, o1_1, o1_2, o1_3, o1_4, ()), ())))
      ((f142 k o0_2 o1_1).bind fun y2 =>
      cond (!y2.1.1)
        (some ((true, ()), ((o0_0, o0_1, o0_2, o0_3, o0_4, o0_5, o0_6, ()), (o1_0, o1_1, o1_2, o1_3, o1_4, ()), ())))
        (cond ((o0_3.length : Int) != o1_2)
          (some ((true, ()), ((o0_0, o0_1, o0_2, o0_3, o0_4, o0_5, o0_6, ()), (o1_0, o1_1, o1_2, o1_3, o1_4, ()), ())))
          (cond (!o1_3)
            (cond (decide ((o0_4.length : Int) > 0))
              (some ((true, ()), ((o0_0, o0_1, o0_2, o0_3, o0_4, o0_5, o0_6, ()), (o1_0, o1_1, o1_2, o1_3, o1_4, ()), ())))
              (cond (!o1_4)
                (some (((decide ((o0_5.length : Int) > 0)), ()), ((o0_0, o0_1, o0_2, o0_3, o0_4, o0_5, o0_6, ()), (o1_0, o1_1, o1_2, o1_3, o1_4, ()), ())))
                (some ((false, ()), ((o0_0, o0_1, o0_2, o0_3, o0_4, o0_5, o0_6, ()), (o1_0, o1_1, o1_2, o1_3, o1_4, ()), ())))))
            (cond (!o1_4)
              (some (((decide ((o0_5.length : Int) > 0)), ()), ((o0_0, o0_1, o0_2, o0_3, o0_4, o0_5, o0_6, ()), (o1_0, o1_1, o1_2, o1_3, o1_4, ()), ())))
              (some ((false, ()), ((o0_0, o0_1, o0_2, o0_3, o0_4, o0_5, o0_6, ()), (o1_0, o1_1, o1_2, o1_3, o1_4, ()), ()))))))))
noncomputable def pa107_26 : Shape := ⟨[.ptr 0, .d i64, .d (.slice (.rc 1)), .d i64, .d i64], [.box [.d i64, .d i64]]⟩
noncomputable def pw107_26 : List Vm.Way := [⟨.exit 0, [], ⟨[], [.box [.d i64, .d i64]]⟩⟩, ⟨.ret, [6], ⟨[.d .bool], [.box [.d i64, .d i64]]⟩⟩]
abbrev R107_26 : Type := ((Unit × ((Int × Int × Unit) × Unit)) ⊕ ((Bool × Unit) × ((Int × Int × Unit) × Unit)))
abbrev T107_26 : Type := Int → (List PStmt) → Int → Int → Int → Int → Option R107_26
noncomputable def u107_26 (f : T107_26) : (pa107_26).C → Option (WayC pw107_26) := fun (x : ((Unit × Int × (List PStmt) × Int × Int × Unit) × ((Int × Int × Unit) × Unit))) => f x.1.2.1 x.1.2.2.1 x.1.2.2.2.1 x.1.2.2.2.2.1 x.2.1.1 x.2.1.2.1
noncomputable def b107_26 (k : Nat) (r107 : T107) (rec : T107_26) : T107_26 := fun deep2 t13 t14 t15 o0_0 o0_1 =>
  cond (decide (t15 < t14))
    (ix t13 t15 fun e1 =>
    cond (decide ((w64 (o0_0 + 1)) > 200))
      (some (.inr ((false, ()), (((w64 (o0_0 + 1)), o0_1, ()), ()))))
      (cond (decide (deep2 < 1))
        (some (.inr ((false, ()), (((w64 (o0_0 + 1)), o0_1, ()), ()))))
        ((f141 k (sKind e1)).bind fun y2 =>
        (l107_27036 k r107 y2.1.2.1 (sKind e1) (sName e1) (sLoc e1) (sExprs e1) (sBody e1) (sEls e1) (sPos e1) y2.1.1.1 y2.1.1.2.1 y2.1.1.2.2.1 y2.1.1.2.2.2.1 y2.1.1.2.2.2.2.1).bind fun y3 =>
        cond y3.1.1
          (some (.inr ((false, ()), (((w64 (o0_0 + 1)), o0_1, ()), ()))))
          ((l107_27038 k r107 (w64 (o0_0 + 1)) o0_1 y3.2.1.1 y3.2.1.2.1 y3.2.1.2.2.1 y3.2.1.2.2.2.1 y3.2.1.2.2.2.2.1 y3.2.1.2.2.2.2.2.1 y3.2.1.2.2.2.2.2.2.1).bind fun y4 =>
          match y4 with
          | .inl y4_0 =>
            (l107_54078 k r107 deep2 y4_0.2.1.1 y4_0.2.1.2.1 y4_0.2.2.1.1 y4_0.2.2.1.2.1 y4_0.2.2.1.2.2.1 y4_0.2.2.1.2.2.2.1 y4_0.2.2.1.2.2.2.2.1 y4_0.2.2.1.2.2.2.2.2.1 y4_0.2.2.1.2.2.2.2.2.2.1).bind fun y5 =>
            cond y5.1.1
              (some (.inr ((false, ()), ((y5.2.1.1, y5.2.1.2.1, ()), ()))))
              ((rec deep2 t13 t14 (w64 (t15 + 1)) y5.2.1.1 y5.2.1.2.1).bind fun y6 =>
              match y6 with
              | .inl y6_0 =>
                some (.inl ((), ((y6_0.2.1.1, y6_0.2.1.2.1, ()), ())))
              | .inr y6_1 =>
                some (.inr ((y6_1.1.1, ()), ((y6_1.2.1.1, y6_1.2.1.2.1, ()), ()))))
          | .inr y4_1 =>
            some (.inr ((y4_1.1.1, ()), ((y4_1.2.1.1, y4_1.2.1.2.1, ()), ())))))))
    (some (.inl ((), ((o0_0, o0_1, ()), ()))))
noncomputable def l107_26 (k : Nat) (r107 : T107) : Nat → T107_26
  | 0 => fun _ _ _ _ _ _ => none
  | j + 1 => b107_26 k r107 (l107_26 k r107 j)
noncomputable def b107 (k : Nat) (r107 : T107) : T107 := fun l1 deep2 o0_0 o0_1 =>
  (l107_26 k r107 k deep2 l1 (l1.length : Int) 0 o0_0 o0_1).bind fun y1 =>
  match y1 with
  | .inl y1_0 =>
    some ((true, ()), ((y1_0.2.1.1, y1_0.2.1.2.1, ()), ()))
  | .inr y1_1 =>
    some ((y1_1.1.1, ()), ((y1_1.2.1.1, y1_1.2.1.2.1, ()), ()))
noncomputable def S107 : Nat → T107
  | 0 => (fun _ _ _ _ => none)
  | k + 1 => (b107 k (S107 k))
noncomputable def f107 (k : Nat) : T107 := (S107 k)
theorem f107_succ (k : Nat) : f107 (k + 1) = b107 k (f107 k) := rfl
noncomputable def C107 (k : Nat) (r107 : T107) : Nat → Fun := mkC [(69, (F69 (f69 k))), (107, (F107 r107)), (141, (F141 (f141 k))), (142, (F142 (f142 k)))]
theorem c107_ok (k : Nat) (r107 : T107) (h107 : SoundFn Try.prog 107 (F107 r107)) : ∀ f, SoundFn Try.prog f (C107 k r107 f) := (mkC_cons (s69 k) (mkC_cons h107 (mkC_cons (s141 k) (mkC_cons (s142 k) mkC_nil))))
noncomputable def H107_108154 (k : Nat) (r107 : T107) : Nat → Option Cut := addH noH 108154 ⟨runCut (wrC (bodyOf (codeAt 108154 (bd Try.f107) 108154))) 118 [0, 90, 91, 92] pa107_108154 pw107_108154 (u107_108154 (l107_108154 k r107 k))⟩
theorem e107_108154 (k : Nat) (r107 : T107) (rec : T107_108154) (x : (pa107_108154).C) : roundF (C107 k r107) tt noH (bodyOf (codeAt 108154 (bd Try.f107) 108154)) 216308 118 [0, 90, 91, 92] pa107_108154 pw107_108154 (u107_108154 rec) x = u107_108154 (b107_108154 k r107 rec) x := by kernel_rfl
theorem h107_108154_ok (k : Nat) (r107 : T107) (h107 : SoundFn Try.prog 107 (F107 r107)) : ∀ p S, H107_108154 k r107 p = some S → ∀ c, At (bd Try.f107) p c → CutOk Try.prog c S :=
  have hC := c107_ok k r107 h107
  addLoop hC ttOk (draw_ok hC ttOk mixed) noH_ok (by kernel_rfl) (F := fun j => u107_108154 (l107_108154 k r107 j)) (fun _ => rfl) (fun j x _ h => (e107_108154 k r107 (l107_108154 k r107 j) x).trans h) k
noncomputable def H107_54078 (k : Nat) (r107 : T107) : Nat → Option Cut := addH (H107_108154 k r107) 54078 ⟨runCut (wrC (codeAt 54078 (bd Try.f107) 54078)) 118 [0, 2, 8] pa107_54078 pw107_54078 (u107_54078 (l107_54078 k r107))⟩
theorem e107_54078 (k : Nat) (r107 : T107) (x : (pa107_54078).C) : pieceF (C107 k r107) tt (H107_108154 k r107) (codeAt 54078 (bd Try.f107) 54078) 54078 118 [0, 2, 8] pa107_54078 pw107_54078 x = u107_54078 (l107_54078 k r107) x := by kernel_rfl
theorem h107_54078_ok (k : Nat) (r107 : T107) (h107 : SoundFn Try.prog 107 (F107 r107)) : ∀ p S, H107_54078 k r107 p = some S → ∀ c, At (bd Try.f107) p c → CutOk Try.prog c S :=
  have hC := c107_ok k r107 h107
  addPiece hC ttOk (draw_ok hC ttOk mixed) (h107_108154_ok k r107 h107) (fun x _ h => (e107_54078 k r107 x).trans h)
noncomputable def H107_54076 (k : Nat) (r107 : T107) : Nat → Option Cut := addH (H107_54078 k r107) 54076 ⟨runCut (wrC (codeAt 54076 (bd Try.f107) 54076)) 118 [8] pa107_54076 pw107_54076 (u107_54076 (l107_54076 k r107))⟩
theorem e107_54076 (k : Nat) (r107 : T107) (x : (pa107_54076).C) : pieceF (C107 k r107) tt (H107_54078 k r107) (codeAt 54076 (bd Try.f107) 54076) 54076 118 [8] pa107_54076 pw107_54076 x = u107_54076 (l107_54076 k r107) x := by kernel_rfl
theorem h107_54076_ok (k : Nat) (r107 : T107) (h107 : SoundFn Try.prog 107 (F107 r107)) : ∀ p S, H107_54076 k r107 p = some S → ∀ c, At (bd Try.f107) p c → CutOk Try.prog c S :=
  have hC := c107_ok k r107 h107
  addPiece hC ttOk (draw_ok hC ttOk mixed) (h107_54078_ok k r107 h107) (fun x _ h => (e107_54076 k r107 x).trans h)
noncomputable def H107_27038 (k : Nat) (r107 : T107) : Nat → Option Cut := addH (H107_54076 k r107) 27038 ⟨runCut (wrC (codeAt 27038 (bd Try.f107) 27038)) 118 [0, 8] pa107_27038 pw107_27038 (u107_27038 (l107_27038 k r107))⟩
theorem e107_27038 (k : Nat) (r107 : T107) (x : (pa107_27038).C) : pieceF (C107 k r107) tt (H107_54076 k r107) (codeAt 27038 (bd Try.f107) 27038) 27038 118 [0, 8] pa107_27038 pw107_27038 x = u107_27038 (l107_27038 k r107) x := by kernel_rfl
theorem h107_27038_ok (k : Nat) (r107 : T107) (h107 : SoundFn Try.prog 107 (F107 r107)) : ∀ p S, H107_27038 k r107 p = some S → ∀ c, At (bd Try.f107) p c → CutOk Try.prog c S :=
  have hC := c107_ok k r107 h107
  addPiece hC ttOk (draw_ok hC ttOk mixed) (h107_54076_ok k r107 h107) (fun x _ h => (e107_27038 k r107 x).trans h)
noncomputable def H107_27036 (k : Nat) (r107 : T107) : Nat → Option Cut := addH (H107_27038 k r107) 27036 ⟨runCut (wrC (codeAt 27036 (bd Try.f107) 27036)) 118 [8, 9, 10] pa107_27036 pw107_27036 (u107_27036 (l107_27036 k r107))⟩
theorem e107_27036 (k : Nat) (r107 : T107) (x : (pa107_27036).C) : pieceF (C107 k r107) tt (H107_27038 k r107) (codeAt 27036 (bd Try.f107) 27036) 27036 118 [8, 9, 10] pa107_27036 pw107_27036 x = u107_27036 (l107_27036 k r107) x := by kernel_rfl
theorem h107_27036_ok (k : Nat) (r107 : T107) (h107 : SoundFn Try.prog 107 (F107 r107)) : ∀ p S, H107_27036 k r107 p = some S → ∀ c, At (bd Try.f107) p c → CutOk Try.prog c S :=
  have hC := c107_ok k r107 h107
  addPiece hC ttOk (draw_ok hC ttOk mixed) (h107_27038_ok k r107 h107) (fun x _ h => (e107_27036 k r107 x).trans h)
noncomputable def H107_26 (k : Nat) (r107 : T107) : Nat → Option Cut := addH (H107_27036 k r107) 26 ⟨runCut (wrC (bodyOf (codeAt 26 (bd Try.f107) 26))) 118 [0, 2, 13, 14, 15] pa107_26 pw107_26 (u107_26 (l107_26 k r107 k))⟩
theorem e107_26 (k : Nat) (r107 : T107) (rec : T107_26) (x : (pa107_26).C) : roundF (C107 k r107) tt (H107_27036 k r107) (bodyOf (codeAt 26 (bd Try.f107) 26)) 52 118 [0, 2, 13, 14, 15] pa107_26 pw107_26 (u107_26 rec) x = u107_26 (b107_26 k r107 rec) x := by kernel_rfl
theorem h107_26_ok (k : Nat) (r107 : T107) (h107 : SoundFn Try.prog 107 (F107 r107)) : ∀ p S, H107_26 k r107 p = some S → ∀ c, At (bd Try.f107) p c → CutOk Try.prog c S :=
  have hC := c107_ok k r107 h107
  addLoop hC ttOk (draw_ok hC ttOk mixed) (h107_27036_ok k r107 h107) (by kernel_rfl) (F := fun j => u107_26 (l107_26 k r107 j)) (fun _ => rfl) (fun j x _ h => (e107_26 k r107 (l107_26 k r107 j) x).trans h) k
theorem e107 (k : Nat) (r107 : T107) (x : (a107).C) : bodyW (C107 k r107) tt (H107_26 k r107) Try.f107 a107 o107 x = u107 (b107 k r107) x := by kernel_rfl
theorem q107 (k : Nat) (r107 : T107) (h107 : SoundFn Try.prog 107 (F107 r107)) : SoundFn Try.prog 107 (F107 (b107 k r107)) :=
  have hC := c107_ok k r107 h107
  fnW_sound hC ttOk (draw_ok hC ttOk mixed) Try.func107 (c0 := bd Try.f107) rfl (entry Try.func107 rfl (by decide)) (h107_26_ok k r107 h107) (fun x _ h => (e107 k r107 x).trans h)
theorem sAll107 : ∀ k : Nat, SoundFn Try.prog 107 (F107 (f107 k))
  | 0 => noneW_ok (by intro x; rfl)
  | k + 1 =>
    have ih := sAll107 k
    q107 k (f107 k) ih
theorem s107 (k : Nat) : SoundFn Try.prog 107 (F107 (f107 k)) := (sAll107 k)
/-! f71 fathom/tree.count (W) -/
noncomputable def a71 : Shape := ⟨[.d T_Prog], []⟩
noncomputable def o71 : List Shape := [⟨[.ptr 0, .d .bool], [.box [.d i64, .d i64]]⟩]
abbrev R71 : Type := ((Unit × Bool × Unit) × ((Int × Int × Unit) × Unit))
abbrev T71 : Type := D_Prog → Option R71
noncomputable def u71 (f : T71) : (a71).C → Option (OutC o71) := fun (x : ((D_Prog × Unit) × Unit)) => f x.1.1
noncomputable def F71 (f : T71) : Fun := ⟨false, runW a71 o71 (u71 f)⟩
noncomputable def pa71_250 : Shape := ⟨[.ptr 0, .d (.slice T_Proc), .d i64, .d i64], [.box [.d i64, .d i64]]⟩
noncomputable def pw71_250 : List Vm.Way := [⟨.exit 0, [], ⟨[], [.box [.d i64, .d i64]]⟩⟩, ⟨.ret, [2, 3], ⟨[.ptr 0, .d .bool], [.box [.d i64, .d i64]]⟩⟩]
abbrev R71_250 : Type := ((Unit × ((Int × Int × Unit) × Unit)) ⊕ ((Unit × Bool × Unit) × ((Int × Int × Unit) × Unit)))
abbrev T71_250 : Type := (List D_Proc) → Int → Int → Int → Int → Option R71_250
noncomputable def u71_250 (f : T71_250) : (pa71_250).C → Option (WayC pw71_250) := fun (x : ((Unit × (List D_Proc) × Int × Int × Unit) × ((Int × Int × Unit) × Unit))) => f x.1.2.1 x.1.2.2.1 x.1.2.2.2.1 x.2.1.1 x.2.1.2.1
noncomputable def b71_250 (k : Nat) (rec : T71_250) : T71_250 := fun t41 t42 t43 o0_0 o0_1 =>
  cond (decide (t43 < t42))
    (ix t41 t43 fun e1 =>
    (f19 k e1.1).bind fun y2 =>
    cond (!y2.1.1)
      (some (.inr (((), false, ()), ((o0_0, o0_1, ()), ()))))
      ((f107 k e1.2.1 12 o0_0 o0_1).bind fun y3 =>
      cond (!y3.1.1)
        (some (.inr (((), false, ()), ((y3.2.1.1, y3.2.1.2.1, ()), ()))))
        ((rec t41 t42 (w64 (t43 + 1)) y3.2.1.1 y3.2.1.2.1).bind fun y4 =>
        match y4 with
        | .inl y4_0 =>
          some (.inl ((), ((y4_0.2.1.1, y4_0.2.1.2.1, ()), ())))
        | .inr y4_1 =>
          some (.inr (((), y4_1.1.2.1, ()), ((y4_1.2.1.1, y4_1.2.1.2.1, ()), ()))))))
    (some (.inl ((), ((o0_0, o0_1, ()), ()))))
noncomputable def l71_250 (k : Nat) : Nat → T71_250
  | 0 => fun _ _ _ _ _ => none
  | j + 1 => b71_250 k (l71_250 k j)
noncomputable def f71 (k : Nat) : T71 := fun p0 =>
  cond (decide (p0.1 < 0))
    (some (((), false, ()), ((0, 0, ()), ())))
    (cond (decide (p0.1 > 65535))
      (some (((), false, ()), ((0, 0, ()), ())))
      (cond (decide ((p0.2.1.length : Int) > 12))
        (some (((), false, ()), ((0, 0, ()), ())))
        (cond (decide ((p0.2.2.1.length : Int) < 1))
          (some (((), false, ()), ((0, 0, ()), ())))
          (cond (decide ((p0.2.2.1.length : Int) > 6))
            (some (((), false, ()), ((0, 0, ()), ())))
            ((f104 k p0.2.1).bind fun y1 =>
            cond y1.1.1
              (some (((), false, ()), ((0, 0, ()), ())))
              ((l71_250 k k p0.2.2.1 (p0.2.2.1.length : Int) 0 0 0).bind fun y2 =>
              match y2 with
              | .inl y2_0 =>
                some (((), true, ()), ((y2_0.2.1.1, y2_0.2.1.2.1, ()), ()))
              | .inr y2_1 =>
                some (((), y2_1.1.2.1, ()), ((y2_1.2.1.1, y2_1.2.1.2.1, ()), ()))))))))
noncomputable def C71 (k : Nat) : Nat → Fun := mkC [(19, (F19 (f19 k))), (104, (F104 (f104 k))), (107, (F107 (f107 k)))]
theorem c71_ok (k : Nat) : ∀ f, SoundFn Try.prog f (C71 k f) := (mkC_cons (s19 k) (mkC_cons (s104 k) (mkC_cons (s107 k) mkC_nil)))
noncomputable def H71_250 (k : Nat) : Nat → Option Cut := addH noH 250 ⟨runCut (wrC (bodyOf (codeAt 250 (bd Try.f71) 250))) 61 [4, 41, 42, 43] pa71_250 pw71_250 (u71_250 (l71_250 k k))⟩
theorem e71_250 (k : Nat) (rec : T71_250) (x : (pa71_250).C) : roundF (C71 k) tt noH (bodyOf (codeAt 250 (bd Try.f71) 250)) 500 61 [4, 41, 42, 43] pa71_250 pw71_250 (u71_250 rec) x = u71_250 (b71_250 k rec) x := by kernel_rfl
theorem h71_250_ok (k : Nat) : ∀ p S, H71_250 k p = some S → ∀ c, At (bd Try.f71) p c → CutOk Try.prog c S :=
  have hC := c71_ok k
  addLoop hC ttOk (draw_ok hC ttOk mixed) noH_ok (by kernel_rfl) (F := fun j => u71_250 (l71_250 k j)) (fun _ => rfl) (fun j x _ h => (e71_250 k (l71_250 k j) x).trans h) k
theorem e71 (k : Nat) (x : (a71).C) : bodyW (C71 k) tt (H71_250 k) Try.f71 a71 o71 x = u71 (f71 k) x := by kernel_rfl
theorem s71 (k : Nat) : SoundFn Try.prog 71 (F71 (f71 k)) :=
  have hC := c71_ok k
  fnW_sound hC ttOk (draw_ok hC ttOk mixed) Try.func71 (c0 := bd Try.f71) rfl (entry Try.func71 rfl (by decide)) (h71_250_ok k) (fun x _ h => (e71 k x).trans h)
/-! f33 fathom/tree.Check (R) -/
noncomputable def a33 : Shape := ⟨[.d T_Prog], []⟩
noncomputable def o33 : List Shape := [⟨[.d i64], []⟩]
abbrev R33 : Type := ((Int × Unit) × Unit)
abbrev T33 : Type := D_Prog → Option R33
noncomputable def u33 (f : T33) : (a33).C → Option (OutC o33) := fun (x : ((D_Prog × Unit) × Unit)) => f x.1.1
noncomputable def F33 (f : T33) : Fun := ⟨true, runR a33 o33 (u33 f)⟩
noncomputable def f33 (k : Nat) : T33 := fun p0 =>
  (f71 k p0).bind fun y1 =>
  cond (!y1.1.2.1)
    (some ((1, ()), ()))
    (some ((0, ()), ()))
noncomputable def C33 (k : Nat) : Nat → Fun := mkC [(71, (F71 (f71 k)))]
theorem c33_ok (k : Nat) : ∀ f, SoundFn Try.prog f (C33 k f) := (mkC_cons (s71 k) mkC_nil)
theorem e33 (k : Nat) (x : (a33).C) : bodyR (C33 k) tt noH Try.f33 a33 o33 x = u33 (f33 k) x := by kernel_rfl
theorem s33 (k : Nat) : SoundFn Try.prog 33 (F33 (f33 k)) :=
  have hC := c33_ok k
  fnR_sound hC ttOk (draw_ok hC ttOk mixed) Try.func33 (c0 := bd Try.f33) rfl (entry Try.func33 rfl (by decide)) noH_ok rfl (fun x _ h => (e33 k x).trans h)
/-! f63 fathom/tree.Same$1 (R) -/
noncomputable def a63 : Shape := ⟨[.d T_Decl, .d T_Decl], []⟩
noncomputable def o63 : List Shape := [⟨[.d .bool], []⟩]
abbrev R63 : Type := ((Bool × Unit) × Unit)
abbrev T63 : Type := D_Decl → D_Decl → Option R63
noncomputable def u63 (f : T63) : (a63).C → Option (OutC o63) := fun (x : ((D_Decl × D_Decl × Unit) × Unit)) => f x.1.1 x.1.2.1
noncomputable def F63 (f : T63) : Fun := ⟨true, runR a63 o63 (u63 f)⟩
noncomputable def f63 (k : Nat) : T63 := fun x0 y_1 =>
  cond (x0.1 == y_1.1)
    (cond (x0.2.1.toList == y_1.2.1.toList)
      (some (((x0.2.2.1 == y_1.2.2.1), ()), ()))
      (some ((false, ()), ())))
    (some ((false, ()), ()))
noncomputable def C63 (k : Nat) : Nat → Fun := mkC []
theorem c63_ok (k : Nat) : ∀ f, SoundFn Try.prog f (C63 k f) := mkC_nil
theorem e63 (k : Nat) (x : (a63).C) : bodyR (C63 k) tt noH Try.f63 a63 o63 x = u63 (f63 k) x := by kernel_rfl
theorem s63 (k : Nat) : SoundFn Try.prog 63 (F63 (f63 k)) :=
  have hC := c63_ok k
  fnR_sound hC ttOk (draw_ok hC ttOk mixed) Try.func63 (c0 := bd Try.f63) rfl (entry Try.func63 rfl (by decide)) noH_ok rfl (fun x _ h => (e63 k x).trans h)
/-! f62 slices.EqualFunc[[]fathom/api.Decl,[]fathom/api.Decl,fathom/api.Decl,fathom/api.Decl] (R) -/
noncomputable def a62 : Shape := ⟨[.d (.slice T_Decl), .d (.slice T_Decl), .fn 63 []], []⟩
noncomputable def o62 : List Shape := [⟨[.d .bool], []⟩]
abbrev R62 : Type := ((Bool × Unit) × Unit)
abbrev T62 : Type := (List D_Decl) → (List D_Decl) → Option R62
noncomputable def u62 (f : T62) : (a62).C → Option (OutC o62) := fun (x : (((List D_Decl) × (List D_Decl) × Unit × Unit) × Unit)) => f x.1.1 x.1.2.1
noncomputable def F62 (f : T62) : Fun := ⟨true, runR a62 o62 (u62 f)⟩
noncomputable def pa62_58 : Shape := ⟨[.d (.slice T_Decl), .fn 63 [], .d (.slice T_Decl), .d i64, .d i64], []⟩
noncomputable def pw62_58 : List Vm.Way := [⟨.exit 0, [], ⟨[], []⟩⟩, ⟨.ret, [6], ⟨[.d .bool], []⟩⟩]
abbrev R62_58 : Type := ((Unit × Unit) ⊕ ((Bool × Unit) × Unit))
abbrev T62_58 : Type := (List D_Decl) → (List D_Decl) → Int → Int → Option R62_58
noncomputable def u62_58 (f : T62_58) : (pa62_58).C → Option (WayC pw62_58) := fun (x : (((List D_Decl) × Unit × (List D_Decl) × Int × Int × Unit) × Unit)) => f x.1.1 x.1.2.2.1 x.1.2.2.2.1 x.1.2.2.2.2.1
noncomputable def b62_58 (k : Nat) (rec : T62_58) : T62_58 := fun s21 t15 t16 t17 =>
  cond (decide (t17 < t16))
    (ix t15 t17 fun e1 =>
    ix s21 t17 fun e2 =>
    (f63 k e1 e2).bind fun y3 =>
    cond (!y3.1.1)
      (some (.inr ((false, ()), ())))
      ((rec s21 t15 t16 (w64 (t17 + 1))).bind fun y4 =>
      match y4 with
      | .inl y4_0 =>
        some (.inl ((), ()))
      | .inr y4_1 =>
        some (.inr ((y4_1.1.1, ()), ()))))
    (some (.inl ((), ())))
noncomputable def l62_58 (k : Nat) : Nat → T62_58
  | 0 => fun _ _ _ _ => none
  | j + 1 => b62_58 k (l62_58 k j)
noncomputable def f62 (k : Nat) : T62 := fun s10 s21 =>
  cond ((s10.length : Int) != (s21.length : Int))
    (some ((false, ()), ()))
    ((l62_58 k k s21 s10 (s10.length : Int) 0).bind fun y1 =>
    match y1 with
    | .inl y1_0 =>
      some ((true, ()), ())
    | .inr y1_1 =>
      some ((y1_1.1.1, ()), ()))
noncomputable def C62 (k : Nat) : Nat → Fun := mkC [(63, (F63 (f63 k)))]
theorem c62_ok (k : Nat) : ∀ f, SoundFn Try.prog f (C62 k f) := (mkC_cons (s63 k) mkC_nil)
noncomputable def H62_58 (k : Nat) : Nat → Option Cut := addH noH 58 ⟨runCut (wrC (bodyOf (codeAt 58 (bd Try.f62) 58))) 32 [1, 2, 15, 16, 17] pa62_58 pw62_58 (u62_58 (l62_58 k k))⟩
theorem e62_58 (k : Nat) (rec : T62_58) (x : (pa62_58).C) : roundF (C62 k) tt noH (bodyOf (codeAt 58 (bd Try.f62) 58)) 116 32 [1, 2, 15, 16, 17] pa62_58 pw62_58 (u62_58 rec) x = u62_58 (b62_58 k rec) x := by kernel_rfl
theorem h62_58_ok (k : Nat) : ∀ p S, H62_58 k p = some S → ∀ c, At (bd Try.f62) p c → CutOk Try.prog c S :=
  have hC := c62_ok k
  addLoop hC ttOk (draw_ok hC ttOk mixed) noH_ok (by kernel_rfl) (F := fun j => u62_58 (l62_58 k j)) (fun _ => rfl) (fun j x _ h => (e62_58 k (l62_58 k j) x).trans h) k
theorem e62 (k : Nat) (x : (a62).C) : bodyR (C62 k) tt (H62_58 k) Try.f62 a62 o62 x = u62 (f62 k) x := by kernel_rfl
theorem s62 (k : Nat) : SoundFn Try.prog 62 (F62 (f62 k)) :=
  have hC := c62_ok k
  fnR_sound hC ttOk (draw_ok hC ttOk mixed) Try.func62 (c0 := bd Try.f62) rfl (entry Try.func62 rfl (by decide)) (h62_58_ok k) rfl (fun x _ h => (e62 k x).trans h)
/-! f70 fathom/tree.expr (R) -/
noncomputable def a70 : Shape := ⟨[.d (.rc 0), .d (.rc 0)], []⟩
noncomputable def o70 : List Shape := [⟨[.d .bool], []⟩]
abbrev R70 : Type := ((Bool × Unit) × Unit)
abbrev T70 : Type := PExpr → PExpr → Option R70
noncomputable def u70 (f : T70) : (a70).C → Option (OutC o70) := fun (x : ((PExpr × PExpr × Unit) × Unit)) => f x.1.1 x.1.2.1
noncomputable def F70 (f : T70) : Fun := ⟨true, runR a70 o70 (u70 f)⟩
/-! f101 slices.EqualFunc[[]fathom/api.Expr,[]fathom/api.Expr,fathom/api.Expr,fathom/api.Expr] (R) -/
noncomputable def a101 : Shape := ⟨[.d (.slice (.rc 0)), .d (.slice (.rc 0)), .fn 70 []], []⟩
noncomputable def o101 : List Shape := [⟨[.d .bool], []⟩]
abbrev R101 : Type := ((Bool × Unit) × Unit)
abbrev T101 : Type := (List PExpr) → (List PExpr) → Option R101
noncomputable def u101 (f : T101) : (a101).C → Option (OutC o101) := fun (x : (((List PExpr) × (List PExpr) × Unit × Unit) × Unit)) => f x.1.1 x.1.2.1
noncomputable def F101 (f : T101) : Fun := ⟨true, runR a101 o101 (u101 f)⟩
noncomputable def b70 (k : Nat) (r70 : T70) (r101 : T101) : T70 := fun a0 b1 =>
  cond ((eKind a0) == (eKind b1))
    (cond ((eOp a0).toList == (eOp b1).toList)
      (cond ((eNum a0) == (eNum b1))
        (cond ((eName a0).toList == (eName b1).toList)
          ((r101 (eKids a0) (eKids b1)).bind fun y1 =>
          some ((y1.1.1, ()), ()))
          (some ((false, ()), ())))
        (some ((false, ()), ())))
      (some ((false, ()), ())))
    (some ((false, ()), ()))
noncomputable def pa101_58 : Shape := ⟨[.d (.slice (.rc 0)), .fn 70 [], .d (.slice (.rc 0)), .d i64, .d i64], []⟩
noncomputable def pw101_58 : List Vm.Way := [⟨.exit 0, [], ⟨[], []⟩⟩, ⟨.ret, [6], ⟨[.d .bool], []⟩⟩]
abbrev R101_58 : Type := ((Unit × Unit) ⊕ ((Bool × Unit) × Unit))
abbrev T101_58 : Type := (List PExpr) → (List PExpr) → Int → Int → Option R101_58
noncomputable def u101_58 (f : T101_58) : (pa101_58).C → Option (WayC pw101_58) := fun (x : (((List PExpr) × Unit × (List PExpr) × Int × Int × Unit) × Unit)) => f x.1.1 x.1.2.2.1 x.1.2.2.2.1 x.1.2.2.2.2.1
noncomputable def b101_58 (k : Nat) (r70 : T70) (r101 : T101) (rec : T101_58) : T101_58 := fun s21 t15 t16 t17 =>
  cond (decide (t17 < t16))
    (ix t15 t17 fun e1 =>
    ix s21 t17 fun e2 =>
    (r70 (ePack e1) (ePack e2)).bind fun y3 =>
    cond (!y3.1.1)
      (some (.inr ((false, ()), ())))
      ((rec s21 t15 t16 (w64 (t17 + 1))).bind fun y4 =>
      match y4 with
      | .inl y4_0 =>
        some (.inl ((), ()))
      | .inr y4_1 =>
        some (.inr ((y4_1.1.1, ()), ()))))
    (some (.inl ((), ())))
noncomputable def l101_58 (k : Nat) (r70 : T70) (r101 : T101) : Nat → T101_58
  | 0 => fun _ _ _ _ => none
  | j + 1 => b101_58 k r70 r101 (l101_58 k r70 r101 j)
noncomputable def b101 (k : Nat) (r70 : T70) (r101 : T101) : T101 := fun s10 s21 =>
  cond ((s10.length : Int) != (s21.length : Int))
    (some ((false, ()), ()))
    ((l101_58 k r70 r101 k s21 s10 (s10.length : Int) 0).bind fun y1 =>
    match y1 with
    | .inl y1_0 =>
      some ((true, ()), ())
    | .inr y1_1 =>
      some ((y1_1.1.1, ()), ()))
noncomputable def S70 : Nat → T70 × T101
  | 0 => (fun _ _ => none, fun _ _ => none)
  | k + 1 => (b70 k (S70 k).1 (S70 k).2, b101 k (S70 k).1 (S70 k).2)
noncomputable def f70 (k : Nat) : T70 := (S70 k).1
noncomputable def f101 (k : Nat) : T101 := (S70 k).2
theorem f70_succ (k : Nat) : f70 (k + 1) = b70 k (f70 k) (f101 k) := rfl
theorem f101_succ (k : Nat) : f101 (k + 1) = b101 k (f70 k) (f101 k) := rfl
noncomputable def C70 (k : Nat) (r70 : T70) (r101 : T101) : Nat → Fun := mkC [(101, (F101 r101))]
theorem c70_ok (k : Nat) (r70 : T70) (r101 : T101) (h70 : SoundFn Try.prog 70 (F70 r70)) (h101 : SoundFn Try.prog 101 (F101 r101)) : ∀ f, SoundFn Try.prog f (C70 k r70 r101 f) := (mkC_cons h101 mkC_nil)
theorem e70 (k : Nat) (r70 : T70) (r101 : T101) (x : (a70).C) : bodyR (C70 k r70 r101) tt noH Try.f70 a70 o70 x = u70 (b70 k r70 r101) x := by kernel_rfl
theorem q70 (k : Nat) (r70 : T70) (r101 : T101) (h70 : SoundFn Try.prog 70 (F70 r70)) (h101 : SoundFn Try.prog 101 (F101 r101)) : SoundFn Try.prog 70 (F70 (b70 k r70 r101)) :=
  have hC := c70_ok k r70 r101 h70 h101
  fnR_sound hC ttOk (draw_ok hC ttOk mixed) Try.func70 (c0 := bd Try.f70) rfl (entry Try.func70 rfl (by decide)) noH_ok rfl (fun x _ h => (e70 k r70 r101 x).trans h)
noncomputable def C101 (k : Nat) (r70 : T70) (r101 : T101) : Nat → Fun := mkC [(70, (F70 r70))]
theorem c101_ok (k : Nat) (r70 : T70) (r101 : T101) (h70 : SoundFn Try.prog 70 (F70 r70)) (h101 : SoundFn Try.prog 101 (F101 r101)) : ∀ f, SoundFn Try.prog f (C101 k r70 r101 f) := (mkC_cons h70 mkC_nil)
noncomputable def H101_58 (k : Nat) (r70 : T70) (r101 : T101) : Nat → Option Cut := addH noH 58 ⟨runCut (wrC (bodyOf (codeAt 58 (bd Try.f101) 58))) 32 [1, 2, 15, 16, 17] pa101_58 pw101_58 (u101_58 (l101_58 k r70 r101 k))⟩
theorem e101_58 (k : Nat) (r70 : T70) (r101 : T101) (rec : T101_58) (x : (pa101_58).C) : roundF (C101 k r70 r101) tt noH (bodyOf (codeAt 58 (bd Try.f101) 58)) 116 32 [1, 2, 15, 16, 17] pa101_58 pw101_58 (u101_58 rec) x = u101_58 (b101_58 k r70 r101 rec) x := by kernel_rfl
theorem h101_58_ok (k : Nat) (r70 : T70) (r101 : T101) (h70 : SoundFn Try.prog 70 (F70 r70)) (h101 : SoundFn Try.prog 101 (F101 r101)) : ∀ p S, H101_58 k r70 r101 p = some S → ∀ c, At (bd Try.f101) p c → CutOk Try.prog c S :=
  have hC := c101_ok k r70 r101 h70 h101
  addLoop hC ttOk (draw_ok hC ttOk mixed) noH_ok (by kernel_rfl) (F := fun j => u101_58 (l101_58 k r70 r101 j)) (fun _ => rfl) (fun j x _ h => (e101_58 k r70 r101 (l101_58 k r70 r101 j) x).trans h) k
theorem e101 (k : Nat) (r70 : T70) (r101 : T101) (x : (a101).C) : bodyR (C101 k r70 r101) tt (H101_58 k r70 r101) Try.f101 a101 o101 x = u101 (b101 k r70 r101) x := by kernel_rfl
theorem q101 (k : Nat) (r70 : T70) (r101 : T101) (h70 : SoundFn Try.prog 70 (F70 r70)) (h101 : SoundFn Try.prog 101 (F101 r101)) : SoundFn Try.prog 101 (F101 (b101 k r70 r101)) :=
  have hC := c101_ok k r70 r101 h70 h101
  fnR_sound hC ttOk (draw_ok hC ttOk mixed) Try.func101 (c0 := bd Try.f101) rfl (entry Try.func101 rfl (by decide)) (h101_58_ok k r70 r101 h70 h101) rfl (fun x _ h => (e101 k r70 r101 x).trans h)
theorem sAll70 : ∀ k : Nat, SoundFn Try.prog 70 (F70 (f70 k)) ∧ SoundFn Try.prog 101 (F101 (f101 k))
  | 0 => ⟨noneR_ok (by intro x; rfl), noneR_ok (by intro x; rfl)⟩
  | k + 1 =>
    have ih := sAll70 k
    ⟨q70 k (f70 k) (f101 k) ih.1 ih.2, q101 k (f70 k) (f101 k) ih.1 ih.2⟩
theorem s70 (k : Nat) : SoundFn Try.prog 70 (F70 (f70 k)) := (sAll70 k).1
theorem s101 (k : Nat) : SoundFn Try.prog 101 (F101 (f101 k)) := (sAll70 k).2
/-! f66 slices.EqualFunc[[]fathom/api.Stmt,[]fathom/api.Stmt,fathom/api.Stmt,fathom/api.Stmt] (R) -/
noncomputable def a66 : Shape := ⟨[.d (.slice (.rc 1)), .d (.slice (.rc 1)), .fn 67 []], []⟩
noncomputable def o66 : List Shape := [⟨[.d .bool], []⟩]
abbrev R66 : Type := ((Bool × Unit) × Unit)
abbrev T66 : Type := (List PStmt) → (List PStmt) → Option R66
noncomputable def u66 (f : T66) : (a66).C → Option (OutC o66) := fun (x : (((List PStmt) × (List PStmt) × Unit × Unit) × Unit)) => f x.1.1 x.1.2.1
noncomputable def F66 (f : T66) : Fun := ⟨true, runR a66 o66 (u66 f)⟩
/-! f67 fathom/tree.stmt (R) -/
noncomputable def a67 : Shape := ⟨[.d (.rc 1), .d (.rc 1)], []⟩
noncomputable def o67 : List Shape := [⟨[.d .bool], []⟩]
abbrev R67 : Type := ((Bool × Unit) × Unit)
abbrev T67 : Type := PStmt → PStmt → Option R67
noncomputable def u67 (f : T67) : (a67).C → Option (OutC o67) := fun (x : ((PStmt × PStmt × Unit) × Unit)) => f x.1.1 x.1.2.1
noncomputable def F67 (f : T67) : Fun := ⟨true, runR a67 o67 (u67 f)⟩
noncomputable def pa66_58 : Shape := ⟨[.d (.slice (.rc 1)), .fn 67 [], .d (.slice (.rc 1)), .d i64, .d i64], []⟩
noncomputable def pw66_58 : List Vm.Way := [⟨.exit 0, [], ⟨[], []⟩⟩, ⟨.ret, [6], ⟨[.d .bool], []⟩⟩]
abbrev R66_58 : Type := ((Unit × Unit) ⊕ ((Bool × Unit) × Unit))
abbrev T66_58 : Type := (List PStmt) → (List PStmt) → Int → Int → Option R66_58
noncomputable def u66_58 (f : T66_58) : (pa66_58).C → Option (WayC pw66_58) := fun (x : (((List PStmt) × Unit × (List PStmt) × Int × Int × Unit) × Unit)) => f x.1.1 x.1.2.2.1 x.1.2.2.2.1 x.1.2.2.2.2.1
noncomputable def b66_58 (k : Nat) (r66 : T66) (r67 : T67) (rec : T66_58) : T66_58 := fun s21 t15 t16 t17 =>
  cond (decide (t17 < t16))
    (ix t15 t17 fun e1 =>
    ix s21 t17 fun e2 =>
    (r67 (sPack e1) (sPack e2)).bind fun y3 =>
    cond (!y3.1.1)
      (some (.inr ((false, ()), ())))
      ((rec s21 t15 t16 (w64 (t17 + 1))).bind fun y4 =>
      match y4 with
      | .inl y4_0 =>
        some (.inl ((), ()))
      | .inr y4_1 =>
        some (.inr ((y4_1.1.1, ()), ()))))
    (some (.inl ((), ())))
noncomputable def l66_58 (k : Nat) (r66 : T66) (r67 : T67) : Nat → T66_58
  | 0 => fun _ _ _ _ => none
  | j + 1 => b66_58 k r66 r67 (l66_58 k r66 r67 j)
noncomputable def b66 (k : Nat) (r66 : T66) (r67 : T67) : T66 := fun s10 s21 =>
  cond ((s10.length : Int) != (s21.length : Int))
    (some ((false, ()), ()))
    ((l66_58 k r66 r67 k s21 s10 (s10.length : Int) 0).bind fun y1 =>
    match y1 with
    | .inl y1_0 =>
      some ((true, ()), ())
    | .inr y1_1 =>
      some ((y1_1.1.1, ()), ()))
noncomputable def b67 (k : Nat) (r66 : T66) (r67 : T67) : T67 := fun a0 b1 =>
  cond ((sKind a0) == (sKind b1))
    (cond ((sName a0).toList == (sName b1).toList)
      (cond ((sLoc a0).toList == (sLoc b1).toList)
        ((f101 k (sExprs a0) (sExprs b1)).bind fun y1 =>
        cond y1.1.1
          ((r66 (sBody a0) (sBody b1)).bind fun y2 =>
          cond y2.1.1
            ((r66 (sEls a0) (sEls b1)).bind fun y3 =>
            some ((y3.1.1, ()), ()))
            (some ((false, ()), ())))
          (some ((false, ()), ())))
        (some ((false, ()), ())))
      (some ((false, ()), ())))
    (some ((false, ()), ()))
noncomputable def S66 : Nat → T66 × T67
  | 0 => (fun _ _ => none, fun _ _ => none)
  | k + 1 => (b66 k (S66 k).1 (S66 k).2, b67 k (S66 k).1 (S66 k).2)
noncomputable def f66 (k : Nat) : T66 := (S66 k).1
noncomputable def f67 (k : Nat) : T67 := (S66 k).2
theorem f66_succ (k : Nat) : f66 (k + 1) = b66 k (f66 k) (f67 k) := rfl
theorem f67_succ (k : Nat) : f67 (k + 1) = b67 k (f66 k) (f67 k) := rfl
noncomputable def C66 (k : Nat) (r66 : T66) (r67 : T67) : Nat → Fun := mkC [(67, (F67 r67))]
theorem c66_ok (k : Nat) (r66 : T66) (r67 : T67) (h66 : SoundFn Try.prog 66 (F66 r66)) (h67 : SoundFn Try.prog 67 (F67 r67)) : ∀ f, SoundFn Try.prog f (C66 k r66 r67 f) := (mkC_cons h67 mkC_nil)
noncomputable def H66_58 (k : Nat) (r66 : T66) (r67 : T67) : Nat → Option Cut := addH noH 58 ⟨runCut (wrC (bodyOf (codeAt 58 (bd Try.f66) 58))) 32 [1, 2, 15, 16, 17] pa66_58 pw66_58 (u66_58 (l66_58 k r66 r67 k))⟩
theorem e66_58 (k : Nat) (r66 : T66) (r67 : T67) (rec : T66_58) (x : (pa66_58).C) : roundF (C66 k r66 r67) tt noH (bodyOf (codeAt 58 (bd Try.f66) 58)) 116 32 [1, 2, 15, 16, 17] pa66_58 pw66_58 (u66_58 rec) x = u66_58 (b66_58 k r66 r67 rec) x := by kernel_rfl
theorem h66_58_ok (k : Nat) (r66 : T66) (r67 : T67) (h66 : SoundFn Try.prog 66 (F66 r66)) (h67 : SoundFn Try.prog 67 (F67 r67)) : ∀ p S, H66_58 k r66 r67 p = some S → ∀ c, At (bd Try.f66) p c → CutOk Try.prog c S :=
  have hC := c66_ok k r66 r67 h66 h67
  addLoop hC ttOk (draw_ok hC ttOk mixed) noH_ok (by kernel_rfl) (F := fun j => u66_58 (l66_58 k r66 r67 j)) (fun _ => rfl) (fun j x _ h => (e66_58 k r66 r67 (l66_58 k r66 r67 j) x).trans h) k
theorem e66 (k : Nat) (r66 : T66) (r67 : T67) (x : (a66).C) : bodyR (C66 k r66 r67) tt (H66_58 k r66 r67) Try.f66 a66 o66 x = u66 (b66 k r66 r67) x := by kernel_rfl
theorem q66 (k : Nat) (r66 : T66) (r67 : T67) (h66 : SoundFn Try.prog 66 (F66 r66)) (h67 : SoundFn Try.prog 67 (F67 r67)) : SoundFn Try.prog 66 (F66 (b66 k r66 r67)) :=
  have hC := c66_ok k r66 r67 h66 h67
  fnR_sound hC ttOk (draw_ok hC ttOk mixed) Try.func66 (c0 := bd Try.f66) rfl (entry Try.func66 rfl (by decide)) (h66_58_ok k r66 r67 h66 h67) rfl (fun x _ h => (e66 k r66 r67 x).trans h)
noncomputable def C67 (k : Nat) (r66 : T66) (r67 : T67) : Nat → Fun := mkC [(66, (F66 r66)), (101, (F101 (f101 k)))]
theorem c67_ok (k : Nat) (r66 : T66) (r67 : T67) (h66 : SoundFn Try.prog 66 (F66 r66)) (h67 : SoundFn Try.prog 67 (F67 r67)) : ∀ f, SoundFn Try.prog f (C67 k r66 r67 f) := (mkC_cons h66 (mkC_cons (s101 k) mkC_nil))
theorem e67 (k : Nat) (r66 : T66) (r67 : T67) (x : (a67).C) : bodyR (C67 k r66 r67) tt noH Try.f67 a67 o67 x = u67 (b67 k r66 r67) x := by kernel_rfl
theorem q67 (k : Nat) (r66 : T66) (r67 : T67) (h66 : SoundFn Try.prog 66 (F66 r66)) (h67 : SoundFn Try.prog 67 (F67 r67)) : SoundFn Try.prog 67 (F67 (b67 k r66 r67)) :=
  have hC := c67_ok k r66 r67 h66 h67
  fnR_sound hC ttOk (draw_ok hC ttOk mixed) Try.func67 (c0 := bd Try.f67) rfl (entry Try.func67 rfl (by decide)) noH_ok rfl (fun x _ h => (e67 k r66 r67 x).trans h)
theorem sAll66 : ∀ k : Nat, SoundFn Try.prog 66 (F66 (f66 k)) ∧ SoundFn Try.prog 67 (F67 (f67 k))
  | 0 => ⟨noneR_ok (by intro x; rfl), noneR_ok (by intro x; rfl)⟩
  | k + 1 =>
    have ih := sAll66 k
    ⟨q66 k (f66 k) (f67 k) ih.1 ih.2, q67 k (f66 k) (f67 k) ih.1 ih.2⟩
theorem s66 (k : Nat) : SoundFn Try.prog 66 (F66 (f66 k)) := (sAll66 k).1
theorem s67 (k : Nat) : SoundFn Try.prog 67 (F67 (f67 k)) := (sAll66 k).2
/-! f65 fathom/tree.Same$2 (R) -/
noncomputable def a65 : Shape := ⟨[.d T_Proc, .d T_Proc], []⟩
noncomputable def o65 : List Shape := [⟨[.d .bool], []⟩]
abbrev R65 : Type := ((Bool × Unit) × Unit)
abbrev T65 : Type := D_Proc → D_Proc → Option R65
noncomputable def u65 (f : T65) : (a65).C → Option (OutC o65) := fun (x : ((D_Proc × D_Proc × Unit) × Unit)) => f x.1.1 x.1.2.1
noncomputable def F65 (f : T65) : Fun := ⟨true, runR a65 o65 (u65 f)⟩
noncomputable def f65 (k : Nat) : T65 := fun x0 y_1 =>
  cond (x0.1.toList == y_1.1.toList)
    ((f66 k x0.2.1 y_1.2.1).bind fun y1 =>
    some ((y1.1.1, ()), ()))
    (some ((false, ()), ()))
noncomputable def C65 (k : Nat) : Nat → Fun := mkC [(66, (F66 (f66 k)))]
theorem c65_ok (k : Nat) : ∀ f, SoundFn Try.prog f (C65 k f) := (mkC_cons (s66 k) mkC_nil)
theorem e65 (k : Nat) (x : (a65).C) : bodyR (C65 k) tt noH Try.f65 a65 o65 x = u65 (f65 k) x := by kernel_rfl
theorem s65 (k : Nat) : SoundFn Try.prog 65 (F65 (f65 k)) :=
  have hC := c65_ok k
  fnR_sound hC ttOk (draw_ok hC ttOk mixed) Try.func65 (c0 := bd Try.f65) rfl (entry Try.func65 rfl (by decide)) noH_ok rfl (fun x _ h => (e65 k x).trans h)
/-! f64 slices.EqualFunc[[]fathom/api.Proc,[]fathom/api.Proc,fathom/api.Proc,fathom/api.Proc] (R) -/
noncomputable def a64 : Shape := ⟨[.d (.slice T_Proc), .d (.slice T_Proc), .fn 65 []], []⟩
noncomputable def o64 : List Shape := [⟨[.d .bool], []⟩]
abbrev R64 : Type := ((Bool × Unit) × Unit)
abbrev T64 : Type := (List D_Proc) → (List D_Proc) → Option R64
noncomputable def u64 (f : T64) : (a64).C → Option (OutC o64) := fun (x : (((List D_Proc) × (List D_Proc) × Unit × Unit) × Unit)) => f x.1.1 x.1.2.1
noncomputable def F64 (f : T64) : Fun := ⟨true, runR a64 o64 (u64 f)⟩
noncomputable def pa64_58 : Shape := ⟨[.d (.slice T_Proc), .fn 65 [], .d (.slice T_Proc), .d i64, .d i64], []⟩
noncomputable def pw64_58 : List Vm.Way := [⟨.exit 0, [], ⟨[], []⟩⟩, ⟨.ret, [6], ⟨[.d .bool], []⟩⟩]
abbrev R64_58 : Type := ((Unit × Unit) ⊕ ((Bool × Unit) × Unit))
abbrev T64_58 : Type := (List D_Proc) → (List D_Proc) → Int → Int → Option R64_58
noncomputable def u64_58 (f : T64_58) : (pa64_58).C → Option (WayC pw64_58) := fun (x : (((List D_Proc) × Unit × (List D_Proc) × Int × Int × Unit) × Unit)) => f x.1.1 x.1.2.2.1 x.1.2.2.2.1 x.1.2.2.2.2.1
noncomputable def b64_58 (k : Nat) (rec : T64_58) : T64_58 := fun s21 t15 t16 t17 =>
  cond (decide (t17 < t16))
    (ix t15 t17 fun e1 =>
    ix s21 t17 fun e2 =>
    (f65 k e1 e2).bind fun y3 =>
    cond (!y3.1.1)
      (some (.inr ((false, ()), ())))
      ((rec s21 t15 t16 (w64 (t17 + 1))).bind fun y4 =>
      match y4 with
      | .inl y4_0 =>
        some (.inl ((), ()))
      | .inr y4_1 =>
        some (.inr ((y4_1.1.1, ()), ()))))
    (some (.inl ((), ())))
noncomputable def l64_58 (k : Nat) : Nat → T64_58
  | 0 => fun _ _ _ _ => none
  | j + 1 => b64_58 k (l64_58 k j)
noncomputable def f64 (k : Nat) : T64 := fun s10 s21 =>
  cond ((s10.length : Int) != (s21.length : Int))
    (some ((false, ()), ()))
    ((l64_58 k k s21 s10 (s10.length : Int) 0).bind fun y1 =>
    match y1 with
    | .inl y1_0 =>
      some ((true, ()), ())
    | .inr y1_1 =>
      some ((y1_1.1.1, ()), ()))
noncomputable def C64 (k : Nat) : Nat → Fun := mkC [(65, (F65 (f65 k)))]
theorem c64_ok (k : Nat) : ∀ f, SoundFn Try.prog f (C64 k f) := (mkC_cons (s65 k) mkC_nil)
noncomputable def H64_58 (k : Nat) : Nat → Option Cut := addH noH 58 ⟨runCut (wrC (bodyOf (codeAt 58 (bd Try.f64) 58))) 32 [1, 2, 15, 16, 17] pa64_58 pw64_58 (u64_58 (l64_58 k k))⟩
theorem e64_58 (k : Nat) (rec : T64_58) (x : (pa64_58).C) : roundF (C64 k) tt noH (bodyOf (codeAt 58 (bd Try.f64) 58)) 116 32 [1, 2, 15, 16, 17] pa64_58 pw64_58 (u64_58 rec) x = u64_58 (b64_58 k rec) x := by kernel_rfl
theorem h64_58_ok (k : Nat) : ∀ p S, H64_58 k p = some S → ∀ c, At (bd Try.f64) p c → CutOk Try.prog c S :=
  have hC := c64_ok k
  addLoop hC ttOk (draw_ok hC ttOk mixed) noH_ok (by kernel_rfl) (F := fun j => u64_58 (l64_58 k j)) (fun _ => rfl) (fun j x _ h => (e64_58 k (l64_58 k j) x).trans h) k
theorem e64 (k : Nat) (x : (a64).C) : bodyR (C64 k) tt (H64_58 k) Try.f64 a64 o64 x = u64 (f64 k) x := by kernel_rfl
theorem s64 (k : Nat) : SoundFn Try.prog 64 (F64 (f64 k)) :=
  have hC := c64_ok k
  fnR_sound hC ttOk (draw_ok hC ttOk mixed) Try.func64 (c0 := bd Try.f64) rfl (entry Try.func64 rfl (by decide)) (h64_58_ok k) rfl (fun x _ h => (e64 k x).trans h)
/-! f27 fathom/tree.Same (R) -/
noncomputable def a27 : Shape := ⟨[.d T_Prog, .d T_Prog], []⟩
noncomputable def o27 : List Shape := [⟨[.d .bool], []⟩]
abbrev R27 : Type := ((Bool × Unit) × Unit)
abbrev T27 : Type := D_Prog → D_Prog → Option R27
noncomputable def u27 (f : T27) : (a27).C → Option (OutC o27) := fun (x : ((D_Prog × D_Prog × Unit) × Unit)) => f x.1.1 x.1.2.1
noncomputable def F27 (f : T27) : Fun := ⟨true, runR a27 o27 (u27 f)⟩
noncomputable def f27 (k : Nat) : T27 := fun a0 b1 =>
  (f33 k a0).bind fun y1 =>
  cond (y1.1.1 != 0)
    (some ((false, ()), ()))
    ((f33 k b1).bind fun y2 =>
    cond (y2.1.1 != 0)
      (some ((false, ()), ()))
      (cond (a0.1 != b1.1)
        (some ((false, ()), ()))
        ((f62 k a0.2.1 b1.2.1).bind fun y3 =>
        cond y3.1.1
          ((f64 k a0.2.2.1 b1.2.2.1).bind fun y4 =>
          some ((y4.1.1, ()), ()))
          (some ((false, ()), ())))))
noncomputable def C27 (k : Nat) : Nat → Fun := mkC [(33, (F33 (f33 k))), (62, (F62 (f62 k))), (64, (F64 (f64 k)))]
theorem c27_ok (k : Nat) : ∀ f, SoundFn Try.prog f (C27 k f) := (mkC_cons (s33 k) (mkC_cons (s62 k) (mkC_cons (s64 k) mkC_nil)))
theorem e27 (k : Nat) (x : (a27).C) : bodyR (C27 k) tt noH Try.f27 a27 o27 x = u27 (f27 k) x := by kernel_rfl
theorem s27 (k : Nat) : SoundFn Try.prog 27 (F27 (f27 k)) :=
  have hC := c27_ok k
  fnR_sound hC ttOk (draw_ok hC ttOk mixed) Try.func27 (c0 := bd Try.f27) rfl (entry Try.func27 rfl (by decide)) noH_ok rfl (fun x _ h => (e27 k x).trans h)
/-! f73 fathom/tree.depth (R) -/
noncomputable def a73 : Shape := ⟨[.d (.slice (.rc 1)), .d i64], []⟩
noncomputable def o73 : List Shape := [⟨[.d i64], []⟩]
abbrev R73 : Type := ((Int × Unit) × Unit)
abbrev T73 : Type := (List PStmt) → Int → Option R73
noncomputable def u73 (f : T73) : (a73).C → Option (OutC o73) := fun (x : (((List PStmt) × Int × Unit) × Unit)) => f x.1.1 x.1.2.1
noncomputable def F73 (f : T73) : Fun := ⟨true, runR a73 o73 (u73 f)⟩
noncomputable def pa73_122 : Shape := ⟨[.d i64, .d i64, .d (.slice (.rc 1)), .d i64, .d i64], []⟩
noncomputable def pw73_122 : List Vm.Way := [⟨.exit 0, [5], ⟨[.d i64], []⟩⟩]
abbrev R73_122 : Type := ((Int × Unit) × Unit)
abbrev T73_122 : Type := Int → Int → (List PStmt) → Int → Int → Option R73_122
noncomputable def u73_122 (f : T73_122) : (pa73_122).C → Option (WayC pw73_122) := fun (x : ((Int × Int × (List PStmt) × Int × Int × Unit) × Unit)) => f x.1.1 x.1.2.1 x.1.2.2.1 x.1.2.2.2.1 x.1.2.2.2.2.1
noncomputable def b73_122 (k : Nat) (r73 : T73) (rec : T73_122) : T73_122 := fun most1 n5 t10 t11 t12 =>
  cond (decide (t12 < t11))
    (ix t10 t12 fun e1 =>
    (r73 (sBody e1) (w64 (most1 - 1))).bind fun y2 =>
    (r73 (sEls e1) (w64 (most1 - 1))).bind fun y3 =>
    (rec most1 (minmax true n5 (w64 (1 + (minmax true y2.1.1 y3.1.1)))) t10 t11 (w64 (t12 + 1))).bind fun y4 =>
    some ((y4.1.1, ()), ()))
    (some ((n5, ()), ()))
noncomputable def l73_122 (k : Nat) (r73 : T73) : Nat → T73_122
  | 0 => fun _ _ _ _ _ => none
  | j + 1 => b73_122 k r73 (l73_122 k r73 j)
noncomputable def b73 (k : Nat) (r73 : T73) : T73 := fun l0 most1 =>
  cond (most1 == 0)
    (some ((0, ()), ()))
    ((l73_122 k r73 k most1 0 l0 (l0.length : Int) 0).bind fun y1 =>
    some ((y1.1.1, ()), ()))
noncomputable def S73 : Nat → T73
  | 0 => (fun _ _ => none)
  | k + 1 => (b73 k (S73 k))
noncomputable def f73 (k : Nat) : T73 := (S73 k)
theorem f73_succ (k : Nat) : f73 (k + 1) = b73 k (f73 k) := rfl
noncomputable def C73 (k : Nat) (r73 : T73) : Nat → Fun := mkC [(2000002, ownF), (73, (F73 r73))]
theorem c73_ok (k : Nat) (r73 : T73) (h73 : SoundFn Try.prog 73 (F73 r73)) : ∀ f, SoundFn Try.prog f (C73 k r73 f) := (mkC_cons ownF_ok (mkC_cons h73 mkC_nil))
noncomputable def H73_122 (k : Nat) (r73 : T73) : Nat → Option Cut := addH noH 122 ⟨runCut (wrC (bodyOf (codeAt 122 (bd Try.f73) 122))) 32 [1, 5, 10, 11, 12] pa73_122 pw73_122 (u73_122 (l73_122 k r73 k))⟩
theorem e73_122 (k : Nat) (r73 : T73) (rec : T73_122) (x : (pa73_122).C) : roundF (C73 k r73) tt noH (bodyOf (codeAt 122 (bd Try.f73) 122)) 244 32 [1, 5, 10, 11, 12] pa73_122 pw73_122 (u73_122 rec) x = u73_122 (b73_122 k r73 rec) x := by kernel_rfl
theorem h73_122_ok (k : Nat) (r73 : T73) (h73 : SoundFn Try.prog 73 (F73 r73)) : ∀ p S, H73_122 k r73 p = some S → ∀ c, At (bd Try.f73) p c → CutOk Try.prog c S :=
  have hC := c73_ok k r73 h73
  addLoop hC ttOk (draw_ok hC ttOk mixed) noH_ok (by kernel_rfl) (F := fun j => u73_122 (l73_122 k r73 j)) (fun _ => rfl) (fun j x _ h => (e73_122 k r73 (l73_122 k r73 j) x).trans h) k
theorem e73 (k : Nat) (r73 : T73) (x : (a73).C) : bodyR (C73 k r73) tt (H73_122 k r73) Try.f73 a73 o73 x = u73 (b73 k r73) x := by kernel_rfl
theorem q73 (k : Nat) (r73 : T73) (h73 : SoundFn Try.prog 73 (F73 r73)) : SoundFn Try.prog 73 (F73 (b73 k r73)) :=
  have hC := c73_ok k r73 h73
  fnR_sound hC ttOk (draw_ok hC ttOk mixed) Try.func73 (c0 := bd Try.f73) rfl (entry Try.func73 rfl (by decide)) (h73_122_ok k r73 h73) rfl (fun x _ h => (e73 k r73 x).trans h)
theorem sAll73 : ∀ k : Nat, SoundFn Try.prog 73 (F73 (f73 k))
  | 0 => noneR_ok (by intro x; rfl)
  | k + 1 =>
    have ih := sAll73 k
    q73 k (f73 k) ih
theorem s73 (k : Nat) : SoundFn Try.prog 73 (F73 (f73 k)) := (sAll73 k)
/-! f34 fathom/tree.Depth (R) -/
noncomputable def a34 : Shape := ⟨[.d (.slice (.rc 1))], []⟩
noncomputable def o34 : List Shape := [⟨[.d i64], []⟩]
abbrev R34 : Type := ((Int × Unit) × Unit)
abbrev T34 : Type := (List PStmt) → Option R34
noncomputable def u34 (f : T34) : (a34).C → Option (OutC o34) := fun (x : (((List PStmt) × Unit) × Unit)) => f x.1.1
noncomputable def F34 (f : T34) : Fun := ⟨true, runR a34 o34 (u34 f)⟩
noncomputable def f34 (k : Nat) : T34 := fun l0 =>
  (f73 k l0 13).bind fun y1 =>
  some ((y1.1.1, ()), ())
noncomputable def C34 (k : Nat) : Nat → Fun := mkC [(73, (F73 (f73 k)))]
theorem c34_ok (k : Nat) : ∀ f, SoundFn Try.prog f (C34 k f) := (mkC_cons (s73 k) mkC_nil)
theorem e34 (k : Nat) (x : (a34).C) : bodyR (C34 k) tt noH Try.f34 a34 o34 x = u34 (f34 k) x := by kernel_rfl
theorem s34 (k : Nat) : SoundFn Try.prog 34 (F34 (f34 k)) :=
  have hC := c34_ok k
  fnR_sound hC ttOk (draw_ok hC ttOk mixed) Try.func34 (c0 := bd Try.f34) rfl (entry Try.func34 rfl (by decide)) noH_ok rfl (fun x _ h => (e34 k x).trans h)
/-! f21 fathom/fathomlaw21.awake (R) -/
noncomputable def a21 : Shape := ⟨[], []⟩
noncomputable def o21 : List Shape := [⟨[.d .bool], []⟩]
abbrev R21 : Type := ((Bool × Unit) × Unit)
abbrev T21 : Type := Unit → Option R21
noncomputable def u21 (f : T21) : (a21).C → Option (OutC o21) := fun (x : (Unit × Unit)) => f ()
noncomputable def F21 (f : T21) : Fun := ⟨true, runR a21 o21 (u21 f)⟩
noncomputable def f21 (k : Nat) : T21 := fun _ =>
  (f33 k (0, [], [], ())).bind fun y1 =>
  cond (y1.1.1 == 1)
    ((f33 k (0, [], [((ByteArray.mk #[97]), [(PStmt.mk 11 (ByteArray.mk #[98]) ByteArray.empty [] [] [] 0)], 0, ())], ())).bind fun y2 =>
    cond (y2.1.1 == 0)
      ((f27 k (0, [], [((ByteArray.mk #[97]), [(PStmt.mk 11 (ByteArray.mk #[98]) ByteArray.empty [] [] [] 0)], 0, ())], ()) (0, [], [((ByteArray.mk #[97]), [(PStmt.mk 11 (ByteArray.mk #[98]) ByteArray.empty [] [] [] 0)], 0, ())], ())).bind fun y3 =>
      cond y3.1.1
        ((f34 k [(PStmt.mk 11 (ByteArray.mk #[98]) ByteArray.empty [] [] [] 0)]).bind fun y4 =>
        some (((y4.1.1 == 1), ()), ()))
        (some ((false, ()), ())))
      (some ((false, ()), ())))
    (some ((false, ()), ()))
noncomputable def C21 (k : Nat) : Nat → Fun := mkC [(27, (F27 (f27 k))), (33, (F33 (f33 k))), (34, (F34 (f34 k)))]
theorem c21_ok (k : Nat) : ∀ f, SoundFn Try.prog f (C21 k f) := (mkC_cons (s27 k) (mkC_cons (s33 k) (mkC_cons (s34 k) mkC_nil)))
theorem e21 (k : Nat) (x : (a21).C) : bodyR (C21 k) tt noH Try.f21 a21 o21 x = u21 (f21 k) x := by kernel_rfl
theorem s21 (k : Nat) : SoundFn Try.prog 21 (F21 (f21 k)) :=
  have hC := c21_ok k
  fnR_sound hC ttOk (draw_ok hC ttOk mixed) Try.func21 (c0 := bd Try.f21) rfl (entry Try.func21 rfl (by decide)) noH_ok rfl (fun x _ h => (e21 k x).trans h)
/-! f110 fathom/tree.bareExprs (R) -/
noncomputable def a110 : Shape := ⟨[.d (.slice (.rc 0))], []⟩
noncomputable def o110 : List Shape := [⟨[.d (.slice (.rc 0))], []⟩]
abbrev R110 : Type := (((List PExpr) × Unit) × Unit)
abbrev T110 : Type := (List PExpr) → Option R110
noncomputable def u110 (f : T110) : (a110).C → Option (OutC o110) := fun (x : (((List PExpr) × Unit) × Unit)) => f x.1.1
noncomputable def F110 (f : T110) : Fun := ⟨true, runR a110 o110 (u110 f)⟩
noncomputable def pa110_58 : Shape := ⟨[.own (.rc 0), .d (.slice (.rc 0)), .d i64, .d i64], []⟩
noncomputable def pw110_58 : List Vm.Way := [⟨.exit 0, [3], ⟨[.own (.rc 0)], []⟩⟩]
abbrev R110_58 : Type := (((List PExpr) × Unit) × Unit)
abbrev T110_58 : Type := (List PExpr) → (List PExpr) → Int → Int → Option R110_58
noncomputable def u110_58 (f : T110_58) : (pa110_58).C → Option (WayC pw110_58) := fun (x : (((List PExpr) × (List PExpr) × Int × Int × Unit) × Unit)) => f x.1.1 x.1.2.1 x.1.2.2.1 x.1.2.2.2.1
noncomputable def b110_58 (k : Nat) (r110 : T110) (rec : T110_58) : T110_58 := fun out3 t6 t7 t8 =>
  cond (decide (t8 < t7))
    (ix t6 t8 fun e1 =>
    (r110 (eKids e1)).bind fun y2 =>
    gd (decide ((out3.length + 1) * 80 ≤ room)) <|
    (rec (out3 ++ ([(PExpr.mk (eKind e1) (eOp e1) (eNum e1) (eName e1) y2.1.1 0)] : List PExpr)) t6 t7 (w64 (t8 + 1))).bind fun y3 =>
    some ((y3.1.1, ()), ()))
    (some ((out3, ()), ()))
noncomputable def l110_58 (k : Nat) (r110 : T110) : Nat → T110_58
  | 0 => fun _ _ _ _ => none
  | j + 1 => b110_58 k r110 (l110_58 k r110 j)
noncomputable def b110 (k : Nat) (r110 : T110) : T110 := fun l0 =>
  (l110_58 k r110 k [] l0 (l0.length : Int) 0).bind fun y1 =>
  some ((y1.1.1, ()), ())
noncomputable def S110 : Nat → T110
  | 0 => (fun _ => none)
  | k + 1 => (b110 k (S110 k))
noncomputable def f110 (k : Nat) : T110 := (S110 k)
theorem f110_succ (k : Nat) : f110 (k + 1) = b110 k (f110 k) := rfl
noncomputable def C110 (k : Nat) (r110 : T110) : Nat → Fun := mkC [(2000002, ownF), (110, (F110 r110))]
theorem c110_ok (k : Nat) (r110 : T110) (h110 : SoundFn Try.prog 110 (F110 r110)) : ∀ f, SoundFn Try.prog f (C110 k r110 f) := (mkC_cons ownF_ok (mkC_cons h110 mkC_nil))
noncomputable def H110_58 (k : Nat) (r110 : T110) : Nat → Option Cut := addH noH 58 ⟨runCut (wrC (bodyOf (codeAt 58 (bd Try.f110) 58))) 23 [3, 6, 7, 8] pa110_58 pw110_58 (u110_58 (l110_58 k r110 k))⟩
theorem e110_58 (k : Nat) (r110 : T110) (rec : T110_58) (x : (pa110_58).C) : roundF (C110 k r110) tt noH (bodyOf (codeAt 58 (bd Try.f110) 58)) 116 23 [3, 6, 7, 8] pa110_58 pw110_58 (u110_58 rec) x = u110_58 (b110_58 k r110 rec) x := by kernel_rfl
theorem h110_58_ok (k : Nat) (r110 : T110) (h110 : SoundFn Try.prog 110 (F110 r110)) : ∀ p S, H110_58 k r110 p = some S → ∀ c, At (bd Try.f110) p c → CutOk Try.prog c S :=
  have hC := c110_ok k r110 h110
  addLoop hC ttOk (draw_ok hC ttOk mixed) noH_ok (by kernel_rfl) (F := fun j => u110_58 (l110_58 k r110 j)) (fun _ => rfl) (fun j x _ h => (e110_58 k r110 (l110_58 k r110 j) x).trans h) k
theorem e110 (k : Nat) (r110 : T110) (x : (a110).C) : bodyR (C110 k r110) tt (H110_58 k r110) Try.f110 a110 o110 x = u110 (b110 k r110) x := by kernel_rfl
theorem q110 (k : Nat) (r110 : T110) (h110 : SoundFn Try.prog 110 (F110 r110)) : SoundFn Try.prog 110 (F110 (b110 k r110)) :=
  have hC := c110_ok k r110 h110
  fnR_sound hC ttOk (draw_ok hC ttOk mixed) Try.func110 (c0 := bd Try.f110) rfl (entry Try.func110 rfl (by decide)) (h110_58_ok k r110 h110) rfl (fun x _ h => (e110 k r110 x).trans h)
theorem sAll110 : ∀ k : Nat, SoundFn Try.prog 110 (F110 (f110 k))
  | 0 => noneR_ok (by intro x; rfl)
  | k + 1 =>
    have ih := sAll110 k
    q110 k (f110 k) ih
theorem s110 (k : Nat) : SoundFn Try.prog 110 (F110 (f110 k)) := (sAll110 k)
/-! f74 fathom/tree.bareStmts (R) -/
noncomputable def a74 : Shape := ⟨[.d (.slice (.rc 1))], []⟩
noncomputable def o74 : List Shape := [⟨[.d (.slice (.rc 1))], []⟩]
abbrev R74 : Type := (((List PStmt) × Unit) × Unit)
abbrev T74 : Type := (List PStmt) → Option R74
noncomputable def u74 (f : T74) : (a74).C → Option (OutC o74) := fun (x : (((List PStmt) × Unit) × Unit)) => f x.1.1
noncomputable def F74 (f : T74) : Fun := ⟨true, runR a74 o74 (u74 f)⟩
noncomputable def pa74_58 : Shape := ⟨[.own (.rc 1), .d (.slice (.rc 1)), .d i64, .d i64], []⟩
noncomputable def pw74_58 : List Vm.Way := [⟨.exit 0, [3], ⟨[.own (.rc 1)], []⟩⟩]
abbrev R74_58 : Type := (((List PStmt) × Unit) × Unit)
abbrev T74_58 : Type := (List PStmt) → (List PStmt) → Int → Int → Option R74_58
noncomputable def u74_58 (f : T74_58) : (pa74_58).C → Option (WayC pw74_58) := fun (x : (((List PStmt) × (List PStmt) × Int × Int × Unit) × Unit)) => f x.1.1 x.1.2.1 x.1.2.2.1 x.1.2.2.2.1
noncomputable def b74_58 (k : Nat) (r74 : T74) (rec : T74_58) : T74_58 := fun out3 t6 t7 t8 =>
  cond (decide (t8 < t7))
    (ix t6 t8 fun e1 =>
    (f110 k (sExprs e1)).bind fun y2 =>
    (r74 (sBody e1)).bind fun y3 =>
    (r74 (sEls e1)).bind fun y4 =>
    gd (decide ((out3.length + 1) * 120 ≤ room)) <|
    let v5 := out3 ++ ([(PStmt.mk (sKind e1) (sName e1) (sLoc e1) y2.1.1 y3.1.1 y4.1.1 0)] : List PStmt)
    (rec v5 t6 t7 (w64 (t8 + 1))).bind fun y6 =>
    some ((y6.1.1, ()), ()))
    (some ((out3, ()), ()))
noncomputable def l74_58 (k : Nat) (r74 : T74) : Nat → T74_58
  | 0 => fun _ _ _ _ => none
  | j + 1 => b74_58 k r74 (l74_58 k r74 j)
noncomputable def b74 (k : Nat) (r74 : T74) : T74 := fun l0 =>
  (l74_58 k r74 k [] l0 (l0.length : Int) 0).bind fun y1 =>
  some ((y1.1.1, ()), ())
noncomputable def S74 : Nat → T74
  | 0 => (fun _ => none)
  | k + 1 => (b74 k (S74 k))
noncomputable def f74 (k : Nat) : T74 := (S74 k)
theorem f74_succ (k : Nat) : f74 (k + 1) = b74 k (f74 k) := rfl
noncomputable def C74 (k : Nat) (r74 : T74) : Nat → Fun := mkC [(2000002, ownF), (74, (F74 r74)), (110, (F110 (f110 k)))]
theorem c74_ok (k : Nat) (r74 : T74) (h74 : SoundFn Try.prog 74 (F74 r74)) : ∀ f, SoundFn Try.prog f (C74 k r74 f) := (mkC_cons ownF_ok (mkC_cons h74 (mkC_cons (s110 k) mkC_nil)))
noncomputable def H74_58 (k : Nat) (r74 : T74) : Nat → Option Cut := addH noH 58 ⟨runCut (wrC (bodyOf (codeAt 58 (bd Try.f74) 58))) 31 [3, 6, 7, 8] pa74_58 pw74_58 (u74_58 (l74_58 k r74 k))⟩
theorem e74_58 (k : Nat) (r74 : T74) (rec : T74_58) (x : (pa74_58).C) : roundF (C74 k r74) tt noH (bodyOf (codeAt 58 (bd Try.f74) 58)) 116 31 [3, 6, 7, 8] pa74_58 pw74_58 (u74_58 rec) x = u74_58 (b74_58 k r74 rec) x := by kernel_rfl
theorem h74_58_ok (k : Nat) (r74 : T74) (h74 : SoundFn Try.prog 74 (F74 r74)) : ∀ p S, H74_58 k r74 p = some S → ∀ c, At (bd Try.f74) p c → CutOk Try.prog c S :=
  have hC := c74_ok k r74 h74
  addLoop hC ttOk (draw_ok hC ttOk mixed) noH_ok (by kernel_rfl) (F := fun j => u74_58 (l74_58 k r74 j)) (fun _ => rfl) (fun j x _ h => (e74_58 k r74 (l74_58 k r74 j) x).trans h) k
theorem e74 (k : Nat) (r74 : T74) (x : (a74).C) : bodyR (C74 k r74) tt (H74_58 k r74) Try.f74 a74 o74 x = u74 (b74 k r74) x := by kernel_rfl
theorem q74 (k : Nat) (r74 : T74) (h74 : SoundFn Try.prog 74 (F74 r74)) : SoundFn Try.prog 74 (F74 (b74 k r74)) :=
  have hC := c74_ok k r74 h74
  fnR_sound hC ttOk (draw_ok hC ttOk mixed) Try.func74 (c0 := bd Try.f74) rfl (entry Try.func74 rfl (by decide)) (h74_58_ok k r74 h74) rfl (fun x _ h => (e74 k r74 x).trans h)
theorem sAll74 : ∀ k : Nat, SoundFn Try.prog 74 (F74 (f74 k))
  | 0 => noneR_ok (by intro x; rfl)
  | k + 1 =>
    have ih := sAll74 k
    q74 k (f74 k) ih
theorem s74 (k : Nat) : SoundFn Try.prog 74 (F74 (f74 k)) := (sAll74 k)
/-! f36 fathom/tree.Bare (R) -/
noncomputable def a36 : Shape := ⟨[.d T_Prog], []⟩
noncomputable def o36 : List Shape := [⟨[.d T_Prog], []⟩]
abbrev R36 : Type := ((D_Prog × Unit) × Unit)
abbrev T36 : Type := D_Prog → Option R36
noncomputable def u36 (f : T36) : (a36).C → Option (OutC o36) := fun (x : ((D_Prog × Unit) × Unit)) => f x.1.1
noncomputable def F36 (f : T36) : Fun := ⟨true, runR a36 o36 (u36 f)⟩
noncomputable def pa36_250 : Shape := ⟨[.ptr 0, .d (.slice T_Proc), .d i64, .d i64], [.box [.d i64, .own T_Decl, .own T_Proc]]⟩
noncomputable def pw36_250 : List Vm.Way := [⟨.exit 2, [], ⟨[], [.box [.d i64, .own T_Decl, .own T_Proc]]⟩⟩]
abbrev R36_250 : Type := (Unit × ((Int × (List D_Decl) × (List D_Proc) × Unit) × Unit))
abbrev T36_250 : Type := (List D_Proc) → Int → Int → Int → (List D_Decl) → (List D_Proc) → Option R36_250
noncomputable def u36_250 (f : T36_250) : (pa36_250).C → Option (WayC pw36_250) := fun (x : ((Unit × (List D_Proc) × Int × Int × Unit) × ((Int × (List D_Decl) × (List D_Proc) × Unit) × Unit))) => f x.1.2.1 x.1.2.2.1 x.1.2.2.2.1 x.2.1.1 x.2.1.2.1 x.2.1.2.2.1
noncomputable def b36_250 (k : Nat) (rec : T36_250) : T36_250 := fun t31 t32 t33 o0_0 o0_1 o0_2 =>
  cond (decide (t33 < t32))
    (ix t31 t33 fun e1 =>
    (f74 k e1.2.1).bind fun y2 =>
    gd (decide ((o0_2.length + 1) * 48 ≤ room)) <|
    (rec t31 t32 (w64 (t33 + 1)) o0_0 o0_1 (o0_2 ++ ([(e1.1, y2.1.1, 0, ())] : List D_Proc))).bind fun y3 =>
    some ((), ((y3.2.1.1, y3.2.1.2.1, y3.2.1.2.2.1, ()), ())))
    (some ((), ((o0_0, o0_1, o0_2, ()), ())))
noncomputable def l36_250 (k : Nat) : Nat → T36_250
  | 0 => fun _ _ _ _ _ _ => none
  | j + 1 => b36_250 k (l36_250 k j)
noncomputable def pa36_122 : Shape := ⟨[.ptr 0, .d (.slice T_Decl), .d i64, .d i64], [.box [.d i64, .own T_Decl, .own T_Proc]]⟩
noncomputable def pw36_122 : List Vm.Way := [⟨.exit 0, [], ⟨[], [.box [.d i64, .own T_Decl, .own T_Proc]]⟩⟩]
abbrev R36_122 : Type := (Unit × ((Int × (List D_Decl) × (List D_Proc) × Unit) × Unit))
abbrev T36_122 : Type := (List D_Decl) → Int → Int → Int → (List D_Decl) → (List D_Proc) → Option R36_122
noncomputable def u36_122 (f : T36_122) : (pa36_122).C → Option (WayC pw36_122) := fun (x : ((Unit × (List D_Decl) × Int × Int × Unit) × ((Int × (List D_Decl) × (List D_Proc) × Unit) × Unit))) => f x.1.2.1 x.1.2.2.1 x.1.2.2.2.1 x.2.1.1 x.2.1.2.1 x.2.1.2.2.1
noncomputable def b36_122 (k : Nat) (rec : T36_122) : T36_122 := fun t16 t17 t18 o0_0 o0_1 o0_2 =>
  cond (decide (t18 < t17))
    (ix t16 t18 fun e1 =>
    gd (decide ((o0_1.length + 1) * 40 ≤ room)) <|
    (rec t16 t17 (w64 (t18 + 1)) o0_0 (o0_1 ++ ([(e1.1, e1.2.1, e1.2.2.1, 0, ())] : List D_Decl)) o0_2).bind fun y2 =>
    some ((), ((y2.2.1.1, y2.2.1.2.1, y2.2.1.2.2.1, ()), ())))
    (some ((), ((o0_0, o0_1, o0_2, ()), ())))
noncomputable def l36_122 (k : Nat) : Nat → T36_122
  | 0 => fun _ _ _ _ _ _ => none
  | j + 1 => b36_122 k (l36_122 k j)
noncomputable def f36 (k : Nat) : T36 := fun p0 =>
  (f33 k p0).bind fun y1 =>
  cond (y1.1.1 != 0)
    (some (((0, [], [], ()), ()), ()))
    ((l36_122 k k p0.2.1 (p0.2.1.length : Int) 0 p0.1 [] []).bind fun y2 =>
    (l36_250 k k p0.2.2.1 (p0.2.2.1.length : Int) 0 y2.2.1.1 y2.2.1.2.1 y2.2.1.2.2.1).bind fun y3 =>
    some (((y3.2.1.1, y3.2.1.2.1, y3.2.1.2.2.1, ()), ()), ()))
noncomputable def C36 (k : Nat) : Nat → Fun := mkC [(2000002, ownF), (33, (F33 (f33 k))), (74, (F74 (f74 k)))]
theorem c36_ok (k : Nat) : ∀ f, SoundFn Try.prog f (C36 k f) := (mkC_cons ownF_ok (mkC_cons (s33 k) (mkC_cons (s74 k) mkC_nil)))
noncomputable def H36_250 (k : Nat) : Nat → Option Cut := addH noH 250 ⟨runCut (wrC (bodyOf (codeAt 250 (bd Try.f36) 250))) 50 [3, 31, 32, 33] pa36_250 pw36_250 (u36_250 (l36_250 k k))⟩
theorem e36_250 (k : Nat) (rec : T36_250) (x : (pa36_250).C) : roundF (C36 k) tt noH (bodyOf (codeAt 250 (bd Try.f36) 250)) 500 50 [3, 31, 32, 33] pa36_250 pw36_250 (u36_250 rec) x = u36_250 (b36_250 k rec) x := by kernel_rfl
theorem h36_250_ok (k : Nat) : ∀ p S, H36_250 k p = some S → ∀ c, At (bd Try.f36) p c → CutOk Try.prog c S :=
  have hC := c36_ok k
  addLoop hC ttOk (draw_ok hC ttOk mixed) noH_ok (by kernel_rfl) (F := fun j => u36_250 (l36_250 k j)) (fun _ => rfl) (fun j x _ h => (e36_250 k (l36_250 k j) x).trans h) k
noncomputable def H36_122 (k : Nat) : Nat → Option Cut := addH (H36_250 k) 122 ⟨runCut (wrC (bodyOf (codeAt 122 (bd Try.f36) 122))) 50 [3, 16, 17, 18] pa36_122 pw36_122 (u36_122 (l36_122 k k))⟩
theorem e36_122 (k : Nat) (rec : T36_122) (x : (pa36_122).C) : roundF (C36 k) tt (H36_250 k) (bodyOf (codeAt 122 (bd Try.f36) 122)) 244 50 [3, 16, 17, 18] pa36_122 pw36_122 (u36_122 rec) x = u36_122 (b36_122 k rec) x := by kernel_rfl
theorem h36_122_ok (k : Nat) : ∀ p S, H36_122 k p = some S → ∀ c, At (bd Try.f36) p c → CutOk Try.prog c S :=
  have hC := c36_ok k
  addLoop hC ttOk (draw_ok hC ttOk mixed) (h36_250_ok k) (by kernel_rfl) (F := fun j => u36_122 (l36_122 k j)) (fun _ => rfl) (fun j x _ h => (e36_122 k (l36_122 k j) x).trans h) k
theorem e36 (k : Nat) (x : (a36).C) : bodyR (C36 k) tt (H36_122 k) Try.f36 a36 o36 x = u36 (f36 k) x := by kernel_rfl
theorem s36 (k : Nat) : SoundFn Try.prog 36 (F36 (f36 k)) :=
  have hC := c36_ok k
  fnR_sound hC ttOk (draw_ok hC ttOk mixed) Try.func36 (c0 := bd Try.f36) rfl (entry Try.func36 rfl (by decide)) (h36_122_ok k) rfl (fun x _ h => (e36 k x).trans h)
/-! f56 fathom/fathomref20.Keys (R) -/
noncomputable def a56 : Shape := ⟨[], []⟩
noncomputable def o56 : List Shape := [⟨[.d (.slice .str)], []⟩]
abbrev R56 : Type := (((List ByteArray) × Unit) × Unit)
abbrev T56 : Type := Unit → Option R56
noncomputable def u56 (f : T56) : (a56).C → Option (OutC o56) := fun (x : (Unit × Unit)) => f ()
noncomputable def F56 (f : T56) : Fun := ⟨true, runR a56 o56 (u56 f)⟩
noncomputable def f56 (k : Nat) : T56 := fun _ =>
  some (([s_1, s_2, s_3, s_4, s_5, s_6, s_7, s_8, s_9, s_10, s_11, s_12, s_13, s_14, s_15, s_16, (ByteArray.mk #[103, 111]), (ByteArray.mk #[105, 102]), s_17, s_18, s_19, s_20, s_21], ()), ())
noncomputable def C56 (k : Nat) : Nat → Fun := mkC []
theorem c56_ok (k : Nat) : ∀ f, SoundFn Try.prog f (C56 k f) := mkC_nil
theorem e56 (k : Nat) (x : (a56).C) : bodyR (C56 k) tt noH Try.f56 a56 o56 x = u56 (f56 k) x := by kernel_rfl
theorem s56 (k : Nat) : SoundFn Try.prog 56 (F56 (f56 k)) :=
  have hC := c56_ok k
  fnR_sound hC ttOk (draw_ok hC ttOk mixed) Try.func56 (c0 := bd Try.f56) rfl (entry Try.func56 rfl (by decide)) noH_ok rfl (fun x _ h => (e56 k x).trans h)
/-! f18 fathom/fathomref20.Key (R) -/
noncomputable def a18 : Shape := ⟨[.d .str], []⟩
noncomputable def o18 : List Shape := [⟨[.d .bool], []⟩]
abbrev R18 : Type := ((Bool × Unit) × Unit)
abbrev T18 : Type := ByteArray → Option R18
noncomputable def u18 (f : T18) : (a18).C → Option (OutC o18) := fun (x : ((ByteArray × Unit) × Unit)) => f x.1.1
noncomputable def F18 (f : T18) : Fun := ⟨true, runR a18 o18 (u18 f)⟩
noncomputable def pa18_58 : Shape := ⟨[.d .str, .d (.slice .str), .d i64], []⟩
noncomputable def pw18_58 : List Vm.Way := [⟨.exit 0, [], ⟨[], []⟩⟩, ⟨.ret, [2], ⟨[.d .bool], []⟩⟩]
abbrev R18_58 : Type := ((Unit × Unit) ⊕ ((Bool × Unit) × Unit))
abbrev T18_58 : Type := ByteArray → (List ByteArray) → Int → Option R18_58
noncomputable def u18_58 (f : T18_58) : (pa18_58).C → Option (WayC pw18_58) := fun (x : ((ByteArray × (List ByteArray) × Int × Unit) × Unit)) => f x.1.1 x.1.2.1 x.1.2.2.1
noncomputable def b18_58 (k : Nat) (rec : T18_58) : T18_58 := fun s0 l3 i4 =>
  cond (decide (i4 < (l3.length : Int)))
    (ix l3 i4 fun e1 =>
    cond (e1.toList == s0.toList)
      (some (.inr ((true, ()), ())))
      ((rec s0 l3 (w64 (i4 + 1))).bind fun y2 =>
      match y2 with
      | .inl y2_0 =>
        some (.inl ((), ()))
      | .inr y2_1 =>
        some (.inr ((y2_1.1.1, ()), ()))))
    (some (.inl ((), ())))
noncomputable def l18_58 (k : Nat) : Nat → T18_58
  | 0 => fun _ _ _ => none
  | j + 1 => b18_58 k (l18_58 k j)
noncomputable def f18 (k : Nat) : T18 := fun s0 =>
  (f56 k ()).bind fun y1 =>
  (l18_58 k k s0 y1.1.1 0).bind fun y2 =>
  match y2 with
  | .inl y2_0 =>
    some ((false, ()), ())
  | .inr y2_1 =>
    some ((y2_1.1.1, ()), ())
noncomputable def C18 (k : Nat) : Nat → Fun := mkC [(56, (F56 (f56 k)))]
theorem c18_ok (k : Nat) : ∀ f, SoundFn Try.prog f (C18 k f) := (mkC_cons (s56 k) mkC_nil)
noncomputable def H18_58 (k : Nat) : Nat → Option Cut := addH noH 58 ⟨runCut (wrC (bodyOf (codeAt 58 (bd Try.f18) 58))) 18 [0, 3, 4] pa18_58 pw18_58 (u18_58 (l18_58 k k))⟩
theorem e18_58 (k : Nat) (rec : T18_58) (x : (pa18_58).C) : roundF (C18 k) tt noH (bodyOf (codeAt 58 (bd Try.f18) 58)) 116 18 [0, 3, 4] pa18_58 pw18_58 (u18_58 rec) x = u18_58 (b18_58 k rec) x := by kernel_rfl
theorem h18_58_ok (k : Nat) : ∀ p S, H18_58 k p = some S → ∀ c, At (bd Try.f18) p c → CutOk Try.prog c S :=
  have hC := c18_ok k
  addLoop hC ttOk (draw_ok hC ttOk mixed) noH_ok (by kernel_rfl) (F := fun j => u18_58 (l18_58 k j)) (fun _ => rfl) (fun j x _ h => (e18_58 k (l18_58 k j) x).trans h) k
theorem e18 (k : Nat) (x : (a18).C) : bodyR (C18 k) tt (H18_58 k) Try.f18 a18 o18 x = u18 (f18 k) x := by kernel_rfl
theorem s18 (k : Nat) : SoundFn Try.prog 18 (F18 (f18 k)) :=
  have hC := c18_ok k
  fnR_sound hC ttOk (draw_ok hC ttOk mixed) Try.func18 (c0 := bd Try.f18) rfl (entry Try.func18 rfl (by decide)) (h18_58_ok k) rfl (fun x _ h => (e18 k x).trans h)
/-! f59 fathom/fathomref20.Letter (R) -/
noncomputable def a59 : Shape := ⟨[.d (.int .u8)], []⟩
noncomputable def o59 : List Shape := [⟨[.d .bool], []⟩]
abbrev R59 : Type := ((Bool × Unit) × Unit)
abbrev T59 : Type := Int → Option R59
noncomputable def u59 (f : T59) : (a59).C → Option (OutC o59) := fun (x : ((Int × Unit) × Unit)) => f x.1.1
noncomputable def F59 (f : T59) : Fun := ⟨true, runR a59 o59 (u59 f)⟩
noncomputable def f59 (k : Nat) : T59 := fun c_0 =>
  cond (decide (c_0 ≥ 97))
    (some (((decide (c_0 ≤ 122)), ()), ()))
    (some ((false, ()), ()))
noncomputable def C59 (k : Nat) : Nat → Fun := mkC []
theorem c59_ok (k : Nat) : ∀ f, SoundFn Try.prog f (C59 k f) := mkC_nil
theorem e59 (k : Nat) (x : (a59).C) : bodyR (C59 k) tt noH Try.f59 a59 o59 x = u59 (f59 k) x := by kernel_rfl
theorem s59 (k : Nat) : SoundFn Try.prog 59 (F59 (f59 k)) :=
  have hC := c59_ok k
  fnR_sound hC ttOk (draw_ok hC ttOk mixed) Try.func59 (c0 := bd Try.f59) rfl (entry Try.func59 rfl (by decide)) noH_ok rfl (fun x _ h => (e59 k x).trans h)
/-! f60 fathom/fathomref20.Digit (R) -/
noncomputable def a60 : Shape := ⟨[.d (.int .u8)], []⟩
noncomputable def o60 : List Shape := [⟨[.d .bool], []⟩]
abbrev R60 : Type := ((Bool × Unit) × Unit)
abbrev T60 : Type := Int → Option R60
noncomputable def u60 (f : T60) : (a60).C → Option (OutC o60) := fun (x : ((Int × Unit) × Unit)) => f x.1.1
noncomputable def F60 (f : T60) : Fun := ⟨true, runR a60 o60 (u60 f)⟩
noncomputable def f60 (k : Nat) : T60 := fun c_0 =>
  cond (decide (c_0 ≥ 48))
    (some (((decide (c_0 ≤ 57)), ()), ()))
    (some ((false, ()), ()))
noncomputable def C60 (k : Nat) : Nat → Fun := mkC []
theorem c60_ok (k : Nat) : ∀ f, SoundFn Try.prog f (C60 k f) := mkC_nil
theorem e60 (k : Nat) (x : (a60).C) : bodyR (C60 k) tt noH Try.f60 a60 o60 x = u60 (f60 k) x := by kernel_rfl
theorem s60 (k : Nat) : SoundFn Try.prog 60 (F60 (f60 k)) :=
  have hC := c60_ok k
  fnR_sound hC ttOk (draw_ok hC ttOk mixed) Try.func60 (c0 := bd Try.f60) rfl (entry Try.func60 rfl (by decide)) noH_ok rfl (fun x _ h => (e60 k x).trans h)
/-! f20 fathom/fathomref20.Name (R) -/
noncomputable def a20 : Shape := ⟨[.d .str], []⟩
noncomputable def o20 : List Shape := [⟨[.d .bool], []⟩]
abbrev R20 : Type := ((Bool × Unit) × Unit)
abbrev T20 : Type := ByteArray → Option R20
noncomputable def u20 (f : T20) : (a20).C → Option (OutC o20) := fun (x : ((ByteArray × Unit) × Unit)) => f x.1.1
noncomputable def F20 (f : T20) : Fun := ⟨true, runR a20 o20 (u20 f)⟩
noncomputable def pa20_26 : Shape := ⟨[.d .str, .d i64], []⟩
noncomputable def pw20_26 : List Vm.Way := [⟨.exit 0, [], ⟨[], []⟩⟩, ⟨.ret, [2], ⟨[.d .bool], []⟩⟩]
abbrev R20_26 : Type := ((Unit × Unit) ⊕ ((Bool × Unit) × Unit))
abbrev T20_26 : Type := ByteArray → Int → Option R20_26
noncomputable def u20_26 (f : T20_26) : (pa20_26).C → Option (WayC pw20_26) := fun (x : ((ByteArray × Int × Unit) × Unit)) => f x.1.1 x.1.2.1
noncomputable def b20_26 (k : Nat) (rec : T20_26) : T20_26 := fun s0 i3 =>
  cond (decide (i3 < (s0.size : Int)))
    (ixs s0 i3 fun c1 =>
    (f59 k c1).bind fun y2 =>
    cond (!y2.1.1)
      (cond (i3 == 0)
        (some (.inr ((false, ()), ())))
        (ixs s0 i3 fun c3 =>
        (f60 k c3).bind fun y4 =>
        cond (!y4.1.1)
          (some (.inr ((false, ()), ())))
          ((rec s0 (w64 (i3 + 1))).bind fun y5 =>
          match y5 with
          | .inl y5_0 =>
            some (.inl ((), ()))
          | .inr y5_1 =>
            some (.inr ((y5_1.1.1, ()), ())))))
      ((rec s0 (w64 (i3 + 1))).bind fun y6 =>
      match y6 with
      | .inl y6_0 =>
        some (.inl ((), ()))
      | .inr y6_1 =>
        some (.inr ((y6_1.1.1, ()), ()))))
    (some (.inl ((), ())))
noncomputable def l20_26 (k : Nat) : Nat → T20_26
  | 0 => fun _ _ => none
  | j + 1 => b20_26 k (l20_26 k j)
noncomputable def f20 (k : Nat) : T20 := fun s0 =>
  (l20_26 k k s0 0).bind fun y1 =>
  match y1 with
  | .inl y1_0 =>
    cond (decide ((s0.size : Int) ≥ 1))
      (cond (decide ((s0.size : Int) ≤ 12))
        ((f18 k s0).bind fun y2 =>
        some (((!y2.1.1), ()), ()))
        (some ((false, ()), ())))
      (some ((false, ()), ()))
  | .inr y1_1 =>
    some ((y1_1.1.1, ()), ())
noncomputable def C20 (k : Nat) : Nat → Fun := mkC [(18, (F18 (f18 k))), (59, (F59 (f59 k))), (60, (F60 (f60 k)))]
theorem c20_ok (k : Nat) : ∀ f, SoundFn Try.prog f (C20 k f) := (mkC_cons (s18 k) (mkC_cons (s59 k) (mkC_cons (s60 k) mkC_nil)))
noncomputable def H20_26 (k : Nat) : Nat → Option Cut := addH noH 26 ⟨runCut (wrC (bodyOf (codeAt 26 (bd Try.f20) 26))) 39 [0, 3] pa20_26 pw20_26 (u20_26 (l20_26 k k))⟩
theorem e20_26 (k : Nat) (rec : T20_26) (x : (pa20_26).C) : roundF (C20 k) tt noH (bodyOf (codeAt 26 (bd Try.f20) 26)) 52 39 [0, 3] pa20_26 pw20_26 (u20_26 rec) x = u20_26 (b20_26 k rec) x := by kernel_rfl
theorem h20_26_ok (k : Nat) : ∀ p S, H20_26 k p = some S → ∀ c, At (bd Try.f20) p c → CutOk Try.prog c S :=
  have hC := c20_ok k
  addLoop hC ttOk (draw_ok hC ttOk mixed) noH_ok (by kernel_rfl) (F := fun j => u20_26 (l20_26 k j)) (fun _ => rfl) (fun j x _ h => (e20_26 k (l20_26 k j) x).trans h) k
theorem e20 (k : Nat) (x : (a20).C) : bodyR (C20 k) tt (H20_26 k) Try.f20 a20 o20 x = u20 (f20 k) x := by kernel_rfl
theorem s20 (k : Nat) : SoundFn Try.prog 20 (F20 (f20 k)) :=
  have hC := c20_ok k
  fnR_sound hC ttOk (draw_ok hC ttOk mixed) Try.func20 (c0 := bd Try.f20) rfl (entry Try.func20 rfl (by decide)) (h20_26_ok k) rfl (fun x _ h => (e20 k x).trans h)
/-! f108 fathom/fathomref21.forms (R) -/
noncomputable def a108 : Shape := ⟨[], []⟩
noncomputable def o108 : List Shape := [⟨[.d (.slice (.arr 5 i64))], []⟩]
abbrev R108 : Type := (((List (List Int)) × Unit) × Unit)
abbrev T108 : Type := Unit → Option R108
noncomputable def u108 (f : T108) : (a108).C → Option (OutC o108) := fun (x : (Unit × Unit)) => f ()
noncomputable def F108 (f : T108) : Fun := ⟨true, runR a108 o108 (u108 f)⟩
noncomputable def f108 (k : Nat) : T108 := fun _ =>
  some (([[0, 0, 0, 0, 0], [0, 1, 1, 0, 0], [1, 1, 0, 0, 0], [1, 0, 1, 0, 0], [1, 1, 0, 0, 0], [1, 0, 1, 0, 0], [1, 1, 1, 0, 0], [1, 1, 2, 0, 0], [1, 0, 0, 1, 0], [1, 0, 1, 0, 0], [1, 1, 0, 0, 0], [1, 0, 0, 0, 0], [0, 0, 1, 1, 1], [1, 0, 1, 1, 0], [1, 0, 0, 0, 0], [1, 0, 0, 0, 0], [0, 0, 1, 0, 0]], ()), ())
noncomputable def C108 (k : Nat) : Nat → Fun := mkC []
theorem c108_ok (k : Nat) : ∀ f, SoundFn Try.prog f (C108 k f) := mkC_nil
theorem e108 (k : Nat) (x : (a108).C) : bodyR (C108 k) tt noH Try.f108 a108 o108 x = u108 (f108 k) x := by kernel_rfl
theorem s108 (k : Nat) : SoundFn Try.prog 108 (F108 (f108 k)) :=
  have hC := c108_ok k
  fnR_sound hC ttOk (draw_ok hC ttOk mixed) Try.func108 (c0 := bd Try.f108) rfl (entry Try.func108 rfl (by decide)) noH_ok rfl (fun x _ h => (e108 k x).trans h)
/-! f109 fathom/fathomref21.named (R) -/
noncomputable def a109 : Shape := ⟨[.d .str, .d i64], []⟩
noncomputable def o109 : List Shape := [⟨[.d .bool], []⟩]
abbrev R109 : Type := ((Bool × Unit) × Unit)
abbrev T109 : Type := ByteArray → Int → Option R109
noncomputable def u109 (f : T109) : (a109).C → Option (OutC o109) := fun (x : ((ByteArray × Int × Unit) × Unit)) => f x.1.1 x.1.2.1
noncomputable def F109 (f : T109) : Fun := ⟨true, runR a109 o109 (u109 f)⟩
noncomputable def f109 (k : Nat) : T109 := fun s0 must1 =>
  cond (must1 == 1)
    ((f20 k s0).bind fun y1 =>
    some ((y1.1.1, ()), ()))
    (some (((s0.toList == ByteArray.empty.toList), ()), ()))
noncomputable def C109 (k : Nat) : Nat → Fun := mkC [(20, (F20 (f20 k)))]
theorem c109_ok (k : Nat) : ∀ f, SoundFn Try.prog f (C109 k f) := (mkC_cons (s20 k) mkC_nil)
theorem e109 (k : Nat) (x : (a109).C) : bodyR (C109 k) tt noH Try.f109 a109 o109 x = u109 (f109 k) x := by kernel_rfl
theorem s109 (k : Nat) : SoundFn Try.prog 109 (F109 (f109 k)) :=
  have hC := c109_ok k
  fnR_sound hC ttOk (draw_ok hC ttOk mixed) Try.func109 (c0 := bd Try.f109) rfl (entry Try.func109 rfl (by decide)) noH_ok rfl (fun x _ h => (e109 k x).trans h)
/-! f23 fathom/fathomref21.Binary (R) -/
noncomputable def a23 : Shape := ⟨[.d .str], []⟩
noncomputable def o23 : List Shape := [⟨[.d i64], []⟩]
abbrev R23 : Type := ((Int × Unit) × Unit)
abbrev T23 : Type := ByteArray → Option R23
noncomputable def u23 (f : T23) : (a23).C → Option (OutC o23) := fun (x : ((ByteArray × Unit) × Unit)) => f x.1.1
noncomputable def F23 (f : T23) : Fun := ⟨true, runR a23 o23 (u23 f)⟩
noncomputable def pa23_3730 : Shape := ⟨[.d .str, .own (.slice .str), .d i64, .d i64], []⟩
noncomputable def pw23_3730 : List Vm.Way := [⟨.exit 2, [3], ⟨[.own (.slice .str)], []⟩⟩, ⟨.ret, [2], ⟨[.d i64], []⟩⟩]
abbrev R23_3730 : Type := ((((List (List ByteArray)) × Unit) × Unit) ⊕ ((Int × Unit) × Unit))
abbrev T23_3730 : Type := ByteArray → (List (List ByteArray)) → Int → Int → Option R23_3730
noncomputable def u23_3730 (f : T23_3730) : (pa23_3730).C → Option (WayC pw23_3730) := fun (x : ((ByteArray × (List (List ByteArray)) × Int × Int × Unit) × Unit)) => f x.1.1 x.1.2.1 x.1.2.2.1 x.1.2.2.2.1
noncomputable def b23_3730 (k : Nat) (rec : T23_3730) : T23_3730 := fun op0 l3 i4 k5 =>
  ix l3 i4 fun e1 =>
  cond (decide (k5 < (e1.length : Int)))
    (ix l3 i4 fun e2 =>
    ix e2 k5 fun e3 =>
    cond (e3.toList == op0.toList)
      (some (.inr (((w64 (i4 + 1)), ()), ())))
      ((rec op0 l3 i4 (w64 (k5 + 1))).bind fun y4 =>
      match y4 with
      | .inl y4_0 =>
        some (.inl ((y4_0.1.1, ()), ()))
      | .inr y4_1 =>
        some (.inr ((y4_1.1.1, ()), ()))))
    (some (.inl ((l3, ()), ())))
noncomputable def l23_3730 (k : Nat) : Nat → T23_3730
  | 0 => fun _ _ _ _ => none
  | j + 1 => b23_3730 k (l23_3730 k j)
noncomputable def pa23_58 : Shape := ⟨[.d .str, .own (.slice .str), .d i64], []⟩
noncomputable def pw23_58 : List Vm.Way := [⟨.exit 0, [], ⟨[], []⟩⟩, ⟨.ret, [2], ⟨[.d i64], []⟩⟩]
abbrev R23_58 : Type := ((Unit × Unit) ⊕ ((Int × Unit) × Unit))
abbrev T23_58 : Type := ByteArray → (List (List ByteArray)) → Int → Option R23_58
noncomputable def u23_58 (f : T23_58) : (pa23_58).C → Option (WayC pw23_58) := fun (x : ((ByteArray × (List (List ByteArray)) × Int × Unit) × Unit)) => f x.1.1 x.1.2.1 x.1.2.2.1
noncomputable def b23_58 (k : Nat) (rec : T23_58) : T23_58 := fun op0 l3 i4 =>
  cond (decide (i4 < (l3.length : Int)))
    ((l23_3730 k k op0 l3 i4 0).bind fun y1 =>
    match y1 with
    | .inl y1_0 =>
      (rec op0 y1_0.1.1 (w64 (i4 + 1))).bind fun y2 =>
      match y2 with
      | .inl y2_0 =>
        some (.inl ((), ()))
      | .inr y2_1 =>
        some (.inr ((y2_1.1.1, ()), ()))
    | .inr y1_1 =>
      some (.inr ((y1_1.1.1, ()), ())))
    (some (.inl ((), ())))
noncomputable def l23_58 (k : Nat) : Nat → T23_58
  | 0 => fun _ _ _ => none
  | j + 1 => b23_58 k (l23_58 k j)
noncomputable def f23 (k : Nat) : T23 := fun op0 =>
  (l23_58 k k op0 [[(ByteArray.mk #[124, 124])], [(ByteArray.mk #[38, 38])], [(ByteArray.mk #[61, 61]), (ByteArray.mk #[33, 61]), (ByteArray.mk #[60]), (ByteArray.mk #[60, 61]), (ByteArray.mk #[62]), (ByteArray.mk #[62, 61])], [(ByteArray.mk #[43]), (ByteArray.mk #[45]), (ByteArray.mk #[124]), (ByteArray.mk #[94])], [(ByteArray.mk #[42]), (ByteArray.mk #[47]), (ByteArray.mk #[37]), (ByteArray.mk #[60, 60]), (ByteArray.mk #[62, 62]), (ByteArray.mk #[38])]] 0).bind fun y1 =>
  match y1 with
  | .inl y1_0 =>
    some ((0, ()), ())
  | .inr y1_1 =>
    some ((y1_1.1.1, ()), ())
noncomputable def C23 (k : Nat) : Nat → Fun := mkC []
theorem c23_ok (k : Nat) : ∀ f, SoundFn Try.prog f (C23 k f) := mkC_nil
noncomputable def H23_3730 (k : Nat) : Nat → Option Cut := addH noH 3730 ⟨runCut (wrC (bodyOf (codeAt 3730 (bd Try.f23) 3730))) 38 [0, 3, 4, 5] pa23_3730 pw23_3730 (u23_3730 (l23_3730 k k))⟩
theorem e23_3730 (k : Nat) (rec : T23_3730) (x : (pa23_3730).C) : roundF (C23 k) tt noH (bodyOf (codeAt 3730 (bd Try.f23) 3730)) 7460 38 [0, 3, 4, 5] pa23_3730 pw23_3730 (u23_3730 rec) x = u23_3730 (b23_3730 k rec) x := by kernel_rfl
theorem h23_3730_ok (k : Nat) : ∀ p S, H23_3730 k p = some S → ∀ c, At (bd Try.f23) p c → CutOk Try.prog c S :=
  have hC := c23_ok k
  addLoop hC ttOk (draw_ok hC ttOk mixed) noH_ok (by kernel_rfl) (F := fun j => u23_3730 (l23_3730 k j)) (fun _ => rfl) (fun j x _ h => (e23_3730 k (l23_3730 k j) x).trans h) k
noncomputable def H23_58 (k : Nat) : Nat → Option Cut := addH (H23_3730 k) 58 ⟨runCut (wrC (bodyOf (codeAt 58 (bd Try.f23) 58))) 38 [0, 3, 4] pa23_58 pw23_58 (u23_58 (l23_58 k k))⟩
theorem e23_58 (k : Nat) (rec : T23_58) (x : (pa23_58).C) : roundF (C23 k) tt (H23_3730 k) (bodyOf (codeAt 58 (bd Try.f23) 58)) 116 38 [0, 3, 4] pa23_58 pw23_58 (u23_58 rec) x = u23_58 (b23_58 k rec) x := by kernel_rfl
theorem h23_58_ok (k : Nat) : ∀ p S, H23_58 k p = some S → ∀ c, At (bd Try.f23) p c → CutOk Try.prog c S :=
  have hC := c23_ok k
  addLoop hC ttOk (draw_ok hC ttOk mixed) (h23_3730_ok k) (by kernel_rfl) (F := fun j => u23_58 (l23_58 k j)) (fun _ => rfl) (fun j x _ h => (e23_58 k (l23_58 k j) x).trans h) k
theorem e23 (k : Nat) (x : (a23).C) : bodyR (C23 k) tt (H23_58 k) Try.f23 a23 o23 x = u23 (f23 k) x := by kernel_rfl
theorem s23 (k : Nat) : SoundFn Try.prog 23 (F23 (f23 k)) :=
  have hC := c23_ok k
  fnR_sound hC ttOk (draw_ok hC ttOk mixed) Try.func23 (c0 := bd Try.f23) rfl (entry Try.func23 rfl (by decide)) (h23_58_ok k) rfl (fun x _ h => (e23 k x).trans h)
/-! f26 fathom/fathomref21.Expr (R) -/
noncomputable def a26 : Shape := ⟨[.d (.rc 0), .d i64], []⟩
noncomputable def o26 : List Shape := [⟨[.d i64], []⟩]
abbrev R26 : Type := ((Int × Unit) × Unit)
abbrev T26 : Type := PExpr → Int → Option R26
noncomputable def u26 (f : T26) : (a26).C → Option (OutC o26) := fun (x : ((PExpr × Int × Unit) × Unit)) => f x.1.1 x.1.2.1
noncomputable def F26 (f : T26) : Fun := ⟨true, runR a26 o26 (u26 f)⟩
noncomputable def pa26_2042 : Shape := ⟨[.d i64, .ptr 0, .d i64, .d i64], [.box [.d i64, .d .str, .d i64, .d .str, .d (.slice (.rc 0)), .d i64]]⟩
noncomputable def pw26_2042 : List Vm.Way := [⟨.exit 0, [9], ⟨[.d i64], [.box [.d i64, .d .str, .d i64, .d .str, .d (.slice (.rc 0)), .d i64]]⟩⟩, ⟨.ret, [4], ⟨[.d i64], [.box [.d i64, .d .str, .d i64, .d .str, .d (.slice (.rc 0)), .d i64]]⟩⟩]
abbrev R26_2042 : Type := (((Int × Unit) × ((Int × ByteArray × Int × ByteArray × (List PExpr) × Int × Unit) × Unit)) ⊕ ((Int × Unit) × ((Int × ByteArray × Int × ByteArray × (List PExpr) × Int × Unit) × Unit)))
abbrev T26_2042 : Type := Int → Int → Int → Int → ByteArray → Int → ByteArray → (List PExpr) → Int → Option R26_2042
noncomputable def u26_2042 (f : T26_2042) : (pa26_2042).C → Option (WayC pw26_2042) := fun (x : ((Int × Unit × Int × Int × Unit) × ((Int × ByteArray × Int × ByteArray × (List PExpr) × Int × Unit) × Unit))) => f x.1.1 x.1.2.2.1 x.1.2.2.2.1 x.2.1.1 x.2.1.2.1 x.2.1.2.2.1 x.2.1.2.2.2.1 x.2.1.2.2.2.2.1 x.2.1.2.2.2.2.2.1
noncomputable def b26_2042 (k : Nat) (r26 : T26) (rec : T26_2042) : T26_2042 := fun deep1 n9 i10 o0_0 o0_1 o0_2 o0_3 o0_4 o0_5 =>
  cond (decide (i10 < (o0_4.length : Int)))
    (ix o0_4 i10 fun e1 =>
    (r26 e1 (w64 (deep1 - 1))).bind fun y2 =>
    cond (decide (y2.1.1 < 0))
      (some (.inr (((-1), ()), ((o0_0, o0_1, o0_2, o0_3, o0_4, o0_5, ()), ()))))
      (cond (decide (y2.1.1 > 10000))
        (some (.inr (((-1), ()), ((o0_0, o0_1, o0_2, o0_3, o0_4, o0_5, ()), ()))))
        ((rec deep1 (w64 (n9 + y2.1.1)) (w64 (i10 + 1)) o0_0 o0_1 o0_2 o0_3 o0_4 o0_5).bind fun y3 =>
        match y3 with
        | .inl y3_0 =>
          some (.inl ((y3_0.1.1, ()), ((y3_0.2.1.1, y3_0.2.1.2.1, y3_0.2.1.2.2.1, y3_0.2.1.2.2.2.1, y3_0.2.1.2.2.2.2.1, y3_0.2.1.2.2.2.2.2.1, ()), ())))
        | .inr y3_1 =>
          some (.inr ((y3_1.1.1, ()), ((y3_1.2.1.1, y3_1.2.1.2.1, y3_1.2.1.2.2.1, y3_1.2.1.2.2.2.1, y3_1.2.1.2.2.2.2.1, y3_1.2.1.2.2.2.2.2.1, ()), ()))))))
    (some (.inl ((n9, ()), ((o0_0, o0_1, o0_2, o0_3, o0_4, o0_5, ()), ()))))
noncomputable def l26_2042 (k : Nat) (r26 : T26) : Nat → T26_2042
  | 0 => fun _ _ _ _ _ _ _ _ _ => none
  | j + 1 => b26_2042 k r26 (l26_2042 k r26 j)
noncomputable def pa26_1020 : Shape := ⟨[], []⟩
noncomputable def pw26_1020 : List Vm.Way := [⟨.normal, [10], ⟨[.d i64], []⟩⟩]
abbrev R26_1020 : Type := ((Int × Unit) × Unit)
abbrev T26_1020 : Type := Unit → Option R26_1020
noncomputable def u26_1020 (f : T26_1020) : (pa26_1020).C → Option (WayC pw26_1020) := fun (x : (Unit × Unit)) => f ()
noncomputable def l26_1020 (k : Nat) (r26 : T26) : T26_1020 := fun _ =>
  some ((0, ()), ())
noncomputable def pa26_254 : Shape := ⟨[], []⟩
noncomputable def pw26_254 : List Vm.Way := [⟨.normal, [9], ⟨[.d i64], []⟩⟩]
abbrev R26_254 : Type := ((Int × Unit) × Unit)
abbrev T26_254 : Type := Unit → Option R26_254
noncomputable def u26_254 (f : T26_254) : (pa26_254).C → Option (WayC pw26_254) := fun (x : (Unit × Unit)) => f ()
noncomputable def l26_254 (k : Nat) (r26 : T26) : T26_254 := fun _ =>
  some ((1, ()), ())
noncomputable def pa26_252 : Shape := ⟨[.d i64, .d .bool, .d .bool, .d .bool, .d .bool], []⟩
noncomputable def pw26_252 : List Vm.Way := [⟨.normal, [141], ⟨[.d .bool], []⟩⟩]
abbrev R26_252 : Type := ((Bool × Unit) × Unit)
abbrev T26_252 : Type := Int → Bool → Bool → Bool → Bool → Option R26_252
noncomputable def u26_252 (f : T26_252) : (pa26_252).C → Option (WayC pw26_252) := fun (x : ((Int × Bool × Bool × Bool × Bool × Unit) × Unit)) => f x.1.1 x.1.2.1 x.1.2.2.1 x.1.2.2.2.1 x.1.2.2.2.2.1
noncomputable def l26_252 (k : Nat) (r26 : T26) : T26_252 := fun deep1 number5 local6 unary7 binary8 =>
  cond (decide (deep1 < 1))
    (some ((true, ()), ()))
    (cond (!number5)
      (cond (!local6)
        (cond (!unary7)
          (some (((!binary8), ()), ()))
          (some ((false, ()), ())))
        (some ((false, ()), ())))
      (some ((false, ()), ())))
noncomputable def pa26_126 : Shape := ⟨[.d i64, .d .bool, .d .bool, .d .bool, .d .bool], []⟩
noncomputable def pw26_126 : List Vm.Way := [⟨.normal, [], ⟨[], []⟩⟩, ⟨.ret, [4], ⟨[.d i64], []⟩⟩]
abbrev R26_126 : Type := ((Unit × Unit) ⊕ ((Int × Unit) × Unit))
abbrev T26_126 : Type := Int → Bool → Bool → Bool → Bool → Option R26_126
noncomputable def u26_126 (f : T26_126) : (pa26_126).C → Option (WayC pw26_126) := fun (x : ((Int × Bool × Bool × Bool × Bool × Unit) × Unit)) => f x.1.1 x.1.2.1 x.1.2.2.1 x.1.2.2.2.1 x.1.2.2.2.2.1
noncomputable def l26_126 (k : Nat) (r26 : T26) : T26_126 := fun deep1 number5 local6 unary7 binary8 =>
  (l26_252 k r26 deep1 number5 local6 unary7 binary8).bind fun y1 =>
  cond y1.1.1
    (some (.inr (((-1), ()), ())))
    (some (.inl ((), ())))
noncomputable def pa26_62 : Shape := ⟨[.ptr 0], [.box [.d i64, .d .str, .d i64, .d .str, .d (.slice (.rc 0)), .d i64]]⟩
noncomputable def pw26_62 : List Vm.Way := [⟨.normal, [8], ⟨[.d .bool], [.box [.d i64, .d .str, .d i64, .d .str, .d (.slice (.rc 0)), .d i64]]⟩⟩]
abbrev R26_62 : Type := ((Bool × Unit) × ((Int × ByteArray × Int × ByteArray × (List PExpr) × Int × Unit) × Unit))
abbrev T26_62 : Type := Int → ByteArray → Int → ByteArray → (List PExpr) → Int → Option R26_62
noncomputable def u26_62 (f : T26_62) : (pa26_62).C → Option (WayC pw26_62) := fun (x : ((Unit × Unit) × ((Int × ByteArray × Int × ByteArray × (List PExpr) × Int × Unit) × Unit))) => f x.2.1.1 x.2.1.2.1 x.2.1.2.2.1 x.2.1.2.2.2.1 x.2.1.2.2.2.2.1 x.2.1.2.2.2.2.2.1
noncomputable def l26_62 (k : Nat) (r26 : T26) : T26_62 := fun o0_0 o0_1 o0_2 o0_3 o0_4 o0_5 =>
  cond (o0_0 == 4)
    ((f23 k o0_1).bind fun y1 =>
    cond (decide (y1.1.1 > 0))
      (cond (o0_2 == 0)
        (cond (o0_3.toList == ByteArray.empty.toList)
          (some ((((o0_4.length : Int) == 2), ()), ((o0_0, o0_1, o0_2, o0_3, o0_4, o0_5, ()), ())))
          (some ((false, ()), ((o0_0, o0_1, o0_2, o0_3, o0_4, o0_5, ()), ()))))
        (some ((false, ()), ((o0_0, o0_1, o0_2, o0_3, o0_4, o0_5, ()), ()))))
      (some ((false, ()), ((o0_0, o0_1, o0_2, o0_3, o0_4, o0_5, ()), ()))))
    (some ((false, ()), ((o0_0, o0_1, o0_2, o0_3, o0_4, o0_5, ()), ())))
noncomputable def pa26_30 : Shape := ⟨[.ptr 0], [.box [.d i64, .d .str, .d i64, .d .str, .d (.slice (.rc 0)), .d i64]]⟩
noncomputable def pw26_30 : List Vm.Way := [⟨.normal, [7], ⟨[.d .bool], [.box [.d i64, .d .str, .d i64, .d .str, .d (.slice (.rc 0)), .d i64]]⟩⟩]
abbrev R26_30 : Type := ((Bool × Unit) × ((Int × ByteArray × Int × ByteArray × (List PExpr) × Int × Unit) × Unit))
abbrev T26_30 : Type := Int → ByteArray → Int → ByteArray → (List PExpr) → Int → Option R26_30
noncomputable def u26_30 (f : T26_30) : (pa26_30).C → Option (WayC pw26_30) := fun (x : ((Unit × Unit) × ((Int × ByteArray × Int × ByteArray × (List PExpr) × Int × Unit) × Unit))) => f x.2.1.1 x.2.1.2.1 x.2.1.2.2.1 x.2.1.2.2.2.1 x.2.1.2.2.2.2.1 x.2.1.2.2.2.2.2.1
noncomputable def l26_30 (k : Nat) (r26 : T26) : T26_30 := fun o0_0 o0_1 o0_2 o0_3 o0_4 o0_5 =>
  cond (o0_0 == 3)
    (cond (o0_1.toList == (ByteArray.mk #[45]).toList)
      (cond (o0_2 == 0)
        (cond (o0_3.toList == ByteArray.empty.toList)
          (some ((((o0_4.length : Int) == 1), ()), ((o0_0, o0_1, o0_2, o0_3, o0_4, o0_5, ()), ())))
          (some ((false, ()), ((o0_0, o0_1, o0_2, o0_3, o0_4, o0_5, ()), ()))))
        (some ((false, ()), ((o0_0, o0_1, o0_2, o0_3, o0_4, o0_5, ()), ()))))
      (cond (o0_1.toList == (ByteArray.mk #[126]).toList)
        (cond (o0_2 == 0)
          (cond (o0_3.toList == ByteArray.empty.toList)
            (some ((((o0_4.length : Int) == 1), ()), ((o0_0, o0_1, o0_2, o0_3, o0_4, o0_5, ()), ())))
            (some ((false, ()), ((o0_0, o0_1, o0_2, o0_3, o0_4, o0_5, ()), ()))))
          (some ((false, ()), ((o0_0, o0_1, o0_2, o0_3, o0_4, o0_5, ()), ()))))
        (cond (o0_1.toList == (ByteArray.mk #[33]).toList)
          (cond (o0_2 == 0)
            (cond (o0_3.toList == ByteArray.empty.toList)
              (some ((((o0_4.length : Int) == 1), ()), ((o0_0, o0_1, o0_2, o0_3, o0_4, o0_5, ()), ())))
              (some ((false, ()), ((o0_0, o0_1, o0_2, o0_3, o0_4, o0_5, ()), ()))))
            (some ((false, ()), ((o0_0, o0_1, o0_2, o0_3, o0_4, o0_5, ()), ()))))
          (some ((false, ()), ((o0_0, o0_1, o0_2, o0_3, o0_4, o0_5, ()), ()))))))
    (some ((false, ()), ((o0_0, o0_1, o0_2, o0_3, o0_4, o0_5, ()), ())))
noncomputable def pa26_14 : Shape := ⟨[.ptr 0], [.box [.d i64, .d .str, .d i64, .d .str, .d (.slice (.rc 0)), .d i64]]⟩
noncomputable def pw26_14 : List Vm.Way := [⟨.normal, [6], ⟨[.d .bool], [.box [.d i64, .d .str, .d i64, .d .str, .d (.slice (.rc 0)), .d i64]]⟩⟩]
abbrev R26_14 : Type := ((Bool × Unit) × ((Int × ByteArray × Int × ByteArray × (List PExpr) × Int × Unit) × Unit))
abbrev T26_14 : Type := Int → ByteArray → Int → ByteArray → (List PExpr) → Int → Option R26_14
noncomputable def u26_14 (f : T26_14) : (pa26_14).C → Option (WayC pw26_14) := fun (x : ((Unit × Unit) × ((Int × ByteArray × Int × ByteArray × (List PExpr) × Int × Unit) × Unit))) => f x.2.1.1 x.2.1.2.1 x.2.1.2.2.1 x.2.1.2.2.2.1 x.2.1.2.2.2.2.1 x.2.1.2.2.2.2.2.1
noncomputable def l26_14 (k : Nat) (r26 : T26) : T26_14 := fun o0_0 o0_1 o0_2 o0_3 o0_4 o0_5 =>
  cond (o0_0 == 2)
    (cond (o0_1.toList == ByteArray.empty.toList)
      (cond (o0_2 == 0)
        ((f20 k o0_3).bind fun y1 =>
        cond y1.1.1
          (some ((((o0_4.length : Int) == 0), ()), ((o0_0, o0_1, o0_2, o0_3, o0_4, o0_5, ()), ())))
          (some ((false, ()), ((o0_0, o0_1, o0_2, o0_3, o0_4, o0_5, ()), ()))))
        (some ((false, ()), ((o0_0, o0_1, o0_2, o0_3, o0_4, o0_5, ()), ()))))
      (some ((false, ()), ((o0_0, o0_1, o0_2, o0_3, o0_4, o0_5, ()), ()))))
    (some ((false, ()), ((o0_0, o0_1, o0_2, o0_3, o0_4, o0_5, ()), ())))
noncomputable def pa26_6 : Shape := ⟨[.ptr 0], [.box [.d i64, .d .str, .d i64, .d .str, .d (.slice (.rc 0)), .d i64]]⟩
noncomputable def pw26_6 : List Vm.Way := [⟨.normal, [5], ⟨[.d .bool], [.box [.d i64, .d .str, .d i64, .d .str, .d (.slice (.rc 0)), .d i64]]⟩⟩]
abbrev R26_6 : Type := ((Bool × Unit) × ((Int × ByteArray × Int × ByteArray × (List PExpr) × Int × Unit) × Unit))
abbrev T26_6 : Type := Int → ByteArray → Int → ByteArray → (List PExpr) → Int → Option R26_6
noncomputable def u26_6 (f : T26_6) : (pa26_6).C → Option (WayC pw26_6) := fun (x : ((Unit × Unit) × ((Int × ByteArray × Int × ByteArray × (List PExpr) × Int × Unit) × Unit))) => f x.2.1.1 x.2.1.2.1 x.2.1.2.2.1 x.2.1.2.2.2.1 x.2.1.2.2.2.2.1 x.2.1.2.2.2.2.2.1
noncomputable def l26_6 (k : Nat) (r26 : T26) : T26_6 := fun o0_0 o0_1 o0_2 o0_3 o0_4 o0_5 =>
  cond (o0_0 == 1)
    (cond (o0_1.toList == ByteArray.empty.toList)
      (cond (o0_3.toList == ByteArray.empty.toList)
        (cond (decide (o0_2 ≥ 0))
          (cond (decide (o0_2 ≤ 65535))
            (some ((((o0_4.length : Int) == 0), ()), ((o0_0, o0_1, o0_2, o0_3, o0_4, o0_5, ()), ())))
            (some ((false, ()), ((o0_0, o0_1, o0_2, o0_3, o0_4, o0_5, ()), ()))))
          (some ((false, ()), ((o0_0, o0_1, o0_2, o0_3, o0_4, o0_5, ()), ()))))
        (some ((false, ()), ((o0_0, o0_1, o0_2, o0_3, o0_4, o0_5, ()), ()))))
      (some ((false, ()), ((o0_0, o0_1, o0_2, o0_3, o0_4, o0_5, ()), ()))))
    (some ((false, ()), ((o0_0, o0_1, o0_2, o0_3, o0_4, o0_5, ()), ())))
noncomputable def b26 (k : Nat) (r26 : T26) : T26 := fun e_0 deep1 =>
  (l26_6 k r26 (eKind e_0) (eOp e_0) (eNum e_0) (eName e_0) (eKids e_0) (ePos e_0)).bind fun y1 =>
  (l26_14 k r26 y1.2.1.1 y1.2.1.2.1 y1.2.1.2.2.1 y1.2.1.2.2.2.1 y1.2.1.2.2.2.2.1 y1.2.1.2.2.2.2.2.1).bind fun y2 =>
  (l26_30 k r26 y2.2.1.1 y2.2.1.2.1 y2.2.1.2.2.1 y2.2.1.2.2.2.1 y2.2.1.2.2.2.2.1 y2.2.1.2.2.2.2.2.1).bind fun y3 =>
  (l26_62 k r26 y3.2.1.1 y3.2.1.2.1 y3.2.1.2.2.1 y3.2.1.2.2.2.1 y3.2.1.2.2.2.2.1 y3.2.1.2.2.2.2.2.1).bind fun y4 =>
  (l26_126 k r26 deep1 y1.1.1 y2.1.1 y3.1.1 y4.1.1).bind fun y5 =>
  match y5 with
  | .inl y5_0 =>
    (l26_254 k r26 ()).bind fun y6 =>
    (l26_1020 k r26 ()).bind fun y7 =>
    (l26_2042 k r26 k deep1 y6.1.1 y7.1.1 y4.2.1.1 y4.2.1.2.1 y4.2.1.2.2.1 y4.2.1.2.2.2.1 y4.2.1.2.2.2.2.1 y4.2.1.2.2.2.2.2.1).bind fun y8 =>
    match y8 with
    | .inl y8_0 =>
      some ((y8_0.1.1, ()), ())
    | .inr y8_1 =>
      some ((y8_1.1.1, ()), ())
  | .inr y5_1 =>
    some ((y5_1.1.1, ()), ())
noncomputable def S26 : Nat → T26
  | 0 => (fun _ _ => none)
  | k + 1 => (b26 k (S26 k))
noncomputable def f26 (k : Nat) : T26 := (S26 k)
theorem f26_succ (k : Nat) : f26 (k + 1) = b26 k (f26 k) := rfl
noncomputable def C26 (k : Nat) (r26 : T26) : Nat → Fun := mkC [(20, (F20 (f20 k))), (23, (F23 (f23 k))), (26, (F26 r26))]
theorem c26_ok (k : Nat) (r26 : T26) (h26 : SoundFn Try.prog 26 (F26 r26)) : ∀ f, SoundFn Try.prog f (C26 k r26 f) := (mkC_cons (s20 k) (mkC_cons (s23 k) (mkC_cons h26 mkC_nil)))
noncomputable def H26_2042 (k : Nat) (r26 : T26) : Nat → Option Cut := addH noH 2042 ⟨runCut (wrC (bodyOf (codeAt 2042 (bd Try.f26) 2042))) 167 [1, 2, 9, 10] pa26_2042 pw26_2042 (u26_2042 (l26_2042 k r26 k))⟩
theorem e26_2042 (k : Nat) (r26 : T26) (rec : T26_2042) (x : (pa26_2042).C) : roundF (C26 k r26) tt noH (bodyOf (codeAt 2042 (bd Try.f26) 2042)) 4084 167 [1, 2, 9, 10] pa26_2042 pw26_2042 (u26_2042 rec) x = u26_2042 (b26_2042 k r26 rec) x := by kernel_rfl
theorem h26_2042_ok (k : Nat) (r26 : T26) (h26 : SoundFn Try.prog 26 (F26 r26)) : ∀ p S, H26_2042 k r26 p = some S → ∀ c, At (bd Try.f26) p c → CutOk Try.prog c S :=
  have hC := c26_ok k r26 h26
  addLoop hC ttOk (draw_ok hC ttOk mixed) noH_ok (by kernel_rfl) (F := fun j => u26_2042 (l26_2042 k r26 j)) (fun _ => rfl) (fun j x _ h => (e26_2042 k r26 (l26_2042 k r26 j) x).trans h) k
noncomputable def H26_1020 (k : Nat) (r26 : T26) : Nat → Option Cut := addH (H26_2042 k r26) 1020 ⟨runCut (wrC (codeAt 1020 (bd Try.f26) 1020)) 167 [] pa26_1020 pw26_1020 (u26_1020 (l26_1020 k r26))⟩
theorem e26_1020 (k : Nat) (r26 : T26) (x : (pa26_1020).C) : pieceF (C26 k r26) tt (H26_2042 k r26) (codeAt 1020 (bd Try.f26) 1020) 1020 167 [] pa26_1020 pw26_1020 x = u26_1020 (l26_1020 k r26) x := by kernel_rfl
theorem h26_1020_ok (k : Nat) (r26 : T26) (h26 : SoundFn Try.prog 26 (F26 r26)) : ∀ p S, H26_1020 k r26 p = some S → ∀ c, At (bd Try.f26) p c → CutOk Try.prog c S :=
  have hC := c26_ok k r26 h26
  addPiece hC ttOk (draw_ok hC ttOk mixed) (h26_2042_ok k r26 h26) (fun x _ h => (e26_1020 k r26 x).trans h)
noncomputable def H26_254 (k : Nat) (r26 : T26) : Nat → Option Cut := addH (H26_1020 k r26) 254 ⟨runCut (wrC (codeAt 254 (bd Try.f26) 254)) 167 [] pa26_254 pw26_254 (u26_254 (l26_254 k r26))⟩
theorem e26_254 (k : Nat) (r26 : T26) (x : (pa26_254).C) : pieceF (C26 k r26) tt (H26_1020 k r26) (codeAt 254 (bd Try.f26) 254) 254 167 [] pa26_254 pw26_254 x = u26_254 (l26_254 k r26) x := by kernel_rfl
theorem h26_254_ok (k : Nat) (r26 : T26) (h26 : SoundFn Try.prog 26 (F26 r26)) : ∀ p S, H26_254 k r26 p = some S → ∀ c, At (bd Try.f26) p c → CutOk Try.prog c S :=
  have hC := c26_ok k r26 h26
  addPiece hC ttOk (draw_ok hC ttOk mixed) (h26_1020_ok k r26 h26) (fun x _ h => (e26_254 k r26 x).trans h)
noncomputable def H26_252 (k : Nat) (r26 : T26) : Nat → Option Cut := addH (H26_254 k r26) 252 ⟨runCut (wrC (codeAt 252 (bd Try.f26) 252)) 167 [1, 5, 6, 7, 8] pa26_252 pw26_252 (u26_252 (l26_252 k r26))⟩
theorem e26_252 (k : Nat) (r26 : T26) (x : (pa26_252).C) : pieceF (C26 k r26) tt (H26_254 k r26) (codeAt 252 (bd Try.f26) 252) 252 167 [1, 5, 6, 7, 8] pa26_252 pw26_252 x = u26_252 (l26_252 k r26) x := by kernel_rfl
theorem h26_252_ok (k : Nat) (r26 : T26) (h26 : SoundFn Try.prog 26 (F26 r26)) : ∀ p S, H26_252 k r26 p = some S → ∀ c, At (bd Try.f26) p c → CutOk Try.prog c S :=
  have hC := c26_ok k r26 h26
  addPiece hC ttOk (draw_ok hC ttOk mixed) (h26_254_ok k r26 h26) (fun x _ h => (e26_252 k r26 x).trans h)
noncomputable def H26_126 (k : Nat) (r26 : T26) : Nat → Option Cut := addH (H26_252 k r26) 126 ⟨runCut (wrC (codeAt 126 (bd Try.f26) 126)) 167 [1, 5, 6, 7, 8] pa26_126 pw26_126 (u26_126 (l26_126 k r26))⟩
theorem e26_126 (k : Nat) (r26 : T26) (x : (pa26_126).C) : pieceF (C26 k r26) tt (H26_252 k r26) (codeAt 126 (bd Try.f26) 126) 126 167 [1, 5, 6, 7, 8] pa26_126 pw26_126 x = u26_126 (l26_126 k r26) x := by kernel_rfl
theorem h26_126_ok (k : Nat) (r26 : T26) (h26 : SoundFn Try.prog 26 (F26 r26)) : ∀ p S, H26_126 k r26 p = some S → ∀ c, At (bd Try.f26) p c → CutOk Try.prog c S :=
  have hC := c26_ok k r26 h26
  addPiece hC ttOk (draw_ok hC ttOk mixed) (h26_252_ok k r26 h26) (fun x _ h => (e26_126 k r26 x).trans h)
noncomputable def H26_62 (k : Nat) (r26 : T26) : Nat → Option Cut := addH (H26_126 k r26) 62 ⟨runCut (wrC (codeAt 62 (bd Try.f26) 62)) 167 [2] pa26_62 pw26_62 (u26_62 (l26_62 k r26))⟩
theorem e26_62 (k : Nat) (r26 : T26) (x : (pa26_62).C) : pieceF (C26 k r26) tt (H26_126 k r26) (codeAt 62 (bd Try.f26) 62) 62 167 [2] pa26_62 pw26_62 x = u26_62 (l26_62 k r26) x := by kernel_rfl
theorem h26_62_ok (k : Nat) (r26 : T26) (h26 : SoundFn Try.prog 26 (F26 r26)) : ∀ p S, H26_62 k r26 p = some S → ∀ c, At (bd Try.f26) p c → CutOk Try.prog c S :=
  have hC := c26_ok k r26 h26
  addPiece hC ttOk (draw_ok hC ttOk mixed) (h26_126_ok k r26 h26) (fun x _ h => (e26_62 k r26 x).trans h)
noncomputable def H26_30 (k : Nat) (r26 : T26) : Nat → Option Cut := addH (H26_62 k r26) 30 ⟨runCut (wrC (codeAt 30 (bd Try.f26) 30)) 167 [2] pa26_30 pw26_30 (u26_30 (l26_30 k r26))⟩
theorem e26_30 (k : Nat) (r26 : T26) (x : (pa26_30).C) : pieceF (C26 k r26) tt (H26_62 k r26) (codeAt 30 (bd Try.f26) 30) 30 167 [2] pa26_30 pw26_30 x = u26_30 (l26_30 k r26) x := by kernel_rfl
theorem h26_30_ok (k : Nat) (r26 : T26) (h26 : SoundFn Try.prog 26 (F26 r26)) : ∀ p S, H26_30 k r26 p = some S → ∀ c, At (bd Try.f26) p c → CutOk Try.prog c S :=
  have hC := c26_ok k r26 h26
  addPiece hC ttOk (draw_ok hC ttOk mixed) (h26_62_ok k r26 h26) (fun x _ h => (e26_30 k r26 x).trans h)
noncomputable def H26_14 (k : Nat) (r26 : T26) : Nat → Option Cut := addH (H26_30 k r26) 14 ⟨runCut (wrC (codeAt 14 (bd Try.f26) 14)) 167 [2] pa26_14 pw26_14 (u26_14 (l26_14 k r26))⟩
theorem e26_14 (k : Nat) (r26 : T26) (x : (pa26_14).C) : pieceF (C26 k r26) tt (H26_30 k r26) (codeAt 14 (bd Try.f26) 14) 14 167 [2] pa26_14 pw26_14 x = u26_14 (l26_14 k r26) x := by kernel_rfl
theorem h26_14_ok (k : Nat) (r26 : T26) (h26 : SoundFn Try.prog 26 (F26 r26)) : ∀ p S, H26_14 k r26 p = some S → ∀ c, At (bd Try.f26) p c → CutOk Try.prog c S :=
  have hC := c26_ok k r26 h26
  addPiece hC ttOk (draw_ok hC ttOk mixed) (h26_30_ok k r26 h26) (fun x _ h => (e26_14 k r26 x).trans h)
noncomputable def H26_6 (k : Nat) (r26 : T26) : Nat → Option Cut := addH (H26_14 k r26) 6 ⟨runCut (wrC (codeAt 6 (bd Try.f26) 6)) 167 [2] pa26_6 pw26_6 (u26_6 (l26_6 k r26))⟩
theorem e26_6 (k : Nat) (r26 : T26) (x : (pa26_6).C) : pieceF (C26 k r26) tt (H26_14 k r26) (codeAt 6 (bd Try.f26) 6) 6 167 [2] pa26_6 pw26_6 x = u26_6 (l26_6 k r26) x := by kernel_rfl
theorem h26_6_ok (k : Nat) (r26 : T26) (h26 : SoundFn Try.prog 26 (F26 r26)) : ∀ p S, H26_6 k r26 p = some S → ∀ c, At (bd Try.f26) p c → CutOk Try.prog c S :=
  have hC := c26_ok k r26 h26
  addPiece hC ttOk (draw_ok hC ttOk mixed) (h26_14_ok k r26 h26) (fun x _ h => (e26_6 k r26 x).trans h)
theorem e26 (k : Nat) (r26 : T26) (x : (a26).C) : bodyR (C26 k r26) tt (H26_6 k r26) Try.f26 a26 o26 x = u26 (b26 k r26) x := by kernel_rfl
theorem q26 (k : Nat) (r26 : T26) (h26 : SoundFn Try.prog 26 (F26 r26)) : SoundFn Try.prog 26 (F26 (b26 k r26)) :=
  have hC := c26_ok k r26 h26
  fnR_sound hC ttOk (draw_ok hC ttOk mixed) Try.func26 (c0 := bd Try.f26) rfl (entry Try.func26 rfl (by decide)) (h26_6_ok k r26 h26) rfl (fun x _ h => (e26 k r26 x).trans h)
theorem sAll26 : ∀ k : Nat, SoundFn Try.prog 26 (F26 (f26 k))
  | 0 => noneR_ok (by intro x; rfl)
  | k + 1 =>
    have ih := sAll26 k
    q26 k (f26 k) ih
theorem s26 (k : Nat) : SoundFn Try.prog 26 (F26 (f26 k)) := (sAll26 k)
/-! f72 fathom/fathomref21.Stmts (R) -/
noncomputable def a72 : Shape := ⟨[.d (.slice (.rc 1)), .d i64], []⟩
noncomputable def o72 : List Shape := [⟨[.d i64, .d i64], []⟩]
abbrev R72 : Type := ((Int × Int × Unit) × Unit)
abbrev T72 : Type := (List PStmt) → Int → Option R72
noncomputable def u72 (f : T72) : (a72).C → Option (OutC o72) := fun (x : (((List PStmt) × Int × Unit) × Unit)) => f x.1.1 x.1.2.1
noncomputable def F72 (f : T72) : Fun := ⟨true, runR a72 o72 (u72 f)⟩
noncomputable def pa72_1910782 : Shape := ⟨[.d i64, .d i64], []⟩
noncomputable def pw72_1910782 : List Vm.Way := [⟨.normal, [144], ⟨[.d .bool], []⟩⟩]
abbrev R72_1910782 : Type := ((Bool × Unit) × Unit)
abbrev T72_1910782 : Type := Int → Int → Option R72_1910782
noncomputable def u72_1910782 (f : T72_1910782) : (pa72_1910782).C → Option (WayC pw72_1910782) := fun (x : ((Int × Int × Unit) × Unit)) => f x.1.1 x.1.2.1
noncomputable def l72_1910782 (k : Nat) (r72 : T72) : T72_1910782 := fun n6 m7 =>
  cond (decide (n6 > 200))
    (some ((true, ()), ()))
    (some (((decide (m7 > 8192)), ()), ()))
noncomputable def pa72_955390 : Shape := ⟨[.d i64, .d i64, .d i64], []⟩
noncomputable def pw72_955390 : List Vm.Way := [⟨.normal, [7], ⟨[.d i64], []⟩⟩]
abbrev R72_955390 : Type := ((Int × Unit) × Unit)
abbrev T72_955390 : Type := Int → Int → Int → Option R72_955390
noncomputable def u72_955390 (f : T72_955390) : (pa72_955390).C → Option (WayC pw72_955390) := fun (x : ((Int × Int × Int × Unit) × Unit)) => f x.1.1 x.1.2.1 x.1.2.2.1
noncomputable def l72_955390 (k : Nat) (r72 : T72) : T72_955390 := fun m7 b12 d14 =>
  some (((w64 ((w64 (m7 + b12)) + d14)), ()), ())
noncomputable def pa72_955386 : Shape := ⟨[.d i64, .ptr 0, .d i64], [.box [.d i64, .d .str, .d .str, .d (.slice (.rc 0)), .d (.slice (.rc 1)), .d (.slice (.rc 1)), .d i64]]⟩
noncomputable def pw72_955386 : List Vm.Way := [⟨.exit 2, [7], ⟨[.d i64], [.box [.d i64, .d .str, .d .str, .d (.slice (.rc 0)), .d (.slice (.rc 1)), .d (.slice (.rc 1)), .d i64]]⟩⟩, ⟨.ret, [4, 5], ⟨[.d i64, .d i64], [.box [.d i64, .d .str, .d .str, .d (.slice (.rc 0)), .d (.slice (.rc 1)), .d (.slice (.rc 1)), .d i64]]⟩⟩]
abbrev R72_955386 : Type := (((Int × Unit) × ((Int × ByteArray × ByteArray × (List PExpr) × (List PStmt) × (List PStmt) × Int × Unit) × Unit)) ⊕ ((Int × Int × Unit) × ((Int × ByteArray × ByteArray × (List PExpr) × (List PStmt) × (List PStmt) × Int × Unit) × Unit)))
abbrev T72_955386 : Type := Int → Int → Int → ByteArray → ByteArray → (List PExpr) → (List PStmt) → (List PStmt) → Int → Option R72_955386
noncomputable def u72_955386 (f : T72_955386) : (pa72_955386).C → Option (WayC pw72_955386) := fun (x : ((Int × Unit × Int × Unit) × ((Int × ByteArray × ByteArray × (List PExpr) × (List PStmt) × (List PStmt) × Int × Unit) × Unit))) => f x.1.1 x.1.2.2.1 x.2.1.1 x.2.1.2.1 x.2.1.2.2.1 x.2.1.2.2.2.1 x.2.1.2.2.2.2.1 x.2.1.2.2.2.2.2.1 x.2.1.2.2.2.2.2.2.1
noncomputable def b72_955386 (k : Nat) (r72 : T72) (rec : T72_955386) : T72_955386 := fun m7 k15 o0_0 o0_1 o0_2 o0_3 o0_4 o0_5 o0_6 =>
  cond (decide (k15 < (o0_3.length : Int)))
    (ix o0_3 k15 fun e1 =>
    (f26 k e1 12).bind fun y2 =>
    cond (decide (y2.1.1 < 0))
      (some (.inr (((-1), 0, ()), ((o0_0, o0_1, o0_2, o0_3, o0_4, o0_5, o0_6, ()), ()))))
      ((rec (w64 (m7 + y2.1.1)) (w64 (k15 + 1)) o0_0 o0_1 o0_2 o0_3 o0_4 o0_5 o0_6).bind fun y3 =>
      match y3 with
      | .inl y3_0 =>
        some (.inl ((y3_0.1.1, ()), ((y3_0.2.1.1, y3_0.2.1.2.1, y3_0.2.1.2.2.1, y3_0.2.1.2.2.2.1, y3_0.2.1.2.2.2.2.1, y3_0.2.1.2.2.2.2.2.1, y3_0.2.1.2.2.2.2.2.2.1, ()), ())))
      | .inr y3_1 =>
        some (.inr ((y3_1.1.1, y3_1.1.2.1, ()), ((y3_1.2.1.1, y3_1.2.1.2.1, y3_1.2.1.2.2.1, y3_1.2.1.2.2.2.1, y3_1.2.1.2.2.2.2.1, y3_1.2.1.2.2.2.2.2.1, y3_1.2.1.2.2.2.2.2.2.1, ()), ())))))
    (some (.inl ((m7, ()), ((o0_0, o0_1, o0_2, o0_3, o0_4, o0_5, o0_6, ()), ()))))
noncomputable def l72_955386 (k : Nat) (r72 : T72) : Nat → T72_955386
  | 0 => fun _ _ _ _ _ _ _ _ _ => none
  | j + 1 => b72_955386 k r72 (l72_955386 k r72 j)
noncomputable def pa72_477694 : Shape := ⟨[.d i64, .d i64, .d i64], []⟩
noncomputable def pw72_477694 : List Vm.Way := [⟨.normal, [6], ⟨[.d i64], []⟩⟩]
abbrev R72_477694 : Type := ((Int × Unit) × Unit)
abbrev T72_477694 : Type := Int → Int → Int → Option R72_477694
noncomputable def u72_477694 (f : T72_477694) : (pa72_477694).C → Option (WayC pw72_477694) := fun (x : ((Int × Int × Int × Unit) × Unit)) => f x.1.1 x.1.2.1 x.1.2.2.1
noncomputable def l72_477694 (k : Nat) (r72 : T72) : T72_477694 := fun n6 a11 c_13 =>
  some (((w64 ((w64 ((w64 (n6 + 1)) + a11)) + c_13)), ()), ())
noncomputable def pa72_477692 : Shape := ⟨[], []⟩
noncomputable def pw72_477692 : List Vm.Way := [⟨.normal, [15], ⟨[.d i64], []⟩⟩]
abbrev R72_477692 : Type := ((Int × Unit) × Unit)
abbrev T72_477692 : Type := Unit → Option R72_477692
noncomputable def u72_477692 (f : T72_477692) : (pa72_477692).C → Option (WayC pw72_477692) := fun (x : (Unit × Unit)) => f ()
noncomputable def l72_477692 (k : Nat) (r72 : T72) : T72_477692 := fun _ =>
  some ((0, ()), ())
noncomputable def pa72_238846 : Shape := ⟨[.d i64, .ptr 0], [.box [.d i64, .d .str, .d .str, .d (.slice (.rc 0)), .d (.slice (.rc 1)), .d (.slice (.rc 1)), .d i64]]⟩
noncomputable def pw72_238846 : List Vm.Way := [⟨.normal, [7], ⟨[.d i64], [.box [.d i64, .d .str, .d .str, .d (.slice (.rc 0)), .d (.slice (.rc 1)), .d (.slice (.rc 1)), .d i64]]⟩⟩, ⟨.ret, [4, 5], ⟨[.d i64, .d i64], [.box [.d i64, .d .str, .d .str, .d (.slice (.rc 0)), .d (.slice (.rc 1)), .d (.slice (.rc 1)), .d i64]]⟩⟩]
abbrev R72_238846 : Type := (((Int × Unit) × ((Int × ByteArray × ByteArray × (List PExpr) × (List PStmt) × (List PStmt) × Int × Unit) × Unit)) ⊕ ((Int × Int × Unit) × ((Int × ByteArray × ByteArray × (List PExpr) × (List PStmt) × (List PStmt) × Int × Unit) × Unit)))
abbrev T72_238846 : Type := Int → Int → ByteArray → ByteArray → (List PExpr) → (List PStmt) → (List PStmt) → Int → Option R72_238846
noncomputable def u72_238846 (f : T72_238846) : (pa72_238846).C → Option (WayC pw72_238846) := fun (x : ((Int × Unit × Unit) × ((Int × ByteArray × ByteArray × (List PExpr) × (List PStmt) × (List PStmt) × Int × Unit) × Unit))) => f x.1.1 x.2.1.1 x.2.1.2.1 x.2.1.2.2.1 x.2.1.2.2.2.1 x.2.1.2.2.2.2.1 x.2.1.2.2.2.2.2.1 x.2.1.2.2.2.2.2.2.1
noncomputable def l72_238846 (k : Nat) (r72 : T72) : T72_238846 := fun m7 o0_0 o0_1 o0_2 o0_3 o0_4 o0_5 o0_6 =>
  (l72_477692 k r72 ()).bind fun y1 =>
  (l72_955386 k r72 k m7 y1.1.1 o0_0 o0_1 o0_2 o0_3 o0_4 o0_5 o0_6).bind fun y2 =>
  match y2 with
  | .inl y2_0 =>
    some (.inl ((y2_0.1.1, ()), ((y2_0.2.1.1, y2_0.2.1.2.1, y2_0.2.1.2.2.1, y2_0.2.1.2.2.2.1, y2_0.2.1.2.2.2.2.1, y2_0.2.1.2.2.2.2.2.1, y2_0.2.1.2.2.2.2.2.2.1, ()), ())))
  | .inr y2_1 =>
    some (.inr ((y2_1.1.1, y2_1.1.2.1, ()), ((y2_1.2.1.1, y2_1.2.1.2.1, y2_1.2.1.2.2.1, y2_1.2.1.2.2.2.1, y2_1.2.1.2.2.2.2.1, y2_1.2.1.2.2.2.2.2.1, y2_1.2.1.2.2.2.2.2.2.1, ()), ())))
noncomputable def pa72_238844 : Shape := ⟨[.d i64, .d i64], []⟩
noncomputable def pw72_238844 : List Vm.Way := [⟨.normal, [109], ⟨[.d .bool], []⟩⟩]
abbrev R72_238844 : Type := ((Bool × Unit) × Unit)
abbrev T72_238844 : Type := Int → Int → Option R72_238844
noncomputable def u72_238844 (f : T72_238844) : (pa72_238844).C → Option (WayC pw72_238844) := fun (x : ((Int × Int × Unit) × Unit)) => f x.1.1 x.1.2.1
noncomputable def l72_238844 (k : Nat) (r72 : T72) : T72_238844 := fun a11 c_13 =>
  cond (decide (a11 < 0))
    (some ((true, ()), ()))
    (some (((decide (c_13 < 0)), ()), ()))
noncomputable def pa72_119422 : Shape := ⟨[.d i64, .d i64], []⟩
noncomputable def pw72_119422 : List Vm.Way := [⟨.normal, [], ⟨[], []⟩⟩, ⟨.ret, [4, 5], ⟨[.d i64, .d i64], []⟩⟩]
abbrev R72_119422 : Type := ((Unit × Unit) ⊕ ((Int × Int × Unit) × Unit))
abbrev T72_119422 : Type := Int → Int → Option R72_119422
noncomputable def u72_119422 (f : T72_119422) : (pa72_119422).C → Option (WayC pw72_119422) := fun (x : ((Int × Int × Unit) × Unit)) => f x.1.1 x.1.2.1
noncomputable def l72_119422 (k : Nat) (r72 : T72) : T72_119422 := fun a11 c_13 =>
  (l72_238844 k r72 a11 c_13).bind fun y1 =>
  cond y1.1.1
    (some (.inr (((-1), 0, ()), ())))
    (some (.inl ((), ())))
noncomputable def pa72_59710 : Shape := ⟨[.d i64, .ptr 0], [.box [.d i64, .d .str, .d .str, .d (.slice (.rc 0)), .d (.slice (.rc 1)), .d (.slice (.rc 1)), .d i64]]⟩
noncomputable def pw72_59710 : List Vm.Way := [⟨.normal, [13, 14], ⟨[.d i64, .d i64], [.box [.d i64, .d .str, .d .str, .d (.slice (.rc 0)), .d (.slice (.rc 1)), .d (.slice (.rc 1)), .d i64]]⟩⟩]
abbrev R72_59710 : Type := ((Int × Int × Unit) × ((Int × ByteArray × ByteArray × (List PExpr) × (List PStmt) × (List PStmt) × Int × Unit) × Unit))
abbrev T72_59710 : Type := Int → Int → ByteArray → ByteArray → (List PExpr) → (List PStmt) → (List PStmt) → Int → Option R72_59710
noncomputable def u72_59710 (f : T72_59710) : (pa72_59710).C → Option (WayC pw72_59710) := fun (x : ((Int × Unit × Unit) × ((Int × ByteArray × ByteArray × (List PExpr) × (List PStmt) × (List PStmt) × Int × Unit) × Unit))) => f x.1.1 x.2.1.1 x.2.1.2.1 x.2.1.2.2.1 x.2.1.2.2.2.1 x.2.1.2.2.2.2.1 x.2.1.2.2.2.2.2.1 x.2.1.2.2.2.2.2.2.1
noncomputable def l72_59710 (k : Nat) (r72 : T72) : T72_59710 := fun deep1 o0_0 o0_1 o0_2 o0_3 o0_4 o0_5 o0_6 =>
  (r72 o0_5 (w64 (deep1 - 1))).bind fun y1 =>
  some ((y1.1.1, y1.1.2.1, ()), ((o0_0, o0_1, o0_2, o0_3, o0_4, o0_5, o0_6, ()), ()))
noncomputable def pa72_29854 : Shape := ⟨[.d i64, .ptr 0], [.box [.d i64, .d .str, .d .str, .d (.slice (.rc 0)), .d (.slice (.rc 1)), .d (.slice (.rc 1)), .d i64]]⟩
noncomputable def pw72_29854 : List Vm.Way := [⟨.normal, [11, 12], ⟨[.d i64, .d i64], [.box [.d i64, .d .str, .d .str, .d (.slice (.rc 0)), .d (.slice (.rc 1)), .d (.slice (.rc 1)), .d i64]]⟩⟩]
abbrev R72_29854 : Type := ((Int × Int × Unit) × ((Int × ByteArray × ByteArray × (List PExpr) × (List PStmt) × (List PStmt) × Int × Unit) × Unit))
abbrev T72_29854 : Type := Int → Int → ByteArray → ByteArray → (List PExpr) → (List PStmt) → (List PStmt) → Int → Option R72_29854
noncomputable def u72_29854 (f : T72_29854) : (pa72_29854).C → Option (WayC pw72_29854) := fun (x : ((Int × Unit × Unit) × ((Int × ByteArray × ByteArray × (List PExpr) × (List PStmt) × (List PStmt) × Int × Unit) × Unit))) => f x.1.1 x.2.1.1 x.2.1.2.1 x.2.1.2.2.1 x.2.1.2.2.2.1 x.2.1.2.2.2.2.1 x.2.1.2.2.2.2.2.1 x.2.1.2.2.2.2.2.2.1
noncomputable def l72_29854 (k : Nat) (r72 : T72) : T72_29854 := fun deep1 o0_0 o0_1 o0_2 o0_3 o0_4 o0_5 o0_6 =>
  (r72 o0_4 (w64 (deep1 - 1))).bind fun y1 =>
  some ((y1.1.1, y1.1.2.1, ()), ((o0_0, o0_1, o0_2, o0_3, o0_4, o0_5, o0_6, ()), ()))
noncomputable def pa72_29852 : Shape := ⟨[.ptr 0, .ptr 1], [.box [.d i64, .d .str, .d .str, .d (.slice (.rc 0)), .d (.slice (.rc 1)), .d (.slice (.rc 1)), .d i64], .arr (some 5) i64]⟩
noncomputable def pw72_29852 : List Vm.Way := [⟨.normal, [87], ⟨[.d .bool], [.box [.d i64, .d .str, .d .str, .d (.slice (.rc 0)), .d (.slice (.rc 1)), .d (.slice (.rc 1)), .d i64], .arr (some 5) i64]⟩⟩]
abbrev R72_29852 : Type := ((Bool × Unit) × ((Int × ByteArray × ByteArray × (List PExpr) × (List PStmt) × (List PStmt) × Int × Unit) × (List Int) × Unit))
abbrev T72_29852 : Type := Int → ByteArray → ByteArray → (List PExpr) → (List PStmt) → (List PStmt) → Int → (List Int) → Option R72_29852
noncomputable def u72_29852 (f : T72_29852) : (pa72_29852).C → Option (WayC pw72_29852) := fun (x : ((Unit × Unit × Unit) × ((Int × ByteArray × ByteArray × (List PExpr) × (List PStmt) × (List PStmt) × Int × Unit) × (List Int) × Unit))) => f x.2.1.1 x.2.1.2.1 x.2.1.2.2.1 x.2.1.2.2.2.1 x.2.1.2.2.2.2.1 x.2.1.2.2.2.2.2.1 x.2.1.2.2.2.2.2.2.1 x.2.2.1
noncomputable def l72_29852 (k : Nat) (r72 : T72) : T72_29852 := fun o0_0 o0_1 o0_2 o0_3 o0_4 o0_5 o0_6 o1 =>
  (o1[0]?).bind fun e1 =>
  (f109 k o0_1 e1).bind fun y2 =>
  cond (!y2.1.1)
    (some ((true, ()), ((o0_0, o0_1, o0_2, o0_3, o0_4, o0_5, o0_6, ()), o1, ())))
    ((o1[1]?).bind fun e3 =>
    (f109 k o0_2 e3).bind fun y4 =>
    cond (!y4.1.1)
      (some ((true, ()), ((o0_0, o0_1, o0_2, o0_3, o0_4, o0_5, o0_6, ()), o1, ())))
      ((o1[2]?).bind fun e5 =>
      cond ((o0_3.length : Int) != e5)
        (some ((true, ()), ((o0_0, o0_1, o0_2, o0_3, o0_4, o0_5, o0_6, ()), o1, ())))
        ((o1[3]?).bind fun e6 =>
        cond (e6 == 0)
          (cond (decide ((o0_4.length : Int) > 0))
            (some ((true, ()), ((o0_0, o0_1, o0_2, o0_3, o0_4, o0_5, o0_6, ()), o1, ())))
            ((o1[4]?).bind fun e7 =>
            cond (e7 == 0)
              (some (((decide ((o0_5.length : Int) > 0)), ()), ((o0_0, o0_1, o0_2, o0_3, o0_4, o0_5, o0_6, ()), o1, ())))
              (some ((false, ()), ((o0_0, o0_1, o0_2, o0_3, o0_4, o0_5, o0_6, ()), o1, ())))))
          ((o1[4]?).bind fun e8 =>
          cond (e8 == 0)
            (some (((decide ((o0_5.length : Int) > 0)), ()), ((o0_0, o0_1, o0_2, o0_3, o0_4, o0_5, o0_6, ()), o1, ())))
            (some ((false, ()), ((o0_0, o0_1, o0_2, o0_3, o0_4, o0_5, o0_6, ()), o1, ())))))))
noncomputable def pa72_58 : Shape := ⟨[.d (.slice (.rc 1)), .d i64, .d i64, .d i64, .d i64], []⟩
noncomputable def pw72_58 : List Vm.Way := [⟨.exit 0, [6, 7], ⟨[.d i64, .d i64], []⟩⟩, ⟨.ret, [4, 5], ⟨[.d i64, .d i64], []⟩⟩]
abbrev R72_58 : Type := (((Int × Int × Unit) × Unit) ⊕ ((Int × Int × Unit) × Unit))
abbrev T72_58 : Type := (List PStmt) → Int → Int → Int → Int → Option R72_58
noncomputable def u72_58 (f : T72_58) : (pa72_58).C → Option (WayC pw72_58) := fun (x : (((List PStmt) × Int × Int × Int × Int × Unit) × Unit)) => f x.1.1 x.1.2.1 x.1.2.2.1 x.1.2.2.2.1 x.1.2.2.2.2.1
noncomputable def b72_58 (k : Nat) (r72 : T72) (rec : T72_58) : T72_58 := fun l0 deep1 n6 m7 i8 =>
  cond (decide (i8 < (l0.length : Int)))
    (ix l0 i8 fun e1 =>
    cond (decide (deep1 < 1))
      (some (.inr (((-1), 0, ()), ())))
      (cond (decide ((sKind e1) < 1))
        (some (.inr (((-1), 0, ()), ())))
        (cond (decide ((sKind e1) > 16))
          (some (.inr (((-1), 0, ()), ())))
          ((f108 k ()).bind fun y2 =>
          ix y2.1.1 (sKind e1) fun e3 =>
          (l72_29852 k r72 (sKind e1) (sName e1) (sLoc e1) (sExprs e1) (sBody e1) (sEls e1) (sPos e1) e3).bind fun y4 =>
          cond y4.1.1
            (some (.inr (((-1), 0, ()), ())))
            ((l72_29854 k r72 deep1 y4.2.1.1 y4.2.1.2.1 y4.2.1.2.2.1 y4.2.1.2.2.2.1 y4.2.1.2.2.2.2.1 y4.2.1.2.2.2.2.2.1 y4.2.1.2.2.2.2.2.2.1).bind fun y5 =>
            (l72_59710 k r72 deep1 y5.2.1.1 y5.2.1.2.1 y5.2.1.2.2.1 y5.2.1.2.2.2.1 y5.2.1.2.2.2.2.1 y5.2.1.2.2.2.2.2.1 y5.2.1.2.2.2.2.2.2.1).bind fun y6 =>
            (l72_119422 k r72 y5.1.1 y6.1.1).bind fun y7 =>
            match y7 with
            | .inl y7_0 =>
              (l72_238846 k r72 m7 y6.2.1.1 y6.2.1.2.1 y6.2.1.2.2.1 y6.2.1.2.2.2.1 y6.2.1.2.2.2.2.1 y6.2.1.2.2.2.2.2.1 y6.2.1.2.2.2.2.2.2.1).bind fun y8 =>
              match y8 with
              | .inl y8_0 =>
                (l72_477694 k r72 n6 y5.1.1 y6.1.1).bind fun y9 =>
                (l72_955390 k r72 y8_0.1.1 y5.1.2.1 y6.1.2.1).bind fun y10 =>
                (l72_1910782 k r72 y9.1.1 y10.1.1).bind fun y11 =>
                cond y11.1.1
                  (some (.inr (((-1), 0, ()), ())))
                  ((rec l0 deep1 y9.1.1 y10.1.1 (w64 (i8 + 1))).bind fun y12 =>
                  match y12 with
                  | .inl y12_0 =>
                    some (.inl ((y12_0.1.1, y12_0.1.2.1, ()), ()))
                  | .inr y12_1 =>
                    some (.inr ((y12_1.1.1, y12_1.1.2.1, ()), ())))
              | .inr y8_1 =>
                some (.inr ((y8_1.1.1, y8_1.1.2.1, ()), ()))
            | .inr y7_1 =>
              some (.inr ((y7_1.1.1, y7_1.1.2.1, ()), ())))))))
    (some (.inl ((n6, m7, ()), ())))
noncomputable def l72_58 (k : Nat) (r72 : T72) : Nat → T72_58
  | 0 => fun _ _ _ _ _ => none
  | j + 1 => b72_58 k r72 (l72_58 k r72 j)
noncomputable def b72 (k : Nat) (r72 : T72) : T72 := fun l0 deep1 =>
  (l72_58 k r72 k l0 deep1 0 0 0).bind fun y1 =>
  match y1 with
  | .inl y1_0 =>
    some ((y1_0.1.1, y1_0.1.2.1, ()), ())
  | .inr y1_1 =>
    some ((y1_1.1.1, y1_1.1.2.1, ()), ())
noncomputable def S72 : Nat → T72
  | 0 => (fun _ _ => none)
  | k + 1 => (b72 k (S72 k))
noncomputable def f72 (k : Nat) : T72 := (S72 k)
theorem f72_succ (k : Nat) : f72 (k + 1) = b72 k (f72 k) := rfl
noncomputable def C72 (k : Nat) (r72 : T72) : Nat → Fun := mkC [(26, (F26 (f26 k))), (72, (F72 r72)), (108, (F108 (f108 k))), (109, (F109 (f109 k)))]
theorem c72_ok (k : Nat) (r72 : T72) (h72 : SoundFn Try.prog 72 (F72 r72)) : ∀ f, SoundFn Try.prog f (C72 k r72 f) := (mkC_cons (s26 k) (mkC_cons h72 (mkC_cons (s108 k) (mkC_cons (s109 k) mkC_nil))))
noncomputable def H72_1910782 (k : Nat) (r72 : T72) : Nat → Option Cut := addH noH 1910782 ⟨runCut (wrC (codeAt 1910782 (bd Try.f72) 1910782)) 147 [6, 7] pa72_1910782 pw72_1910782 (u72_1910782 (l72_1910782 k r72))⟩
theorem e72_1910782 (k : Nat) (r72 : T72) (x : (pa72_1910782).C) : pieceF (C72 k r72) tt noH (codeAt 1910782 (bd Try.f72) 1910782) 1910782 147 [6, 7] pa72_1910782 pw72_1910782 x = u72_1910782 (l72_1910782 k r72) x := by kernel_rfl
theorem h72_1910782_ok (k : Nat) (r72 : T72) (h72 : SoundFn Try.prog 72 (F72 r72)) : ∀ p S, H72_1910782 k r72 p = some S → ∀ c, At (bd Try.f72) p c → CutOk Try.prog c S :=
  have hC := c72_ok k r72 h72
  addPiece hC ttOk (draw_ok hC ttOk mixed) noH_ok (fun x _ h => (e72_1910782 k r72 x).trans h)
noncomputable def H72_955390 (k : Nat) (r72 : T72) : Nat → Option Cut := addH (H72_1910782 k r72) 955390 ⟨runCut (wrC (codeAt 955390 (bd Try.f72) 955390)) 147 [7, 12, 14] pa72_955390 pw72_955390 (u72_955390 (l72_955390 k r72))⟩
theorem e72_955390 (k : Nat) (r72 : T72) (x : (pa72_955390).C) : pieceF (C72 k r72) tt (H72_1910782 k r72) (codeAt 955390 (bd Try.f72) 955390) 955390 147 [7, 12, 14] pa72_955390 pw72_955390 x = u72_955390 (l72_955390 k r72) x := by kernel_rfl
theorem h72_955390_ok (k : Nat) (r72 : T72) (h72 : SoundFn Try.prog 72 (F72 r72)) : ∀ p S, H72_955390 k r72 p = some S → ∀ c, At (bd Try.f72) p c → CutOk Try.prog c S :=
  have hC := c72_ok k r72 h72
  addPiece hC ttOk (draw_ok hC ttOk mixed) (h72_1910782_ok k r72 h72) (fun x _ h => (e72_955390 k r72 x).trans h)
noncomputable def H72_955386 (k : Nat) (r72 : T72) : Nat → Option Cut := addH (H72_955390 k r72) 955386 ⟨runCut (wrC (bodyOf (codeAt 955386 (bd Try.f72) 955386))) 147 [7, 9, 15] pa72_955386 pw72_955386 (u72_955386 (l72_955386 k r72 k))⟩
theorem e72_955386 (k : Nat) (r72 : T72) (rec : T72_955386) (x : (pa72_955386).C) : roundF (C72 k r72) tt (H72_955390 k r72) (bodyOf (codeAt 955386 (bd Try.f72) 955386)) 1910772 147 [7, 9, 15] pa72_955386 pw72_955386 (u72_955386 rec) x = u72_955386 (b72_955386 k r72 rec) x := by kernel_rfl
theorem h72_955386_ok (k : Nat) (r72 : T72) (h72 : SoundFn Try.prog 72 (F72 r72)) : ∀ p S, H72_955386 k r72 p = some S → ∀ c, At (bd Try.f72) p c → CutOk Try.prog c S :=
  have hC := c72_ok k r72 h72
  addLoop hC ttOk (draw_ok hC ttOk mixed) (h72_955390_ok k r72 h72) (by kernel_rfl) (F := fun j => u72_955386 (l72_955386 k r72 j)) (fun _ => rfl) (fun j x _ h => (e72_955386 k r72 (l72_955386 k r72 j) x).trans h) k
noncomputable def H72_477694 (k : Nat) (r72 : T72) : Nat → Option Cut := addH (H72_955386 k r72) 477694 ⟨runCut (wrC (codeAt 477694 (bd Try.f72) 477694)) 147 [6, 11, 13] pa72_477694 pw72_477694 (u72_477694 (l72_477694 k r72))⟩
theorem e72_477694 (k : Nat) (r72 : T72) (x : (pa72_477694).C) : pieceF (C72 k r72) tt (H72_955386 k r72) (codeAt 477694 (bd Try.f72) 477694) 477694 147 [6, 11, 13] pa72_477694 pw72_477694 x = u72_477694 (l72_477694 k r72) x := by kernel_rfl
theorem h72_477694_ok (k : Nat) (r72 : T72) (h72 : SoundFn Try.prog 72 (F72 r72)) : ∀ p S, H72_477694 k r72 p = some S → ∀ c, At (bd Try.f72) p c → CutOk Try.prog c S :=
  have hC := c72_ok k r72 h72
  addPiece hC ttOk (draw_ok hC ttOk mixed) (h72_955386_ok k r72 h72) (fun x _ h => (e72_477694 k r72 x).trans h)
noncomputable def H72_477692 (k : Nat) (r72 : T72) : Nat → Option Cut := addH (H72_477694 k r72) 477692 ⟨runCut (wrC (codeAt 477692 (bd Try.f72) 477692)) 147 [] pa72_477692 pw72_477692 (u72_477692 (l72_477692 k r72))⟩
theorem e72_477692 (k : Nat) (r72 : T72) (x : (pa72_477692).C) : pieceF (C72 k r72) tt (H72_477694 k r72) (codeAt 477692 (bd Try.f72) 477692) 477692 147 [] pa72_477692 pw72_477692 x = u72_477692 (l72_477692 k r72) x := by kernel_rfl
theorem h72_477692_ok (k : Nat) (r72 : T72) (h72 : SoundFn Try.prog 72 (F72 r72)) : ∀ p S, H72_477692 k r72 p = some S → ∀ c, At (bd Try.f72) p c → CutOk Try.prog c S :=
  have hC := c72_ok k r72 h72
  addPiece hC ttOk (draw_ok hC ttOk mixed) (h72_477694_ok k r72 h72) (fun x _ h => (e72_477692 k r72 x).trans h)
noncomputable def H72_238846 (k : Nat) (r72 : T72) : Nat → Option Cut := addH (H72_477692 k r72) 238846 ⟨runCut (wrC (codeAt 238846 (bd Try.f72) 238846)) 147 [7, 9] pa72_238846 pw72_238846 (u72_238846 (l72_238846 k r72))⟩
theorem e72_238846 (k : Nat) (r72 : T72) (x : (pa72_238846).C) : pieceF (C72 k r72) tt (H72_477692 k r72) (codeAt 238846 (bd Try.f72) 238846) 238846 147 [7, 9] pa72_238846 pw72_238846 x = u72_238846 (l72_238846 k r72) x := by kernel_rfl
theorem h72_238846_ok (k : Nat) (r72 : T72) (h72 : SoundFn Try.prog 72 (F72 r72)) : ∀ p S, H72_238846 k r72 p = some S → ∀ c, At (bd Try.f72) p c → CutOk Try.prog c S :=
  have hC := c72_ok k r72 h72
  addPiece hC ttOk (draw_ok hC ttOk mixed) (h72_477692_ok k r72 h72) (fun x _ h => (e72_238846 k r72 x).trans h)
noncomputable def H72_238844 (k : Nat) (r72 : T72) : Nat → Option Cut := addH (H72_238846 k r72) 238844 ⟨runCut (wrC (codeAt 238844 (bd Try.f72) 238844)) 147 [11, 13] pa72_238844 pw72_238844 (u72_238844 (l72_238844 k r72))⟩
theorem e72_238844 (k : Nat) (r72 : T72) (x : (pa72_238844).C) : pieceF (C72 k r72) tt (H72_238846 k r72) (codeAt 238844 (bd Try.f72) 238844) 238844 147 [11, 13] pa72_238844 pw72_238844 x = u72_238844 (l72_238844 k r72) x := by kernel_rfl
theorem h72_238844_ok (k : Nat) (r72 : T72) (h72 : SoundFn Try.prog 72 (F72 r72)) : ∀ p S, H72_238844 k r72 p = some S → ∀ c, At (bd Try.f72) p c → CutOk Try.prog c S :=
  have hC := c72_ok k r72 h72
  addPiece hC ttOk (draw_ok hC ttOk mixed) (h72_238846_ok k r72 h72) (fun x _ h => (e72_238844 k r72 x).trans h)
noncomputable def H72_119422 (k : Nat) (r72 : T72) : Nat → Option Cut := addH (H72_238844 k r72) 119422 ⟨runCut (wrC (codeAt 119422 (bd Try.f72) 119422)) 147 [11, 13] pa72_119422 pw72_119422 (u72_119422 (l72_119422 k r72))⟩
theorem e72_119422 (k : Nat) (r72 : T72) (x : (pa72_119422).C) : pieceF (C72 k r72) tt (H72_238844 k r72) (codeAt 119422 (bd Try.f72) 119422) 119422 147 [11, 13] pa72_119422 pw72_119422 x = u72_119422 (l72_119422 k r72) x := by kernel_rfl
theorem h72_119422_ok (k : Nat) (r72 : T72) (h72 : SoundFn Try.prog 72 (F72 r72)) : ∀ p S, H72_119422 k r72 p = some S → ∀ c, At (bd Try.f72) p c → CutOk Try.prog c S :=
  have hC := c72_ok k r72 h72
  addPiece hC ttOk (draw_ok hC ttOk mixed) (h72_238844_ok k r72 h72) (fun x _ h => (e72_119422 k r72 x).trans h)
noncomputable def H72_59710 (k : Nat) (r72 : T72) : Nat → Option Cut := addH (H72_119422 k r72) 59710 ⟨runCut (wrC (codeAt 59710 (bd Try.f72) 59710)) 147 [1, 9] pa72_59710 pw72_59710 (u72_59710 (l72_59710 k r72))⟩
theorem e72_59710 (k : Nat) (r72 : T72) (x : (pa72_59710).C) : pieceF (C72 k r72) tt (H72_119422 k r72) (codeAt 59710 (bd Try.f72) 59710) 59710 147 [1, 9] pa72_59710 pw72_59710 x = u72_59710 (l72_59710 k r72) x := by kernel_rfl
theorem h72_59710_ok (k : Nat) (r72 : T72) (h72 : SoundFn Try.prog 72 (F72 r72)) : ∀ p S, H72_59710 k r72 p = some S → ∀ c, At (bd Try.f72) p c → CutOk Try.prog c S :=
  have hC := c72_ok k r72 h72
  addPiece hC ttOk (draw_ok hC ttOk mixed) (h72_119422_ok k r72 h72) (fun x _ h => (e72_59710 k r72 x).trans h)
noncomputable def H72_29854 (k : Nat) (r72 : T72) : Nat → Option Cut := addH (H72_59710 k r72) 29854 ⟨runCut (wrC (codeAt 29854 (bd Try.f72) 29854)) 147 [1, 9] pa72_29854 pw72_29854 (u72_29854 (l72_29854 k r72))⟩
theorem e72_29854 (k : Nat) (r72 : T72) (x : (pa72_29854).C) : pieceF (C72 k r72) tt (H72_59710 k r72) (codeAt 29854 (bd Try.f72) 29854) 29854 147 [1, 9] pa72_29854 pw72_29854 x = u72_29854 (l72_29854 k r72) x := by kernel_rfl
theorem h72_29854_ok (k : Nat) (r72 : T72) (h72 : SoundFn Try.prog 72 (F72 r72)) : ∀ p S, H72_29854 k r72 p = some S → ∀ c, At (bd Try.f72) p c → CutOk Try.prog c S :=
  have hC := c72_ok k r72 h72
  addPiece hC ttOk (draw_ok hC ttOk mixed) (h72_59710_ok k r72 h72) (fun x _ h => (e72_29854 k r72 x).trans h)
noncomputable def H72_29852 (k : Nat) (r72 : T72) : Nat → Option Cut := addH (H72_29854 k r72) 29852 ⟨runCut (wrC (codeAt 29852 (bd Try.f72) 29852)) 147 [9, 10] pa72_29852 pw72_29852 (u72_29852 (l72_29852 k r72))⟩
theorem e72_29852 (k : Nat) (r72 : T72) (x : (pa72_29852).C) : pieceF (C72 k r72) tt (H72_29854 k r72) (codeAt 29852 (bd Try.f72) 29852) 29852 147 [9, 10] pa72_29852 pw72_29852 x = u72_29852 (l72_29852 k r72) x := by kernel_rfl
theorem h72_29852_ok (k : Nat) (r72 : T72) (h72 : SoundFn Try.prog 72 (F72 r72)) : ∀ p S, H72_29852 k r72 p = some S → ∀ c, At (bd Try.f72) p c → CutOk Try.prog c S :=
  have hC := c72_ok k r72 h72
  addPiece hC ttOk (draw_ok hC ttOk mixed) (h72_29854_ok k r72 h72) (fun x _ h => (e72_29852 k r72 x).trans h)
noncomputable def H72_58 (k : Nat) (r72 : T72) : Nat → Option Cut := addH (H72_29852 k r72) 58 ⟨runCut (wrC (bodyOf (codeAt 58 (bd Try.f72) 58))) 147 [0, 1, 6, 7, 8] pa72_58 pw72_58 (u72_58 (l72_58 k r72 k))⟩
theorem e72_58 (k : Nat) (r72 : T72) (rec : T72_58) (x : (pa72_58).C) : roundF (C72 k r72) tt (H72_29852 k r72) (bodyOf (codeAt 58 (bd Try.f72) 58)) 116 147 [0, 1, 6, 7, 8] pa72_58 pw72_58 (u72_58 rec) x = u72_58 (b72_58 k r72 rec) x := by kernel_rfl
theorem h72_58_ok (k : Nat) (r72 : T72) (h72 : SoundFn Try.prog 72 (F72 r72)) : ∀ p S, H72_58 k r72 p = some S → ∀ c, At (bd Try.f72) p c → CutOk Try.prog c S :=
  have hC := c72_ok k r72 h72
  addLoop hC ttOk (draw_ok hC ttOk mixed) (h72_29852_ok k r72 h72) (by kernel_rfl) (F := fun j => u72_58 (l72_58 k r72 j)) (fun _ => rfl) (fun j x _ h => (e72_58 k r72 (l72_58 k r72 j) x).trans h) k
theorem e72 (k : Nat) (r72 : T72) (x : (a72).C) : bodyR (C72 k r72) tt (H72_58 k r72) Try.f72 a72 o72 x = u72 (b72 k r72) x := by kernel_rfl
theorem q72 (k : Nat) (r72 : T72) (h72 : SoundFn Try.prog 72 (F72 r72)) : SoundFn Try.prog 72 (F72 (b72 k r72)) :=
  have hC := c72_ok k r72 h72
  fnR_sound hC ttOk (draw_ok hC ttOk mixed) Try.func72 (c0 := bd Try.f72) rfl (entry Try.func72 rfl (by decide)) (h72_58_ok k r72 h72) rfl (fun x _ h => (e72 k r72 x).trans h)
theorem sAll72 : ∀ k : Nat, SoundFn Try.prog 72 (F72 (f72 k))
  | 0 => noneR_ok (by intro x; rfl)
  | k + 1 =>
    have ih := sAll72 k
    q72 k (f72 k) ih
theorem s72 (k : Nat) : SoundFn Try.prog 72 (F72 (f72 k)) := (sAll72 k)
/-! f32 fathom/fathomref21.Size (R) -/
noncomputable def a32 : Shape := ⟨[.d T_Prog], []⟩
noncomputable def o32 : List Shape := [⟨[.d i64, .d i64], []⟩]
abbrev R32 : Type := ((Int × Int × Unit) × Unit)
abbrev T32 : Type := D_Prog → Option R32
noncomputable def u32 (f : T32) : (a32).C → Option (OutC o32) := fun (x : ((D_Prog × Unit) × Unit)) => f x.1.1
noncomputable def F32 (f : T32) : Fun := ⟨true, runR a32 o32 (u32 f)⟩
noncomputable def pa32_250 : Shape := ⟨[.ptr 0, .d i64, .d i64, .d i64], [.box [.d i64, .d (.slice T_Decl), .d (.slice T_Proc)]]⟩
noncomputable def pw32_250 : List Vm.Way := [⟨.exit 2, [6, 7], ⟨[.d i64, .d i64], [.box [.d i64, .d (.slice T_Decl), .d (.slice T_Proc)]]⟩⟩, ⟨.ret, [2, 3], ⟨[.d i64, .d i64], [.box [.d i64, .d (.slice T_Decl), .d (.slice T_Proc)]]⟩⟩]
abbrev R32_250 : Type := (((Int × Int × Unit) × ((Int × (List D_Decl) × (List D_Proc) × Unit) × Unit)) ⊕ ((Int × Int × Unit) × ((Int × (List D_Decl) × (List D_Proc) × Unit) × Unit)))
abbrev T32_250 : Type := Int → Int → Int → Int → (List D_Decl) → (List D_Proc) → Option R32_250
noncomputable def u32_250 (f : T32_250) : (pa32_250).C → Option (WayC pw32_250) := fun (x : ((Unit × Int × Int × Int × Unit) × ((Int × (List D_Decl) × (List D_Proc) × Unit) × Unit))) => f x.1.2.1 x.1.2.2.1 x.1.2.2.2.1 x.2.1.1 x.2.1.2.1 x.2.1.2.2.1
noncomputable def b32_250 (k : Nat) (rec : T32_250) : T32_250 := fun n6 m7 i8 o0_0 o0_1 o0_2 =>
  cond (decide (i8 < (o0_2.length : Int)))
    (ix o0_2 i8 fun e1 =>
    (f72 k e1.2.1 12).bind fun y2 =>
    cond (decide (y2.1.1 < 0))
      (some (.inr (((-1), 0, ()), ((o0_0, o0_1, o0_2, ()), ()))))
      (ix o0_2 i8 fun e3 =>
      (f20 k e3.1).bind fun y4 =>
      cond (!y4.1.1)
        (some (.inr (((-1), 0, ()), ((o0_0, o0_1, o0_2, ()), ()))))
        ((rec (w64 (n6 + y2.1.1)) (w64 (m7 + y2.1.2.1)) (w64 (i8 + 1)) o0_0 o0_1 o0_2).bind fun y5 =>
        match y5 with
        | .inl y5_0 =>
          some (.inl ((y5_0.1.1, y5_0.1.2.1, ()), ((y5_0.2.1.1, y5_0.2.1.2.1, y5_0.2.1.2.2.1, ()), ())))
        | .inr y5_1 =>
          some (.inr ((y5_1.1.1, y5_1.1.2.1, ()), ((y5_1.2.1.1, y5_1.2.1.2.1, y5_1.2.1.2.2.1, ()), ()))))))
    (some (.inl ((n6, m7, ()), ((o0_0, o0_1, o0_2, ()), ()))))
noncomputable def l32_250 (k : Nat) : Nat → T32_250
  | 0 => fun _ _ _ _ _ _ => none
  | j + 1 => b32_250 k (l32_250 k j)
noncomputable def pa32_58 : Shape := ⟨[.ptr 0, .d i64], [.box [.d i64, .d (.slice T_Decl), .d (.slice T_Proc)]]⟩
noncomputable def pw32_58 : List Vm.Way := [⟨.exit 0, [], ⟨[], [.box [.d i64, .d (.slice T_Decl), .d (.slice T_Proc)]]⟩⟩, ⟨.ret, [2, 3], ⟨[.d i64, .d i64], [.box [.d i64, .d (.slice T_Decl), .d (.slice T_Proc)]]⟩⟩]
abbrev R32_58 : Type := ((Unit × ((Int × (List D_Decl) × (List D_Proc) × Unit) × Unit)) ⊕ ((Int × Int × Unit) × ((Int × (List D_Decl) × (List D_Proc) × Unit) × Unit)))
abbrev T32_58 : Type := Int → Int → (List D_Decl) → (List D_Proc) → Option R32_58
noncomputable def u32_58 (f : T32_58) : (pa32_58).C → Option (WayC pw32_58) := fun (x : ((Unit × Int × Unit) × ((Int × (List D_Decl) × (List D_Proc) × Unit) × Unit))) => f x.1.2.1 x.2.1.1 x.2.1.2.1 x.2.1.2.2.1
noncomputable def b32_58 (k : Nat) (rec : T32_58) : T32_58 := fun i4 o0_0 o0_1 o0_2 =>
  cond (decide (i4 < (o0_1.length : Int)))
    (ix o0_1 i4 fun e1 =>
    cond (decide (e1.1 < 1))
      (some (.inr (((-1), 0, ()), ((o0_0, o0_1, o0_2, ()), ()))))
      (cond (decide (e1.1 > 4))
        (some (.inr (((-1), 0, ()), ((o0_0, o0_1, o0_2, ()), ()))))
        ((f20 k e1.2.1).bind fun y2 =>
        cond (!y2.1.1)
          (some (.inr (((-1), 0, ()), ((o0_0, o0_1, o0_2, ()), ()))))
          (cond (decide (e1.2.2.1 < 0))
            (some (.inr (((-1), 0, ()), ((o0_0, o0_1, o0_2, ()), ()))))
            (cond (decide (e1.2.2.1 > 65535))
              (some (.inr (((-1), 0, ()), ((o0_0, o0_1, o0_2, ()), ()))))
              (cond (e1.1 == 3)
                (cond (e1.2.2.1 != 0)
                  (some (.inr (((-1), 0, ()), ((o0_0, o0_1, o0_2, ()), ()))))
                  ((rec (w64 (i4 + 1)) o0_0 o0_1 o0_2).bind fun y3 =>
                  match y3 with
                  | .inl y3_0 =>
                    some (.inl ((), ((y3_0.2.1.1, y3_0.2.1.2.1, y3_0.2.1.2.2.1, ()), ())))
                  | .inr y3_1 =>
                    some (.inr ((y3_1.1.1, y3_1.1.2.1, ()), ((y3_1.2.1.1, y3_1.2.1.2.1, y3_1.2.1.2.2.1, ()), ())))))
                ((rec (w64 (i4 + 1)) o0_0 o0_1 o0_2).bind fun y4 =>
                match y4 with
                | .inl y4_0 =>
                  some (.inl ((), ((y4_0.2.1.1, y4_0.2.1.2.1, y4_0.2.1.2.2.1, ()), ())))
                | .inr y4_1 =>
                  some (.inr ((y4_1.1.1, y4_1.1.2.1, ()), ((y4_1.2.1.1, y4_1.2.1.2.1, y4_1.2.1.2.2.1, ()), ()))))))))))
    (some (.inl ((), ((o0_0, o0_1, o0_2, ()), ()))))
noncomputable def l32_58 (k : Nat) : Nat → T32_58
  | 0 => fun _ _ _ _ => none
  | j + 1 => b32_58 k (l32_58 k j)
noncomputable def f32 (k : Nat) : T32 := fun p0 =>
  cond (decide (p0.1 < 0))
    (some (((-1), 0, ()), ()))
    (cond (decide (p0.1 > 65535))
      (some (((-1), 0, ()), ()))
      (cond (decide ((p0.2.1.length : Int) > 12))
        (some (((-1), 0, ()), ()))
        (cond (decide ((p0.2.2.1.length : Int) < 1))
          (some (((-1), 0, ()), ()))
          (cond (decide ((p0.2.2.1.length : Int) > 6))
            (some (((-1), 0, ()), ()))
            ((l32_58 k k 0 p0.1 p0.2.1 p0.2.2.1).bind fun y1 =>
            match y1 with
            | .inl y1_0 =>
              (l32_250 k k 0 0 0 y1_0.2.1.1 y1_0.2.1.2.1 y1_0.2.1.2.2.1).bind fun y2 =>
              match y2 with
              | .inl y2_0 =>
                cond (decide (y2_0.1.1 > 200))
                  (some (((-1), 0, ()), ()))
                  (cond (decide (y2_0.1.2.1 > 8192))
                    (some (((-1), 0, ()), ()))
                    (some ((y2_0.1.1, y2_0.1.2.1, ()), ())))
              | .inr y2_1 =>
                some ((y2_1.1.1, y2_1.1.2.1, ()), ())
            | .inr y1_1 =>
              some ((y1_1.1.1, y1_1.1.2.1, ()), ()))))))
noncomputable def C32 (k : Nat) : Nat → Fun := mkC [(20, (F20 (f20 k))), (72, (F72 (f72 k)))]
theorem c32_ok (k : Nat) : ∀ f, SoundFn Try.prog f (C32 k f) := (mkC_cons (s20 k) (mkC_cons (s72 k) mkC_nil))
noncomputable def H32_250 (k : Nat) : Nat → Option Cut := addH noH 250 ⟨runCut (wrC (bodyOf (codeAt 250 (bd Try.f32) 250))) 126 [1, 6, 7, 8] pa32_250 pw32_250 (u32_250 (l32_250 k k))⟩
theorem e32_250 (k : Nat) (rec : T32_250) (x : (pa32_250).C) : roundF (C32 k) tt noH (bodyOf (codeAt 250 (bd Try.f32) 250)) 500 126 [1, 6, 7, 8] pa32_250 pw32_250 (u32_250 rec) x = u32_250 (b32_250 k rec) x := by kernel_rfl
theorem h32_250_ok (k : Nat) : ∀ p S, H32_250 k p = some S → ∀ c, At (bd Try.f32) p c → CutOk Try.prog c S :=
  have hC := c32_ok k
  addLoop hC ttOk (draw_ok hC ttOk mixed) noH_ok (by kernel_rfl) (F := fun j => u32_250 (l32_250 k j)) (fun _ => rfl) (fun j x _ h => (e32_250 k (l32_250 k j) x).trans h) k
noncomputable def H32_58 (k : Nat) : Nat → Option Cut := addH (H32_250 k) 58 ⟨runCut (wrC (bodyOf (codeAt 58 (bd Try.f32) 58))) 126 [1, 4] pa32_58 pw32_58 (u32_58 (l32_58 k k))⟩
theorem e32_58 (k : Nat) (rec : T32_58) (x : (pa32_58).C) : roundF (C32 k) tt (H32_250 k) (bodyOf (codeAt 58 (bd Try.f32) 58)) 116 126 [1, 4] pa32_58 pw32_58 (u32_58 rec) x = u32_58 (b32_58 k rec) x := by kernel_rfl
theorem h32_58_ok (k : Nat) : ∀ p S, H32_58 k p = some S → ∀ c, At (bd Try.f32) p c → CutOk Try.prog c S :=
  have hC := c32_ok k
  addLoop hC ttOk (draw_ok hC ttOk mixed) (h32_250_ok k) (by kernel_rfl) (F := fun j => u32_58 (l32_58 k j)) (fun _ => rfl) (fun j x _ h => (e32_58 k (l32_58 k j) x).trans h) k
theorem e32 (k : Nat) (x : (a32).C) : bodyR (C32 k) tt (H32_58 k) Try.f32 a32 o32 x = u32 (f32 k) x := by kernel_rfl
theorem s32 (k : Nat) : SoundFn Try.prog 32 (F32 (f32 k)) :=
  have hC := c32_ok k
  fnR_sound hC ttOk (draw_ok hC ttOk mixed) Try.func32 (c0 := bd Try.f32) rfl (entry Try.func32 rfl (by decide)) (h32_58_ok k) rfl (fun x _ h => (e32 k x).trans h)
/-! f37 fathom/fathomref21.May (R) -/
noncomputable def a37 : Shape := ⟨[.d T_Prog], []⟩
noncomputable def o37 : List Shape := [⟨[.d .bool], []⟩]
abbrev R37 : Type := ((Bool × Unit) × Unit)
abbrev T37 : Type := D_Prog → Option R37
noncomputable def u37 (f : T37) : (a37).C → Option (OutC o37) := fun (x : ((D_Prog × Unit) × Unit)) => f x.1.1
noncomputable def F37 (f : T37) : Fun := ⟨true, runR a37 o37 (u37 f)⟩
noncomputable def f37 (k : Nat) : T37 := fun p0 =>
  (f32 k p0).bind fun y1 =>
  some (((decide (y1.1.1 ≥ 0)), ()), ())
noncomputable def C37 (k : Nat) : Nat → Fun := mkC [(32, (F32 (f32 k)))]
theorem c37_ok (k : Nat) : ∀ f, SoundFn Try.prog f (C37 k f) := (mkC_cons (s32 k) mkC_nil)
theorem e37 (k : Nat) (x : (a37).C) : bodyR (C37 k) tt noH Try.f37 a37 o37 x = u37 (f37 k) x := by kernel_rfl
theorem s37 (k : Nat) : SoundFn Try.prog 37 (F37 (f37 k)) :=
  have hC := c37_ok k
  fnR_sound hC ttOk (draw_ok hC ttOk mixed) Try.func37 (c0 := bd Try.f37) rfl (entry Try.func37 rfl (by decide)) noH_ok rfl (fun x _ h => (e37 k x).trans h)
/-! f111 fathom/fathomlaw21.bareExprs (R) -/
noncomputable def a111 : Shape := ⟨[.d (.slice (.rc 0))], []⟩
noncomputable def o111 : List Shape := [⟨[.d .bool], []⟩]
abbrev R111 : Type := ((Bool × Unit) × Unit)
abbrev T111 : Type := (List PExpr) → Option R111
noncomputable def u111 (f : T111) : (a111).C → Option (OutC o111) := fun (x : (((List PExpr) × Unit) × Unit)) => f x.1.1
noncomputable def F111 (f : T111) : Fun := ⟨true, runR a111 o111 (u111 f)⟩
noncomputable def pa111_26 : Shape := ⟨[.d (.slice (.rc 0)), .d i64], []⟩
noncomputable def pw111_26 : List Vm.Way := [⟨.exit 0, [], ⟨[], []⟩⟩, ⟨.ret, [2], ⟨[.d .bool], []⟩⟩]
abbrev R111_26 : Type := ((Unit × Unit) ⊕ ((Bool × Unit) × Unit))
abbrev T111_26 : Type := (List PExpr) → Int → Option R111_26
noncomputable def u111_26 (f : T111_26) : (pa111_26).C → Option (WayC pw111_26) := fun (x : (((List PExpr) × Int × Unit) × Unit)) => f x.1.1 x.1.2.1
noncomputable def b111_26 (k : Nat) (r111 : T111) (rec : T111_26) : T111_26 := fun l0 i3 =>
  cond (decide (i3 < (l0.length : Int)))
    (ix l0 i3 fun e1 =>
    cond ((ePos e1) != 0)
      (some (.inr ((false, ()), ())))
      (ix l0 i3 fun e2 =>
      (r111 (eKids e2)).bind fun y3 =>
      cond (!y3.1.1)
        (some (.inr ((false, ()), ())))
        ((rec l0 (w64 (i3 + 1))).bind fun y4 =>
        match y4 with
        | .inl y4_0 =>
          some (.inl ((), ()))
        | .inr y4_1 =>
          some (.inr ((y4_1.1.1, ()), ())))))
    (some (.inl ((), ())))
noncomputable def l111_26 (k : Nat) (r111 : T111) : Nat → T111_26
  | 0 => fun _ _ => none
  | j + 1 => b111_26 k r111 (l111_26 k r111 j)
noncomputable def b111 (k : Nat) (r111 : T111) : T111 := fun l0 =>
  (l111_26 k r111 k l0 0).bind fun y1 =>
  match y1 with
  | .inl y1_0 =>
    some ((true, ()), ())
  | .inr y1_1 =>
    some ((y1_1.1.1, ()), ())
noncomputable def S111 : Nat → T111
  | 0 => (fun _ => none)
  | k + 1 => (b111 k (S111 k))
noncomputable def f111 (k : Nat) : T111 := (S111 k)
theorem f111_succ (k : Nat) : f111 (k + 1) = b111 k (f111 k) := rfl
noncomputable def C111 (k : Nat) (r111 : T111) : Nat → Fun := mkC [(111, (F111 r111))]
theorem c111_ok (k : Nat) (r111 : T111) (h111 : SoundFn Try.prog 111 (F111 r111)) : ∀ f, SoundFn Try.prog f (C111 k r111 f) := (mkC_cons h111 mkC_nil)
noncomputable def H111_26 (k : Nat) (r111 : T111) : Nat → Option Cut := addH noH 26 ⟨runCut (wrC (bodyOf (codeAt 26 (bd Try.f111) 26))) 25 [0, 3] pa111_26 pw111_26 (u111_26 (l111_26 k r111 k))⟩
theorem e111_26 (k : Nat) (r111 : T111) (rec : T111_26) (x : (pa111_26).C) : roundF (C111 k r111) tt noH (bodyOf (codeAt 26 (bd Try.f111) 26)) 52 25 [0, 3] pa111_26 pw111_26 (u111_26 rec) x = u111_26 (b111_26 k r111 rec) x := by kernel_rfl
theorem h111_26_ok (k : Nat) (r111 : T111) (h111 : SoundFn Try.prog 111 (F111 r111)) : ∀ p S, H111_26 k r111 p = some S → ∀ c, At (bd Try.f111) p c → CutOk Try.prog c S :=
  have hC := c111_ok k r111 h111
  addLoop hC ttOk (draw_ok hC ttOk mixed) noH_ok (by kernel_rfl) (F := fun j => u111_26 (l111_26 k r111 j)) (fun _ => rfl) (fun j x _ h => (e111_26 k r111 (l111_26 k r111 j) x).trans h) k
theorem e111 (k : Nat) (r111 : T111) (x : (a111).C) : bodyR (C111 k r111) tt (H111_26 k r111) Try.f111 a111 o111 x = u111 (b111 k r111) x := by kernel_rfl
theorem q111 (k : Nat) (r111 : T111) (h111 : SoundFn Try.prog 111 (F111 r111)) : SoundFn Try.prog 111 (F111 (b111 k r111)) :=
  have hC := c111_ok k r111 h111
  fnR_sound hC ttOk (draw_ok hC ttOk mixed) Try.func111 (c0 := bd Try.f111) rfl (entry Try.func111 rfl (by decide)) (h111_26_ok k r111 h111) rfl (fun x _ h => (e111 k r111 x).trans h)
theorem sAll111 : ∀ k : Nat, SoundFn Try.prog 111 (F111 (f111 k))
  | 0 => noneR_ok (by intro x; rfl)
  | k + 1 =>
    have ih := sAll111 k
    q111 k (f111 k) ih
theorem s111 (k : Nat) : SoundFn Try.prog 111 (F111 (f111 k)) := (sAll111 k)
/-! f75 fathom/fathomlaw21.bareStmts (R) -/
noncomputable def a75 : Shape := ⟨[.d (.slice (.rc 1))], []⟩
noncomputable def o75 : List Shape := [⟨[.d .bool], []⟩]
abbrev R75 : Type := ((Bool × Unit) × Unit)
abbrev T75 : Type := (List PStmt) → Option R75
noncomputable def u75 (f : T75) : (a75).C → Option (OutC o75) := fun (x : (((List PStmt) × Unit) × Unit)) => f x.1.1
noncomputable def F75 (f : T75) : Fun := ⟨true, runR a75 o75 (u75 f)⟩
noncomputable def pa75_26 : Shape := ⟨[.d (.slice (.rc 1)), .d i64], []⟩
noncomputable def pw75_26 : List Vm.Way := [⟨.exit 0, [], ⟨[], []⟩⟩, ⟨.ret, [2], ⟨[.d .bool], []⟩⟩]
abbrev R75_26 : Type := ((Unit × Unit) ⊕ ((Bool × Unit) × Unit))
abbrev T75_26 : Type := (List PStmt) → Int → Option R75_26
noncomputable def u75_26 (f : T75_26) : (pa75_26).C → Option (WayC pw75_26) := fun (x : (((List PStmt) × Int × Unit) × Unit)) => f x.1.1 x.1.2.1
noncomputable def b75_26 (k : Nat) (r75 : T75) (rec : T75_26) : T75_26 := fun l0 i3 =>
  cond (decide (i3 < (l0.length : Int)))
    (ix l0 i3 fun e1 =>
    cond ((sPos e1) != 0)
      (some (.inr ((false, ()), ())))
      (ix l0 i3 fun e2 =>
      (r75 (sBody e2)).bind fun y3 =>
      cond (!y3.1.1)
        (some (.inr ((false, ()), ())))
        (ix l0 i3 fun e4 =>
        (r75 (sEls e4)).bind fun y5 =>
        cond (!y5.1.1)
          (some (.inr ((false, ()), ())))
          (ix l0 i3 fun e6 =>
          (f111 k (sExprs e6)).bind fun y7 =>
          cond (!y7.1.1)
            (some (.inr ((false, ()), ())))
            ((rec l0 (w64 (i3 + 1))).bind fun y8 =>
            match y8 with
            | .inl y8_0 =>
              some (.inl ((), ()))
            | .inr y8_1 =>
              some (.inr ((y8_1.1.1, ()), ())))))))
    (some (.inl ((), ())))
noncomputable def l75_26 (k : Nat) (r75 : T75) : Nat → T75_26
  | 0 => fun _ _ => none
  | j + 1 => b75_26 k r75 (l75_26 k r75 j)
noncomputable def b75 (k : Nat) (r75 : T75) : T75 := fun l0 =>
  (l75_26 k r75 k l0 0).bind fun y1 =>
  match y1 with
  | .inl y1_0 =>
    some ((true, ()), ())
  | .inr y1_1 =>
    some ((y1_1.1.1, ()), ())
noncomputable def S75 : Nat → T75
  | 0 => (fun _ => none)
  | k + 1 => (b75 k (S75 k))
noncomputable def f75 (k : Nat) : T75 := (S75 k)
theorem f75_succ (k : Nat) : f75 (k + 1) = b75 k (f75 k) := rfl
noncomputable def C75 (k : Nat) (r75 : T75) : Nat → Fun := mkC [(75, (F75 r75)), (111, (F111 (f111 k)))]
theorem c75_ok (k : Nat) (r75 : T75) (h75 : SoundFn Try.prog 75 (F75 r75)) : ∀ f, SoundFn Try.prog f (C75 k r75 f) := (mkC_cons h75 (mkC_cons (s111 k) mkC_nil))
noncomputable def H75_26 (k : Nat) (r75 : T75) : Nat → Option Cut := addH noH 26 ⟨runCut (wrC (bodyOf (codeAt 26 (bd Try.f75) 26))) 43 [0, 3] pa75_26 pw75_26 (u75_26 (l75_26 k r75 k))⟩
theorem e75_26 (k : Nat) (r75 : T75) (rec : T75_26) (x : (pa75_26).C) : roundF (C75 k r75) tt noH (bodyOf (codeAt 26 (bd Try.f75) 26)) 52 43 [0, 3] pa75_26 pw75_26 (u75_26 rec) x = u75_26 (b75_26 k r75 rec) x := by kernel_rfl
theorem h75_26_ok (k : Nat) (r75 : T75) (h75 : SoundFn Try.prog 75 (F75 r75)) : ∀ p S, H75_26 k r75 p = some S → ∀ c, At (bd Try.f75) p c → CutOk Try.prog c S :=
  have hC := c75_ok k r75 h75
  addLoop hC ttOk (draw_ok hC ttOk mixed) noH_ok (by kernel_rfl) (F := fun j => u75_26 (l75_26 k r75 j)) (fun _ => rfl) (fun j x _ h => (e75_26 k r75 (l75_26 k r75 j) x).trans h) k
theorem e75 (k : Nat) (r75 : T75) (x : (a75).C) : bodyR (C75 k r75) tt (H75_26 k r75) Try.f75 a75 o75 x = u75 (b75 k r75) x := by kernel_rfl
theorem q75 (k : Nat) (r75 : T75) (h75 : SoundFn Try.prog 75 (F75 r75)) : SoundFn Try.prog 75 (F75 (b75 k r75)) :=
  have hC := c75_ok k r75 h75
  fnR_sound hC ttOk (draw_ok hC ttOk mixed) Try.func75 (c0 := bd Try.f75) rfl (entry Try.func75 rfl (by decide)) (h75_26_ok k r75 h75) rfl (fun x _ h => (e75 k r75 x).trans h)
theorem sAll75 : ∀ k : Nat, SoundFn Try.prog 75 (F75 (f75 k))
  | 0 => noneR_ok (by intro x; rfl)
  | k + 1 =>
    have ih := sAll75 k
    q75 k (f75 k) ih
theorem s75 (k : Nat) : SoundFn Try.prog 75 (F75 (f75 k)) := (sAll75 k)
/-! f38 fathom/fathomlaw21.bare (R) -/
noncomputable def a38 : Shape := ⟨[.d T_Prog], []⟩
noncomputable def o38 : List Shape := [⟨[.d .bool], []⟩]
abbrev R38 : Type := ((Bool × Unit) × Unit)
abbrev T38 : Type := D_Prog → Option R38
noncomputable def u38 (f : T38) : (a38).C → Option (OutC o38) := fun (x : ((D_Prog × Unit) × Unit)) => f x.1.1
noncomputable def F38 (f : T38) : Fun := ⟨true, runR a38 o38 (u38 f)⟩
noncomputable def pa38_58 : Shape := ⟨[.ptr 0, .d i64], [.box [.d i64, .d (.slice T_Decl), .d (.slice T_Proc)]]⟩
noncomputable def pw38_58 : List Vm.Way := [⟨.exit 2, [], ⟨[], [.box [.d i64, .d (.slice T_Decl), .d (.slice T_Proc)]]⟩⟩, ⟨.ret, [2], ⟨[.d .bool], [.box [.d i64, .d (.slice T_Decl), .d (.slice T_Proc)]]⟩⟩]
abbrev R38_58 : Type := ((Unit × ((Int × (List D_Decl) × (List D_Proc) × Unit) × Unit)) ⊕ ((Bool × Unit) × ((Int × (List D_Decl) × (List D_Proc) × Unit) × Unit)))
abbrev T38_58 : Type := Int → Int → (List D_Decl) → (List D_Proc) → Option R38_58
noncomputable def u38_58 (f : T38_58) : (pa38_58).C → Option (WayC pw38_58) := fun (x : ((Unit × Int × Unit) × ((Int × (List D_Decl) × (List D_Proc) × Unit) × Unit))) => f x.1.2.1 x.2.1.1 x.2.1.2.1 x.2.1.2.2.1
noncomputable def b38_58 (k : Nat) (rec : T38_58) : T38_58 := fun i4 o0_0 o0_1 o0_2 =>
  cond (decide (i4 < (o0_2.length : Int)))
    (ix o0_2 i4 fun e1 =>
    cond (e1.2.2.1 != 0)
      (some (.inr ((false, ()), ((o0_0, o0_1, o0_2, ()), ()))))
      (ix o0_2 i4 fun e2 =>
      (f75 k e2.2.1).bind fun y3 =>
      cond (!y3.1.1)
        (some (.inr ((false, ()), ((o0_0, o0_1, o0_2, ()), ()))))
        ((rec (w64 (i4 + 1)) o0_0 o0_1 o0_2).bind fun y4 =>
        match y4 with
        | .inl y4_0 =>
          some (.inl ((), ((y4_0.2.1.1, y4_0.2.1.2.1, y4_0.2.1.2.2.1, ()), ())))
        | .inr y4_1 =>
          some (.inr ((y4_1.1.1, ()), ((y4_1.2.1.1, y4_1.2.1.2.1, y4_1.2.1.2.2.1, ()), ()))))))
    (some (.inl ((), ((o0_0, o0_1, o0_2, ()), ()))))
noncomputable def l38_58 (k : Nat) : Nat → T38_58
  | 0 => fun _ _ _ _ => none
  | j + 1 => b38_58 k (l38_58 k j)
noncomputable def pa38_26 : Shape := ⟨[.ptr 0, .d i64], [.box [.d i64, .d (.slice T_Decl), .d (.slice T_Proc)]]⟩
noncomputable def pw38_26 : List Vm.Way := [⟨.exit 0, [], ⟨[], [.box [.d i64, .d (.slice T_Decl), .d (.slice T_Proc)]]⟩⟩, ⟨.ret, [2], ⟨[.d .bool], [.box [.d i64, .d (.slice T_Decl), .d (.slice T_Proc)]]⟩⟩]
abbrev R38_26 : Type := ((Unit × ((Int × (List D_Decl) × (List D_Proc) × Unit) × Unit)) ⊕ ((Bool × Unit) × ((Int × (List D_Decl) × (List D_Proc) × Unit) × Unit)))
abbrev T38_26 : Type := Int → Int → (List D_Decl) → (List D_Proc) → Option R38_26
noncomputable def u38_26 (f : T38_26) : (pa38_26).C → Option (WayC pw38_26) := fun (x : ((Unit × Int × Unit) × ((Int × (List D_Decl) × (List D_Proc) × Unit) × Unit))) => f x.1.2.1 x.2.1.1 x.2.1.2.1 x.2.1.2.2.1
noncomputable def b38_26 (k : Nat) (rec : T38_26) : T38_26 := fun i3 o0_0 o0_1 o0_2 =>
  cond (decide (i3 < (o0_1.length : Int)))
    (ix o0_1 i3 fun e1 =>
    cond (e1.2.2.2.1 != 0)
      (some (.inr ((false, ()), ((o0_0, o0_1, o0_2, ()), ()))))
      ((rec (w64 (i3 + 1)) o0_0 o0_1 o0_2).bind fun y2 =>
      match y2 with
      | .inl y2_0 =>
        some (.inl ((), ((y2_0.2.1.1, y2_0.2.1.2.1, y2_0.2.1.2.2.1, ()), ())))
      | .inr y2_1 =>
        some (.inr ((y2_1.1.1, ()), ((y2_1.2.1.1, y2_1.2.1.2.1, y2_1.2.1.2.2.1, ()), ())))))
    (some (.inl ((), ((o0_0, o0_1, o0_2, ()), ()))))
noncomputable def l38_26 (k : Nat) : Nat → T38_26
  | 0 => fun _ _ _ _ => none
  | j + 1 => b38_26 k (l38_26 k j)
noncomputable def f38 (k : Nat) : T38 := fun p0 =>
  (l38_26 k k 0 p0.1 p0.2.1 p0.2.2.1).bind fun y1 =>
  match y1 with
  | .inl y1_0 =>
    (l38_58 k k 0 y1_0.2.1.1 y1_0.2.1.2.1 y1_0.2.1.2.2.1).bind fun y2 =>
    match y2 with
    | .inl y2_0 =>
      some ((true, ()), ())
    | .inr y2_1 =>
      some ((y2_1.1.1, ()), ())
  | .inr y1_1 =>
    some ((y1_1.1.1, ()), ())
noncomputable def C38 (k : Nat) : Nat → Fun := mkC [(75, (F75 (f75 k)))]
theorem c38_ok (k : Nat) : ∀ f, SoundFn Try.prog f (C38 k f) := (mkC_cons (s75 k) mkC_nil)
noncomputable def H38_58 (k : Nat) : Nat → Option Cut := addH noH 58 ⟨runCut (wrC (bodyOf (codeAt 58 (bd Try.f38) 58))) 43 [1, 4] pa38_58 pw38_58 (u38_58 (l38_58 k k))⟩
theorem e38_58 (k : Nat) (rec : T38_58) (x : (pa38_58).C) : roundF (C38 k) tt noH (bodyOf (codeAt 58 (bd Try.f38) 58)) 116 43 [1, 4] pa38_58 pw38_58 (u38_58 rec) x = u38_58 (b38_58 k rec) x := by kernel_rfl
theorem h38_58_ok (k : Nat) : ∀ p S, H38_58 k p = some S → ∀ c, At (bd Try.f38) p c → CutOk Try.prog c S :=
  have hC := c38_ok k
  addLoop hC ttOk (draw_ok hC ttOk mixed) noH_ok (by kernel_rfl) (F := fun j => u38_58 (l38_58 k j)) (fun _ => rfl) (fun j x _ h => (e38_58 k (l38_58 k j) x).trans h) k
noncomputable def H38_26 (k : Nat) : Nat → Option Cut := addH (H38_58 k) 26 ⟨runCut (wrC (bodyOf (codeAt 26 (bd Try.f38) 26))) 43 [1, 3] pa38_26 pw38_26 (u38_26 (l38_26 k k))⟩
theorem e38_26 (k : Nat) (rec : T38_26) (x : (pa38_26).C) : roundF (C38 k) tt (H38_58 k) (bodyOf (codeAt 26 (bd Try.f38) 26)) 52 43 [1, 3] pa38_26 pw38_26 (u38_26 rec) x = u38_26 (b38_26 k rec) x := by kernel_rfl
theorem h38_26_ok (k : Nat) : ∀ p S, H38_26 k p = some S → ∀ c, At (bd Try.f38) p c → CutOk Try.prog c S :=
  have hC := c38_ok k
  addLoop hC ttOk (draw_ok hC ttOk mixed) (h38_58_ok k) (by kernel_rfl) (F := fun j => u38_26 (l38_26 k j)) (fun _ => rfl) (fun j x _ h => (e38_26 k (l38_26 k j) x).trans h) k
theorem e38 (k : Nat) (x : (a38).C) : bodyR (C38 k) tt (H38_26 k) Try.f38 a38 o38 x = u38 (f38 k) x := by kernel_rfl
theorem s38 (k : Nat) : SoundFn Try.prog 38 (F38 (f38 k)) :=
  have hC := c38_ok k
  fnR_sound hC ttOk (draw_ok hC ttOk mixed) Try.func38 (c0 := bd Try.f38) rfl (entry Try.func38 rfl (by decide)) (h38_26_ok k) rfl (fun x _ h => (e38 k x).trans h)
/-! f35 fathom/fathomref21.Depth (R) -/
noncomputable def a35 : Shape := ⟨[.d (.slice (.rc 1)), .d i64], []⟩
noncomputable def o35 : List Shape := [⟨[.d i64], []⟩]
abbrev R35 : Type := ((Int × Unit) × Unit)
abbrev T35 : Type := (List PStmt) → Int → Option R35
noncomputable def u35 (f : T35) : (a35).C → Option (OutC o35) := fun (x : (((List PStmt) × Int × Unit) × Unit)) => f x.1.1 x.1.2.1
noncomputable def F35 (f : T35) : Fun := ⟨true, runR a35 o35 (u35 f)⟩
noncomputable def pa35_58 : Shape := ⟨[.d (.slice (.rc 1)), .d i64, .d i64, .d i64], []⟩
noncomputable def pw35_58 : List Vm.Way := [⟨.exit 0, [5], ⟨[.d i64], []⟩⟩]
abbrev R35_58 : Type := ((Int × Unit) × Unit)
abbrev T35_58 : Type := (List PStmt) → Int → Int → Int → Option R35_58
noncomputable def u35_58 (f : T35_58) : (pa35_58).C → Option (WayC pw35_58) := fun (x : (((List PStmt) × Int × Int × Int × Unit) × Unit)) => f x.1.1 x.1.2.1 x.1.2.2.1 x.1.2.2.2.1
noncomputable def b35_58 (k : Nat) (r35 : T35) (rec : T35_58) : T35_58 := fun l0 most1 n5 i6 =>
  cond (decide (i6 < (l0.length : Int)))
    (cond (decide (most1 > 0))
      (ix l0 i6 fun e1 =>
      (r35 (sBody e1) (w64 (most1 - 1))).bind fun y2 =>
      ix l0 i6 fun e3 =>
      (r35 (sEls e3) (w64 (most1 - 1))).bind fun y4 =>
      cond (decide (y2.1.1 < y4.1.1))
        (cond (decide ((w64 (y4.1.1 + 1)) > n5))
          ((rec l0 most1 (w64 (y4.1.1 + 1)) (w64 (i6 + 1))).bind fun y5 =>
          some ((y5.1.1, ()), ()))
          ((rec l0 most1 n5 (w64 (i6 + 1))).bind fun y6 =>
          some ((y6.1.1, ()), ())))
        (cond (decide ((w64 (y2.1.1 + 1)) > n5))
          ((rec l0 most1 (w64 (y2.1.1 + 1)) (w64 (i6 + 1))).bind fun y7 =>
          some ((y7.1.1, ()), ()))
          ((rec l0 most1 n5 (w64 (i6 + 1))).bind fun y8 =>
          some ((y8.1.1, ()), ()))))
      (some ((n5, ()), ())))
    (some ((n5, ()), ()))
noncomputable def l35_58 (k : Nat) (r35 : T35) : Nat → T35_58
  | 0 => fun _ _ _ _ => none
  | j + 1 => b35_58 k r35 (l35_58 k r35 j)
noncomputable def b35 (k : Nat) (r35 : T35) : T35 := fun l0 most1 =>
  (l35_58 k r35 k l0 most1 0 0).bind fun y1 =>
  some ((y1.1.1, ()), ())
noncomputable def S35 : Nat → T35
  | 0 => (fun _ _ => none)
  | k + 1 => (b35 k (S35 k))
noncomputable def f35 (k : Nat) : T35 := (S35 k)
theorem f35_succ (k : Nat) : f35 (k + 1) = b35 k (f35 k) := rfl
noncomputable def C35 (k : Nat) (r35 : T35) : Nat → Fun := mkC [(35, (F35 r35))]
theorem c35_ok (k : Nat) (r35 : T35) (h35 : SoundFn Try.prog 35 (F35 r35)) : ∀ f, SoundFn Try.prog f (C35 k r35 f) := (mkC_cons h35 mkC_nil)
noncomputable def H35_58 (k : Nat) (r35 : T35) : Nat → Option Cut := addH noH 58 ⟨runCut (wrC (bodyOf (codeAt 58 (bd Try.f35) 58))) 46 [0, 1, 5, 6] pa35_58 pw35_58 (u35_58 (l35_58 k r35 k))⟩
theorem e35_58 (k : Nat) (r35 : T35) (rec : T35_58) (x : (pa35_58).C) : roundF (C35 k r35) tt noH (bodyOf (codeAt 58 (bd Try.f35) 58)) 116 46 [0, 1, 5, 6] pa35_58 pw35_58 (u35_58 rec) x = u35_58 (b35_58 k r35 rec) x := by kernel_rfl
theorem h35_58_ok (k : Nat) (r35 : T35) (h35 : SoundFn Try.prog 35 (F35 r35)) : ∀ p S, H35_58 k r35 p = some S → ∀ c, At (bd Try.f35) p c → CutOk Try.prog c S :=
  have hC := c35_ok k r35 h35
  addLoop hC ttOk (draw_ok hC ttOk mixed) noH_ok (by kernel_rfl) (F := fun j => u35_58 (l35_58 k r35 j)) (fun _ => rfl) (fun j x _ h => (e35_58 k r35 (l35_58 k r35 j) x).trans h) k
theorem e35 (k : Nat) (r35 : T35) (x : (a35).C) : bodyR (C35 k r35) tt (H35_58 k r35) Try.f35 a35 o35 x = u35 (b35 k r35) x := by kernel_rfl
theorem q35 (k : Nat) (r35 : T35) (h35 : SoundFn Try.prog 35 (F35 r35)) : SoundFn Try.prog 35 (F35 (b35 k r35)) :=
  have hC := c35_ok k r35 h35
  fnR_sound hC ttOk (draw_ok hC ttOk mixed) Try.func35 (c0 := bd Try.f35) rfl (entry Try.func35 rfl (by decide)) (h35_58_ok k r35 h35) rfl (fun x _ h => (e35 k r35 x).trans h)
theorem sAll35 : ∀ k : Nat, SoundFn Try.prog 35 (F35 (f35 k))
  | 0 => noneR_ok (by intro x; rfl)
  | k + 1 =>
    have ih := sAll35 k
    q35 k (f35 k) ih
theorem s35 (k : Nat) : SoundFn Try.prog 35 (F35 (f35 k)) := (sAll35 k)
/-! f8 fathom/fathomlaw21.TreeBares (R) -/
noncomputable def a8 : Shape := ⟨[.d T_Prog, .d i64], []⟩
noncomputable def o8 : List Shape := [⟨[.d .bool], []⟩]
abbrev R8 : Type := ((Bool × Unit) × Unit)
abbrev T8 : Type := D_Prog → Int → Option R8
noncomputable def u8 (f : T8) : (a8).C → Option (OutC o8) := fun (x : ((D_Prog × Int × Unit) × Unit)) => f x.1.1 x.1.2.1
noncomputable def F8 (f : T8) : Fun := ⟨true, runR a8 o8 (u8 f)⟩
noncomputable def pa8_58 : Shape := ⟨[.ptr 0, .d i64], [.box [.d i64, .d (.slice T_Decl), .d (.slice T_Proc)]]⟩
noncomputable def pw8_58 : List Vm.Way := [⟨.exit 0, [], ⟨[], [.box [.d i64, .d (.slice T_Decl), .d (.slice T_Proc)]]⟩⟩, ⟨.ret, [4], ⟨[.d .bool], [.box [.d i64, .d (.slice T_Decl), .d (.slice T_Proc)]]⟩⟩]
abbrev R8_58 : Type := ((Unit × ((Int × (List D_Decl) × (List D_Proc) × Unit) × Unit)) ⊕ ((Bool × Unit) × ((Int × (List D_Decl) × (List D_Proc) × Unit) × Unit)))
abbrev T8_58 : Type := Int → Int → (List D_Decl) → (List D_Proc) → Option R8_58
noncomputable def u8_58 (f : T8_58) : (pa8_58).C → Option (WayC pw8_58) := fun (x : ((Unit × Int × Unit) × ((Int × (List D_Decl) × (List D_Proc) × Unit) × Unit))) => f x.1.2.1 x.2.1.1 x.2.1.2.1 x.2.1.2.2.1
noncomputable def b8_58 (k : Nat) (rec : T8_58) : T8_58 := fun i5 o0_0 o0_1 o0_2 =>
  cond (decide (i5 < (o0_2.length : Int)))
    (ix o0_2 i5 fun e1 =>
    (f34 k e1.2.1).bind fun y2 =>
    ix o0_2 i5 fun e3 =>
    (f35 k e3.2.1 13).bind fun y4 =>
    cond (y2.1.1 != y4.1.1)
      (some (.inr ((false, ()), ((o0_0, o0_1, o0_2, ()), ()))))
      ((rec (w64 (i5 + 1)) o0_0 o0_1 o0_2).bind fun y5 =>
      match y5 with
      | .inl y5_0 =>
        some (.inl ((), ((y5_0.2.1.1, y5_0.2.1.2.1, y5_0.2.1.2.2.1, ()), ())))
      | .inr y5_1 =>
        some (.inr ((y5_1.1.1, ()), ((y5_1.2.1.1, y5_1.2.1.2.1, y5_1.2.1.2.2.1, ()), ())))))
    (some (.inl ((), ((o0_0, o0_1, o0_2, ()), ()))))
noncomputable def l8_58 (k : Nat) : Nat → T8_58
  | 0 => fun _ _ _ _ => none
  | j + 1 => b8_58 k (l8_58 k j)
noncomputable def f8 (k : Nat) : T8 := fun p0 at1 =>
  (f24 k p0).bind fun y1 =>
  cond (!y1.1.1)
    ((f21 k ()).bind fun y2 =>
    some ((y2.1.1, ()), ()))
    ((l8_58 k k 0 p0.1 p0.2.1 p0.2.2.1).bind fun y3 =>
    match y3 with
    | .inl y3_0 =>
      (f36 k (y3_0.2.1.1, y3_0.2.1.2.1, y3_0.2.1.2.2.1, ())).bind fun y4 =>
      (f37 k (y3_0.2.1.1, y3_0.2.1.2.1, y3_0.2.1.2.2.1, ())).bind fun y5 =>
      cond (!y5.1.1)
        (cond ((y4.1.1.2.2.1.length : Int) == 0)
          (cond ((y4.1.1.2.1.length : Int) == 0)
            (cond (y4.1.1.1 == 0)
              ((f27 k (y3_0.2.1.1, y3_0.2.1.2.1, y3_0.2.1.2.2.1, ()) (y3_0.2.1.1, y3_0.2.1.2.1, y3_0.2.1.2.2.1, ())).bind fun y6 =>
              cond (!y6.1.1)
                ((f21 k ()).bind fun y7 =>
                some ((y7.1.1, ()), ()))
                (some ((false, ()), ())))
              (some ((false, ()), ())))
            (some ((false, ()), ())))
          (some ((false, ()), ())))
        ((f27 k (y3_0.2.1.1, y3_0.2.1.2.1, y3_0.2.1.2.2.1, ()) (y3_0.2.1.1, y3_0.2.1.2.1, y3_0.2.1.2.2.1, ())).bind fun y8 =>
        cond (!y8.1.1)
          (some ((false, ()), ()))
          ((f27 k (y3_0.2.1.1, y3_0.2.1.2.1, y3_0.2.1.2.2.1, ()) y4.1.1).bind fun y9 =>
          cond (!y9.1.1)
            (some ((false, ()), ()))
            ((f38 k y4.1.1).bind fun y10 =>
            cond (!y10.1.1)
              (some ((false, ()), ()))
              (cond y3_0.2.1.2.2.1.isEmpty
                (none)
                (gd (decide ((0 + y3_0.2.1.2.2.1.length) * 48 ≤ room)) <|
                gd (decide (0 < (0 + y3_0.2.1.2.2.1.length))) <|
                ((([] : List D_Proc) ++ y3_0.2.1.2.2.1)[(0 + 0)]?).bind fun e11 =>
                gd (decide (0 + (0 + y3_0.2.1.2.2.1.length) ≤ ((([] : List D_Proc) ++ y3_0.2.1.2.2.1).set (0 + 0) (e11.1, e11.2.1, at1, ())).length)) <|
                (f27 k (y3_0.2.1.1, y3_0.2.1.2.1, ((((([] : List D_Proc) ++ y3_0.2.1.2.2.1).set (0 + 0) (e11.1, e11.2.1, at1, ())).drop 0).take (0 + y3_0.2.1.2.2.1.length)), ()) y4.1.1).bind fun y12 =>
                cond y12.1.1
                  ((f21 k ()).bind fun y13 =>
                  some ((y13.1.1, ()), ()))
                  (some ((false, ()), ())))))))
    | .inr y3_1 =>
      some ((y3_1.1.1, ()), ()))
noncomputable def C8 (k : Nat) : Nat → Fun := mkC [(2000000, ownF), (21, (F21 (f21 k))), (24, (F24 (f24 k))), (27, (F27 (f27 k))), (34, (F34 (f34 k))), (35, (F35 (f35 k))), (36, (F36 (f36 k))), (37, (F37 (f37 k))), (38, (F38 (f38 k)))]
theorem c8_ok (k : Nat) : ∀ f, SoundFn Try.prog f (C8 k f) := (mkC_cons ownF_ok (mkC_cons (s21 k) (mkC_cons (s24 k) (mkC_cons (s27 k) (mkC_cons (s34 k) (mkC_cons (s35 k) (mkC_cons (s36 k) (mkC_cons (s37 k) (mkC_cons (s38 k) mkC_nil)))))))))
noncomputable def H8_58 (k : Nat) : Nat → Option Cut := addH noH 58 ⟨runCut (wrC (bodyOf (codeAt 58 (bd Try.f8) 58))) 93 [2, 5] pa8_58 pw8_58 (u8_58 (l8_58 k k))⟩
theorem e8_58 (k : Nat) (rec : T8_58) (x : (pa8_58).C) : roundF (C8 k) tt noH (bodyOf (codeAt 58 (bd Try.f8) 58)) 116 93 [2, 5] pa8_58 pw8_58 (u8_58 rec) x = u8_58 (b8_58 k rec) x := by kernel_rfl
theorem h8_58_ok (k : Nat) : ∀ p S, H8_58 k p = some S → ∀ c, At (bd Try.f8) p c → CutOk Try.prog c S :=
  have hC := c8_ok k
  addLoop hC ttOk (draw_ok hC ttOk mixed) noH_ok (by kernel_rfl) (F := fun j => u8_58 (l8_58 k j)) (fun _ => rfl) (fun j x _ h => (e8_58 k (l8_58 k j) x).trans h) k
theorem e8 (k : Nat) (x : (a8).C) : bodyR (C8 k) tt (H8_58 k) Try.f8 a8 o8 x = u8 (f8 k) x := by kernel_rfl
theorem s8 (k : Nat) : SoundFn Try.prog 8 (F8 (f8 k)) :=
  have hC := c8_ok k
  fnR_sound hC ttOk (draw_ok hC ttOk mixed) Try.func8 (c0 := bd Try.f8) rfl (entry Try.func8 rfl (by decide)) (h8_58_ok k) rfl (fun x _ h => (e8 k x).trans h)
end Go.Proofs.Yticelgnmcjkknaa.M
