/-
PRINTED BY vmp.py: the functions of a law, part 2.
-/
import Derived.Test.YtgljnnokifggkaaMAp1
set_option linter.unusedVariables false
set_option maxRecDepth 100000
namespace Go.Proofs.Ytgljnnokifggkaa.M
open Go Go.Proofs Go.Proofs.Ytgljnnokifggkaa.Vm
/-! f109 fathom/card.may (R) -/
noncomputable def a109 : Shape := ⟨[.ptr 0, .d (.slice i64)], [.box [.d (.slice T_Gate), .mp 1], .map T_Gate i64]⟩
noncomputable def o109 : List Shape := [⟨[.d .bool], []⟩]
abbrev R109 : Type := ((Bool × Unit) × Unit)
abbrev T109 : Type := (List Int) → (List D_Gate) → (List (D_Gate × Int)) → Option R109
noncomputable def u109 (f : T109) : (a109).C → Option (OutC o109) := fun (x : ((Unit × (List Int) × Unit) × (((List D_Gate) × Unit × Unit) × (List (D_Gate × Int)) × Unit))) => f x.1.2.1 x.2.1.1 x.2.2.1
noncomputable def F109 (f : T109) : Fun := ⟨true, runR a109 o109 (u109 f)⟩
noncomputable def f109 (k : Nat) : T109 := fun l1 o0 o1 =>
  (f24 k 0 o0 o1).bind fun y1 =>
  cond y1.1.1
    (cond (decide ((l1.length : Int) ≤ 64))
      ((f106v2 k l1 o0 o1).bind fun y2 =>
      some (((!y2.1.1), ()), ()))
      (some ((false, ()), ())))
    (some ((false, ()), ()))
noncomputable def C109 (k : Nat) : Nat → Fun := mkC [(24, (F24 (f24 k))), (106, (F106v2 (f106v2 k)))]
theorem e109 (k : Nat) (x : (a109).C) : bodyR (C109 k) tt noH Try.f109 a109 o109 x = u109 (f109 k) x := by kernel_rfl
theorem c109_ok (k : Nat) : ∀ f, SoundFn Try.prog f (C109 k f) := (mkC_cons (s24 k) (mkC_cons (s106v2 k) mkC_nil))
theorem s109 (k : Nat) : SoundFn Try.prog 109 (F109 (f109 k)) :=
  have hC := c109_ok k
  fnR_sound hC ttOk (draw_ok hC ttOk mixed) Try.func109 (c0 := bd Try.f109) rfl (entry Try.func109 rfl (by decide)) noH_ok rfl (fun x _ h => (e109 k x).trans h)
/-! f117 fathom/card.wide (W) -/
noncomputable def a117 : Shape := ⟨[.own i64, .d i64], []⟩
noncomputable def o117 : List Shape := [⟨[.own i64], []⟩]
abbrev R117 : Type := (((List Int) × Unit) × Unit)
abbrev T117 : Type := (List Int) → Int → Option R117
noncomputable def u117 (f : T117) : (a117).C → Option (OutC o117) := fun (x : (((List Int) × Int × Unit) × Unit)) => f x.1.1 x.1.2.1
noncomputable def F117 (f : T117) : Fun := ⟨false, runW a117 o117 (u117 f)⟩
noncomputable def pa117_12 : Shape := ⟨[.own i64, .d i64], []⟩
noncomputable def pw117_12 : List Vm.Way := [⟨.exit 0, [0], ⟨[.own i64], []⟩⟩]
abbrev R117_12 : Type := (((List Int) × Unit) × Unit)
abbrev T117_12 : Type := (List Int) → Int → Option R117_12
noncomputable def u117_12 (f : T117_12) : (pa117_12).C → Option (WayC pw117_12) := fun (x : (((List Int) × Int × Unit) × Unit)) => f x.1.1 x.1.2.1
noncomputable def b117_12 (k : Nat) (rec : T117_12) : T117_12 := fun a0 w1 =>
  cond (decide ((a0.length : Int) < w1))
    (gd (decide ((a0.length + 1) * 8 ≤ room)) <|
    (rec (a0 ++ ([0] : List Int)) w1).bind fun y1 =>
    some ((y1.1.1, ()), ()))
    (some ((a0, ()), ()))
noncomputable def l117_12 (k : Nat) : Nat → T117_12
  | 0 => fun _ _ => none
  | j + 1 => b117_12 k (l117_12 k j)
noncomputable def f117 (k : Nat) : T117 := fun a0 w1 =>
  (l117_12 k k a0 w1).bind fun y1 =>
  some ((y1.1.1, ()), ())
noncomputable def C117 (k : Nat) : Nat → Fun := mkC []
noncomputable def H117_12 (k : Nat) : Nat → Option Cut := addH noH 12 ⟨runCut (wrC (bodyOf (codeAt 12 (bd Try.f117) 12))) 13 [0, 1] pa117_12 pw117_12 (u117_12 (l117_12 k k))⟩
theorem e117_12 (k : Nat) (rec : T117_12) (x : (pa117_12).C) : roundF (C117 k) tt noH (bodyOf (codeAt 12 (bd Try.f117) 12)) 24 13 [0, 1] pa117_12 pw117_12 (u117_12 rec) x = u117_12 (b117_12 k rec) x := by kernel_rfl
theorem e117 (k : Nat) (x : (a117).C) : bodyW (C117 k) tt (H117_12 k) Try.f117 a117 o117 x = u117 (f117 k) x := by kernel_rfl
theorem c117_ok (k : Nat) : ∀ f, SoundFn Try.prog f (C117 k f) := mkC_nil
theorem h117_12_ok (k : Nat) : ∀ p S, H117_12 k p = some S → ∀ c, At (bd Try.f117) p c → CutOk Try.prog c S :=
  have hC := c117_ok k
  addLoop hC ttOk (draw_ok hC ttOk mixed) noH_ok (by kernel_rfl) (F := fun j => u117_12 (l117_12 k j)) (fun _ => rfl) (fun j x _ h => (e117_12 k (l117_12 k j) x).trans h) k
theorem s117 (k : Nat) : SoundFn Try.prog 117 (F117 (f117 k)) :=
  have hC := c117_ok k
  fnW_sound hC ttOk (draw_ok hC ttOk mixed) Try.func117 (c0 := bd Try.f117) rfl (entry Try.func117 rfl (by decide)) (h117_12_ok k) (fun x _ h => (e117 k x).trans h)
/-! f110 fathom/card.count (W) -/
noncomputable def a110 : Shape := ⟨[.ptr 0, .d (.slice i64)], [.box [.own T_Gate, .mp 1], .map T_Gate i64]⟩
noncomputable def o110 : List Shape := [⟨[.nils], [.box [.own T_Gate, .mp 1], .map T_Gate i64]⟩, ⟨[.own i64], [.box [.own T_Gate, .mp 1], .map T_Gate i64]⟩]
abbrev R110 : Type := (((Unit × Unit) × (((List D_Gate) × Unit × Unit) × (List (D_Gate × Int)) × Unit)) ⊕ (((List Int) × Unit) × (((List D_Gate) × Unit × Unit) × (List (D_Gate × Int)) × Unit)))
abbrev T110 : Type := (List Int) → (List D_Gate) → (List (D_Gate × Int)) → Option R110
noncomputable def u110 (f : T110) : (a110).C → Option (OutC o110) := fun (x : ((Unit × (List Int) × Unit) × (((List D_Gate) × Unit × Unit) × (List (D_Gate × Int)) × Unit))) => f x.1.2.1 x.2.1.1 x.2.2.1
noncomputable def F110 (f : T110) : Fun := ⟨false, runW a110 o110 (u110 f)⟩
noncomputable def b110 (k : Nat) (r110 : T110) : T110 := fun l1 o0 o1 =>
  cond ((l1.length : Int) == 0)
    (some (.inr (([0], ()), ((o0, (), ()), o1, ()))))
    (cond ((l1.length : Int) == 1)
      (ix l1 0 fun e1 =>
      some (.inr (([e1], ()), ((o0, (), ()), o1, ()))))
      ((f69 k (l1.length : Int)).bind fun y2 =>
      gd (decide (0 ≤ (w64 (Int.tdiv (l1.length : Int) 2)))) <|
      gd (decide ((w64 (Int.tdiv (l1.length : Int) 2)).toNat ≤ l1.length)) <|
      (r110 ((l1.take (w64 (Int.tdiv (l1.length : Int) 2)).toNat).drop 0) o0 o1).bind fun y3 =>
      match y3 with
      | .inl y3_0 =>
        gd (decide (0 ≤ (w64 (Int.tdiv (l1.length : Int) 2)))) <|
        gd (decide ((w64 (Int.tdiv (l1.length : Int) 2)).toNat ≤ l1.length)) <|
        (r110 (l1.drop (w64 (Int.tdiv (l1.length : Int) 2)).toNat) y3_0.2.1.1 y3_0.2.2.1).bind fun y4 =>
        match y4 with
        | .inl y4_0 =>
          some (.inl (((), ()), ((y4_0.2.1.1, (), ()), y4_0.2.2.1, ())))
        | .inr y4_1 =>
          some (.inl (((), ()), ((y4_1.2.1.1, (), ()), y4_1.2.2.1, ())))
      | .inr y3_1 =>
        gd (decide (0 ≤ (w64 (Int.tdiv (l1.length : Int) 2)))) <|
        gd (decide ((w64 (Int.tdiv (l1.length : Int) 2)).toNat ≤ l1.length)) <|
        (r110 (l1.drop (w64 (Int.tdiv (l1.length : Int) 2)).toNat) y3_1.2.1.1 y3_1.2.2.1).bind fun y5 =>
        match y5 with
        | .inl y5_0 =>
          cond y3_1.1.1.isEmpty
            (none)
            (some (.inl (((), ()), ((y5_0.2.1.1, (), ()), y5_0.2.2.1, ()))))
        | .inr y5_1 =>
          cond y3_1.1.1.isEmpty
            (none)
            (cond y5_1.1.1.isEmpty
              (none)
              ((f117 k y3_1.1.1 y2.1.1).bind fun y6 =>
              (f117 k y5_1.1.1 y2.1.1).bind fun y7 =>
              (f46 k y6.1.1 y7.1.1 y5_1.2.1.1 y5_1.2.2.1).bind fun y8 =>
              match y8 with
              | .inl y8_0 =>
                some (.inl (((), ()), ((y8_0.2.1.1, (), ()), y8_0.2.2.1, ())))
              | .inr y8_1 =>
                some (.inr ((y8_1.1.1, ()), ((y8_1.2.1.1, (), ()), y8_1.2.2.1, ())))))))
noncomputable def S110 : Nat → T110
  | 0 => (fun _ _ _ => none)
  | k + 1 => (b110 k (S110 k))
noncomputable def f110 (k : Nat) : T110 := (S110 k)
theorem f110_succ (k : Nat) : f110 (k + 1) = b110 k (f110 k) := rfl
noncomputable def C110 (k : Nat) (r110 : T110) : Nat → Fun := mkC [(46, (F46 (f46 k))), (69, (F69 (f69 k))), (110, (F110 r110)), (1000117, ownF), (117, (F117 (f117 k)))]
theorem e110 (k : Nat) (r110 : T110) (x : (a110).C) : bodyW (C110 k r110) tt noH Try.f110 a110 o110 x = u110 (b110 k r110) x := by kernel_rfl
theorem c110_ok (k : Nat) (r110 : T110) (h110 : SoundFn Try.prog 110 (F110 r110)) : ∀ f, SoundFn Try.prog f (C110 k r110 f) := (mkC_cons (s46 k) (mkC_cons (s69 k) (mkC_cons h110 (mkC_cons ownF_ok (mkC_cons (s117 k) mkC_nil)))))
theorem q110 (k : Nat) (r110 : T110) (h110 : SoundFn Try.prog 110 (F110 r110)) : SoundFn Try.prog 110 (F110 (b110 k r110)) :=
  have hC := c110_ok k r110 h110
  fnW_sound hC ttOk (draw_ok hC ttOk mixed) Try.func110 (c0 := bd Try.f110) rfl (entry Try.func110 rfl (by decide)) noH_ok (fun x _ h => (e110 k r110 x).trans h)
theorem sAll110 : ∀ k : Nat, SoundFn Try.prog 110 (F110 (f110 k))
  | 0 => noneW_ok (by intro x; rfl)
  | k + 1 =>
    have ih := sAll110 k
    q110 k (f110 k) ih
theorem s110 (k : Nat) : SoundFn Try.prog 110 (F110 (f110 k)) := (sAll110 k)
/-! f79 fathom/card.Count (W) -/
noncomputable def a79 : Shape := ⟨[.ptr 0, .d (.slice i64)], [.box [.own T_Gate, .mp 1], .map T_Gate i64]⟩
noncomputable def o79 : List Shape := [⟨[.nils], [.box [.own T_Gate, .mp 1], .map T_Gate i64]⟩, ⟨[.own i64], [.box [.own T_Gate, .mp 1], .map T_Gate i64]⟩]
abbrev R79 : Type := (((Unit × Unit) × (((List D_Gate) × Unit × Unit) × (List (D_Gate × Int)) × Unit)) ⊕ (((List Int) × Unit) × (((List D_Gate) × Unit × Unit) × (List (D_Gate × Int)) × Unit)))
abbrev T79 : Type := (List Int) → (List D_Gate) → (List (D_Gate × Int)) → Option R79
noncomputable def u79 (f : T79) : (a79).C → Option (OutC o79) := fun (x : ((Unit × (List Int) × Unit) × (((List D_Gate) × Unit × Unit) × (List (D_Gate × Int)) × Unit))) => f x.1.2.1 x.2.1.1 x.2.2.1
noncomputable def F79 (f : T79) : Fun := ⟨false, runW a79 o79 (u79 f)⟩
noncomputable def f79 (k : Nat) : T79 := fun l1 o0 o1 =>
  (f109 k l1 o0 o1).bind fun y1 =>
  cond (!y1.1.1)
    (some (.inl (((), ()), ((o0, (), ()), o1, ()))))
    ((f110 k l1 o0 o1).bind fun y2 =>
    match y2 with
    | .inl y2_0 =>
      some (.inl (((), ()), ((y2_0.2.1.1, (), ()), y2_0.2.2.1, ())))
    | .inr y2_1 =>
      some (.inr ((y2_1.1.1, ()), ((y2_1.2.1.1, (), ()), y2_1.2.2.1, ()))))
noncomputable def C79 (k : Nat) : Nat → Fun := mkC [(109, (F109 (f109 k))), (110, (F110 (f110 k)))]
theorem e79 (k : Nat) (x : (a79).C) : bodyW (C79 k) tt noH Try.f79 a79 o79 x = u79 (f79 k) x := by kernel_rfl
theorem c79_ok (k : Nat) : ∀ f, SoundFn Try.prog f (C79 k f) := (mkC_cons (s109 k) (mkC_cons (s110 k) mkC_nil))
theorem s79 (k : Nat) : SoundFn Try.prog 79 (F79 (f79 k)) :=
  have hC := c79_ok k
  fnW_sound hC ttOk (draw_ok hC ttOk mixed) Try.func79 (c0 := bd Try.f79) rfl (entry Try.func79 rfl (by decide)) noH_ok (fun x _ h => (e79 k x).trans h)
/-! f76 fathom/card.Least (W) -/
noncomputable def a76 : Shape := ⟨[.ptr 0, .d (.slice i64), .d i64], [.box [.own T_Gate, .mp 1], .map T_Gate i64]⟩
noncomputable def o76 : List Shape := [⟨[.d i64], [.box [.own T_Gate, .mp 1], .map T_Gate i64]⟩]
abbrev R76 : Type := ((Int × Unit) × (((List D_Gate) × Unit × Unit) × (List (D_Gate × Int)) × Unit))
abbrev T76 : Type := (List Int) → Int → (List D_Gate) → (List (D_Gate × Int)) → Option R76
noncomputable def u76 (f : T76) : (a76).C → Option (OutC o76) := fun (x : ((Unit × (List Int) × Int × Unit) × (((List D_Gate) × Unit × Unit) × (List (D_Gate × Int)) × Unit))) => f x.1.2.1 x.1.2.2.1 x.2.1.1 x.2.2.1
noncomputable def F76 (f : T76) : Fun := ⟨false, runW a76 o76 (u76 f)⟩
noncomputable def f76 (k : Nat) : T76 := fun l1 k2 o0 o1 =>
  (f79 k l1 o0 o1).bind fun y1 =>
  match y1 with
  | .inl y1_0 =>
    some (((-1), ()), ((y1_0.2.1.1, (), ()), y1_0.2.2.1, ()))
  | .inr y1_1 =>
    cond y1_1.1.1.isEmpty
      (none)
      (cond (decide (k2 ≤ 0))
        (some ((1, ()), ((y1_1.2.1.1, (), ()), y1_1.2.2.1, ())))
        (cond (decide (k2 > (l1.length : Int)))
          (some ((0, ()), ((y1_1.2.1.1, (), ()), y1_1.2.2.1, ())))
          ((f37 k k2 (y1_1.1.1.length : Int)).bind fun y2 =>
          (f65 k y1_1.1.1 y2.1.1 y1_1.2.1.1 y1_1.2.2.1).bind fun y3 =>
          cond (y3.1.1 == (-1))
            (some (((-1), ()), ((y3.2.1.1, (), ()), y3.2.2.1, ())))
            (some (((ibits .xor .i64 y3.1.1 1), ()), ((y3.2.1.1, (), ()), y3.2.2.1, ()))))))
noncomputable def C76 (k : Nat) : Nat → Fun := mkC [(37, (F37 (f37 k))), (65, (F65 (f65 k))), (79, (F79 (f79 k)))]
theorem e76 (k : Nat) (x : (a76).C) : bodyW (C76 k) tt noH Try.f76 a76 o76 x = u76 (f76 k) x := by kernel_rfl
theorem c76_ok (k : Nat) : ∀ f, SoundFn Try.prog f (C76 k f) := (mkC_cons (s37 k) (mkC_cons (s65 k) (mkC_cons (s79 k) mkC_nil)))
theorem s76 (k : Nat) : SoundFn Try.prog 76 (F76 (f76 k)) :=
  have hC := c76_ok k
  fnW_sound hC ttOk (draw_ok hC ttOk mixed) Try.func76 (c0 := bd Try.f76) rfl (entry Try.func76 rfl (by decide)) noH_ok (fun x _ h => (e76 k x).trans h)
/-! f77 fathom/card.Most (W) -/
noncomputable def a77 : Shape := ⟨[.ptr 0, .d (.slice i64), .d i64], [.box [.own T_Gate, .mp 1], .map T_Gate i64]⟩
noncomputable def o77 : List Shape := [⟨[.d i64], [.box [.own T_Gate, .mp 1], .map T_Gate i64]⟩]
abbrev R77 : Type := ((Int × Unit) × (((List D_Gate) × Unit × Unit) × (List (D_Gate × Int)) × Unit))
abbrev T77 : Type := (List Int) → Int → (List D_Gate) → (List (D_Gate × Int)) → Option R77
noncomputable def u77 (f : T77) : (a77).C → Option (OutC o77) := fun (x : ((Unit × (List Int) × Int × Unit) × (((List D_Gate) × Unit × Unit) × (List (D_Gate × Int)) × Unit))) => f x.1.2.1 x.1.2.2.1 x.2.1.1 x.2.2.1
noncomputable def F77 (f : T77) : Fun := ⟨false, runW a77 o77 (u77 f)⟩
noncomputable def f77 (k : Nat) : T77 := fun l1 k2 o0 o1 =>
  cond (decide (k2 ≥ (l1.length : Int)))
    ((f76 k l1 (w64 ((minmax true (l1.length : Int) (-1)) + 1)) o0 o1).bind fun y1 =>
    cond (y1.1.1 == (-1))
      (some (((-1), ()), ((y1.2.1.1, (), ()), y1.2.2.1, ())))
      (some (((ibits .xor .i64 y1.1.1 1), ()), ((y1.2.1.1, (), ()), y1.2.2.1, ()))))
    ((f76 k l1 (w64 ((minmax true k2 (-1)) + 1)) o0 o1).bind fun y2 =>
    cond (y2.1.1 == (-1))
      (some (((-1), ()), ((y2.2.1.1, (), ()), y2.2.2.1, ())))
      (some (((ibits .xor .i64 y2.1.1 1), ()), ((y2.2.1.1, (), ()), y2.2.2.1, ()))))
noncomputable def C77 (k : Nat) : Nat → Fun := mkC [(76, (F76 (f76 k)))]
theorem e77 (k : Nat) (x : (a77).C) : bodyW (C77 k) tt noH Try.f77 a77 o77 x = u77 (f77 k) x := by kernel_rfl
theorem c77_ok (k : Nat) : ∀ f, SoundFn Try.prog f (C77 k f) := (mkC_cons (s76 k) mkC_nil)
theorem s77 (k : Nat) : SoundFn Try.prog 77 (F77 (f77 k)) :=
  have hC := c77_ok k
  fnW_sound hC ttOk (draw_ok hC ttOk mixed) Try.func77 (c0 := bd Try.f77) rfl (entry Try.func77 rfl (by decide)) noH_ok (fun x _ h => (e77 k x).trans h)
/-! f78 fathom/card.Just (W) -/
noncomputable def a78 : Shape := ⟨[.ptr 0, .d (.slice i64), .d i64], [.box [.own T_Gate, .mp 1], .map T_Gate i64]⟩
noncomputable def o78 : List Shape := [⟨[.d i64], [.box [.own T_Gate, .mp 1], .map T_Gate i64]⟩]
abbrev R78 : Type := ((Int × Unit) × (((List D_Gate) × Unit × Unit) × (List (D_Gate × Int)) × Unit))
abbrev T78 : Type := (List Int) → Int → (List D_Gate) → (List (D_Gate × Int)) → Option R78
noncomputable def u78 (f : T78) : (a78).C → Option (OutC o78) := fun (x : ((Unit × (List Int) × Int × Unit) × (((List D_Gate) × Unit × Unit) × (List (D_Gate × Int)) × Unit))) => f x.1.2.1 x.1.2.2.1 x.2.1.1 x.2.2.1
noncomputable def F78 (f : T78) : Fun := ⟨false, runW a78 o78 (u78 f)⟩
noncomputable def f78 (k : Nat) : T78 := fun l1 k2 o0 o1 =>
  (f76 k l1 k2 o0 o1).bind fun y1 =>
  (f77 k l1 k2 y1.2.1.1 y1.2.2.1).bind fun y2 =>
  cond (y1.1.1 == (-1))
    (some (((-1), ()), ((y2.2.1.1, (), ()), y2.2.2.1, ())))
    (cond (y2.1.1 == (-1))
      (some (((-1), ()), ((y2.2.1.1, (), ()), y2.2.2.1, ())))
      ((f19 k y1.1.1 y2.1.1 y2.2.1.1 y2.2.2.1).bind fun y3 =>
      some ((y3.1.1, ()), ((y3.2.1.1, (), ()), y3.2.2.1, ()))))
noncomputable def C78 (k : Nat) : Nat → Fun := mkC [(19, (F19 (f19 k))), (76, (F76 (f76 k))), (77, (F77 (f77 k)))]
theorem e78 (k : Nat) (x : (a78).C) : bodyW (C78 k) tt noH Try.f78 a78 o78 x = u78 (f78 k) x := by kernel_rfl
theorem c78_ok (k : Nat) : ∀ f, SoundFn Try.prog f (C78 k f) := (mkC_cons (s19 k) (mkC_cons (s76 k) (mkC_cons (s77 k) mkC_nil)))
theorem s78 (k : Nat) : SoundFn Try.prog 78 (F78 (f78 k)) :=
  have hC := c78_ok k
  fnW_sound hC ttOk (draw_ok hC ttOk mixed) Try.func78 (c0 := bd Try.f78) rfl (entry Try.func78 rfl (by decide)) noH_ok (fun x _ h => (e78 k x).trans h)
/-! f71 fathom/fathomlaw17.awake (R) -/
noncomputable def a71 : Shape := ⟨[], []⟩
noncomputable def o71 : List Shape := [⟨[.d .bool], []⟩]
abbrev R71 : Type := ((Bool × Unit) × Unit)
abbrev T71 : Type := Unit → Option R71
noncomputable def u71 (f : T71) : (a71).C → Option (OutC o71) := fun (x : (Unit × Unit)) => f ()
noncomputable def F71 (f : T71) : Fun := ⟨true, runR a71 o71 (u71 f)⟩
noncomputable def f71 (k : Nat) : T71 := fun _ =>
  (f38 k ()).bind fun y1 =>
  (f79 k [1, 0, 1] y1.2.1.1 y1.2.2.1).bind fun y2 =>
  match y2 with
  | .inl y2_0 =>
    (f93 k [] [0, 1]).bind fun y3 =>
    cond y3.1.1
      ((f78 k [1, 0, 1] 2 y2_0.2.1.1 y2_0.2.2.1).bind fun y4 =>
      cond (y4.1.1 == 1)
        ((f77 k [] (-5) y4.2.1.1 y4.2.2.1).bind fun y5 =>
        some (((y5.1.1 == 0), ()), ()))
        (some ((false, ()), ())))
      (some ((false, ()), ()))
  | .inr y2_1 =>
    (f93 k y2_1.1.1 [0, 1]).bind fun y6 =>
    cond y6.1.1
      ((f78 k [1, 0, 1] 2 y2_1.2.1.1 y2_1.2.2.1).bind fun y7 =>
      cond (y7.1.1 == 1)
        ((f77 k [] (-5) y7.2.1.1 y7.2.2.1).bind fun y8 =>
        some (((y8.1.1 == 0), ()), ()))
        (some ((false, ()), ())))
      (some ((false, ()), ()))
noncomputable def C71 (k : Nat) : Nat → Fun := mkC [(38, (F38 (f38 k))), (77, (F77 (f77 k))), (78, (F78 (f78 k))), (79, (F79 (f79 k))), (93, (F93 (f93 k)))]
theorem e71 (k : Nat) (x : (a71).C) : bodyR (C71 k) tt noH Try.f71 a71 o71 x = u71 (f71 k) x := by kernel_rfl
theorem c71_ok (k : Nat) : ∀ f, SoundFn Try.prog f (C71 k f) := (mkC_cons (s38 k) (mkC_cons (s77 k) (mkC_cons (s78 k) (mkC_cons (s79 k) (mkC_cons (s93 k) mkC_nil)))))
theorem s71 (k : Nat) : SoundFn Try.prog 71 (F71 (f71 k)) :=
  have hC := c71_ok k
  fnR_sound hC ttOk (draw_ok hC ttOk mixed) Try.func71 (c0 := bd Try.f71) rfl (entry Try.func71 rfl (by decide)) noH_ok rfl (fun x _ h => (e71 k x).trans h)
/-! f14 fathom/fathomlaw17.CardEnough (R) -/
noncomputable def a14 : Shape := ⟨[.d i64], []⟩
noncomputable def o14 : List Shape := [⟨[.d .bool], []⟩]
abbrev R14 : Type := ((Bool × Unit) × Unit)
abbrev T14 : Type := Int → Option R14
noncomputable def u14 (f : T14) : (a14).C → Option (OutC o14) := fun (x : ((Int × Unit) × Unit)) => f x.1.1
noncomputable def F14 (f : T14) : Fun := ⟨true, runR a14 o14 (u14 f)⟩
noncomputable def f14 (k : Nat) : T14 := fun n0 =>
  (f69 k n0).bind fun y1 =>
  (f70 k n0).bind fun y2 =>
  cond (y1.1.1 == y2.1.1)
    ((f71 k ()).bind fun y3 =>
    some ((y3.1.1, ()), ()))
    (some ((false, ()), ()))
noncomputable def C14 (k : Nat) : Nat → Fun := mkC [(69, (F69 (f69 k))), (70, (F70 (f70 k))), (71, (F71 (f71 k)))]
theorem e14 (k : Nat) (x : (a14).C) : bodyR (C14 k) tt noH Try.f14 a14 o14 x = u14 (f14 k) x := by kernel_rfl
theorem c14_ok (k : Nat) : ∀ f, SoundFn Try.prog f (C14 k f) := (mkC_cons (s69 k) (mkC_cons (s70 k) (mkC_cons (s71 k) mkC_nil)))
theorem s14 (k : Nat) : SoundFn Try.prog 14 (F14 (f14 k)) :=
  have hC := c14_ok k
  fnR_sound hC ttOk (draw_ok hC ttOk mixed) Try.func14 (c0 := bd Try.f14) rfl (entry Try.func14 rfl (by decide)) noH_ok rfl (fun x _ h => (e14 k x).trans h)
/-! f116v2 fathom/card.may$1 (R) -/
noncomputable def a116v2 : Shape := ⟨[.d i64, .ptr 0], [.box [.nilp]]⟩
noncomputable def o116v2 : List Shape := [⟨[.d .bool], []⟩]
abbrev R116v2 : Type := ((Bool × Unit) × Unit)
abbrev T116v2 : Type := Int → Option R116v2
noncomputable def u116v2 (f : T116v2) : (a116v2).C → Option (OutC o116v2) := fun (x : ((Int × Unit × Unit) × ((Unit × Unit) × Unit))) => f x.1.1
noncomputable def F116v2 (f : T116v2) : Fun := ⟨true, runR a116v2 o116v2 (u116v2 f)⟩
noncomputable def f116v2 (k : Nat) : T116v2 := fun a0 =>
  (f24v3 k a0).bind fun y1 =>
  some (((!y1.1.1), ()), ())
noncomputable def C116v2 (k : Nat) : Nat → Fun := mkC [(24, (F24v3 (f24v3 k)))]
theorem e116v2 (k : Nat) (x : (a116v2).C) : bodyR (C116v2 k) tt noH Try.f116 a116v2 o116v2 x = u116v2 (f116v2 k) x := by kernel_rfl
theorem c116v2_ok (k : Nat) : ∀ f, SoundFn Try.prog f (C116v2 k f) := (mkC_cons (s24v3 k) mkC_nil)
theorem s116v2 (k : Nat) : SoundFn Try.prog 116 (F116v2 (f116v2 k)) :=
  have hC := c116v2_ok k
  fnR_sound hC ttOk (draw_ok hC ttOk mixed) Try.func116 (c0 := bd Try.f116) rfl (entry Try.func116 rfl (by decide)) noH_ok rfl (fun x _ h => (e116v2 k x).trans h)
/-! f113v3 slices.IndexFunc[[]int,int] (R) -/
noncomputable def a113v3 : Shape := ⟨[.d (.slice i64), .fn 116 [0]], [.box [.nilp]]⟩
noncomputable def o113v3 : List Shape := [⟨[.d i64], []⟩]
abbrev R113v3 : Type := ((Int × Unit) × Unit)
abbrev T113v3 : Type := (List Int) → Option R113v3
noncomputable def u113v3 (f : T113v3) : (a113v3).C → Option (OutC o113v3) := fun (x : (((List Int) × Unit × Unit) × ((Unit × Unit) × Unit))) => f x.1.1
noncomputable def F113v3 (f : T113v3) : Fun := ⟨true, runR a113v3 o113v3 (u113v3 f)⟩
noncomputable def pa113v3_26 : Shape := ⟨[.d (.slice i64), .fn 116 [0], .d i64, .d i64], [.lk (.box [.nilp])]⟩
noncomputable def pw113v3_26 : List Vm.Way := [⟨.exit 0, [], ⟨[], [.any]⟩⟩, ⟨.ret, [4], ⟨[.d i64], [.any]⟩⟩]
abbrev R113v3_26 : Type := ((Unit × (Unit × Unit)) ⊕ ((Int × Unit) × (Unit × Unit)))
abbrev T113v3_26 : Type := (List Int) → Int → Int → Option R113v3_26
noncomputable def u113v3_26 (f : T113v3_26) : (pa113v3_26).C → Option (WayC pw113v3_26) := fun (x : (((List Int) × Unit × Int × Int × Unit) × ((Unit × Unit) × Unit))) => f x.1.1 x.1.2.2.1 x.1.2.2.2.1
noncomputable def b113v3_26 (k : Nat) (rec : T113v3_26) : T113v3_26 := fun s0 t7 t8 =>
  cond (decide (t8 < t7))
    (ix s0 t8 fun e1 =>
    (f116v2 k e1).bind fun y2 =>
    cond y2.1.1
      (some (.inr ((t8, ()), ((), ()))))
      ((rec s0 t7 (w64 (t8 + 1))).bind fun y3 =>
      match y3 with
      | .inl y3_0 =>
        some (.inl ((), ((), ())))
      | .inr y3_1 =>
        some (.inr ((y3_1.1.1, ()), ((), ())))))
    (some (.inl ((), ((), ()))))
noncomputable def l113v3_26 (k : Nat) : Nat → T113v3_26
  | 0 => fun _ _ _ => none
  | j + 1 => b113v3_26 k (l113v3_26 k j)
noncomputable def f113v3 (k : Nat) : T113v3 := fun s0 =>
  (l113v3_26 k k s0 (s0.length : Int) 0).bind fun y1 =>
  match y1 with
  | .inl y1_0 =>
    some (((-1), ()), ())
  | .inr y1_1 =>
    some ((y1_1.1.1, ()), ())
noncomputable def C113v3 (k : Nat) : Nat → Fun := mkC [(116, (F116v2 (f116v2 k)))]
noncomputable def H113v3_26 (k : Nat) : Nat → Option Cut := addH noH 26 ⟨runCut (wrC (bodyOf (codeAt 26 (bd Try.f113) 26))) 19 [0, 1, 7, 8] pa113v3_26 pw113v3_26 (u113v3_26 (l113v3_26 k k))⟩
theorem e113v3_26 (k : Nat) (rec : T113v3_26) (x : (pa113v3_26).C) : roundF (C113v3 k) tt noH (bodyOf (codeAt 26 (bd Try.f113) 26)) 52 19 [0, 1, 7, 8] pa113v3_26 pw113v3_26 (u113v3_26 rec) x = u113v3_26 (b113v3_26 k rec) x := by kernel_rfl
theorem e113v3 (k : Nat) (x : (a113v3).C) : bodyR (C113v3 k) tt (H113v3_26 k) Try.f113 a113v3 o113v3 x = u113v3 (f113v3 k) x := by kernel_rfl
theorem c113v3_ok (k : Nat) : ∀ f, SoundFn Try.prog f (C113v3 k f) := (mkC_cons (s116v2 k) mkC_nil)
theorem h113v3_26_ok (k : Nat) : ∀ p S, H113v3_26 k p = some S → ∀ c, At (bd Try.f113) p c → CutOk Try.prog c S :=
  have hC := c113v3_ok k
  addLoop hC ttOk (draw_ok hC ttOk mixed) noH_ok (by kernel_rfl) (F := fun j => u113v3_26 (l113v3_26 k j)) (fun _ => rfl) (fun j x _ h => (e113v3_26 k (l113v3_26 k j) x).trans h) k
theorem s113v3 (k : Nat) : SoundFn Try.prog 113 (F113v3 (f113v3 k)) :=
  have hC := c113v3_ok k
  fnR_sound hC ttOk (draw_ok hC ttOk mixed) Try.func113 (c0 := bd Try.f113) rfl (entry Try.func113 rfl (by decide)) (h113v3_26_ok k) rfl (fun x _ h => (e113v3 k x).trans h)
/-! f106v3 slices.ContainsFunc[[]int,int] (R) -/
noncomputable def a106v3 : Shape := ⟨[.d (.slice i64), .fn 116 [0]], [.box [.nilp]]⟩
noncomputable def o106v3 : List Shape := [⟨[.d .bool], []⟩]
abbrev R106v3 : Type := ((Bool × Unit) × Unit)
abbrev T106v3 : Type := (List Int) → Option R106v3
noncomputable def u106v3 (f : T106v3) : (a106v3).C → Option (OutC o106v3) := fun (x : (((List Int) × Unit × Unit) × ((Unit × Unit) × Unit))) => f x.1.1
noncomputable def F106v3 (f : T106v3) : Fun := ⟨true, runR a106v3 o106v3 (u106v3 f)⟩
noncomputable def f106v3 (k : Nat) : T106v3 := fun s0 =>
  (f113v3 k s0).bind fun y1 =>
  some (((decide (y1.1.1 ≥ 0)), ()), ())
noncomputable def C106v3 (k : Nat) : Nat → Fun := mkC [(113, (F113v3 (f113v3 k)))]
theorem e106v3 (k : Nat) (x : (a106v3).C) : bodyR (C106v3 k) tt noH Try.f106 a106v3 o106v3 x = u106v3 (f106v3 k) x := by kernel_rfl
theorem c106v3_ok (k : Nat) : ∀ f, SoundFn Try.prog f (C106v3 k f) := (mkC_cons (s113v3 k) mkC_nil)
theorem s106v3 (k : Nat) : SoundFn Try.prog 106 (F106v3 (f106v3 k)) :=
  have hC := c106v3_ok k
  fnR_sound hC ttOk (draw_ok hC ttOk mixed) Try.func106 (c0 := bd Try.f106) rfl (entry Try.func106 rfl (by decide)) noH_ok rfl (fun x _ h => (e106v3 k x).trans h)
/-! f109v2 fathom/card.may (R) -/
noncomputable def a109v2 : Shape := ⟨[.nilp, .d (.slice i64)], []⟩
noncomputable def o109v2 : List Shape := [⟨[.d .bool], []⟩]
abbrev R109v2 : Type := ((Bool × Unit) × Unit)
abbrev T109v2 : Type := (List Int) → Option R109v2
noncomputable def u109v2 (f : T109v2) : (a109v2).C → Option (OutC o109v2) := fun (x : ((Unit × (List Int) × Unit) × Unit)) => f x.1.2.1
noncomputable def F109v2 (f : T109v2) : Fun := ⟨true, runR a109v2 o109v2 (u109v2 f)⟩
noncomputable def f109v2 (k : Nat) : T109v2 := fun l1 =>
  (f24v3 k 0).bind fun y1 =>
  cond y1.1.1
    (cond (decide ((l1.length : Int) ≤ 64))
      ((f106v3 k l1).bind fun y2 =>
      some (((!y2.1.1), ()), ()))
      (some ((false, ()), ())))
    (some ((false, ()), ()))
noncomputable def C109v2 (k : Nat) : Nat → Fun := mkC [(24, (F24v3 (f24v3 k))), (106, (F106v3 (f106v3 k)))]
theorem e109v2 (k : Nat) (x : (a109v2).C) : bodyR (C109v2 k) tt noH Try.f109 a109v2 o109v2 x = u109v2 (f109v2 k) x := by kernel_rfl
theorem c109v2_ok (k : Nat) : ∀ f, SoundFn Try.prog f (C109v2 k f) := (mkC_cons (s24v3 k) (mkC_cons (s106v3 k) mkC_nil))
theorem s109v2 (k : Nat) : SoundFn Try.prog 109 (F109v2 (f109v2 k)) :=
  have hC := c109v2_ok k
  fnR_sound hC ttOk (draw_ok hC ttOk mixed) Try.func109 (c0 := bd Try.f109) rfl (entry Try.func109 rfl (by decide)) noH_ok rfl (fun x _ h => (e109v2 k x).trans h)
/-! f102v2 slices.Clone[[]int,int] (R) -/
noncomputable def a102v2 : Shape := ⟨[.nils], []⟩
noncomputable def o102v2 : List Shape := [⟨[.d (.slice i64)], []⟩]
abbrev R102v2 : Type := (((List Int) × Unit) × Unit)
abbrev T102v2 : Type := Unit → Option R102v2
noncomputable def u102v2 (f : T102v2) : (a102v2).C → Option (OutC o102v2) := fun (x : ((Unit × Unit) × Unit)) => f ()
noncomputable def F102v2 (f : T102v2) : Fun := ⟨true, runR a102v2 o102v2 (u102v2 f)⟩
noncomputable def f102v2 (k : Nat) : T102v2 := fun _ =>
  some (([], ()), ())
noncomputable def C102v2 (k : Nat) : Nat → Fun := mkC []
theorem e102v2 (k : Nat) (x : (a102v2).C) : bodyR (C102v2 k) tt noH Try.f102 a102v2 o102v2 x = u102v2 (f102v2 k) x := by kernel_rfl
theorem c102v2_ok (k : Nat) : ∀ f, SoundFn Try.prog f (C102v2 k f) := mkC_nil
theorem s102v2 (k : Nat) : SoundFn Try.prog 102 (F102v2 (f102v2 k)) :=
  have hC := c102v2_ok k
  fnR_sound hC ttOk (draw_ok hC ttOk mixed) Try.func102 (c0 := bd Try.f102) rfl (entry Try.func102 rfl (by decide)) noH_ok rfl (fun x _ h => (e102v2 k x).trans h)
/-! f102v3 slices.Clone[[]int,int] (R) -/
noncomputable def a102v3 : Shape := ⟨[.nn i64], []⟩
noncomputable def o102v3 : List Shape := [⟨[.d (.slice i64)], []⟩]
abbrev R102v3 : Type := (((List Int) × Unit) × Unit)
abbrev T102v3 : Type := (List Int) → Option R102v3
noncomputable def u102v3 (f : T102v3) : (a102v3).C → Option (OutC o102v3) := fun (x : (((List Int) × Unit) × Unit)) => f x.1.1
noncomputable def F102v3 (f : T102v3) : Fun := ⟨true, runR a102v3 o102v3 (u102v3 f)⟩
noncomputable def f102v3 (k : Nat) : T102v3 := fun s0 =>
  gd (decide ((0 + s0.length) * 8 ≤ room)) <|
  some (((([] : List Int) ++ s0), ()), ())
noncomputable def C102v3 (k : Nat) : Nat → Fun := mkC []
theorem e102v3 (k : Nat) (x : (a102v3).C) : bodyR (C102v3 k) tt noH Try.f102 a102v3 o102v3 x = u102v3 (f102v3 k) x := by kernel_rfl
theorem c102v3_ok (k : Nat) : ∀ f, SoundFn Try.prog f (C102v3 k f) := mkC_nil
theorem s102v3 (k : Nat) : SoundFn Try.prog 102 (F102v3 (f102v3 k)) :=
  have hC := c102v3_ok k
  fnR_sound hC ttOk (draw_ok hC ttOk mixed) Try.func102 (c0 := bd Try.f102) rfl (entry Try.func102 rfl (by decide)) noH_ok rfl (fun x _ h => (e102v3 k x).trans h)
/-! f102 slices.Clone[[]int,int] (R) -/
noncomputable def a102 : Shape := ⟨[.d (.slice i64)], []⟩
noncomputable def o102 : List Shape := [⟨[.d (.slice i64)], []⟩]
abbrev R102 : Type := (((List Int) × Unit) × Unit)
abbrev T102 : Type := (List Int) → Option R102
noncomputable def u102 (f : T102) : (a102).C → Option (OutC o102) := fun (x : (((List Int) × Unit) × Unit)) => f x.1.1
noncomputable def F102 (f : T102) : Fun := ⟨true, runR a102 o102 (u102 f)⟩
noncomputable def f102 (k : Nat) : T102 := fun s0 => f102v3 k s0
theorem s102 (k : Nat) : SoundFn Try.prog 102 (F102 (f102 k)) := splitR (s102v2 k) (s102v3 k) (fun xs y h => ⟨h, fun e => by subst e; exact (show u102v2 (f102v2 k) (((), ()), ()) = u102v3 (f102v3 k) (([], ()), ()) from by kernel_rfl).trans h⟩)
/-! f73 fathom/card.One (R) -/
noncomputable def a73 : Shape := ⟨[.nilp, .d (.slice i64)], []⟩
noncomputable def o73 : List Shape := [⟨[.d (.slice (.slice i64))], []⟩]
abbrev R73 : Type := (((List (List Int)) × Unit) × Unit)
abbrev T73 : Type := (List Int) → Option R73
noncomputable def u73 (f : T73) : (a73).C → Option (OutC o73) := fun (x : ((Unit × (List Int) × Unit) × Unit)) => f x.1.2.1
noncomputable def F73 (f : T73) : Fun := ⟨true, runR a73 o73 (u73 f)⟩
noncomputable def pa73_31334 : Shape := ⟨[.own (.slice i64), .d i64, .d (.slice i64), .d i64, .d i64], []⟩
noncomputable def pw73_31334 : List Vm.Way := [⟨.exit 2, [5], ⟨[.own (.slice i64)], []⟩⟩]
abbrev R73_31334 : Type := (((List (List Int)) × Unit) × Unit)
abbrev T73_31334 : Type := (List (List Int)) → Int → (List Int) → Int → Int → Option R73_31334
noncomputable def u73_31334 (f : T73_31334) : (pa73_31334).C → Option (WayC pw73_31334) := fun (x : (((List (List Int)) × Int × (List Int) × Int × Int × Unit) × Unit)) => f x.1.1 x.1.2.1 x.1.2.2.1 x.1.2.2.2.1 x.1.2.2.2.2.1
noncomputable def b73_31334 (k : Nat) (rec : T73_31334) : T73_31334 := fun out5 a7 t26 t27 t28 =>
  cond (decide (t28 < t27))
    (ix t26 t28 fun e1 =>
    gd (decide ((out5.length + 1) * 24 ≤ room)) <|
    (rec (out5 ++ ([[(ibits .xor .i64 a7 1), (ibits .xor .i64 e1 1)]] : List (List Int))) a7 t26 t27 (w64 (t28 + 1))).bind fun y2 =>
    some ((y2.1.1, ()), ()))
    (some ((out5, ()), ()))
noncomputable def l73_31334 (k : Nat) : Nat → T73_31334
  | 0 => fun _ _ _ _ _ => none
  | j + 1 => b73_31334 k (l73_31334 k j)
noncomputable def pa73_122 : Shape := ⟨[.d (.slice i64), .own (.slice i64), .d (.slice i64), .d i64, .d i64], []⟩
noncomputable def pw73_122 : List Vm.Way := [⟨.exit 0, [5], ⟨[.own (.slice i64)], []⟩⟩]
abbrev R73_122 : Type := (((List (List Int)) × Unit) × Unit)
abbrev T73_122 : Type := (List Int) → (List (List Int)) → (List Int) → Int → Int → Option R73_122
noncomputable def u73_122 (f : T73_122) : (pa73_122).C → Option (WayC pw73_122) := fun (x : (((List Int) × (List (List Int)) × (List Int) × Int × Int × Unit) × Unit)) => f x.1.1 x.1.2.1 x.1.2.2.1 x.1.2.2.2.1 x.1.2.2.2.2.1
noncomputable def b73_122 (k : Nat) (rec : T73_122) : T73_122 := fun l1 out5 t17 t18 t19 =>
  cond (decide (t19 < t18))
    (ix t17 t19 fun e1 =>
    gd (decide (0 ≤ t19)) <|
    gd (decide (t19.toNat ≤ l1.length)) <|
    (l73_31334 k k out5 e1 ((l1.take t19.toNat).drop 0) (((l1.take t19.toNat).drop 0).length : Int) 0).bind fun y2 =>
    (rec l1 y2.1.1 t17 t18 (w64 (t19 + 1))).bind fun y3 =>
    some ((y3.1.1, ()), ()))
    (some ((out5, ()), ()))
noncomputable def l73_122 (k : Nat) : Nat → T73_122
  | 0 => fun _ _ _ _ _ => none
  | j + 1 => b73_122 k (l73_122 k j)
noncomputable def f73 (k : Nat) : T73 := fun l1 =>
  (f109v2 k l1).bind fun y1 =>
  cond (!y1.1.1)
    (some (([], ()), ()))
    ((f102 k l1).bind fun y2 =>
    (l73_122 k k l1 [y2.1.1] l1 (l1.length : Int) 0).bind fun y3 =>
    some ((y3.1.1, ()), ()))
noncomputable def C73 (k : Nat) : Nat → Fun := mkC [(102, (F102 (f102 k))), (109, (F109v2 (f109v2 k)))]
noncomputable def H73_31334 (k : Nat) : Nat → Option Cut := addH noH 31334 ⟨runCut (wrC (bodyOf (codeAt 31334 (bd Try.f73) 31334))) 43 [5, 7, 26, 27, 28] pa73_31334 pw73_31334 (u73_31334 (l73_31334 k k))⟩
theorem e73_31334 (k : Nat) (rec : T73_31334) (x : (pa73_31334).C) : roundF (C73 k) tt noH (bodyOf (codeAt 31334 (bd Try.f73) 31334)) 62668 43 [5, 7, 26, 27, 28] pa73_31334 pw73_31334 (u73_31334 rec) x = u73_31334 (b73_31334 k rec) x := by kernel_rfl
noncomputable def H73_122 (k : Nat) : Nat → Option Cut := addH (H73_31334 k) 122 ⟨runCut (wrC (bodyOf (codeAt 122 (bd Try.f73) 122))) 43 [1, 5, 17, 18, 19] pa73_122 pw73_122 (u73_122 (l73_122 k k))⟩
theorem e73_122 (k : Nat) (rec : T73_122) (x : (pa73_122).C) : roundF (C73 k) tt (H73_31334 k) (bodyOf (codeAt 122 (bd Try.f73) 122)) 244 43 [1, 5, 17, 18, 19] pa73_122 pw73_122 (u73_122 rec) x = u73_122 (b73_122 k rec) x := by kernel_rfl
theorem e73 (k : Nat) (x : (a73).C) : bodyR (C73 k) tt (H73_122 k) Try.f73 a73 o73 x = u73 (f73 k) x := by kernel_rfl
theorem c73_ok (k : Nat) : ∀ f, SoundFn Try.prog f (C73 k f) := (mkC_cons (s102 k) (mkC_cons (s109v2 k) mkC_nil))
theorem h73_31334_ok (k : Nat) : ∀ p S, H73_31334 k p = some S → ∀ c, At (bd Try.f73) p c → CutOk Try.prog c S :=
  have hC := c73_ok k
  addLoop hC ttOk (draw_ok hC ttOk mixed) noH_ok (by kernel_rfl) (F := fun j => u73_31334 (l73_31334 k j)) (fun _ => rfl) (fun j x _ h => (e73_31334 k (l73_31334 k j) x).trans h) k
theorem h73_122_ok (k : Nat) : ∀ p S, H73_122 k p = some S → ∀ c, At (bd Try.f73) p c → CutOk Try.prog c S :=
  have hC := c73_ok k
  addLoop hC ttOk (draw_ok hC ttOk mixed) (h73_31334_ok k) (by kernel_rfl) (F := fun j => u73_122 (l73_122 k j)) (fun _ => rfl) (fun j x _ h => (e73_122 k (l73_122 k j) x).trans h) k
theorem s73 (k : Nat) : SoundFn Try.prog 73 (F73 (f73 k)) :=
  have hC := c73_ok k
  fnR_sound hC ttOk (draw_ok hC ttOk mixed) Try.func73 (c0 := bd Try.f73) rfl (entry Try.func73 rfl (by decide)) (h73_122_ok k) rfl (fun x _ h => (e73 k x).trans h)
/-! f74 fathom/fathomref17.May (R) -/
noncomputable def a74 : Shape := ⟨[.d (.slice T_Gate), .d (.slice i64)], []⟩
noncomputable def o74 : List Shape := [⟨[.d .bool], []⟩]
abbrev R74 : Type := ((Bool × Unit) × Unit)
abbrev T74 : Type := (List D_Gate) → (List Int) → Option R74
noncomputable def u74 (f : T74) : (a74).C → Option (OutC o74) := fun (x : (((List D_Gate) × (List Int) × Unit) × Unit)) => f x.1.1 x.1.2.1
noncomputable def F74 (f : T74) : Fun := ⟨true, runR a74 o74 (u74 f)⟩
noncomputable def pa74_26 : Shape := ⟨[.d (.slice T_Gate), .d (.slice i64), .d i64], []⟩
noncomputable def pw74_26 : List Vm.Way := [⟨.exit 0, [], ⟨[], []⟩⟩, ⟨.ret, [4], ⟨[.d .bool], []⟩⟩]
abbrev R74_26 : Type := ((Unit × Unit) ⊕ ((Bool × Unit) × Unit))
abbrev T74_26 : Type := (List D_Gate) → (List Int) → Int → Option R74_26
noncomputable def u74_26 (f : T74_26) : (pa74_26).C → Option (WayC pw74_26) := fun (x : (((List D_Gate) × (List Int) × Int × Unit) × Unit)) => f x.1.1 x.1.2.1 x.1.2.2.1
noncomputable def b74_26 (k : Nat) (rec : T74_26) : T74_26 := fun g0 l1 i5 =>
  cond (decide (i5 < (l1.length : Int)))
    (ix l1 i5 fun e1 =>
    (f67 k g0 e1).bind fun y2 =>
    cond (!y2.1.1)
      (some (.inr ((false, ()), ())))
      ((rec g0 l1 (w64 (i5 + 1))).bind fun y3 =>
      match y3 with
      | .inl y3_0 =>
        some (.inl ((), ()))
      | .inr y3_1 =>
        some (.inr ((y3_1.1.1, ()), ()))))
    (some (.inl ((), ())))
noncomputable def l74_26 (k : Nat) : Nat → T74_26
  | 0 => fun _ _ _ => none
  | j + 1 => b74_26 k (l74_26 k j)
noncomputable def f74 (k : Nat) : T74 := fun g0 l1 =>
  (l74_26 k k g0 l1 0).bind fun y1 =>
  match y1 with
  | .inl y1_0 =>
    some (((decide ((l1.length : Int) ≤ 64)), ()), ())
  | .inr y1_1 =>
    some ((y1_1.1.1, ()), ())
noncomputable def C74 (k : Nat) : Nat → Fun := mkC [(67, (F67 (f67 k)))]
noncomputable def H74_26 (k : Nat) : Nat → Option Cut := addH noH 26 ⟨runCut (wrC (bodyOf (codeAt 26 (bd Try.f74) 26))) 22 [0, 1, 5] pa74_26 pw74_26 (u74_26 (l74_26 k k))⟩
theorem e74_26 (k : Nat) (rec : T74_26) (x : (pa74_26).C) : roundF (C74 k) tt noH (bodyOf (codeAt 26 (bd Try.f74) 26)) 52 22 [0, 1, 5] pa74_26 pw74_26 (u74_26 rec) x = u74_26 (b74_26 k rec) x := by kernel_rfl
theorem e74 (k : Nat) (x : (a74).C) : bodyR (C74 k) tt (H74_26 k) Try.f74 a74 o74 x = u74 (f74 k) x := by kernel_rfl
theorem c74_ok (k : Nat) : ∀ f, SoundFn Try.prog f (C74 k f) := (mkC_cons (s67 k) mkC_nil)
theorem h74_26_ok (k : Nat) : ∀ p S, H74_26 k p = some S → ∀ c, At (bd Try.f74) p c → CutOk Try.prog c S :=
  have hC := c74_ok k
  addLoop hC ttOk (draw_ok hC ttOk mixed) noH_ok (by kernel_rfl) (F := fun j => u74_26 (l74_26 k j)) (fun _ => rfl) (fun j x _ h => (e74_26 k (l74_26 k j) x).trans h) k
theorem s74 (k : Nat) : SoundFn Try.prog 74 (F74 (f74 k)) :=
  have hC := c74_ok k
  fnR_sound hC ttOk (draw_ok hC ttOk mixed) Try.func74 (c0 := bd Try.f74) rfl (entry Try.func74 rfl (by decide)) (h74_26_ok k) rfl (fun x _ h => (e74 k x).trans h)
/-! f75 fathom/fathomref17.True (R) -/
noncomputable def a75 : Shape := ⟨[.d (.slice T_Gate), .d (.slice .bool), .d (.slice i64)], []⟩
noncomputable def o75 : List Shape := [⟨[.d i64], []⟩]
abbrev R75 : Type := ((Int × Unit) × Unit)
abbrev T75 : Type := (List D_Gate) → (List Bool) → (List Int) → Option R75
noncomputable def u75 (f : T75) : (a75).C → Option (OutC o75) := fun (x : (((List D_Gate) × (List Bool) × (List Int) × Unit) × Unit)) => f x.1.1 x.1.2.1 x.1.2.2.1
noncomputable def F75 (f : T75) : Fun := ⟨true, runR a75 o75 (u75 f)⟩
noncomputable def pa75_58 : Shape := ⟨[.d (.slice T_Gate), .d (.slice .bool), .d (.slice i64), .d i64, .d i64], []⟩
noncomputable def pw75_58 : List Vm.Way := [⟨.exit 0, [7], ⟨[.d i64], []⟩⟩]
abbrev R75_58 : Type := ((Int × Unit) × Unit)
abbrev T75_58 : Type := (List D_Gate) → (List Bool) → (List Int) → Int → Int → Option R75_58
noncomputable def u75_58 (f : T75_58) : (pa75_58).C → Option (WayC pw75_58) := fun (x : (((List D_Gate) × (List Bool) × (List Int) × Int × Int × Unit) × Unit)) => f x.1.1 x.1.2.1 x.1.2.2.1 x.1.2.2.2.1 x.1.2.2.2.2.1
noncomputable def b75_58 (k : Nat) (rec : T75_58) : T75_58 := fun g0 ins1 l2 n7 i8 =>
  cond (decide (i8 < (l2.length : Int)))
    (ix l2 i8 fun e1 =>
    (f35 k g0 ins1 e1).bind fun y2 =>
    cond y2.1.1
      ((rec g0 ins1 l2 (w64 (n7 + 1)) (w64 (i8 + 1))).bind fun y3 =>
      some ((y3.1.1, ()), ()))
      ((rec g0 ins1 l2 n7 (w64 (i8 + 1))).bind fun y4 =>
      some ((y4.1.1, ()), ())))
    (some ((n7, ()), ()))
noncomputable def l75_58 (k : Nat) : Nat → T75_58
  | 0 => fun _ _ _ _ _ => none
  | j + 1 => b75_58 k (l75_58 k j)
noncomputable def f75 (k : Nat) : T75 := fun g0 ins1 l2 =>
  (l75_58 k k g0 ins1 l2 0 0).bind fun y1 =>
  some ((y1.1.1, ()), ())
noncomputable def C75 (k : Nat) : Nat → Fun := mkC [(35, (F35 (f35 k)))]
noncomputable def H75_58 (k : Nat) : Nat → Option Cut := addH noH 58 ⟨runCut (wrC (bodyOf (codeAt 58 (bd Try.f75) 58))) 25 [0, 1, 2, 7, 8] pa75_58 pw75_58 (u75_58 (l75_58 k k))⟩
theorem e75_58 (k : Nat) (rec : T75_58) (x : (pa75_58).C) : roundF (C75 k) tt noH (bodyOf (codeAt 58 (bd Try.f75) 58)) 116 25 [0, 1, 2, 7, 8] pa75_58 pw75_58 (u75_58 rec) x = u75_58 (b75_58 k rec) x := by kernel_rfl
theorem e75 (k : Nat) (x : (a75).C) : bodyR (C75 k) tt (H75_58 k) Try.f75 a75 o75 x = u75 (f75 k) x := by kernel_rfl
theorem c75_ok (k : Nat) : ∀ f, SoundFn Try.prog f (C75 k f) := (mkC_cons (s35 k) mkC_nil)
theorem h75_58_ok (k : Nat) : ∀ p S, H75_58 k p = some S → ∀ c, At (bd Try.f75) p c → CutOk Try.prog c S :=
  have hC := c75_ok k
  addLoop hC ttOk (draw_ok hC ttOk mixed) noH_ok (by kernel_rfl) (F := fun j => u75_58 (l75_58 k j)) (fun _ => rfl) (fun j x _ h => (e75_58 k (l75_58 k j) x).trans h) k
theorem s75 (k : Nat) : SoundFn Try.prog 75 (F75 (f75 k)) :=
  have hC := c75_ok k
  fnR_sound hC ttOk (draw_ok hC ttOk mixed) Try.func75 (c0 := bd Try.f75) rfl (entry Try.func75 rfl (by decide)) (h75_58_ok k) rfl (fun x _ h => (e75 k x).trans h)
/-! f73v2 fathom/card.One (R) -/
noncomputable def a73v2 : Shape := ⟨[.ptr 0, .d (.slice i64)], [.box [.d (.slice T_Gate), .mp 1], .map T_Gate i64]⟩
noncomputable def o73v2 : List Shape := [⟨[.d (.slice (.slice i64))], []⟩]
abbrev R73v2 : Type := (((List (List Int)) × Unit) × Unit)
abbrev T73v2 : Type := (List Int) → (List D_Gate) → (List (D_Gate × Int)) → Option R73v2
noncomputable def u73v2 (f : T73v2) : (a73v2).C → Option (OutC o73v2) := fun (x : ((Unit × (List Int) × Unit) × (((List D_Gate) × Unit × Unit) × (List (D_Gate × Int)) × Unit))) => f x.1.2.1 x.2.1.1 x.2.2.1
noncomputable def F73v2 (f : T73v2) : Fun := ⟨true, runR a73v2 o73v2 (u73v2 f)⟩
noncomputable def pa73v2_31334 : Shape := ⟨[.own (.slice i64), .d i64, .d (.slice i64), .d i64, .d i64], []⟩
noncomputable def pw73v2_31334 : List Vm.Way := [⟨.exit 2, [5], ⟨[.own (.slice i64)], []⟩⟩]
abbrev R73v2_31334 : Type := (((List (List Int)) × Unit) × Unit)
abbrev T73v2_31334 : Type := (List (List Int)) → Int → (List Int) → Int → Int → Option R73v2_31334
noncomputable def u73v2_31334 (f : T73v2_31334) : (pa73v2_31334).C → Option (WayC pw73v2_31334) := fun (x : (((List (List Int)) × Int × (List Int) × Int × Int × Unit) × Unit)) => f x.1.1 x.1.2.1 x.1.2.2.1 x.1.2.2.2.1 x.1.2.2.2.2.1
noncomputable def b73v2_31334 (k : Nat) (rec : T73v2_31334) : T73v2_31334 := fun out5 a7 t26 t27 t28 =>
  cond (decide (t28 < t27))
    (ix t26 t28 fun e1 =>
    gd (decide ((out5.length + 1) * 24 ≤ room)) <|
    (rec (out5 ++ ([[(ibits .xor .i64 a7 1), (ibits .xor .i64 e1 1)]] : List (List Int))) a7 t26 t27 (w64 (t28 + 1))).bind fun y2 =>
    some ((y2.1.1, ()), ()))
    (some ((out5, ()), ()))
noncomputable def l73v2_31334 (k : Nat) : Nat → T73v2_31334
  | 0 => fun _ _ _ _ _ => none
  | j + 1 => b73v2_31334 k (l73v2_31334 k j)
noncomputable def pa73v2_122 : Shape := ⟨[.d (.slice i64), .own (.slice i64), .d (.slice i64), .d i64, .d i64], []⟩
noncomputable def pw73v2_122 : List Vm.Way := [⟨.exit 0, [5], ⟨[.own (.slice i64)], []⟩⟩]
abbrev R73v2_122 : Type := (((List (List Int)) × Unit) × Unit)
abbrev T73v2_122 : Type := (List Int) → (List (List Int)) → (List Int) → Int → Int → Option R73v2_122
noncomputable def u73v2_122 (f : T73v2_122) : (pa73v2_122).C → Option (WayC pw73v2_122) := fun (x : (((List Int) × (List (List Int)) × (List Int) × Int × Int × Unit) × Unit)) => f x.1.1 x.1.2.1 x.1.2.2.1 x.1.2.2.2.1 x.1.2.2.2.2.1
noncomputable def b73v2_122 (k : Nat) (rec : T73v2_122) : T73v2_122 := fun l1 out5 t17 t18 t19 =>
  cond (decide (t19 < t18))
    (ix t17 t19 fun e1 =>
    gd (decide (0 ≤ t19)) <|
    gd (decide (t19.toNat ≤ l1.length)) <|
    (l73v2_31334 k k out5 e1 ((l1.take t19.toNat).drop 0) (((l1.take t19.toNat).drop 0).length : Int) 0).bind fun y2 =>
    (rec l1 y2.1.1 t17 t18 (w64 (t19 + 1))).bind fun y3 =>
    some ((y3.1.1, ()), ()))
    (some ((out5, ()), ()))
noncomputable def l73v2_122 (k : Nat) : Nat → T73v2_122
  | 0 => fun _ _ _ _ _ => none
  | j + 1 => b73v2_122 k (l73v2_122 k j)
noncomputable def f73v2 (k : Nat) : T73v2 := fun l1 o0 o1 =>
  (f109 k l1 o0 o1).bind fun y1 =>
  cond (!y1.1.1)
    (some (([], ()), ()))
    ((f102 k l1).bind fun y2 =>
    (l73v2_122 k k l1 [y2.1.1] l1 (l1.length : Int) 0).bind fun y3 =>
    some ((y3.1.1, ()), ()))
noncomputable def C73v2 (k : Nat) : Nat → Fun := mkC [(102, (F102 (f102 k))), (109, (F109 (f109 k)))]
noncomputable def H73v2_31334 (k : Nat) : Nat → Option Cut := addH noH 31334 ⟨runCut (wrC (bodyOf (codeAt 31334 (bd Try.f73) 31334))) 43 [5, 7, 26, 27, 28] pa73v2_31334 pw73v2_31334 (u73v2_31334 (l73v2_31334 k k))⟩
theorem e73v2_31334 (k : Nat) (rec : T73v2_31334) (x : (pa73v2_31334).C) : roundF (C73v2 k) tt noH (bodyOf (codeAt 31334 (bd Try.f73) 31334)) 62668 43 [5, 7, 26, 27, 28] pa73v2_31334 pw73v2_31334 (u73v2_31334 rec) x = u73v2_31334 (b73v2_31334 k rec) x := by kernel_rfl
noncomputable def H73v2_122 (k : Nat) : Nat → Option Cut := addH (H73v2_31334 k) 122 ⟨runCut (wrC (bodyOf (codeAt 122 (bd Try.f73) 122))) 43 [1, 5, 17, 18, 19] pa73v2_122 pw73v2_122 (u73v2_122 (l73v2_122 k k))⟩
theorem e73v2_122 (k : Nat) (rec : T73v2_122) (x : (pa73v2_122).C) : roundF (C73v2 k) tt (H73v2_31334 k) (bodyOf (codeAt 122 (bd Try.f73) 122)) 244 43 [1, 5, 17, 18, 19] pa73v2_122 pw73v2_122 (u73v2_122 rec) x = u73v2_122 (b73v2_122 k rec) x := by kernel_rfl
theorem e73v2 (k : Nat) (x : (a73v2).C) : bodyR (C73v2 k) tt (H73v2_122 k) Try.f73 a73v2 o73v2 x = u73v2 (f73v2 k) x := by kernel_rfl
theorem c73v2_ok (k : Nat) : ∀ f, SoundFn Try.prog f (C73v2 k f) := (mkC_cons (s102 k) (mkC_cons (s109 k) mkC_nil))
theorem h73v2_31334_ok (k : Nat) : ∀ p S, H73v2_31334 k p = some S → ∀ c, At (bd Try.f73) p c → CutOk Try.prog c S :=
  have hC := c73v2_ok k
  addLoop hC ttOk (draw_ok hC ttOk mixed) noH_ok (by kernel_rfl) (F := fun j => u73v2_31334 (l73v2_31334 k j)) (fun _ => rfl) (fun j x _ h => (e73v2_31334 k (l73v2_31334 k j) x).trans h) k
theorem h73v2_122_ok (k : Nat) : ∀ p S, H73v2_122 k p = some S → ∀ c, At (bd Try.f73) p c → CutOk Try.prog c S :=
  have hC := c73v2_ok k
  addLoop hC ttOk (draw_ok hC ttOk mixed) (h73v2_31334_ok k) (by kernel_rfl) (F := fun j => u73v2_122 (l73v2_122 k j)) (fun _ => rfl) (fun j x _ h => (e73v2_122 k (l73v2_122 k j) x).trans h) k
theorem s73v2 (k : Nat) : SoundFn Try.prog 73 (F73v2 (f73v2 k)) :=
  have hC := c73v2_ok k
  fnR_sound hC ttOk (draw_ok hC ttOk mixed) Try.func73 (c0 := bd Try.f73) rfl (entry Try.func73 rfl (by decide)) (h73v2_122_ok k) rfl (fun x _ h => (e73v2 k x).trans h)
/-! f72 fathom/fathomlaw17.begin (W) -/
noncomputable def a72 : Shape := ⟨[.d (.slice T_Gate), .d (.slice i64)], []⟩
noncomputable def o72 : List Shape := [⟨[.nilp, .d .bool], []⟩, ⟨[.ptr 0, .d .bool], [.box [.own T_Gate, .mp 1], .map T_Gate i64]⟩]
abbrev R72 : Type := (((Unit × Bool × Unit) × Unit) ⊕ ((Unit × Bool × Unit) × (((List D_Gate) × Unit × Unit) × (List (D_Gate × Int)) × Unit)))
abbrev T72 : Type := (List D_Gate) → (List Int) → Option R72
noncomputable def u72 (f : T72) : (a72).C → Option (OutC o72) := fun (x : (((List D_Gate) × (List Int) × Unit) × Unit)) => f x.1.1 x.1.2.1
noncomputable def F72 (f : T72) : Fun := ⟨false, runW a72 o72 (u72 f)⟩
noncomputable def f72 (k : Nat) : T72 := fun g0 l1 =>
  cond (decide ((g0.length : Int) > 12))
    (some (.inl (((), false, ()), ())))
    (cond (decide ((l1.length : Int) > 100))
      (some (.inl (((), false, ()), ())))
      ((f32 k g0).bind fun y1 =>
      cond (!y1.1.1)
        (some (.inl (((), false, ()), ())))
        ((f30 k g0).bind fun y2 =>
        match y2 with
        | .inl y2_0 =>
          cond (y2_0.1.2.1 == 0)
            (some (.inl (((), false, ()), ())))
            (some (.inl (((), false, ()), ())))
        | .inr y2_1 =>
          cond (y2_1.1.2.1 == 0)
            (some (.inr (((), true, ()), ((y2_1.2.1.1, (), ()), y2_1.2.2.1, ()))))
            (some (.inr (((), false, ()), ((y2_1.2.1.1, (), ()), y2_1.2.2.1, ())))))))
noncomputable def C72 (k : Nat) : Nat → Fun := mkC [(30, (F30 (f30 k))), (32, (F32 (f32 k)))]
theorem e72 (k : Nat) (x : (a72).C) : bodyW (C72 k) tt noH Try.f72 a72 o72 x = u72 (f72 k) x := by kernel_rfl
theorem c72_ok (k : Nat) : ∀ f, SoundFn Try.prog f (C72 k f) := (mkC_cons (s30 k) (mkC_cons (s32 k) mkC_nil))
theorem s72 (k : Nat) : SoundFn Try.prog 72 (F72 (f72 k)) :=
  have hC := c72_ok k
  fnW_sound hC ttOk (draw_ok hC ttOk mixed) Try.func72 (c0 := bd Try.f72) rfl (entry Try.func72 rfl (by decide)) noH_ok (fun x _ h => (e72 k x).trans h)
/-! f15 fathom/fathomlaw17.CardOne (R) -/
noncomputable def a15 : Shape := ⟨[.d (.slice T_Gate), .d (.slice .bool), .d (.slice i64)], []⟩
noncomputable def o15 : List Shape := [⟨[.d .bool], []⟩]
abbrev R15 : Type := ((Bool × Unit) × Unit)
abbrev T15 : Type := (List D_Gate) → (List Bool) → (List Int) → Option R15
noncomputable def u15 (f : T15) : (a15).C → Option (OutC o15) := fun (x : (((List D_Gate) × (List Bool) × (List Int) × Unit) × Unit)) => f x.1.1 x.1.2.1 x.1.2.2.1
noncomputable def F15 (f : T15) : Fun := ⟨true, runR a15 o15 (u15 f)⟩
noncomputable def pa15_1018 : Shape := ⟨[.d (.slice T_Gate), .d (.slice .bool), .d (.slice (.slice i64)), .d .bool, .d i64], []⟩
noncomputable def pw15_1018 : List Vm.Way := [⟨.exit 0, [10], ⟨[.d .bool], []⟩⟩]
abbrev R15_1018 : Type := ((Bool × Unit) × Unit)
abbrev T15_1018 : Type := (List D_Gate) → (List Bool) → (List (List Int)) → Bool → Int → Option R15_1018
noncomputable def u15_1018 (f : T15_1018) : (pa15_1018).C → Option (WayC pw15_1018) := fun (x : (((List D_Gate) × (List Bool) × (List (List Int)) × Bool × Int × Unit) × Unit)) => f x.1.1 x.1.2.1 x.1.2.2.1 x.1.2.2.2.1 x.1.2.2.2.2.1
noncomputable def b15_1018 (k : Nat) (rec : T15_1018) : T15_1018 := fun g0 ins1 c9 all10 i11 =>
  cond (decide (i11 < (c9.length : Int)))
    (cond all10
      (ix c9 i11 fun e1 =>
      (f75 k g0 ins1 e1).bind fun y2 =>
      (rec g0 ins1 c9 (decide (y2.1.1 > 0)) (w64 (i11 + 1))).bind fun y3 =>
      some ((y3.1.1, ()), ()))
      ((rec g0 ins1 c9 false (w64 (i11 + 1))).bind fun y4 =>
      some ((y4.1.1, ()), ())))
    (some ((all10, ()), ()))
noncomputable def l15_1018 (k : Nat) : Nat → T15_1018
  | 0 => fun _ _ _ _ _ => none
  | j + 1 => b15_1018 k (l15_1018 k j)
noncomputable def pa15_28 : Shape := ⟨[.d .bool], []⟩
noncomputable def pw15_28 : List Vm.Way := [⟨.normal, [19], ⟨[.d .bool], []⟩⟩]
abbrev R15_28 : Type := ((Bool × Unit) × Unit)
abbrev T15_28 : Type := Bool → Option R15_28
noncomputable def u15_28 (f : T15_28) : (pa15_28).C → Option (WayC pw15_28) := fun (x : ((Bool × Unit) × Unit)) => f x.1.1
noncomputable def l15_28 (k : Nat) : T15_28 := fun ok8 =>
  some (((!ok8), ()), ())
noncomputable def pa15_14 : Shape := ⟨[.d .bool], []⟩
noncomputable def pw15_14 : List Vm.Way := [⟨.normal, [], ⟨[], []⟩⟩, ⟨.ret, [6], ⟨[.d .bool], []⟩⟩]
abbrev R15_14 : Type := ((Unit × Unit) ⊕ ((Bool × Unit) × Unit))
abbrev T15_14 : Type := Bool → Option R15_14
noncomputable def u15_14 (f : T15_14) : (pa15_14).C → Option (WayC pw15_14) := fun (x : ((Bool × Unit) × Unit)) => f x.1.1
noncomputable def l15_14 (k : Nat) : T15_14 := fun ok8 =>
  (l15_28 k ok8).bind fun y1 =>
  cond y1.1.1
    ((f71 k ()).bind fun y2 =>
    some (.inr ((y2.1.1, ()), ())))
    (some (.inl ((), ())))
noncomputable def pa15_6 : Shape := ⟨[.d (.slice T_Gate), .d (.slice i64)], []⟩
noncomputable def pw15_6 : List Vm.Way := [⟨.normal, [7, 8], ⟨[.nilp, .d .bool], []⟩⟩, ⟨.normal, [7, 8], ⟨[.ptr 0, .d .bool], [.box [.own T_Gate, .mp 1], .map T_Gate i64]⟩⟩]
abbrev R15_6 : Type := (((Unit × Bool × Unit) × Unit) ⊕ ((Unit × Bool × Unit) × (((List D_Gate) × Unit × Unit) × (List (D_Gate × Int)) × Unit)))
abbrev T15_6 : Type := (List D_Gate) → (List Int) → Option R15_6
noncomputable def u15_6 (f : T15_6) : (pa15_6).C → Option (WayC pw15_6) := fun (x : (((List D_Gate) × (List Int) × Unit) × Unit)) => f x.1.1 x.1.2.1
noncomputable def l15_6 (k : Nat) : T15_6 := fun g0 l2 =>
  (f72 k g0 l2).bind fun y1 =>
  match y1 with
  | .inl y1_0 =>
    some (.inl (((), y1_0.1.2.1, ()), ()))
  | .inr y1_1 =>
    some (.inr (((), y1_1.1.2.1, ()), ((y1_1.2.1.1, (), ()), y1_1.2.2.1, ())))
noncomputable def f15 (k : Nat) : T15 := fun g0 ins1 l2 =>
  (l15_6 k g0 l2).bind fun y1 =>
  match y1 with
  | .inl y1_0 =>
    (l15_14 k y1_0.1.2.1).bind fun y2 =>
    match y2 with
    | .inl y2_0 =>
      (f73 k l2).bind fun y3 =>
      (f74 k g0 l2).bind fun y4 =>
      cond (!y4.1.1)
        (cond ((y3.1.1.length : Int) == 0)
          ((f71 k ()).bind fun y5 =>
          some ((y5.1.1, ()), ()))
          (some ((false, ()), ())))
        ((l15_1018 k k g0 ins1 y3.1.1 true 0).bind fun y6 =>
        (f75 k g0 ins1 l2).bind fun y7 =>
        cond (y6.1.1 == (y7.1.1 == 1))
          ((f20v2 k ()).bind fun y8 =>
          cond (y8.1.1 == (g0.length : Int))
            ((f71 k ()).bind fun y9 =>
            some ((y9.1.1, ()), ()))
            (some ((false, ()), ())))
          (some ((false, ()), ())))
    | .inr y2_1 =>
      some ((y2_1.1.1, ()), ())
  | .inr y1_1 =>
    (l15_14 k y1_1.1.2.1).bind fun y10 =>
    match y10 with
    | .inl y10_0 =>
      (f73v2 k l2 y1_1.2.1.1 y1_1.2.2.1).bind fun y11 =>
      (f74 k g0 l2).bind fun y12 =>
      cond (!y12.1.1)
        (cond ((y11.1.1.length : Int) == 0)
          ((f71 k ()).bind fun y13 =>
          some ((y13.1.1, ()), ()))
          (some ((false, ()), ())))
        ((l15_1018 k k g0 ins1 y11.1.1 true 0).bind fun y14 =>
        (f75 k g0 ins1 l2).bind fun y15 =>
        cond (y14.1.1 == (y15.1.1 == 1))
          ((f20 k y1_1.2.1.1 y1_1.2.2.1).bind fun y16 =>
          cond (y16.1.1 == (g0.length : Int))
            ((f71 k ()).bind fun y17 =>
            some ((y17.1.1, ()), ()))
            (some ((false, ()), ())))
          (some ((false, ()), ())))
    | .inr y10_1 =>
      some ((y10_1.1.1, ()), ())
noncomputable def C15 (k : Nat) : Nat → Fun := mkC [(20, (altF a20 false (F20 (f20 k)) (F20v2 (f20v2 k)))), (71, (F71 (f71 k))), (72, (F72 (f72 k))), (73, (altF a73 false (F73 (f73 k)) (F73v2 (f73v2 k)))), (74, (F74 (f74 k))), (75, (F75 (f75 k)))]
noncomputable def H15_1018 (k : Nat) : Nat → Option Cut := addH noH 1018 ⟨runCut (wrC (bodyOf (codeAt 1018 (bd Try.f15) 1018))) 68 [0, 1, 9, 10, 11] pa15_1018 pw15_1018 (u15_1018 (l15_1018 k k))⟩
theorem e15_1018 (k : Nat) (rec : T15_1018) (x : (pa15_1018).C) : roundF (C15 k) tt noH (bodyOf (codeAt 1018 (bd Try.f15) 1018)) 2036 68 [0, 1, 9, 10, 11] pa15_1018 pw15_1018 (u15_1018 rec) x = u15_1018 (b15_1018 k rec) x := by kernel_rfl
noncomputable def H15_28 (k : Nat) : Nat → Option Cut := addH (H15_1018 k) 28 ⟨runCut (wrC (codeAt 28 (bd Try.f15) 28)) 68 [8] pa15_28 pw15_28 (u15_28 (l15_28 k))⟩
theorem e15_28 (k : Nat) (x : (pa15_28).C) : pieceF (C15 k) tt (H15_1018 k) (codeAt 28 (bd Try.f15) 28) 28 68 [8] pa15_28 pw15_28 x = u15_28 (l15_28 k) x := by kernel_rfl
noncomputable def H15_14 (k : Nat) : Nat → Option Cut := addH (H15_28 k) 14 ⟨runCut (wrC (codeAt 14 (bd Try.f15) 14)) 68 [8] pa15_14 pw15_14 (u15_14 (l15_14 k))⟩
theorem e15_14 (k : Nat) (x : (pa15_14).C) : pieceF (C15 k) tt (H15_28 k) (codeAt 14 (bd Try.f15) 14) 14 68 [8] pa15_14 pw15_14 x = u15_14 (l15_14 k) x := by kernel_rfl
noncomputable def H15_6 (k : Nat) : Nat → Option Cut := addH (H15_14 k) 6 ⟨runCut (wrC (codeAt 6 (bd Try.f15) 6)) 68 [0, 2] pa15_6 pw15_6 (u15_6 (l15_6 k))⟩
theorem e15_6 (k : Nat) (x : (pa15_6).C) : pieceF (C15 k) tt (H15_14 k) (codeAt 6 (bd Try.f15) 6) 6 68 [0, 2] pa15_6 pw15_6 x = u15_6 (l15_6 k) x := by kernel_rfl
theorem e15 (k : Nat) (x : (a15).C) : bodyR (C15 k) tt (H15_6 k) Try.f15 a15 o15 x = u15 (f15 k) x := by kernel_rfl
theorem c15_ok (k : Nat) : ∀ f, SoundFn Try.prog f (C15 k f) := (mkC_cons (altF_ok (s20 k) (s20v2 k) rfl) (mkC_cons (s71 k) (mkC_cons (s72 k) (mkC_cons (altF_ok (s73 k) (s73v2 k) rfl) (mkC_cons (s74 k) (mkC_cons (s75 k) mkC_nil))))))
theorem h15_1018_ok (k : Nat) : ∀ p S, H15_1018 k p = some S → ∀ c, At (bd Try.f15) p c → CutOk Try.prog c S :=
  have hC := c15_ok k
  addLoop hC ttOk (draw_ok hC ttOk mixed) noH_ok (by kernel_rfl) (F := fun j => u15_1018 (l15_1018 k j)) (fun _ => rfl) (fun j x _ h => (e15_1018 k (l15_1018 k j) x).trans h) k
theorem h15_28_ok (k : Nat) : ∀ p S, H15_28 k p = some S → ∀ c, At (bd Try.f15) p c → CutOk Try.prog c S :=
  have hC := c15_ok k
  addPiece hC ttOk (draw_ok hC ttOk mixed) (h15_1018_ok k) (fun x _ h => (e15_28 k x).trans h)
theorem h15_14_ok (k : Nat) : ∀ p S, H15_14 k p = some S → ∀ c, At (bd Try.f15) p c → CutOk Try.prog c S :=
  have hC := c15_ok k
  addPiece hC ttOk (draw_ok hC ttOk mixed) (h15_28_ok k) (fun x _ h => (e15_14 k x).trans h)
theorem h15_6_ok (k : Nat) : ∀ p S, H15_6 k p = some S → ∀ c, At (bd Try.f15) p c → CutOk Try.prog c S :=
  have hC := c15_ok k
  addPiece hC ttOk (draw_ok hC ttOk mixed) (h15_14_ok k) (fun x _ h => (e15_6 k x).trans h)
theorem s15 (k : Nat) : SoundFn Try.prog 15 (F15 (f15 k)) :=
  have hC := c15_ok k
  fnR_sound hC ttOk (draw_ok hC ttOk mixed) Try.func15 (c0 := bd Try.f15) rfl (entry Try.func15 rfl (by decide)) (h15_6_ok k) rfl (fun x _ h => (e15 k x).trans h)
/-! f107v2 fathom/vec.Check$1 (R) -/
noncomputable def a107v2 : Shape := ⟨[.d i64, .ptr 0], [.box [.nilp]]⟩
noncomputable def o107v2 : List Shape := [⟨[.d .bool], []⟩]
abbrev R107v2 : Type := ((Bool × Unit) × Unit)
abbrev T107v2 : Type := Int → Option R107v2
noncomputable def u107v2 (f : T107v2) : (a107v2).C → Option (OutC o107v2) := fun (x : ((Int × Unit × Unit) × ((Unit × Unit) × Unit))) => f x.1.1
noncomputable def F107v2 (f : T107v2) : Fun := ⟨true, runR a107v2 o107v2 (u107v2 f)⟩
noncomputable def f107v2 (k : Nat) : T107v2 := fun l0 =>
  (f24v3 k l0).bind fun y1 =>
  some (((!y1.1.1), ()), ())
noncomputable def C107v2 (k : Nat) : Nat → Fun := mkC [(24, (F24v3 (f24v3 k)))]
theorem e107v2 (k : Nat) (x : (a107v2).C) : bodyR (C107v2 k) tt noH Try.f107 a107v2 o107v2 x = u107v2 (f107v2 k) x := by kernel_rfl
theorem c107v2_ok (k : Nat) : ∀ f, SoundFn Try.prog f (C107v2 k f) := (mkC_cons (s24v3 k) mkC_nil)
theorem s107v2 (k : Nat) : SoundFn Try.prog 107 (F107v2 (f107v2 k)) :=
  have hC := c107v2_ok k
  fnR_sound hC ttOk (draw_ok hC ttOk mixed) Try.func107 (c0 := bd Try.f107) rfl (entry Try.func107 rfl (by decide)) noH_ok rfl (fun x _ h => (e107v2 k x).trans h)
/-! f113v4 slices.IndexFunc[[]int,int] (R) -/
noncomputable def a113v4 : Shape := ⟨[.d (.slice i64), .fn 107 [0]], [.box [.nilp]]⟩
noncomputable def o113v4 : List Shape := [⟨[.d i64], []⟩]
abbrev R113v4 : Type := ((Int × Unit) × Unit)
abbrev T113v4 : Type := (List Int) → Option R113v4
noncomputable def u113v4 (f : T113v4) : (a113v4).C → Option (OutC o113v4) := fun (x : (((List Int) × Unit × Unit) × ((Unit × Unit) × Unit))) => f x.1.1
noncomputable def F113v4 (f : T113v4) : Fun := ⟨true, runR a113v4 o113v4 (u113v4 f)⟩
noncomputable def pa113v4_26 : Shape := ⟨[.d (.slice i64), .fn 107 [0], .d i64, .d i64], [.lk (.box [.nilp])]⟩
noncomputable def pw113v4_26 : List Vm.Way := [⟨.exit 0, [], ⟨[], [.any]⟩⟩, ⟨.ret, [4], ⟨[.d i64], [.any]⟩⟩]
abbrev R113v4_26 : Type := ((Unit × (Unit × Unit)) ⊕ ((Int × Unit) × (Unit × Unit)))
abbrev T113v4_26 : Type := (List Int) → Int → Int → Option R113v4_26
noncomputable def u113v4_26 (f : T113v4_26) : (pa113v4_26).C → Option (WayC pw113v4_26) := fun (x : (((List Int) × Unit × Int × Int × Unit) × ((Unit × Unit) × Unit))) => f x.1.1 x.1.2.2.1 x.1.2.2.2.1
noncomputable def b113v4_26 (k : Nat) (rec : T113v4_26) : T113v4_26 := fun s0 t7 t8 =>
  cond (decide (t8 < t7))
    (ix s0 t8 fun e1 =>
    (f107v2 k e1).bind fun y2 =>
    cond y2.1.1
      (some (.inr ((t8, ()), ((), ()))))
      ((rec s0 t7 (w64 (t8 + 1))).bind fun y3 =>
      match y3 with
      | .inl y3_0 =>
        some (.inl ((), ((), ())))
      | .inr y3_1 =>
        some (.inr ((y3_1.1.1, ()), ((), ())))))
    (some (.inl ((), ((), ()))))
noncomputable def l113v4_26 (k : Nat) : Nat → T113v4_26
  | 0 => fun _ _ _ => none
  | j + 1 => b113v4_26 k (l113v4_26 k j)
noncomputable def f113v4 (k : Nat) : T113v4 := fun s0 =>
  (l113v4_26 k k s0 (s0.length : Int) 0).bind fun y1 =>
  match y1 with
  | .inl y1_0 =>
    some (((-1), ()), ())
  | .inr y1_1 =>
    some ((y1_1.1.1, ()), ())
noncomputable def C113v4 (k : Nat) : Nat → Fun := mkC [(107, (F107v2 (f107v2 k)))]
noncomputable def H113v4_26 (k : Nat) : Nat → Option Cut := addH noH 26 ⟨runCut (wrC (bodyOf (codeAt 26 (bd Try.f113) 26))) 19 [0, 1, 7, 8] pa113v4_26 pw113v4_26 (u113v4_26 (l113v4_26 k k))⟩
theorem e113v4_26 (k : Nat) (rec : T113v4_26) (x : (pa113v4_26).C) : roundF (C113v4 k) tt noH (bodyOf (codeAt 26 (bd Try.f113) 26)) 52 19 [0, 1, 7, 8] pa113v4_26 pw113v4_26 (u113v4_26 rec) x = u113v4_26 (b113v4_26 k rec) x := by kernel_rfl
theorem e113v4 (k : Nat) (x : (a113v4).C) : bodyR (C113v4 k) tt (H113v4_26 k) Try.f113 a113v4 o113v4 x = u113v4 (f113v4 k) x := by kernel_rfl
theorem c113v4_ok (k : Nat) : ∀ f, SoundFn Try.prog f (C113v4 k f) := (mkC_cons (s107v2 k) mkC_nil)
theorem h113v4_26_ok (k : Nat) : ∀ p S, H113v4_26 k p = some S → ∀ c, At (bd Try.f113) p c → CutOk Try.prog c S :=
  have hC := c113v4_ok k
  addLoop hC ttOk (draw_ok hC ttOk mixed) noH_ok (by kernel_rfl) (F := fun j => u113v4_26 (l113v4_26 k j)) (fun _ => rfl) (fun j x _ h => (e113v4_26 k (l113v4_26 k j) x).trans h) k
theorem s113v4 (k : Nat) : SoundFn Try.prog 113 (F113v4 (f113v4 k)) :=
  have hC := c113v4_ok k
  fnR_sound hC ttOk (draw_ok hC ttOk mixed) Try.func113 (c0 := bd Try.f113) rfl (entry Try.func113 rfl (by decide)) (h113v4_26_ok k) rfl (fun x _ h => (e113v4 k x).trans h)
/-! f106v4 slices.ContainsFunc[[]int,int] (R) -/
noncomputable def a106v4 : Shape := ⟨[.d (.slice i64), .fn 107 [0]], [.box [.nilp]]⟩
noncomputable def o106v4 : List Shape := [⟨[.d .bool], []⟩]
abbrev R106v4 : Type := ((Bool × Unit) × Unit)
abbrev T106v4 : Type := (List Int) → Option R106v4
noncomputable def u106v4 (f : T106v4) : (a106v4).C → Option (OutC o106v4) := fun (x : (((List Int) × Unit × Unit) × ((Unit × Unit) × Unit))) => f x.1.1
noncomputable def F106v4 (f : T106v4) : Fun := ⟨true, runR a106v4 o106v4 (u106v4 f)⟩
noncomputable def f106v4 (k : Nat) : T106v4 := fun s0 =>
  (f113v4 k s0).bind fun y1 =>
  some (((decide (y1.1.1 ≥ 0)), ()), ())
noncomputable def C106v4 (k : Nat) : Nat → Fun := mkC [(113, (F113v4 (f113v4 k)))]
theorem e106v4 (k : Nat) (x : (a106v4).C) : bodyR (C106v4 k) tt noH Try.f106 a106v4 o106v4 x = u106v4 (f106v4 k) x := by kernel_rfl
theorem c106v4_ok (k : Nat) : ∀ f, SoundFn Try.prog f (C106v4 k f) := (mkC_cons (s113v4 k) mkC_nil)
theorem s106v4 (k : Nat) : SoundFn Try.prog 106 (F106v4 (f106v4 k)) :=
  have hC := c106v4_ok k
  fnR_sound hC ttOk (draw_ok hC ttOk mixed) Try.func106 (c0 := bd Try.f106) rfl (entry Try.func106 rfl (by decide)) noH_ok rfl (fun x _ h => (e106v4 k x).trans h)
/-! f68v2 fathom/vec.Check (R) -/
noncomputable def a68v2 : Shape := ⟨[.nilp, .d (.slice i64)], []⟩
noncomputable def o68v2 : List Shape := [⟨[.d i64], []⟩]
abbrev R68v2 : Type := ((Int × Unit) × Unit)
abbrev T68v2 : Type := (List Int) → Option R68v2
noncomputable def u68v2 (f : T68v2) : (a68v2).C → Option (OutC o68v2) := fun (x : ((Unit × (List Int) × Unit) × Unit)) => f x.1.2.1
noncomputable def F68v2 (f : T68v2) : Fun := ⟨true, runR a68v2 o68v2 (u68v2 f)⟩
noncomputable def f68v2 (k : Nat) : T68v2 := fun a1 =>
  cond (decide ((a1.length : Int) < 1))
    (some ((1, ()), ()))
    (cond (decide ((a1.length : Int) > 16))
      (some ((1, ()), ()))
      ((f106v4 k a1).bind fun y1 =>
      cond y1.1.1
        (some ((1, ()), ()))
        (some ((0, ()), ()))))
noncomputable def C68v2 (k : Nat) : Nat → Fun := mkC [(106, (F106v4 (f106v4 k)))]
theorem e68v2 (k : Nat) (x : (a68v2).C) : bodyR (C68v2 k) tt noH Try.f68 a68v2 o68v2 x = u68v2 (f68v2 k) x := by kernel_rfl
theorem c68v2_ok (k : Nat) : ∀ f, SoundFn Try.prog f (C68v2 k f) := (mkC_cons (s106v4 k) mkC_nil)
theorem s68v2 (k : Nat) : SoundFn Try.prog 68 (F68v2 (f68v2 k)) :=
  have hC := c68v2_ok k
  fnR_sound hC ttOk (draw_ok hC ttOk mixed) Try.func68 (c0 := bd Try.f68) rfl (entry Try.func68 rfl (by decide)) noH_ok rfl (fun x _ h => (e68v2 k x).trans h)
/-! f95v2 fathom/vec.pair (R) -/
noncomputable def a95v2 : Shape := ⟨[.nilp, .d (.slice i64), .d (.slice i64)], []⟩
noncomputable def o95v2 : List Shape := [⟨[.d .bool], []⟩]
abbrev R95v2 : Type := ((Bool × Unit) × Unit)
abbrev T95v2 : Type := (List Int) → (List Int) → Option R95v2
noncomputable def u95v2 (f : T95v2) : (a95v2).C → Option (OutC o95v2) := fun (x : ((Unit × (List Int) × (List Int) × Unit) × Unit)) => f x.1.2.1 x.1.2.2.1
noncomputable def F95v2 (f : T95v2) : Fun := ⟨true, runR a95v2 o95v2 (u95v2 f)⟩
noncomputable def f95v2 (k : Nat) : T95v2 := fun a1 b2 =>
  cond ((a1.length : Int) == (b2.length : Int))
    ((f68v2 k a1).bind fun y1 =>
    cond (y1.1.1 == 0)
      ((f68v2 k b2).bind fun y2 =>
      some (((y2.1.1 == 0), ()), ()))
      (some ((false, ()), ())))
    (some ((false, ()), ()))
noncomputable def C95v2 (k : Nat) : Nat → Fun := mkC [(68, (F68v2 (f68v2 k)))]
theorem e95v2 (k : Nat) (x : (a95v2).C) : bodyR (C95v2 k) tt noH Try.f95 a95v2 o95v2 x = u95v2 (f95v2 k) x := by kernel_rfl
theorem c95v2_ok (k : Nat) : ∀ f, SoundFn Try.prog f (C95v2 k f) := (mkC_cons (s68v2 k) mkC_nil)
theorem s95v2 (k : Nat) : SoundFn Try.prog 95 (F95v2 (f95v2 k)) :=
  have hC := c95v2_ok k
  fnR_sound hC ttOk (draw_ok hC ttOk mixed) Try.func95 (c0 := bd Try.f95) rfl (entry Try.func95 rfl (by decide)) noH_ok rfl (fun x _ h => (e95v2 k x).trans h)
/-! f96v2 fathom/vec.sum (W) -/
noncomputable def a96v2 : Shape := ⟨[.nilp, .d (.slice i64), .d (.slice i64), .d i64], []⟩
noncomputable def o96v2 : List Shape := [⟨[.own i64, .d i64], []⟩]
abbrev R96v2 : Type := (((List Int) × Int × Unit) × Unit)
abbrev T96v2 : Type := (List Int) → (List Int) → Int → Option R96v2
noncomputable def u96v2 (f : T96v2) : (a96v2).C → Option (OutC o96v2) := fun (x : ((Unit × (List Int) × (List Int) × Int × Unit) × Unit)) => f x.1.2.1 x.1.2.2.1 x.1.2.2.2.1
noncomputable def F96v2 (f : T96v2) : Fun := ⟨false, runW a96v2 o96v2 (u96v2 f)⟩
noncomputable def pa96v2_58 : Shape := ⟨[.nilp, .d (.slice i64), .d (.slice i64), .d i64, .own i64, .d i64, .d i64], []⟩
noncomputable def pw96v2_58 : List Vm.Way := [⟨.exit 0, [3, 10], ⟨[.d i64, .own i64], []⟩⟩]
abbrev R96v2_58 : Type := ((Int × (List Int) × Unit) × Unit)
abbrev T96v2_58 : Type := (List Int) → (List Int) → Int → (List Int) → Int → Int → Option R96v2_58
noncomputable def u96v2_58 (f : T96v2_58) : (pa96v2_58).C → Option (WayC pw96v2_58) := fun (x : ((Unit × (List Int) × (List Int) × Int × (List Int) × Int × Int × Unit) × Unit)) => f x.1.2.1 x.1.2.2.1 x.1.2.2.2.1 x.1.2.2.2.2.1 x.1.2.2.2.2.2.1 x.1.2.2.2.2.2.2.1
noncomputable def b96v2_58 (k : Nat) (rec : T96v2_58) : T96v2_58 := fun a1 b2 c3 out10 t14 t15 =>
  cond (decide (t15 < t14))
    (ix a1 t15 fun e1 =>
    ix b2 t15 fun e2 =>
    (f27v3 k e1 e2).bind fun y3 =>
    (f27v3 k y3.1.1 c3).bind fun y4 =>
    gd (decide ((out10.length + 1) * 8 ≤ room)) <|
    ix a1 t15 fun e5 =>
    ix b2 t15 fun e6 =>
    (f19v3 k e5 e6).bind fun y7 =>
    (f19v3 k y3.1.1 c3).bind fun y8 =>
    (f26v3 k y7.1.1 y8.1.1).bind fun y9 =>
    (rec a1 b2 y9.1.1 (out10 ++ ([y4.1.1] : List Int)) t14 (w64 (t15 + 1))).bind fun y10 =>
    some ((y10.1.1, y10.1.2.1, ()), ()))
    (some ((c3, out10, ()), ()))
noncomputable def l96v2_58 (k : Nat) : Nat → T96v2_58
  | 0 => fun _ _ _ _ _ _ => none
  | j + 1 => b96v2_58 k (l96v2_58 k j)
noncomputable def f96v2 (k : Nat) : T96v2 := fun a1 b2 c3 =>
  (l96v2_58 k k a1 b2 c3 [] (a1.length : Int) 0).bind fun y1 =>
  some ((y1.1.2.1, y1.1.1, ()), ())
noncomputable def C96v2 (k : Nat) : Nat → Fun := mkC [(19, (F19v3 (f19v3 k))), (26, (F26v3 (f26v3 k))), (27, (F27v3 (f27v3 k)))]
noncomputable def H96v2_58 (k : Nat) : Nat → Option Cut := addH noH 58 ⟨runCut (wrC (bodyOf (codeAt 58 (bd Try.f96) 58))) 54 [0, 1, 2, 3, 10, 14, 15] pa96v2_58 pw96v2_58 (u96v2_58 (l96v2_58 k k))⟩
theorem e96v2_58 (k : Nat) (rec : T96v2_58) (x : (pa96v2_58).C) : roundF (C96v2 k) tt noH (bodyOf (codeAt 58 (bd Try.f96) 58)) 116 54 [0, 1, 2, 3, 10, 14, 15] pa96v2_58 pw96v2_58 (u96v2_58 rec) x = u96v2_58 (b96v2_58 k rec) x := by kernel_rfl
theorem e96v2 (k : Nat) (x : (a96v2).C) : bodyW (C96v2 k) tt (H96v2_58 k) Try.f96 a96v2 o96v2 x = u96v2 (f96v2 k) x := by kernel_rfl
theorem c96v2_ok (k : Nat) : ∀ f, SoundFn Try.prog f (C96v2 k f) := (mkC_cons (s19v3 k) (mkC_cons (s26v3 k) (mkC_cons (s27v3 k) mkC_nil)))
theorem h96v2_58_ok (k : Nat) : ∀ p S, H96v2_58 k p = some S → ∀ c, At (bd Try.f96) p c → CutOk Try.prog c S :=
  have hC := c96v2_ok k
  addLoop hC ttOk (draw_ok hC ttOk mixed) noH_ok (by kernel_rfl) (F := fun j => u96v2_58 (l96v2_58 k j)) (fun _ => rfl) (fun j x _ h => (e96v2_58 k (l96v2_58 k j) x).trans h) k
theorem s96v2 (k : Nat) : SoundFn Try.prog 96 (F96v2 (f96v2 k)) :=
  have hC := c96v2_ok k
  fnW_sound hC ttOk (draw_ok hC ttOk mixed) Try.func96 (c0 := bd Try.f96) rfl (entry Try.func96 rfl (by decide)) (h96v2_58_ok k) (fun x _ h => (e96v2 k x).trans h)
/-! f46v2 fathom/vec.Add (W) -/
noncomputable def a46v2 : Shape := ⟨[.nilp, .d (.slice i64), .d (.slice i64)], []⟩
noncomputable def o46v2 : List Shape := [⟨[.nils], []⟩, ⟨[.own i64], []⟩]
abbrev R46v2 : Type := (((Unit × Unit) × Unit) ⊕ (((List Int) × Unit) × Unit))
abbrev T46v2 : Type := (List Int) → (List Int) → Option R46v2
noncomputable def u46v2 (f : T46v2) : (a46v2).C → Option (OutC o46v2) := fun (x : ((Unit × (List Int) × (List Int) × Unit) × Unit)) => f x.1.2.1 x.1.2.2.1
noncomputable def F46v2 (f : T46v2) : Fun := ⟨false, runW a46v2 o46v2 (u46v2 f)⟩
noncomputable def f46v2 (k : Nat) : T46v2 := fun a1 b2 =>
  (f95v2 k a1 b2).bind fun y1 =>
  cond (!y1.1.1)
    (some (.inl (((), ()), ())))
    ((f96v2 k a1 b2 0).bind fun y2 =>
    (f92 k y2.1.1).bind fun y3 =>
    match y3 with
    | .inl y3_0 =>
      some (.inl (((), ()), ()))
    | .inr y3_1 =>
      some (.inr ((y3_1.1.1, ()), ())))
noncomputable def C46v2 (k : Nat) : Nat → Fun := mkC [(1000092, ownF), (92, (F92 (f92 k))), (95, (F95v2 (f95v2 k))), (96, (F96v2 (f96v2 k)))]
theorem e46v2 (k : Nat) (x : (a46v2).C) : bodyW (C46v2 k) tt noH Try.f46 a46v2 o46v2 x = u46v2 (f46v2 k) x := by kernel_rfl
theorem c46v2_ok (k : Nat) : ∀ f, SoundFn Try.prog f (C46v2 k f) := (mkC_cons ownF_ok (mkC_cons (s92 k) (mkC_cons (s95v2 k) (mkC_cons (s96v2 k) mkC_nil))))
theorem s46v2 (k : Nat) : SoundFn Try.prog 46 (F46v2 (f46v2 k)) :=
  have hC := c46v2_ok k
  fnW_sound hC ttOk (draw_ok hC ttOk mixed) Try.func46 (c0 := bd Try.f46) rfl (entry Try.func46 rfl (by decide)) noH_ok (fun x _ h => (e46v2 k x).trans h)
/-! f110v2 fathom/card.count (W) -/
noncomputable def a110v2 : Shape := ⟨[.nilp, .d (.slice i64)], []⟩
noncomputable def o110v2 : List Shape := [⟨[.nils], []⟩, ⟨[.own i64], []⟩]
abbrev R110v2 : Type := (((Unit × Unit) × Unit) ⊕ (((List Int) × Unit) × Unit))
abbrev T110v2 : Type := (List Int) → Option R110v2
noncomputable def u110v2 (f : T110v2) : (a110v2).C → Option (OutC o110v2) := fun (x : ((Unit × (List Int) × Unit) × Unit)) => f x.1.2.1
noncomputable def F110v2 (f : T110v2) : Fun := ⟨false, runW a110v2 o110v2 (u110v2 f)⟩
noncomputable def b110v2 (k : Nat) (r110v2 : T110v2) : T110v2 := fun l1 =>
  cond ((l1.length : Int) == 0)
    (some (.inr (([0], ()), ())))
    (cond ((l1.length : Int) == 1)
      (ix l1 0 fun e1 =>
      some (.inr (([e1], ()), ())))
      ((f69 k (l1.length : Int)).bind fun y2 =>
      gd (decide (0 ≤ (w64 (Int.tdiv (l1.length : Int) 2)))) <|
      gd (decide ((w64 (Int.tdiv (l1.length : Int) 2)).toNat ≤ l1.length)) <|
      (r110v2 ((l1.take (w64 (Int.tdiv (l1.length : Int) 2)).toNat).drop 0)).bind fun y3 =>
      match y3 with
      | .inl y3_0 =>
        gd (decide (0 ≤ (w64 (Int.tdiv (l1.length : Int) 2)))) <|
        gd (decide ((w64 (Int.tdiv (l1.length : Int) 2)).toNat ≤ l1.length)) <|
        (r110v2 (l1.drop (w64 (Int.tdiv (l1.length : Int) 2)).toNat)).bind fun y4 =>
        match y4 with
        | .inl y4_0 =>
          some (.inl (((), ()), ()))
        | .inr y4_1 =>
          some (.inl (((), ()), ()))
      | .inr y3_1 =>
        gd (decide (0 ≤ (w64 (Int.tdiv (l1.length : Int) 2)))) <|
        gd (decide ((w64 (Int.tdiv (l1.length : Int) 2)).toNat ≤ l1.length)) <|
        (r110v2 (l1.drop (w64 (Int.tdiv (l1.length : Int) 2)).toNat)).bind fun y5 =>
        match y5 with
        | .inl y5_0 =>
          cond y3_1.1.1.isEmpty
            (none)
            (some (.inl (((), ()), ())))
        | .inr y5_1 =>
          cond y3_1.1.1.isEmpty
            (none)
            (cond y5_1.1.1.isEmpty
              (none)
              ((f117 k y3_1.1.1 y2.1.1).bind fun y6 =>
              (f117 k y5_1.1.1 y2.1.1).bind fun y7 =>
              (f46v2 k y6.1.1 y7.1.1).bind fun y8 =>
              match y8 with
              | .inl y8_0 =>
                some (.inl (((), ()), ()))
              | .inr y8_1 =>
                some (.inr ((y8_1.1.1, ()), ()))))))
noncomputable def S110v2 : Nat → T110v2
  | 0 => (fun _ => none)
  | k + 1 => (b110v2 k (S110v2 k))
noncomputable def f110v2 (k : Nat) : T110v2 := (S110v2 k)
theorem f110v2_succ (k : Nat) : f110v2 (k + 1) = b110v2 k (f110v2 k) := rfl
noncomputable def C110v2 (k : Nat) (r110v2 : T110v2) : Nat → Fun := mkC [(46, (F46v2 (f46v2 k))), (69, (F69 (f69 k))), (110, (F110v2 r110v2)), (1000117, ownF), (117, (F117 (f117 k)))]
theorem e110v2 (k : Nat) (r110v2 : T110v2) (x : (a110v2).C) : bodyW (C110v2 k r110v2) tt noH Try.f110 a110v2 o110v2 x = u110v2 (b110v2 k r110v2) x := by kernel_rfl
theorem c110v2_ok (k : Nat) (r110v2 : T110v2) (h110v2 : SoundFn Try.prog 110 (F110v2 r110v2)) : ∀ f, SoundFn Try.prog f (C110v2 k r110v2 f) := (mkC_cons (s46v2 k) (mkC_cons (s69 k) (mkC_cons h110v2 (mkC_cons ownF_ok (mkC_cons (s117 k) mkC_nil)))))
theorem q110v2 (k : Nat) (r110v2 : T110v2) (h110v2 : SoundFn Try.prog 110 (F110v2 r110v2)) : SoundFn Try.prog 110 (F110v2 (b110v2 k r110v2)) :=
  have hC := c110v2_ok k r110v2 h110v2
  fnW_sound hC ttOk (draw_ok hC ttOk mixed) Try.func110 (c0 := bd Try.f110) rfl (entry Try.func110 rfl (by decide)) noH_ok (fun x _ h => (e110v2 k r110v2 x).trans h)
theorem sAll110v2 : ∀ k : Nat, SoundFn Try.prog 110 (F110v2 (f110v2 k))
  | 0 => noneW_ok (by intro x; rfl)
  | k + 1 =>
    have ih := sAll110v2 k
    q110v2 k (f110v2 k) ih
theorem s110v2 (k : Nat) : SoundFn Try.prog 110 (F110v2 (f110v2 k)) := (sAll110v2 k)
/-! f79v2 fathom/card.Count (W) -/
noncomputable def a79v2 : Shape := ⟨[.nilp, .d (.slice i64)], []⟩
noncomputable def o79v2 : List Shape := [⟨[.nils], []⟩, ⟨[.own i64], []⟩]
abbrev R79v2 : Type := (((Unit × Unit) × Unit) ⊕ (((List Int) × Unit) × Unit))
abbrev T79v2 : Type := (List Int) → Option R79v2
noncomputable def u79v2 (f : T79v2) : (a79v2).C → Option (OutC o79v2) := fun (x : ((Unit × (List Int) × Unit) × Unit)) => f x.1.2.1
noncomputable def F79v2 (f : T79v2) : Fun := ⟨false, runW a79v2 o79v2 (u79v2 f)⟩
noncomputable def f79v2 (k : Nat) : T79v2 := fun l1 =>
  (f109v2 k l1).bind fun y1 =>
  cond (!y1.1.1)
    (some (.inl (((), ()), ())))
    ((f110v2 k l1).bind fun y2 =>
    match y2 with
    | .inl y2_0 =>
      some (.inl (((), ()), ()))
    | .inr y2_1 =>
      some (.inr ((y2_1.1.1, ()), ())))
noncomputable def C79v2 (k : Nat) : Nat → Fun := mkC [(109, (F109v2 (f109v2 k))), (110, (F110v2 (f110v2 k)))]
theorem e79v2 (k : Nat) (x : (a79v2).C) : bodyW (C79v2 k) tt noH Try.f79 a79v2 o79v2 x = u79v2 (f79v2 k) x := by kernel_rfl
theorem c79v2_ok (k : Nat) : ∀ f, SoundFn Try.prog f (C79v2 k f) := (mkC_cons (s109v2 k) (mkC_cons (s110v2 k) mkC_nil))
theorem s79v2 (k : Nat) : SoundFn Try.prog 79 (F79v2 (f79v2 k)) :=
  have hC := c79v2_ok k
  fnW_sound hC ttOk (draw_ok hC ttOk mixed) Try.func79 (c0 := bd Try.f79) rfl (entry Try.func79 rfl (by decide)) noH_ok (fun x _ h => (e79v2 k x).trans h)
/-! f17 fathom/fathomlaw17.CardCounts (R) -/
noncomputable def a17 : Shape := ⟨[.d (.slice T_Gate), .d (.slice .bool), .d (.slice i64)], []⟩
noncomputable def o17 : List Shape := [⟨[.d .bool], []⟩]
abbrev R17 : Type := ((Bool × Unit) × Unit)
abbrev T17 : Type := (List D_Gate) → (List Bool) → (List Int) → Option R17
noncomputable def u17 (f : T17) : (a17).C → Option (OutC o17) := fun (x : (((List D_Gate) × (List Bool) × (List Int) × Unit) × Unit)) => f x.1.1 x.1.2.1 x.1.2.2.1
noncomputable def F17 (f : T17) : Fun := ⟨true, runR a17 o17 (u17 f)⟩
noncomputable def pa17_252 : Shape := ⟨[.d (.slice i64)], []⟩
noncomputable def pw17_252 : List Vm.Way := [⟨.normal, [35], ⟨[.d .bool], []⟩⟩]
abbrev R17_252 : Type := ((Bool × Unit) × Unit)
abbrev T17_252 : Type := (List Int) → Option R17_252
noncomputable def u17_252 (f : T17_252) : (pa17_252).C → Option (WayC pw17_252) := fun (x : (((List Int) × Unit) × Unit)) => f x.1.1
noncomputable def l17_252 (k : Nat) : T17_252 := fun l2 =>
  some (((decide ((l2.length : Int) > 30)), ()), ())
noncomputable def pa17_126 : Shape := ⟨[.d (.slice i64), .own i64], []⟩
noncomputable def pw17_126 : List Vm.Way := [⟨.normal, [9], ⟨[.own i64], []⟩⟩, ⟨.ret, [6], ⟨[.d .bool], []⟩⟩]
abbrev R17_126 : Type := ((((List Int) × Unit) × Unit) ⊕ ((Bool × Unit) × Unit))
abbrev T17_126 : Type := (List Int) → (List Int) → Option R17_126
noncomputable def u17_126 (f : T17_126) : (pa17_126).C → Option (WayC pw17_126) := fun (x : (((List Int) × (List Int) × Unit) × Unit)) => f x.1.1 x.1.2.1
noncomputable def l17_126 (k : Nat) : T17_126 := fun l2 c9 =>
  (l17_252 k l2).bind fun y1 =>
  cond y1.1.1
    ((f70 k (l2.length : Int)).bind fun y2 =>
    cond ((c9.length : Int) == y2.1.1)
      ((f71 k ()).bind fun y3 =>
      some (.inr ((y3.1.1, ()), ())))
      (some (.inr ((false, ()), ()))))
    (some (.inl ((c9, ()), ())))
noncomputable def pa17_124 : Shape := ⟨[.d (.slice T_Gate), .d (.slice i64)], []⟩
noncomputable def pw17_124 : List Vm.Way := [⟨.normal, [26], ⟨[.d .bool], []⟩⟩]
abbrev R17_124 : Type := ((Bool × Unit) × Unit)
abbrev T17_124 : Type := (List D_Gate) → (List Int) → Option R17_124
noncomputable def u17_124 (f : T17_124) : (pa17_124).C → Option (WayC pw17_124) := fun (x : (((List D_Gate) × (List Int) × Unit) × Unit)) => f x.1.1 x.1.2.1
noncomputable def l17_124 (k : Nat) : T17_124 := fun g0 l2 =>
  (f74 k g0 l2).bind fun y1 =>
  some (((!y1.1.1), ()), ())
noncomputable def pa17_62 : Shape := ⟨[.d (.slice T_Gate), .d (.slice i64), .own i64], []⟩
noncomputable def pw17_62 : List Vm.Way := [⟨.normal, [9], ⟨[.own i64], []⟩⟩, ⟨.ret, [6], ⟨[.d .bool], []⟩⟩]
abbrev R17_62 : Type := ((((List Int) × Unit) × Unit) ⊕ ((Bool × Unit) × Unit))
abbrev T17_62 : Type := (List D_Gate) → (List Int) → (List Int) → Option R17_62
noncomputable def u17_62 (f : T17_62) : (pa17_62).C → Option (WayC pw17_62) := fun (x : (((List D_Gate) × (List Int) × (List Int) × Unit) × Unit)) => f x.1.1 x.1.2.1 x.1.2.2.1
noncomputable def l17_62 (k : Nat) : T17_62 := fun g0 l2 c9 =>
  (l17_124 k g0 l2).bind fun y1 =>
  cond y1.1.1
    (cond ((c9.length : Int) == 0)
      ((f71 k ()).bind fun y2 =>
      some (.inr ((y2.1.1, ()), ())))
      (some (.inr ((false, ()), ()))))
    (some (.inl ((c9, ()), ())))
noncomputable def pa17_28 : Shape := ⟨[.d .bool], []⟩
noncomputable def pw17_28 : List Vm.Way := [⟨.normal, [18], ⟨[.d .bool], []⟩⟩]
abbrev R17_28 : Type := ((Bool × Unit) × Unit)
abbrev T17_28 : Type := Bool → Option R17_28
noncomputable def u17_28 (f : T17_28) : (pa17_28).C → Option (WayC pw17_28) := fun (x : ((Bool × Unit) × Unit)) => f x.1.1
noncomputable def l17_28 (k : Nat) : T17_28 := fun ok8 =>
  some (((!ok8), ()), ())
noncomputable def pa17_14 : Shape := ⟨[.d .bool], []⟩
noncomputable def pw17_14 : List Vm.Way := [⟨.normal, [], ⟨[], []⟩⟩, ⟨.ret, [6], ⟨[.d .bool], []⟩⟩]
abbrev R17_14 : Type := ((Unit × Unit) ⊕ ((Bool × Unit) × Unit))
abbrev T17_14 : Type := Bool → Option R17_14
noncomputable def u17_14 (f : T17_14) : (pa17_14).C → Option (WayC pw17_14) := fun (x : ((Bool × Unit) × Unit)) => f x.1.1
noncomputable def l17_14 (k : Nat) : T17_14 := fun ok8 =>
  (l17_28 k ok8).bind fun y1 =>
  cond y1.1.1
    ((f71 k ()).bind fun y2 =>
    some (.inr ((y2.1.1, ()), ())))
    (some (.inl ((), ())))
noncomputable def pa17_6 : Shape := ⟨[.d (.slice T_Gate), .d (.slice i64)], []⟩
noncomputable def pw17_6 : List Vm.Way := [⟨.normal, [7, 8], ⟨[.nilp, .d .bool], []⟩⟩, ⟨.normal, [7, 8], ⟨[.ptr 0, .d .bool], [.box [.own T_Gate, .mp 1], .map T_Gate i64]⟩⟩]
abbrev R17_6 : Type := (((Unit × Bool × Unit) × Unit) ⊕ ((Unit × Bool × Unit) × (((List D_Gate) × Unit × Unit) × (List (D_Gate × Int)) × Unit)))
abbrev T17_6 : Type := (List D_Gate) → (List Int) → Option R17_6
noncomputable def u17_6 (f : T17_6) : (pa17_6).C → Option (WayC pw17_6) := fun (x : (((List D_Gate) × (List Int) × Unit) × Unit)) => f x.1.1 x.1.2.1
noncomputable def l17_6 (k : Nat) : T17_6 := fun g0 l2 =>
  (f72 k g0 l2).bind fun y1 =>
  match y1 with
  | .inl y1_0 =>
    some (.inl (((), y1_0.1.2.1, ()), ()))
  | .inr y1_1 =>
    some (.inr (((), y1_1.1.2.1, ()), ((y1_1.2.1.1, (), ()), y1_1.2.2.1, ())))
noncomputable def f17 (k : Nat) : T17 := fun g0 ins1 l2 =>
  (l17_6 k g0 l2).bind fun y1 =>
  match y1 with
  | .inl y1_0 =>
    (l17_14 k y1_0.1.2.1).bind fun y2 =>
    match y2 with
    | .inl y2_0 =>
      (f79v2 k l2).bind fun y3 =>
      match y3 with
      | .inl y3_0 =>
        (l17_62 k g0 l2 []).bind fun y4 =>
        match y4 with
        | .inl y4_0 =>
          (l17_126 k l2 y4_0.1.1).bind fun y5 =>
          match y5 with
          | .inl y5_0 =>
            (f23v3 k ()).bind fun y6 =>
            (f31 k y6.1.1 ins1).bind fun y7 =>
            (f70 k (l2.length : Int)).bind fun y8 =>
            cond ((y5_0.1.1.length : Int) == y8.1.1)
              ((f43 k y7.1.1 y5_0.1.1).bind fun y9 =>
              (f75 k g0 ins1 l2).bind fun y10 =>
              cond (y9.1.1 == y10.1.1)
                ((f71 k ()).bind fun y11 =>
                some ((y11.1.1, ()), ()))
                (some ((false, ()), ())))
              (some ((false, ()), ()))
          | .inr y5_1 =>
            some ((y5_1.1.1, ()), ())
        | .inr y4_1 =>
          some ((y4_1.1.1, ()), ())
      | .inr y3_1 =>
        (l17_62 k g0 l2 y3_1.1.1).bind fun y12 =>
        match y12 with
        | .inl y12_0 =>
          (l17_126 k l2 y12_0.1.1).bind fun y13 =>
          match y13 with
          | .inl y13_0 =>
            (f23v3 k ()).bind fun y14 =>
            (f31 k y14.1.1 ins1).bind fun y15 =>
            (f70 k (l2.length : Int)).bind fun y16 =>
            cond ((y13_0.1.1.length : Int) == y16.1.1)
              ((f43 k y15.1.1 y13_0.1.1).bind fun y17 =>
              (f75 k g0 ins1 l2).bind fun y18 =>
              cond (y17.1.1 == y18.1.1)
                ((f71 k ()).bind fun y19 =>
                some ((y19.1.1, ()), ()))
                (some ((false, ()), ())))
              (some ((false, ()), ()))
          | .inr y13_1 =>
            some ((y13_1.1.1, ()), ())
        | .inr y12_1 =>
          some ((y12_1.1.1, ()), ())
    | .inr y2_1 =>
      some ((y2_1.1.1, ()), ())
  | .inr y1_1 =>
    (l17_14 k y1_1.1.2.1).bind fun y20 =>
    match y20 with
    | .inl y20_0 =>
      (f79 k l2 y1_1.2.1.1 y1_1.2.2.1).bind fun y21 =>
      match y21 with
      | .inl y21_0 =>
        (l17_62 k g0 l2 []).bind fun y22 =>
        match y22 with
        | .inl y22_0 =>
          (l17_126 k l2 y22_0.1.1).bind fun y23 =>
          match y23 with
          | .inl y23_0 =>
            (f23 k y21_0.2.1.1 y21_0.2.2.1).bind fun y24 =>
            (f31 k y24.1.1 ins1).bind fun y25 =>
            (f70 k (l2.length : Int)).bind fun y26 =>
            cond ((y23_0.1.1.length : Int) == y26.1.1)
              ((f43 k y25.1.1 y23_0.1.1).bind fun y27 =>
              (f75 k g0 ins1 l2).bind fun y28 =>
              cond (y27.1.1 == y28.1.1)
                ((f71 k ()).bind fun y29 =>
                some ((y29.1.1, ()), ()))
                (some ((false, ()), ())))
              (some ((false, ()), ()))
          | .inr y23_1 =>
            some ((y23_1.1.1, ()), ())
        | .inr y22_1 =>
          some ((y22_1.1.1, ()), ())
      | .inr y21_1 =>
        (l17_62 k g0 l2 y21_1.1.1).bind fun y30 =>
        match y30 with
        | .inl y30_0 =>
          (l17_126 k l2 y30_0.1.1).bind fun y31 =>
          match y31 with
          | .inl y31_0 =>
            (f23 k y21_1.2.1.1 y21_1.2.2.1).bind fun y32 =>
            (f31 k y32.1.1 ins1).bind fun y33 =>
            (f70 k (l2.length : Int)).bind fun y34 =>
            cond ((y31_0.1.1.length : Int) == y34.1.1)
              ((f43 k y33.1.1 y31_0.1.1).bind fun y35 =>
              (f75 k g0 ins1 l2).bind fun y36 =>
              cond (y35.1.1 == y36.1.1)
                ((f71 k ()).bind fun y37 =>
                some ((y37.1.1, ()), ()))
                (some ((false, ()), ())))
              (some ((false, ()), ()))
          | .inr y31_1 =>
            some ((y31_1.1.1, ()), ())
        | .inr y30_1 =>
          some ((y30_1.1.1, ()), ())
    | .inr y20_1 =>
      some ((y20_1.1.1, ()), ())
noncomputable def C17 (k : Nat) : Nat → Fun := mkC [(23, (altF a23 false (F23 (f23 k)) (F23v3 (f23v3 k)))), (31, (F31 (f31 k))), (43, (F43 (f43 k))), (70, (F70 (f70 k))), (71, (F71 (f71 k))), (72, (F72 (f72 k))), (74, (F74 (f74 k))), (75, (F75 (f75 k))), (79, (altF a79 true (F79 (f79 k)) (F79v2 (f79v2 k))))]
noncomputable def H17_252 (k : Nat) : Nat → Option Cut := addH noH 252 ⟨runCut (wrC (codeAt 252 (bd Try.f17) 252)) 68 [2] pa17_252 pw17_252 (u17_252 (l17_252 k))⟩
theorem e17_252 (k : Nat) (x : (pa17_252).C) : pieceF (C17 k) tt noH (codeAt 252 (bd Try.f17) 252) 252 68 [2] pa17_252 pw17_252 x = u17_252 (l17_252 k) x := by kernel_rfl
noncomputable def H17_126 (k : Nat) : Nat → Option Cut := addH (H17_252 k) 126 ⟨runCut (wrC (codeAt 126 (bd Try.f17) 126)) 68 [2, 9] pa17_126 pw17_126 (u17_126 (l17_126 k))⟩
theorem e17_126 (k : Nat) (x : (pa17_126).C) : pieceF (C17 k) tt (H17_252 k) (codeAt 126 (bd Try.f17) 126) 126 68 [2, 9] pa17_126 pw17_126 x = u17_126 (l17_126 k) x := by kernel_rfl
noncomputable def H17_124 (k : Nat) : Nat → Option Cut := addH (H17_126 k) 124 ⟨runCut (wrC (codeAt 124 (bd Try.f17) 124)) 68 [0, 2] pa17_124 pw17_124 (u17_124 (l17_124 k))⟩
theorem e17_124 (k : Nat) (x : (pa17_124).C) : pieceF (C17 k) tt (H17_126 k) (codeAt 124 (bd Try.f17) 124) 124 68 [0, 2] pa17_124 pw17_124 x = u17_124 (l17_124 k) x := by kernel_rfl
noncomputable def H17_62 (k : Nat) : Nat → Option Cut := addH (H17_124 k) 62 ⟨runCut (wrC (codeAt 62 (bd Try.f17) 62)) 68 [0, 2, 9] pa17_62 pw17_62 (u17_62 (l17_62 k))⟩
theorem e17_62 (k : Nat) (x : (pa17_62).C) : pieceF (C17 k) tt (H17_124 k) (codeAt 62 (bd Try.f17) 62) 62 68 [0, 2, 9] pa17_62 pw17_62 x = u17_62 (l17_62 k) x := by kernel_rfl
noncomputable def H17_28 (k : Nat) : Nat → Option Cut := addH (H17_62 k) 28 ⟨runCut (wrC (codeAt 28 (bd Try.f17) 28)) 68 [8] pa17_28 pw17_28 (u17_28 (l17_28 k))⟩
theorem e17_28 (k : Nat) (x : (pa17_28).C) : pieceF (C17 k) tt (H17_62 k) (codeAt 28 (bd Try.f17) 28) 28 68 [8] pa17_28 pw17_28 x = u17_28 (l17_28 k) x := by kernel_rfl
noncomputable def H17_14 (k : Nat) : Nat → Option Cut := addH (H17_28 k) 14 ⟨runCut (wrC (codeAt 14 (bd Try.f17) 14)) 68 [8] pa17_14 pw17_14 (u17_14 (l17_14 k))⟩
theorem e17_14 (k : Nat) (x : (pa17_14).C) : pieceF (C17 k) tt (H17_28 k) (codeAt 14 (bd Try.f17) 14) 14 68 [8] pa17_14 pw17_14 x = u17_14 (l17_14 k) x := by kernel_rfl
noncomputable def H17_6 (k : Nat) : Nat → Option Cut := addH (H17_14 k) 6 ⟨runCut (wrC (codeAt 6 (bd Try.f17) 6)) 68 [0, 2] pa17_6 pw17_6 (u17_6 (l17_6 k))⟩
theorem e17_6 (k : Nat) (x : (pa17_6).C) : pieceF (C17 k) tt (H17_14 k) (codeAt 6 (bd Try.f17) 6) 6 68 [0, 2] pa17_6 pw17_6 x = u17_6 (l17_6 k) x := by kernel_rfl
theorem e17 (k : Nat) (x : (a17).C) : bodyR (C17 k) tt (H17_6 k) Try.f17 a17 o17 x = u17 (f17 k) x := by kernel_rfl
theorem c17_ok (k : Nat) : ∀ f, SoundFn Try.prog f (C17 k f) := (mkC_cons (altF_ok (s23 k) (s23v3 k) rfl) (mkC_cons (s31 k) (mkC_cons (s43 k) (mkC_cons (s70 k) (mkC_cons (s71 k) (mkC_cons (s72 k) (mkC_cons (s74 k) (mkC_cons (s75 k) (mkC_cons (altF_ok (s79 k) (s79v2 k) rfl) mkC_nil)))))))))
theorem h17_252_ok (k : Nat) : ∀ p S, H17_252 k p = some S → ∀ c, At (bd Try.f17) p c → CutOk Try.prog c S :=
  have hC := c17_ok k
  addPiece hC ttOk (draw_ok hC ttOk mixed) noH_ok (fun x _ h => (e17_252 k x).trans h)
theorem h17_126_ok (k : Nat) : ∀ p S, H17_126 k p = some S → ∀ c, At (bd Try.f17) p c → CutOk Try.prog c S :=
  have hC := c17_ok k
  addPiece hC ttOk (draw_ok hC ttOk mixed) (h17_252_ok k) (fun x _ h => (e17_126 k x).trans h)
theorem h17_124_ok (k : Nat) : ∀ p S, H17_124 k p = some S → ∀ c, At (bd Try.f17) p c → CutOk Try.prog c S :=
  have hC := c17_ok k
  addPiece hC ttOk (draw_ok hC ttOk mixed) (h17_126_ok k) (fun x _ h => (e17_124 k x).trans h)
theorem h17_62_ok (k : Nat) : ∀ p S, H17_62 k p = some S → ∀ c, At (bd Try.f17) p c → CutOk Try.prog c S :=
  have hC := c17_ok k
  addPiece hC ttOk (draw_ok hC ttOk mixed) (h17_124_ok k) (fun x _ h => (e17_62 k x).trans h)
theorem h17_28_ok (k : Nat) : ∀ p S, H17_28 k p = some S → ∀ c, At (bd Try.f17) p c → CutOk Try.prog c S :=
  have hC := c17_ok k
  addPiece hC ttOk (draw_ok hC ttOk mixed) (h17_62_ok k) (fun x _ h => (e17_28 k x).trans h)
theorem h17_14_ok (k : Nat) : ∀ p S, H17_14 k p = some S → ∀ c, At (bd Try.f17) p c → CutOk Try.prog c S :=
  have hC := c17_ok k
  addPiece hC ttOk (draw_ok hC ttOk mixed) (h17_28_ok k) (fun x _ h => (e17_14 k x).trans h)
theorem h17_6_ok (k : Nat) : ∀ p S, H17_6 k p = some S → ∀ c, At (bd Try.f17) p c → CutOk Try.prog c S :=
  have hC := c17_ok k
  addPiece hC ttOk (draw_ok hC ttOk mixed) (h17_14_ok k) (fun x _ h => (e17_6 k x).trans h)
theorem s17 (k : Nat) : SoundFn Try.prog 17 (F17 (f17 k)) :=
  have hC := c17_ok k
  fnR_sound hC ttOk (draw_ok hC ttOk mixed) Try.func17 (c0 := bd Try.f17) rfl (entry Try.func17 rfl (by decide)) (h17_6_ok k) rfl (fun x _ h => (e17 k x).trans h)
end Go.Proofs.Ytgljnnokifggkaa.M
