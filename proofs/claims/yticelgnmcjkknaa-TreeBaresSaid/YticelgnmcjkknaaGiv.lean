/-
Two functions of the library, given: strings.IndexByte and strings.Contains.
-/
import Derived.Test.YticelgnmcjkknaaVm42
import Derived.Test.YticelgnmcjkknaaShelf
set_option linter.unusedVariables false
set_option maxRecDepth 100000
namespace Go.Proofs.Yticelgnmcjkknaa.M
open Go Go.Proofs Go.Proofs.Yticelgnmcjkknaa.Vm
noncomputable def a54 : Shape := ⟨[.d .str, .d (.int .u8)], []⟩
noncomputable def o54 : List Shape := [⟨[.d i64], []⟩]
abbrev R54 : Type := ((Int × Unit) × Unit)
abbrev T54 : Type := ByteArray → Int → Option R54
noncomputable def u54 (f : T54) : (a54).C → Option (OutC o54) := fun (x : ((ByteArray × Int × Unit) × Unit)) => f x.1.1 x.1.2.1
noncomputable def F54 (f : T54) : Fun := ⟨true, runR a54 o54 (u54 f)⟩
noncomputable def f54 (k : Nat) : T54 := fun s c => some ((Lib.indexByte s.data.toList c.toNat.toUInt8, ()), ())
theorem s54 (k : Nat) : SoundFn Try.prog 54 (F54 (f54 k)) := by
  intro R args σ K r h
  have h : (decSh false a54 σ (List.range σ.objs.length) args).bind (fun x => (u54 (f54 k) x).bind fun y => unpackR o54 y fun v => K v σ) = some r := h
  obtain ⟨x, hx, h⟩ := bind_some h
  have x0 : ((ByteArray × Int × Unit) × Unit) := x
  refine ⟨.dat i64 (Lib.indexByte (show ((ByteArray × Int × Unit) × Unit) from x).1.1.data.toList (show ((ByteArray × Int × Unit) × Unit) from x).1.2.1.toNat.toUInt8), σ, h, entry Try.func54 rfl (by decide), fun g w rargs hro hst hargs => ?_⟩
  have h2 := args_quiet (w := w) (g := g) rfl hx hargs
  obtain ⟨v1, v2, h3, h4, h5⟩ := relL_two (a := .dat .str (show ((ByteArray × Int × Unit) × Unit) from x).1.1) (b := .dat (.int .u8) (show ((ByteArray × Int × Unit) × Unit) from x).1.2.1) h2
  obtain rfl := relV_str h4
  obtain rfl := relV_int h5
  obtain ⟨rargs⟩ := rargs
  have h3 : rargs = _ := h3
  subst h3
  refine (Try.strings_IndexByte _ _ w).mono fun e w' he => ?_
  obtain ⟨rfl, rfl⟩ := he
  exact ⟨_, g, rfl, .refl g w', .leaf _ _ _ rfl (.int _ _), hst⟩
noncomputable def a55 : Shape := ⟨[.d .str, .d .str], []⟩
noncomputable def o55 : List Shape := [⟨[.d .bool], []⟩]
abbrev R55 : Type := ((Bool × Unit) × Unit)
abbrev T55 : Type := ByteArray → ByteArray → Option R55
noncomputable def u55 (f : T55) : (a55).C → Option (OutC o55) := fun (x : ((ByteArray × ByteArray × Unit) × Unit)) => f x.1.1 x.1.2.1
noncomputable def F55 (f : T55) : Fun := ⟨true, runR a55 o55 (u55 f)⟩
noncomputable def f55 (k : Nat) : T55 := fun s t => gd (decide (s.size < 4294967281)) (some ((Lib.contains s.data.toList t.data.toList, ()), ()))
theorem s55 (k : Nat) : SoundFn Try.prog 55 (F55 (f55 k)) := by
  intro R args σ K r h
  have h : (decSh false a55 σ (List.range σ.objs.length) args).bind (fun x => (u55 (f55 k) x).bind fun y => unpackR o55 y fun v => K v σ) = some r := h
  obtain ⟨x, hx, h⟩ := bind_some h
  have h : (gd (decide ((show ((ByteArray × ByteArray × Unit) × Unit) from x).1.1.size < 4294967281)) (some ((Lib.contains (show ((ByteArray × ByteArray × Unit) × Unit) from x).1.1.data.toList (show ((ByteArray × ByteArray × Unit) × Unit) from x).1.2.1.data.toList, ()), ()))).bind (fun y => unpackR o55 y fun v => K v σ) = some r := h
  by_cases hs : (show ((ByteArray × ByteArray × Unit) × Unit) from x).1.1.size < 4294967281
  · rw [decide_eq_true hs] at h
    refine ⟨.dat .bool (Lib.contains (show ((ByteArray × ByteArray × Unit) × Unit) from x).1.1.data.toList (show ((ByteArray × ByteArray × Unit) × Unit) from x).1.2.1.data.toList), σ, h, entry Try.func55 rfl (by decide), fun g w rargs hro hst hargs => ?_⟩
    have h2 := args_quiet (w := w) (g := g) rfl hx hargs
    obtain ⟨v1, v2, h3, h4, h5⟩ := relL_two (a := .dat .str (show ((ByteArray × ByteArray × Unit) × Unit) from x).1.1) (b := .dat .str (show ((ByteArray × ByteArray × Unit) × Unit) from x).1.2.1) h2
    obtain rfl := relV_str h4
    obtain rfl := relV_str h5
    obtain ⟨rargs⟩ := rargs
    have h3 : rargs = _ := h3
    subst h3
    obtain ⟨m, hm⟩ := hst.gl rfl
    refine (Try.strings_Contains _ _ m w hs hm.1).mono fun e w' he => ?_
    obtain ⟨rfl, rfl⟩ := he
    exact ⟨_, g, rfl, .refl g w', .leaf _ _ _ rfl (.bool _), hst⟩
  · rw [decide_eq_false hs] at h; cases h
end Go.Proofs.Yticelgnmcjkknaa.M
