/-
A machine of values, part thirty-six: pieces of code, and loops.
-/
import Derived.Test.YticelgnmcjkknaaVm35
set_option linter.unusedVariables false
set_option linter.unusedSimpArgs false
namespace Go.Proofs.Yticelgnmcjkknaa.Vm
section
variable {P : Program} {R : Type}

/-- A piece of code, by the evaluator. -/
def pieceF (C : Nat → Fun) (tt : Nat → TI) (H : Nat → Option Cut) (c : Code) (p N : Nat) (ins : List Nat) (arg : Shape) (ws : List Way) (x : arg.C) : Option (WayC ws) :=
  vcode C tt H c p (envC N ins (encSls 0 arg.sl x.1)) (encSt true [] arg x) fun ex env σ => decWays arg.ob.length N ex env σ ws
/-- A loop's body, by the evaluator; 'rec' is the loop behind it. -/
def roundF (C : Nat → Fun) (tt : Nat → TI) (H : Nat → Option Cut) (body : Code) (p N : Nat) (ins : List Nat) (arg : Shape) (ws : List Way) (rec : arg.C → Option (WayC ws)) (x : arg.C) : Option (WayC ws) :=
  vcode C tt H body p (envC N ins (encSls 0 arg.sl x.1)) (encSt true [] arg x) fun ex env σ => (match ex with
    | .normal => runCut (wrC body) N ins arg ws rec env σ fun ex env σ => decWays arg.ob.length N ex env σ ws
    | ex => decWays arg.ob.length N ex env σ ws)
section
variable {C : Nat → Fun} {tt : Nat → TI}
theorem piece_ok (hC : ∀ f, SoundFn P f (C f)) (hT : TtOk P tt) (hD : DrawOk P C tt) {c0 : Code} {H : Nat → Option Cut} (hH : ∀ p S, H p = some S → ∀ c, At c0 p c → CutOk P c S) {c : Code} {p : Nat} (hc : At c0 p c) {N : Nat} {ins : List Nat} {arg : Shape} {ws : List Way} {F : arg.C → Option (WayC ws)}
    (hF : ∀ x y, F x = some y → pieceF C tt H c p N ins arg ws x = some y) : CutOk P c ⟨runCut (wrC c) N ins arg ws F⟩ := by
  intro R env σ K r h
  refine cut_sound (fun x y hxy => ?_) h
  obtain ⟨ex, env0, σ0, h1, h2⟩ := vcode_sound hC hT hD hH c p hc _ _ _ _ (hF x y hxy)
  exact ⟨ex, env0, σ0, h1, h2⟩
theorem loop_ok (hC : ∀ f, SoundFn P f (C f)) (hT : TtOk P tt) (hD : DrawOk P C tt) {c0 : Code} {H : Nat → Option Cut} (hH : ∀ p S, H p = some S → ∀ c, At c0 p c → CutOk P c S) {body : Code} {p : Nat} (hc : At c0 p (.loop body)) {N : Nat} {ins : List Nat} {arg : Shape} {ws : List Way} {F : Nat → arg.C → Option (WayC ws)}
    (h0 : ∀ x, F 0 x = none) (hF : ∀ k x y, F (k + 1) x = some y → roundF C tt H body (2 * p) N ins arg ws (F k) x = some y) (k : Nat) : CutOk P (.loop body) ⟨runCut (wrC body) N ins arg ws (F k)⟩ := by
  have key : ∀ k x y, F k x = some y → ∃ ex env0 σ0, decWays arg.ob.length N ex env0 σ0 ws = some y ∧ Goes (wrC body) (fun Q a w => Code.rounds P body Q k a w) (exOf ex) (envC N ins (encSls 0 arg.sl x.1)) (encSt true [] arg x) env0 σ0 := by
    intro k
    induction k with
    | zero => intro x y h; rw [h0] at h; cases h
    | succ k ih =>
      intro x y h
      have h1 := hF k x y h
      unfold roundF at h1
      obtain ⟨ex, env1, σ1, h2, h3⟩ := vcode_sound hC hT hD hH body (2 * p) (.loop p body hc) _ _ _ _ h1
      cases ex with
      | normal =>
        dsimp only at h2
        obtain ⟨ex, env2, σ2, h4, h5⟩ := cut_sound ih h2
        refine ⟨ex, env2, σ2, h4, fun g w a Q hst he hd hq => ?_⟩
        exact h3 g w a _ hst he hd fun g1 w1 a1 hu1 hst1 he1 hd1 hk1 => h5 g1 w1 a1 Q hst1 he1 hd1 fun g2 w2 a2 hu2 hst2 he2 hd2 hk2 => hq g2 w2 a2 (hu1.trans hu2) hst2 he2 hd2 fun i hi => (hk2 i hi).trans (hk1 i hi)
      | exit i => exact ⟨_, env1, σ1, h2, fun g w a Q hst he hd hq => h3 g w a _ hst he hd hq⟩
      | ret => exact ⟨_, env1, σ1, h2, fun g w a Q hst he hd hq => h3 g w a _ hst he hd hq⟩
  intro R env σ K r h
  obtain ⟨ex, env', σ', h1, h2⟩ := cut_sound (key k) h
  exact ⟨ex, env', σ', h1, fun g w a Q hst he hd hq => wp_loop_rounds k (h2 g w a Q hst he hd hq)⟩
end
end
end Go.Proofs.Yticelgnmcjkknaa.Vm
