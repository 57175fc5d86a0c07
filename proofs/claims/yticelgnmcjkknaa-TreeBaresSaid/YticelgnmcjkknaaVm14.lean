/-
A machine of values, fourteenth part: maps looked into; all operations that leave objects as they are.
-/
import Derived.Test.YticelgnmcjkknaaVm13
set_option linter.unusedVariables false
set_option linter.unusedSimpArgs false
namespace Go.Proofs.Yticelgnmcjkknaa.Vm
open Go.RowKit (Below)
section
variable {P : Program} {tt : Nat → TI} {R : Type}

theorem mfind_lt {A : Type} (kt : Ty) (k : kt.D) : ∀ (es : List (kt.D × A)) (n i : Nat), mfind kt k es n = some i → n ≤ i ∧ ∃ e, es[i - n]? = some e ∧ beqD kt k e.1 = true
  | [], n, i, h => by simp [mfind] at h
  | e :: es, n, i, h => by
    simp only [mfind] at h
    cases hb : beqD kt k e.1
    · rw [hb, cond_false] at h
      obtain ⟨h1, e', h2, h3⟩ := mfind_lt kt k es (n + 1) i h
      refine ⟨by omega, e', ?_, h3⟩
      rw [show i - n = (i - (n + 1)) + 1 by omega]; simpa using h2
    · rw [hb, cond_true] at h
      simp only [Option.some.injEq] at h; subst h
      exact ⟨Nat.le_refl _, e, by simp, hb⟩
theorem mget_find {A : Type} (kt : Ty) (k : kt.D) : ∀ (es : List (kt.D × A)) (n : Nat), mget kt k es = (mfind kt k es n).bind fun i => (es[i - n]?).map (·.2)
  | [], n => rfl
  | e :: es, n => by
    simp only [mget, mfind]
    cases hb : beqD kt k e.1
    · rw [cond_false, cond_false, mget_find kt k es (n + 1)]
      cases hm : mfind kt k es (n + 1) with
      | none => rfl
      | some i =>
        obtain ⟨h1, _⟩ := mfind_lt kt k es (n + 1) i hm
        simp only [Option.bind_some]
        rw [show i - n = (i - (n + 1)) + 1 by omega]; simp
    · simp
theorem relV_tup2 {g : Gh} {I : Addr → Value → Prop} {a b : V} {x y : Value} (h1 : RelV g I a x) (h2 : RelV g I b y) : RelV g I (.tup [a, b]) (.tuple #[x, y]) := by
  refine .tup [a, b] [x, y] rfl fun i v rv hv hr => ?_
  match i with
  | 0 => simp at hv hr; subst hv; subst hr; exact h1
  | 1 => simp at hv hr; subst hv; subst hr; exact h2
  | i + 2 => simp at hv
theorem lookupV_sound (hT : TtOk P tt) {objs : List Ob} {t : Nat} {m k : V} {ok : Bool} {K : V → Option R} {r : R} (h : lookupV tt objs t m k ok K = some r) :
    ∃ u, K u = some r ∧ ∀ g w rm rk, RelObs g w objs → RelV g (Imm g w) m rm → RelV g (Imm g w) k rk → QR P (Instr.lookup t rm rk ok) g w u := by
  have ht := hT t
  unfold lookupV at h
  split at h
  · rename_i kt vt h1
    rw [h1] at ht
    obtain ⟨_, kk, kv, bk, bv, h2, h3, h4⟩ := ht
    split at h
    · rename_i he
      have he' : eqTy0 kt = true ∧ tySz kt ≤ 1000 := by simpa [eqTy] using he
      obtain ⟨x, h5, h6⟩ := asD_sound h
      have hv := hT kv; rw [h4] at hv
      obtain ⟨⟨i, z, h7, _, h8, h9⟩, _⟩ := hv
      have core : ∀ (o : Option vt.D) (g : Gh) (w : World) (rm rk : Value), (∃ (es : List (kt.D × vt.D)) (ms : List MapEntry), o = mget kt x es ∧ ms.length = es.length ∧
          (∀ (j : Nat) (e : kt.D × vt.D) (q : MapEntry), es[j]? = some e → ms[j]? = some q → RelVal (Imm g w) kt e.1 q.key ∧ RelVal (Imm g w) vt e.2 q.val) ∧
          ((rm = .map none ∧ ms = []) ∨ (∃ b clock, rm = .map (some b) ∧ w.heap[b]? = some (.map ms.toArray clock)))) →
          RelVal (Imm g w) kt x rk →
          ∃ rv, (Instr.lookup t rm rk ok).run P w = .ok (if ok then .tuple #[rv, .bool o.isSome] else rv) w ∧ RelVal (Imm g w) vt (o.getD (zeroD vt)) rv := by
        intro o g w rm rk ⟨es, ms, ho, hlen, hrel, hrun⟩ hk
        have hck := (checkKey_sound (P := P) hT ms.toArray.isEmpty kt he'.1).1 kk bk 10000 _ x rk w h3 (by have := he'.2; omega) hk
        have hfk := findKey_sound (P := P) hT he h3 hk w es ms hlen fun j e q hj hq => (hrel j e q hj hq).1
        have hzero : (zeroValue kv).run P w = .ok z w := by simp [zeroValue, typeInfo, h7, h8]
        rw [mget_find kt x es 0] at ho
        have hgo : ∀ f, (Instr.findKey kk rk ms).run P w = .ok f w → (Instr.lookup t rm rk ok).run P w = .ok (if ok then .tuple #[((f.map (·.2)).getD z), .bool f.isSome] else ((f.map (·.2)).getD z)) w := by
          intro f hf
          rcases hrun with ⟨rfl, rfl⟩ | ⟨b, clock, rfl, hb⟩
          · have hck' : (Instr.checkKey true 10000 kk rk).run P w = .ok () w := by simpa using hck
            cases f with
            | none => cases ok <;> simp [Instr.lookup, run_underlying h2, hck', hf, hzero]
            | some p => cases ok <;> simp [Instr.lookup, run_underlying h2, hck', hf, hzero]
          · have hck' : (Instr.checkKey (ms.toArray.isEmpty) 10000 kk rk).run P w = .ok () w := hck
            have hobj : (getObj b).run P w = .ok (.map ms.toArray clock) w := by simp [getObj, Sem.run, hb]
            cases f with
            | none => cases ok <;> simp only [Instr.lookup, Sem.run_bind, run_underlying h2, Result.andThen_ok, hobj, Sem.run_pure, hck', List.toList_toArray, hf, hzero] <;> rfl
            | some p => cases ok <;> simp only [Instr.lookup, Sem.run_bind, run_underlying h2, Result.andThen_ok, hobj, Sem.run_pure, hck', List.toList_toArray, hf, hzero] <;> rfl
        have hrun' := hgo _ hfk
        rw [hrun']
        cases hm : mfind kt x es 0 with
        | none =>
          rw [hm] at ho
          simp only [Option.bind_none] at ho
          subst ho
          exact ⟨z, by simp, h9 _⟩
        | some j =>
          rw [hm] at ho
          obtain ⟨_, e, h10, _⟩ := mfind_lt kt x es 0 j hm
          rw [Nat.sub_zero] at h10
          simp only [Option.bind_some, Nat.sub_zero, h10, Option.map_some] at ho
          subst ho
          have hlt : j < ms.length := by rw [hlen]; exact getElem?_lt h10
          exact ⟨ms[j].val, by simp [List.getElem?_eq_getElem hlt], (hrel j e _ h10 (List.getElem?_eq_getElem hlt)).2⟩
      split at h5
      · refine ⟨if ok then .tup [dv vt (zeroD vt), .dat .bool false] else dv vt (zeroD vt), by cases ok <;> simpa using h5, fun g w rm rk _ hm hk => ?_⟩
        cases hm
        obtain ⟨rv, h10, h11⟩ := core none g w (.map none) rk ⟨[], [], rfl, rfl, fun j e q hj => by simp at hj, .inl ⟨rfl, rfl⟩⟩ (h6 _ _ _ hk)
        refine .same h10 ?_
        cases ok
        · exact relV_dv h11
        · exact relV_tup2 (relV_dv h11) (relV_mkBool _)
      · rename_i i0
        split at h5
        · rename_i f kt' vt' es ho
          split at h5
          · rename_i e1; subst e1
            split at h5
            · rename_i e2; subst e2
              refine ⟨if ok then .tup [dv vt' ((mget kt' x es).getD (zeroD vt')), .dat .bool (mget kt' x es).isSome] else dv vt' ((mget kt' x es).getD (zeroD vt')), by cases ok <;> simpa using h5, fun g w rm rk hobs hm hk => ?_⟩
              cases hm with
              | mp _ b f' hb =>
                obtain ⟨b2, ents, clock, k1, k2, k3, k4⟩ := hobs _ _ ho
                obtain ⟨rfl, rfl⟩ : b2 = b ∧ f = f' := by rw [hb] at k1; simp at k1; exact ⟨k1.1.symm, k1.2.symm⟩
                obtain ⟨rv, h10, h11⟩ := core (mget kt' x es) g w (.map (some b2)) rk ⟨es, ents.toList, rfl, by simpa using k3, fun j e q hj hq => by
                  obtain ⟨k5, k6⟩ := k4 j e q hj (by simpa using hq)
                  exact ⟨relVal_dat k5, relVal_of_dv k6⟩, .inr ⟨b2, clock, rfl, by simpa using k2⟩⟩ (h6 _ _ _ hk)
                refine .same h10 ?_
                cases ok
                · exact relV_dv h11
                · exact relV_tup2 (relV_dv h11) (relV_mkBool _)
            · cases h5
          · cases h5
        · cases h5
      · cases h5
    · cases h
  · cases h
end
end Go.Proofs.Yticelgnmcjkknaa.Vm
