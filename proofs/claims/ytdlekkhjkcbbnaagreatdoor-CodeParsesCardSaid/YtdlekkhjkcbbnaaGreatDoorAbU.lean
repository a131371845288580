/-
  A row becomes data in the middle of a walk.
  A nil slice is a row of its own that has nothing in it yet: so a list that is built by appending has one form from the beginning.
-/
import Derived.Test.YtdlekkhjkcbbnaaGreatDoorAbS
set_option linter.unusedVariables false
set_option linter.unusedSimpArgs false
set_option linter.unusedSectionVars false
namespace Go.Ab
open Go
variable [GlobFacts]

def frzE (i g e : Nat) (es : List AV) : Env → Env
  | [] => []
  | (t, x) :: r => (t, ⟨x.c, frz i g e es x.a⟩) :: frzE i g e es r

theorem frzE_get {i g e : Nat} {es : List AV} : ∀ {E : Env} {t : Tmp} {x : EV}, (frzE i g e es E).get t = some x → ∃ y, E.get t = some y ∧ x = ⟨y.c, frz i g e es y.a⟩
  | [], t, x, h => by simp [frzE, Env.get] at h
  | (u, y) :: r, t, x, h => by
    simp only [frzE, Env.get] at h ⊢
    split at h
    · rename_i e; cases h; rw [if_pos e]; exact ⟨y, rfl, rfl⟩
    · rename_i e; rw [if_neg e]; exact frzE_get h

section
variable {P : Program} {N : Nat} {E : Env} {σ : Heap}

/-- **A row is data from here on.** -/
theorem awp_frz {c : Code} {Q : Post} {i g e : Nat} {es : List AV} (hi : σ[i]? = some (.row g e es)) (h : AWP P N c Q (frzE i g e es E) (σ.set i (.dead g))) : AWP P N c Q E σ := by
  intro a w ρ hs
  obtain ⟨h1, h2, h3⟩ := hs.heap.kill hi rfl (by simp)
  have hst : St N a w (ρ.set i none) (frzE i g e es E) (σ.set i (.dead g)) := by
    refine ⟨hs.tmps, hs.defers, fun t x ht => ?_, h1⟩
    obtain ⟨y, hy, rfl⟩ := frzE_get ht
    obtain ⟨v, hv, hok⟩ := hs.env t y hy
    refine ⟨v, hv, ?_⟩
    unfold EV.ok at *
    split
    · rename_i hc; rw [if_pos hc] at hok; exact Rep.frz hs.heap hi _ _ hok
    · rename_i hc; rw [if_neg hc] at hok; exact hok
  exact wp_mono (h a w _ hst) fun _ _ _ ⟨E', σ', ρ', k1, k2, k3⟩ => ⟨E', σ', ρ', k1, h2.trans k2, k3⟩

theorem acalls_awp {f : FuncId} {fn : Func} {c : Code} {args : List AV} {R : AV → Heap → Prop}
    (hf : P.funcs[f]? = some fn) (hb : fn.body = some c) (hcall : ∀ (as : Array Value) w, (callFunc f as).run P w = .ok (.enter f as) w) (hN : fn.ntmps = N) {rs : List ResultVar} (hrs : fn.results = rs.toArray) (hn : args.length ≤ N)
    (h : WfH σ.length σ → AWP P N c (retV P rs σ.length R) (env0 0 args) σ) : ACalls P f args σ R := by
  subst hN
  exact acalls_of hf hb hcall hn fun hw => (h hw).mono fun _ _ _ h => retV_sound hrs h

/-- the first part walked, the second left -/
theorem awp_then {x y : Code} {Q : Post} (h : vcode P N x (thenQ (AWP P N y Q) Q) E σ) : AWP P N (.seq x y) Q E σ := awp_seq (vcode_sound x h)
end
end Go.Ab
set_option linter.unusedVariables false
set_option linter.unusedSimpArgs false
set_option linter.unusedSectionVars false
namespace Go.Ab
open Go
variable [GlobFacts]

section
variable {P : Program} {N : Nat} {E : Env} {σ : Heap}

/-- **A slot's nil slice is an empty row from here on.** -/
theorem awp_nil {c : Code} {Q : Post} (t : Tmp) (e : Nat) (ht : E.get t = some ⟨true, .v (.slice none 0 0)⟩) (h : AWP P N c Q (E.put t ⟨true, .os σ.length 0 0 0⟩) (σ ++ [.row 0 e []])) : AWP P N c Q E σ := by
  intro a w ρ hst
  obtain ⟨ρ', h1, h2, h3⟩ := hst.newNil e
  have hst' : St N a w ρ' (E.put t ⟨true, .os σ.length 0 0 0⟩) (σ ++ [.row 0 e []]) := by
    refine ⟨h1.tmps, h1.defers, fun u x hu => ?_, h1.heap⟩
    rw [Env.get_put] at hu
    by_cases hut : u = t
    · subst hut
      simp at hu; subst hu
      obtain ⟨y, hy, hy'⟩ := hst.env u _ ht
      refine ⟨y, hy, ?_⟩
      simp only [EV.ok, if_true, Rep] at hy' ⊢
      rw [h3]
      exact ⟨rfl, rfl, hy'⟩
    · rw [if_neg hut] at hu; exact h1.env u x hu
  exact wp_mono (h a w ρ' hst') fun _ _ _ H => H.from h2 fun _ _ _ h => h
end
attribute [go_sem] decide_true decide_false
end Go.Ab
