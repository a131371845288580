/-
  A nil slice is a row of its own that has nothing in it yet: so a list that is built by appending has one form from the beginning.
-/
import Derived.Test.YtbinpbjeeiedhaaDoorAbT
set_option linter.unusedVariables false
set_option linter.unusedSimpArgs false
set_option linter.unusedSectionVars false
namespace Go.Ab
open Go
variable [GlobFacts]

section
variable {P : Program} {N : Nat} {E : Env} {σ : Heap}

/-- **A slot's nil slice is an empty row from here on.** -/
theorem awp_nil {c : Code} {Q : Post} (t : Tmp) (e : Nat) (ht : E.get t = some ⟨true, .v (.slice none 0 0)⟩) (h : AWP P N c Q (E.put t ⟨true, .os σ.length 0 0 0⟩) (σ ++ [.row 0 e []])) : AWP P N c Q E σ := by
  intro a w ρ hst
  obtain ⟨ρ', h1, h2, h3⟩ := hst.newNil e
  have hst' : St N a w ρ' (E.put t ⟨true, .os σ.length 0 0 0⟩) (σ ++ [.row 0 e []]) := by
    refine ⟨h1.tmps, h1.defers, fun u x hu => ?_, h1.heap⟩
    rw [Env.get_put] at hu
    by_cases hut : u = t
    · subst hut
      simp at hu; subst hu
      obtain ⟨y, hy, hy'⟩ := hst.env u _ ht
      refine ⟨y, hy, ?_⟩
      simp only [EV.ok, if_true, Rep] at hy' ⊢
      rw [h3]
      exact ⟨rfl, rfl, hy'⟩
    · rw [if_neg hut] at hu; exact h1.env u x hu
  exact wp_mono (h a w ρ' hst') fun _ _ _ H => H.from h2 fun _ _ _ h => h
end
attribute [go_sem] decide_true decide_false
end Go.Ab
