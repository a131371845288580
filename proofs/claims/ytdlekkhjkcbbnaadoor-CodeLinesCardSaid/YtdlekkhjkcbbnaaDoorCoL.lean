/-
  Contracts: operand, Format, Same of the reference.
-/
import Derived.Test.YtdlekkhjkcbbnaaDoorCoC
import Derived.Test.YtdlekkhjkcbbnaaDoorCoD
import Derived.Test.YtdlekkhjkcbbnaaDoorCoM
set_option linter.unusedVariables false
set_option linter.unusedSimpArgs false
set_option maxRecDepth 8000
set_option maxHeartbeats 4000000
namespace Go.Proofs.YtdlekkhjkcbbnaaDoor
open Go.Ab Go.Id Go.Wo Go

theorem opsT_congr : ∀ (ls ms : Bytes) (ns : List Int), ls.map (fun l => decide (l.toNat = 114)) = ms.map (fun l => decide (l.toNat = 114)) → opsT ls ns = opsT ms ns
  | [], [], _, _ => by simp [opsT]
  | [], _ :: _, _, h => by simp at h
  | _ :: _, [], _, h => by simp at h
  | l :: ls, m :: ms, [], _ => by simp [opsT]
  | l :: ls, m :: ms, n :: ns, h => by
    simp only [List.map_cons, List.cons.injEq] at h
    rw [opsT, opsT, opsT_congr ls ms ns h.2]
    congr 1
    unfold opT
    by_cases h1 : l.toNat = 114
    · rw [if_pos h1, if_pos (by have := h.1; rw [decide_eq_true h1] at this; exact of_decide_eq_true this.symm)]
    · rw [if_neg h1, if_neg (by have := h.1; rw [decide_eq_false h1] at this; exact of_decide_eq_false this.symm)]
theorem lets_114 : ∀ k, k < 13 → (rletsS k).map (fun l => decide (l.toNat = 114)) = (letsS k).map (fun l => decide (l.toNat = 114)) := by decide
theorem ropsT {k : Nat} (h : k < 13) (ns : List Int) : opsT (rletsS k) ns = opsT (letsS k) ns := opsT_congr _ _ _ (lets_114 k h)

end Go.Proofs.YtdlekkhjkcbbnaaDoor
