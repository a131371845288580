/-
  Contracts: the law's sane.
-/
import Derived.Test.YtbinpbjeeiedhaaDoorIdC
set_option linter.unusedVariables false
set_option linter.unusedSimpArgs false
set_option maxRecDepth 8000
set_option maxHeartbeats 2000000
namespace Go.Proofs.YtbinpbjeeiedhaaDoor
open Go.Ab Go.Id Go

theorem z1 : makeS 2 3 4 = (idOf 2 3 4, 0) := by decide +kernel
theorem z2 : formatS (idOf 2 3 4) = [50, 46, 51, 46, 52] := by decide +kernel
theorem z3 : newS 0 0 = (⟨0, 0, 0⟩, 0) := by decide +kernel
theorem z4 : nextS ⟨0, 0, 0⟩ 1 = ([1], ⟨0, 0, 1⟩, 0) := by decide +kernel
theorem z5 : validS (idOf 2 3 4) = true := by decide +kernel

theorem sane_c (σ : Heap) : ACalls Tryd.prog 14 [] σ (fun r σ' => r = bv true ∧ σ' = σ) := by
  refine acalls_awp Tryd.func14 rfl Tryd.call14 Tryd.ntmps14 Tryd.results14 (Nat.le_of_ble_eq_true rfl) fun hw => ?_
  refine awp_then ?_
  simp only [go_sem]
  refine awp_then ?_
  simp only [go_sem]
  refine callN_of (make_c 2 3 4 _) ?_
  rintro r τ ⟨rfl, rfl⟩
  simp only [go_sem, z1]
  refine awp_then ?_
  simp only [go_sem]
  refine callN_of (new_c 0 0 _) ?_
  rintro r τ ⟨rfl, rfl⟩
  simp only [go_sem, z3, Allo.av]
  refine awp_then ?_
  simp only [go_sem]
  refine callN_of (next_c ⟨0, 0, 0⟩ 1 _) ?_
  rintro r τ ⟨rfl, rfl⟩
  simp only [go_sem, z4, Allo.av, uints]
  generalize hid : idOf 2 3 4 = id
  have y2 : formatS id = [50, 46, 51, 46, 52] := hid ▸ z2
  have y5 : validS id = true := hid ▸ z5
  have h11 : ((1 : Nat) : Int) = 1 := rfl
  refine vcode_sound _ ?_
  simp only [go_sem]
  refine callG_of (sv [50, 46, 51, 46, 52]) (fun _ => by have := fun σ => format_c id σ; rw [y2] at this; exact this _) ?_
  simp only [go_sem, h11]
  refine callG_of (bv true) (fun _ => by have := fun σ => valid_c id σ; rw [y5] at this; exact this _) ?_
  simp only [go_sem, h11]
  exact retOK_app hw trivial ⟨rfl, rfl⟩
end Go.Proofs.YtbinpbjeeiedhaaDoor
