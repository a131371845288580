/-
  Contracts: the law's sane.
-/
import Derived.Test.YtkpdjbklnjjedaaJuH
import Derived.Test.YtkpdjbklnjjedaaAbT
set_option linter.unusedVariables false
set_option linter.unusedSimpArgs false
set_option maxRecDepth 8000
set_option maxHeartbeats 2000000
namespace Go.Proofs.Ytkpdjbklnjjedaa
open Go.Ab Go.Ju Go

def badL : List Acc := [⟨1, 1, 1, 2⟩, ⟨1, 2, 1, 0⟩, ⟨2, 2, 1, 2⟩, ⟨2, 1, 1, 0⟩]
def badL3 : List Acc := [⟨1, 1, 1, 2⟩, ⟨1, 2, 1, 0⟩, ⟨2, 2, 1, 2⟩]

theorem s1 : jOrder badL = none := by decide +kernel
theorem s2 : jOrder badL3 = some [0, 1, 2] := by decide +kernel
theorem s3 : jValid badL = true := by decide +kernel
theorem s4 : jExplains badL3 [0, 1, 2] = true := by decide +kernel
theorem s5 : rLast badL 1 = 2 := by decide +kernel

theorem sane_c (σ : Heap) : ACalls Try.prog 7 [] σ (fun r σ' => r = bv true ∧ σ' = σ) := by
  refine acalls_awp Try.func7 rfl Try.call7 Try.ntmps7 Try.results7 (Nat.le_of_ble_eq_true rfl) fun hw => ?_
  refine awp_then ?_
  simp only [go_sem]
  refine awp_then ?_
  simp only [go_sem]
  refine awp_frz (i := σ.length) (g := 0) (e := 4) (es := badL.map Acc.av) (by simp only [go_sem]; rfl) ?_
  refine vcode_sound _ ?_
  have hb4 : 4 ≤ badL.length := by decide
  have h33 : ((3 : Nat) : Int) = 3 := rfl
  simp only [go_sem, frzE, frz, frzL, hb4]
  refine callN_of (jorder_c badL _ (by decide)) ?_
  rintro r τ ⟨rfl, rfl⟩
  simp only [go_sem, s1, ints]
  refine ⟨by simp [badL], callN_of (jorder_c badL3 _ (by decide)) ?_⟩
  rintro r τ ⟨rfl, rfl⟩
  simp only [go_sem, s2, ints]
  refine callN_of (jvalid_c badL _ (by decide)) ?_
  rintro r τ ⟨rfl, rfl⟩
  simp only [go_sem, s3, ints, h33]
  refine ⟨by simp [badL], callG_of (bv true) (fun _ => (jexplains_c badL3 [0, 1, 2] _ (by decide) (by decide)).mono fun r τ h => by rw [s4] at h; exact h) ?_⟩
  simp only [go_sem, ints, h33]
  refine callG_of (iv 2) (fun _ => (jlast_c badL 1 _ (by decide)).mono fun r τ h => by rw [s5] at h; exact h) ?_
  simp only [go_sem, ints, h33]
  exact retOK_app hw trivial ⟨rfl, rfl⟩

end Go.Proofs.Ytkpdjbklnjjedaa
