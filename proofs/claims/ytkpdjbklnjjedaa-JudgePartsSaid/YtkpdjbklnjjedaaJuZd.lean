/-
  JudgeParts: accesses that only saw can be left out of a made record, and the last version counts what was made. Without condition.
-/
import Derived.Test.YtkpdjbklnjjedaaAbV
import Derived.Test.YtkpdjbklnjjedaaJuL
import Derived.WalkKit
set_option linter.unusedVariables false
set_option linter.unusedSimpArgs false
namespace Go.Proofs.Ytkpdjbklnjjedaa
open Go.Ab Go.Ju Go Go.ChangeShapes Go.WideShapes Go.ChangeAt Go.RowKit

theorem ownK : ownKnob Try.prog.godebug = none := by kernel_rfl
theorem laidOutK : laidOutB Try.prog = true := by kernel_rfl

set_option maxRecDepth 100000 in
theorem judgeParts_lifted (os : Os) (started : os.Started) (H : Type) (enc : TypeId × Value → H) :
    ReturnsInHanded {} Try.checked os 6 .any (Rows.judgePartsSpec.pre6 enc Try.prog Try.f6 Rows.judgePartsRow.domain false) (Rows.judgePartsSpec.post enc Try.prog Try.f6 false true false false) := by
  refine returnsInHanded_of_change_sized (C := Try.checked) ownK started (by kernel_rfl) Try.func6
    (ChangeSpec.witness6 (enc := enc) (C := Try.checked) false ⟨#[], #[.slice none 0 0, .int .u64 0, .int .i64 0], []⟩ 8 (by kernel_rfl) (by kernel_rfl) (by kernel_rfl) (by kernel_rfl)) ?_
  intro W base args ds gs before hval0 hW hcnd hsz _
  have hval : ∀ (j : Nat) t v, Try.f6.params[j]? = some t → args[j]? = some v → Value.okWide Try.prog W .any base t v := hval0
  have hW' := hW
  obtain ⟨p, q, hA0, hV, rfl, hfz, hnd⟩ := hW
  have hA : DataW.TrodAll enc Try.prog W 0 (fun _ => true) true Try.f6.params.toList args.toList ds p := hA0
  rw [Try.params6] at hA hval
  obtain ⟨v0, vs0, d0, ds0, p0, q0, hargs, rfl, rfl, h0, r0⟩ := trodAll_cons hA
  obtain ⟨v1, vs1, d1, ds1, p1, q1, rfl, rfl, rfl, h1, r1⟩ := trodAll_cons r0
  obtain ⟨v2, vs2, d2, ds2, p2, q2, rfl, rfl, rfl, h2, r2⟩ := trodAll_cons r1
  obtain ⟨rfl, rfl, rfl⟩ := trodAll_nil r2
  obtain rfl : args = #[v0, v1, v2] := by cases args; simp_all
  obtain ⟨rfl, rfl⟩ := trodVars_none hV
  obtain ⟨a0, w0, m0, l0⟩ := arg_slice (n := 1) (mk := iv) Try.underlying22 (by kernel_rfl) (el_int Try.underlying3) (hval 0 22 v0 rfl rfl) h0
  have b0 : a0.length < 2^62 := by
    rcases l0 with rfl | ⟨el, sp, rfl, e⟩
    · simp
    · have h1 := sized_slice hsz (j := 0) (t := 22) (e := 3) (elems := el) (spare := sp) (by rw [Try.params6]; rfl) rfl Try.underlying22
      have h2 := reachBytes_lt
      have h3 : 0 < Try.prog.bytesOf 3 := of_decide_eq_true (by kernel_rfl)
      have h4 : (el.length + sp.length) * 1 ≤ (el.length + sp.length) * Try.prog.bytesOf 3 := Nat.mul_le_mul_left _ h3
      have h5 : (el.length + sp.length) * Try.prog.bytesOf 3 ≤ reachBytes := h1
      omega
  obtain ⟨a1, rfl, rfl, rfl, w1⟩ := open_int Try.underlying24 (hval 1 24 v1 rfl rfl) h1
  obtain ⟨a2, rfl, rfl, rfl, w2⟩ := open_int Try.underlying3 (hval 2 3 v2 rfl rfl) h2
  clear hA0 hval0
  refine (law_call (vs := [v0, .int .u64 a1, .int .i64 a2]) (parts_c a0 a1 a2 [] b0) ⟨_, _, rfl, m0, ⟨_, _, rfl, rfl, ⟨_, _, rfl, rfl, rfl⟩⟩⟩).mono fun e W' ⟨he, old⟩ => ?_
  subst he
  exact ⟨_, rfl, _, _, _, [], _, [], hW', trodAll_mk1 (shut_bool Try.underlying4 _), (trodAll_cons_mk (Old.trod laidOutK (by kernel_rfl) (of_decide_eq_true (by kernel_rfl)) h0 old) (trodAll_cons_mk (shut_int Try.underlying24 w1) (trodAll_cons_mk (shut_int Try.underlying3 w2) trodAll_mk0))), rfl, old.frame _, fun h => by cases h⟩

/-- **The statement.** -/
theorem judgeParts_holds : Rows.JudgePartsSaid :=
  OpenClaim.holds_of_wide 6 Try.f6 rfl rfl rfl rfl rfl rfl rfl ⟨rfl, rfl, rfl, rfl, rfl⟩ rfl rfl rfl rfl rfl (by kernel_rfl) Try.func6 (by kernel_rfl)
    (of_decide_eq_true (by kernel_rfl)) (by unfold Func.isWrapper; first | (rw [if_pos (by decide +kernel)]; kernel_rfl) | (rw [if_neg (by decide +kernel)]; exact ⟨rfl, rfl⟩))
    (fun os started H enc _ => judgeParts_lifted os started H enc)

end Go.Proofs.Ytkpdjbklnjjedaa
