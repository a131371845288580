/-
  JudgeOrders: judge and its reference find the same records valid, the same orders explaining, the same explanation and the same last versions, for a made record, one with a change, and any. Without condition.
-/
import Derived.Test.YtkpdjbklnjjedaaAbV
import Derived.Test.YtkpdjbklnjjedaaJuM
import Derived.WalkKit
set_option linter.unusedVariables false
set_option linter.unusedSimpArgs false
namespace Go.Proofs.Ytkpdjbklnjjedaa
open Go.Ab Go.Ju Go Go.ChangeShapes Go.WideShapes Go.ChangeAt Go.RowKit

theorem ownK : ownKnob Try.prog.godebug = none := by kernel_rfl
theorem laidOutK : laidOutB Try.prog = true := by kernel_rfl

theorem range_i64 {n : Int} (h : (Lit.int .i64 n).wf = true) : i64 n := by
  have := bounds_i64 h
  exact ⟨this.1, by omega⟩

theorem el_acc {H : Type} {enc : TypeId × Value → H} {W : World} : ∀ fuel cs x, DataW.trod enc Try.prog W 0 (fun _ => true) true fuel 42 cs = some x → ∃ a : Ju.Acc, Fits a ∧ ∃ y : Value, y.cells.toList = cs ∧ (∀ c ∈ cs, cellV c = true) ∧ Rep W (lm [] []) a.av y := by
  intro fuel cs x h
  obtain ⟨xs, n, _, rfl, hl, hlen, hf⟩ := DataW.trod_struct Try.underlying42 h
  have hc : Try.prog.cellsOf 42 = 4 := by kernel_rfl
  rw [hc] at hl
  have h24 : Try.prog.cellsOf 24 = 1 := by kernel_rfl
  have h3 : Try.prog.cellsOf 3 = 1 := by kernel_rfl
  match cs, hl with
  | [c0, c1, c2, c3], _ =>
    match xs, hlen with
    | [y0, y1, y2, y3], _ =>
      have f0 : DataW.trod enc Try.prog W 0 (fun _ => true) true n 24 [c0] = some y0 := by have := hf 0 _ rfl; simpa [h24, h3] using this
      have f1 : DataW.trod enc Try.prog W 0 (fun _ => true) true n 24 [c1] = some y1 := by have := hf 1 _ rfl; simpa [h24, h3] using this
      have f2 : DataW.trod enc Try.prog W 0 (fun _ => true) true n 3 [c2] = some y2 := by have := hf 2 _ rfl; simpa [h24, h3] using this
      have f3 : DataW.trod enc Try.prog W 0 (fun _ => true) true n 3 [c3] = some y3 := by have := hf 3 _ rfl; simpa [h24, h3] using this
      obtain ⟨a, e0, _, w0⟩ := DataW.trod_int Try.underlying24 f0
      obtain ⟨b, e1, _, w1⟩ := DataW.trod_int Try.underlying24 f1
      obtain ⟨c, e2, _, w2⟩ := DataW.trod_int Try.underlying3 f2
      obtain ⟨d, e3, _, w3⟩ := DataW.trod_int Try.underlying3 f3
      simp only [List.cons.injEq, and_true] at e0 e1 e2 e3
      subst e0; subst e1; subst e2; subst e3
      exact ⟨⟨a, b, c, d⟩, ⟨range_i64 w2, range_i64 w3⟩, .agg #[.int .u64 a, .int .u64 b, .int .i64 c, .int .i64 d], rfl, by simp [cellV], _, rfl, ⟨_, _, rfl, rfl, _, _, rfl, rfl, _, _, rfl, rfl, _, _, rfl, rfl, rfl⟩, by simp [cellV]⟩

set_option maxRecDepth 100000 in
theorem judgeOrders_lifted (os : Os) (started : os.Started) (H : Type) (enc : TypeId × Value → H) :
    ReturnsInHanded {} Try.checked os 3 .any (Rows.judgeOrdersSpec.pre6 enc Try.prog Try.f3 Rows.judgeOrdersRow.domain false) (Rows.judgeOrdersSpec.post enc Try.prog Try.f3 false true false false) := by
  refine returnsInHanded_of_change_sized (C := Try.checked) ownK started (by kernel_rfl) Try.func3
    (ChangeSpec.witness6 (enc := enc) (C := Try.checked) false ⟨#[], #[.slice none 0 0, .slice none 0 0, .slice none 0 0, .int .i64 0, .int .i64 0, .int .u64 0], []⟩ 8 (by kernel_rfl) (by kernel_rfl) (by kernel_rfl) (by kernel_rfl)) ?_
  intro W base args ds gs before hval0 hW hcnd hsz _
  have hval : ∀ (j : Nat) t v, Try.f3.params[j]? = some t → args[j]? = some v → Value.okWide Try.prog W .any base t v := hval0
  have hW' := hW
  obtain ⟨p, q, hA0, hV, rfl, hfz, hnd⟩ := hW
  have hA : DataW.TrodAll enc Try.prog W 0 (fun _ => true) true Try.f3.params.toList args.toList ds p := hA0
  rw [Try.params3] at hA hval
  obtain ⟨v0, vs0, d0, ds0, p0, q0, hargs, rfl, rfl, h0, r0⟩ := trodAll_cons hA
  obtain ⟨v1, vs1, d1, ds1, p1, q1, rfl, rfl, rfl, h1, r1⟩ := trodAll_cons r0
  obtain ⟨v2, vs2, d2, ds2, p2, q2, rfl, rfl, rfl, h2, r2⟩ := trodAll_cons r1
  obtain ⟨v3, vs3, d3, ds3, p3, q3, rfl, rfl, rfl, h3, r3⟩ := trodAll_cons r2
  obtain ⟨v4, vs4, d4, ds4, p4, q4, rfl, rfl, rfl, h4, r4⟩ := trodAll_cons r3
  obtain ⟨v5, vs5, d5, ds5, p5, q5, rfl, rfl, rfl, h5, r5⟩ := trodAll_cons r4
  obtain ⟨rfl, rfl, rfl⟩ := trodAll_nil r5
  obtain rfl : args = #[v0, v1, v2, v3, v4, v5] := by cases args; simp_all
  obtain ⟨rfl, rfl⟩ := trodVars_none hV
  obtain ⟨a0, w0, m0, l0⟩ := arg_slice (n := 1) (mk := iv) Try.underlying22 (by kernel_rfl) (el_int Try.underlying3) (hval 0 22 v0 rfl rfl) h0
  have b0 : a0.length < 2^62 := by
    rcases l0 with rfl | ⟨el, sp, rfl, e⟩
    · simp
    · have h1 := sized_slice hsz (j := 0) (t := 22) (e := 3) (elems := el) (spare := sp) (by rw [Try.params3]; rfl) rfl Try.underlying22
      have h2 := reachBytes_lt
      have h3 : 0 < Try.prog.bytesOf 3 := of_decide_eq_true (by kernel_rfl)
      have h4 : (el.length + sp.length) * 1 ≤ (el.length + sp.length) * Try.prog.bytesOf 3 := Nat.mul_le_mul_left _ h3
      have h5 : (el.length + sp.length) * Try.prog.bytesOf 3 ≤ reachBytes := h1
      omega
  obtain ⟨a1, w1, m1, l1⟩ := arg_slice (n := 4) (mk := Ju.Acc.av) Try.underlying23 (by kernel_rfl) (el_acc) (hval 1 23 v1 rfl rfl) h1
  have b1 : a1.length < 2^62 := by
    rcases l1 with rfl | ⟨el, sp, rfl, e⟩
    · simp
    · have h1 := sized_slice hsz (j := 1) (t := 23) (e := 42) (elems := el) (spare := sp) (by rw [Try.params3]; rfl) rfl Try.underlying23
      have h2 := reachBytes_lt
      have h3 : 0 < Try.prog.bytesOf 42 := of_decide_eq_true (by kernel_rfl)
      have h4 : (el.length + sp.length) * 1 ≤ (el.length + sp.length) * Try.prog.bytesOf 42 := Nat.mul_le_mul_left _ h3
      have h5 : (el.length + sp.length) * Try.prog.bytesOf 42 ≤ reachBytes := h1
      omega
  obtain ⟨a2, w2, m2, l2⟩ := arg_slice (n := 1) (mk := iv) Try.underlying22 (by kernel_rfl) (el_int Try.underlying3) (hval 2 22 v2 rfl rfl) h2
  have b2 : a2.length < 2^62 := by
    rcases l2 with rfl | ⟨el, sp, rfl, e⟩
    · simp
    · have h1 := sized_slice hsz (j := 2) (t := 22) (e := 3) (elems := el) (spare := sp) (by rw [Try.params3]; rfl) rfl Try.underlying22
      have h2 := reachBytes_lt
      have h3 : 0 < Try.prog.bytesOf 3 := of_decide_eq_true (by kernel_rfl)
      have h4 : (el.length + sp.length) * 1 ≤ (el.length + sp.length) * Try.prog.bytesOf 3 := Nat.mul_le_mul_left _ h3
      have h5 : (el.length + sp.length) * Try.prog.bytesOf 3 ≤ reachBytes := h1
      omega
  obtain ⟨a3, rfl, rfl, rfl, w3⟩ := open_int Try.underlying3 (hval 3 3 v3 rfl rfl) h3
  obtain ⟨a4, rfl, rfl, rfl, w4⟩ := open_int Try.underlying3 (hval 4 3 v4 rfl rfl) h4
  obtain ⟨a5, rfl, rfl, rfl, w5⟩ := open_int Try.underlying24 (hval 5 24 v5 rfl rfl) h5
  clear hA0 hval0
  refine (law_call (vs := [v0, v1, v2, .int .i64 a3, .int .i64 a4, .int .u64 a5]) (orders_c a0 a1 a2 a3 a4 a5 [] b0 b1 b2 w1) ⟨_, _, rfl, m0, ⟨_, _, rfl, m1, ⟨_, _, rfl, m2, ⟨_, _, rfl, rfl, ⟨_, _, rfl, rfl, ⟨_, _, rfl, rfl, rfl⟩⟩⟩⟩⟩⟩).mono fun e W' ⟨he, old⟩ => ?_
  subst he
  exact ⟨_, rfl, _, _, _, [], _, [], hW', trodAll_mk1 (shut_bool Try.underlying4 _), (trodAll_cons_mk (Old.trod laidOutK (by kernel_rfl) (of_decide_eq_true (by kernel_rfl)) h0 old) (trodAll_cons_mk (Old.trod laidOutK (by kernel_rfl) (of_decide_eq_true (by kernel_rfl)) h1 old) (trodAll_cons_mk (Old.trod laidOutK (by kernel_rfl) (of_decide_eq_true (by kernel_rfl)) h2 old) (trodAll_cons_mk (shut_int Try.underlying3 w3) (trodAll_cons_mk (shut_int Try.underlying3 w4) (trodAll_cons_mk (shut_int Try.underlying24 w5) trodAll_mk0)))))), rfl, old.frame _, fun h => by cases h⟩

/-- **The statement.** -/
theorem judgeOrders_holds : Rows.JudgeOrdersSaid :=
  OpenClaim.holds_of_wide 3 Try.f3 rfl rfl rfl rfl rfl rfl rfl ⟨rfl, rfl, rfl, rfl, rfl⟩ rfl rfl rfl rfl rfl (by kernel_rfl) Try.func3 (by kernel_rfl)
    (of_decide_eq_true (by kernel_rfl)) (by unfold Func.isWrapper; first | (rw [if_pos (by decide +kernel)]; kernel_rfl) | (rw [if_neg (by decide +kernel)]; exact ⟨rfl, rfl⟩))
    (fun os started H enc _ => judgeOrders_lifted os started H enc)

end Go.Proofs.Ytkpdjbklnjjedaa
