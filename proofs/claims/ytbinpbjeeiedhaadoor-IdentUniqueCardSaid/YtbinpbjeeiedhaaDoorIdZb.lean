/-
  IdentUnique: no identifier is given twice, not by one allocator, nor by two of different nodes or boots. Without condition.
-/
import Derived.Test.YtbinpbjeeiedhaaDoorAbV
import Derived.Test.YtbinpbjeeiedhaaDoorTie
import Derived.Test.YtbinpbjeeiedhaaDoorCards
import Derived.SevenTiedAt
import Derived.LaidMore
import Derived.Stop.Joined
import Derived.Test.YtbinpbjeeiedhaaDoorIdY
import Derived.Test.YtbinpbjeeiedhaaDoorIdG
import Derived.WalkKit
set_option linter.unusedVariables false
set_option linter.unusedSimpArgs false
namespace Go.Proofs.YtbinpbjeeiedhaaDoor
open Go.Ab Go.Id Go Go.ChangeShapes Go.WideShapes Go.ChangeAt Go.RowKit

set_option maxRecDepth 100000 in
theorem identUnique_lifted (os : Os) (started : os.Started) (H : Type) (enc : TypeId × Value → H) :
    ReturnsInHanded {} Tryd.checked os 4 .any (fun w args => (Rows.identUniqueSpec.pre enc Tryd.prog Tryd.f4 [] false w args ∧ laidMetH Tryd.prog laid3 w) ∧ sizedMet enc Tryd.prog Tryd.f4 (OpenSpec.ofChange Rows.identUniqueSpec) false w args) (Rows.identUniqueSpec.post enc Tryd.prog Tryd.f4 false true false false) := by
  refine returnsInHanded_of_change_and (C := Tryd.checked) (X := fun w _ => laidMetH Tryd.prog laid3 w) (fun _ _ _ hh h => h.of_heap hh) ownK started (by kernel_rfl) Tryd.func4
    (ChangeSpec.witness_shaped (enc := enc) (C := Tryd.checked) (os := os) (X := fun w _ => laidMetH Tryd.prog laid3 w) false (World.doorLaid Tryd.prog 400 os) #[.slice none 0 0, .slice none 0 0, .slice none 0 0] 8 rfl (World.shaped_of_RefB (by kernel_rfl) (by kernel_rfl)) (by kernel_rfl) (by kernel_rfl) (by kernel_rfl) (door_met os _)) ?_
  intro W base args ds gs before hval0 hW _ hsz hL _
  have hG : GlobOK W (lm [] []) := glob_of_laid hL
  have hval : ∀ (j : Nat) t v, Tryd.f4.params[j]? = some t → args[j]? = some v → Value.okWide Tryd.prog W .any base t v := hval0
  have hW' := hW
  obtain ⟨p, q, hA0, hV, rfl, hfz, hnd⟩ := hW
  have hA : DataW.TrodAll enc Tryd.prog W 0 (fun _ => true) true Tryd.f4.params.toList args.toList ds p := hA0
  rw [Tryd.params4] at hA hval
  obtain ⟨v0, vs0, d0, ds0, p0, q0, hargs, rfl, rfl, h0, r0⟩ := trodAll_cons hA
  obtain ⟨v1, vs1, d1, ds1, p1, q1, rfl, rfl, rfl, h1, r1⟩ := trodAll_cons r0
  obtain ⟨v2, vs2, d2, ds2, p2, q2, rfl, rfl, rfl, h2, r2⟩ := trodAll_cons r1
  obtain ⟨rfl, rfl, rfl⟩ := trodAll_nil r2
  obtain rfl : args = #[v0, v1, v2] := by cases args; simp_all
  obtain ⟨rfl, rfl⟩ := trodVars_none hV
  obtain ⟨a0, w0, m0, l0⟩ := arg_slice (n := 1) (mk := b8) Tryd.underlying34 (by kernel_rfl) (el_int Tryd.underlying5) (hval 0 34 v0 rfl rfl) h0
  have b0 : a0.length < 2^62 := by
    rcases l0 with rfl | ⟨el, sp, rfl, e⟩
    · simp
    · have h1 := sized_slice hsz (j := 0) (t := 34) (e := 5) (elems := el) (spare := sp) (by rw [Tryd.params4]; rfl) rfl Tryd.underlying34
      have h2 := reachBytes_lt
      have h3 : 0 < Tryd.prog.bytesOf 5 := of_decide_eq_true (by kernel_rfl)
      have h4 : (el.length + sp.length) * 1 ≤ (el.length + sp.length) * Tryd.prog.bytesOf 5 := Nat.mul_le_mul_left _ h3
      have h5 : (el.length + sp.length) * Tryd.prog.bytesOf 5 ≤ reachBytes := h1
      omega
  obtain ⟨a1, w1, m1, l1⟩ := arg_slice (n := 1) (mk := b8) Tryd.underlying34 (by kernel_rfl) (el_int Tryd.underlying5) (hval 1 34 v1 rfl rfl) h1
  have b1 : a1.length < 2^62 := by
    rcases l1 with rfl | ⟨el, sp, rfl, e⟩
    · simp
    · have h1 := sized_slice hsz (j := 1) (t := 34) (e := 5) (elems := el) (spare := sp) (by rw [Tryd.params4]; rfl) rfl Tryd.underlying34
      have h2 := reachBytes_lt
      have h3 : 0 < Tryd.prog.bytesOf 5 := of_decide_eq_true (by kernel_rfl)
      have h4 : (el.length + sp.length) * 1 ≤ (el.length + sp.length) * Tryd.prog.bytesOf 5 := Nat.mul_le_mul_left _ h3
      have h5 : (el.length + sp.length) * Tryd.prog.bytesOf 5 ≤ reachBytes := h1
      omega
  obtain ⟨a2, w2, m2, l2⟩ := arg_slice (n := 1) (mk := b8) Tryd.underlying34 (by kernel_rfl) (el_int Tryd.underlying5) (hval 2 34 v2 rfl rfl) h2
  have b2 : a2.length < 2^62 := by
    rcases l2 with rfl | ⟨el, sp, rfl, e⟩
    · simp
    · have h1 := sized_slice hsz (j := 2) (t := 34) (e := 5) (elems := el) (spare := sp) (by rw [Tryd.params4]; rfl) rfl Tryd.underlying34
      have h2 := reachBytes_lt
      have h3 : 0 < Tryd.prog.bytesOf 5 := of_decide_eq_true (by kernel_rfl)
      have h4 : (el.length + sp.length) * 1 ≤ (el.length + sp.length) * Tryd.prog.bytesOf 5 := Nat.mul_le_mul_left _ h3
      have h5 : (el.length + sp.length) * Tryd.prog.bytesOf 5 ≤ reachBytes := h1
      omega
  clear hA0 hval0
  refine (law_call (vs := [v0, v1, v2]) hG (unique_i a0 a1 a2 [] w0 w1 w2 b0 b1 b2) ⟨_, _, rfl, m0, ⟨_, _, rfl, m1, ⟨_, _, rfl, m2, rfl⟩⟩⟩).mono fun e W' ⟨he, old⟩ => ?_
  subst he
  exact ⟨_, rfl, _, _, _, [], _, [], hW', trodAll_mk1 (shut_bool Tryd.underlying4 _), (trodAll_cons_mk (Old.trod laidOutK (by kernel_rfl) (of_decide_eq_true (by kernel_rfl)) h0 old) (trodAll_cons_mk (Old.trod laidOutK (by kernel_rfl) (of_decide_eq_true (by kernel_rfl)) h1 old) (trodAll_cons_mk (Old.trod laidOutK (by kernel_rfl) (of_decide_eq_true (by kernel_rfl)) h2 old) trodAll_mk0))), rfl, old.frame _, fun h => by cases h⟩

/-- **The statement.** -/
theorem identUnique_holds : Rows.IdentUniqueSaid :=
  OpenClaim.holds_of_wide 4 Tryd.f4 rfl rfl rfl rfl rfl rfl rfl ⟨rfl, rfl, rfl, rfl, rfl⟩ rfl rfl rfl rfl rfl (by kernel_rfl) Tryd.func4 (by kernel_rfl)
    (of_decide_eq_true (by kernel_rfl)) (by unfold Func.isWrapper; first | (rw [if_pos (by decide +kernel)]; kernel_rfl) | (rw [if_neg (by decide +kernel)]; exact ⟨rfl, rfl⟩))
    (fun os started H enc _ => identUnique_lifted os started H enc)

/-- **The tied card.** -/
theorem identUnique_card : Rows.IdentUniqueCardSaid :=
  Claim7.holds_tied_plain_at .later [] [.data, .data, .data] true (true, "2c0e470985b736c9c7be9300ed95b7632ebc6eb20298d4a4caa7618b5acfd9ec") true
    identUnique_holds (fun _ h => by cases h) (by kernel_rfl) (fun _ h => by cases h) identUnique_row_tie rfl ⟨rfl, rfl⟩ (by kernel_rfl) rfl
    (fun f fn hf hfn => by
      obtain rfl : f = 4 := Option.some.inj ((show Tryd.prog.funcNamed Rows.identUniqueRow.func = some 4 by kernel_rfl).symm.trans hf) |>.symm
      obtain rfl : fn = Tryd.f4 := (Option.some.inj (Tryd.func4.symm.trans hfn)).symm
      exact ⟨by kernel_rfl, fun j t ht => by
        rw [Tryd.params4] at ht
        have hm : t ∈ [34, 34, 34] := by simpa using Array.mem_of_getElem? ht
        have hall : ([34, 34, 34].all fun u => !Tryd.prog.wantsStandIn u) = true := by kernel_rfl
        exact (show Tryd.prog.wantsStandIn t = false by simpa using List.all_eq_true.1 hall t hm)⟩)
    (by kernel_rfl)

end Go.Proofs.YtbinpbjeeiedhaaDoor
