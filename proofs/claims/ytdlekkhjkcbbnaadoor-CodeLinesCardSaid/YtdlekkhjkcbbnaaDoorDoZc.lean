/-
  CodeLines: a line which cannot be read is reported by its number, whatever comes after it. Without condition.
-/
import Derived.Test.YtdlekkhjkcbbnaaDoorAbW
import Derived.Test.YtdlekkhjkcbbnaaDoorTie
import Derived.Test.YtdlekkhjkcbbnaaDoorCards
import Derived.SevenTiedAt
import Derived.LaidMore
import Derived.Stop.Joined
import Derived.Test.YtdlekkhjkcbbnaaDoorCoZ
import Derived.Test.YtdlekkhjkcbbnaaDoorDoC
import Derived.WalkKit
set_option linter.unusedVariables false
set_option linter.unusedSimpArgs false
namespace Go.Proofs.YtdlekkhjkcbbnaaDoor
open Go.Ab Go.Id Go.Wo Go Go.ChangeShapes Go.WideShapes Go.ChangeAt Go.RowKit

theorem wf8 {a : Int} (h : (Lit.int .u8 a).wf = true) : 0 ≤ a ∧ a ≤ 255 := by
  simpa [Lit.wf, IntKind.min, IntKind.max, IntKind.bits, IntKind.signed] using h
theorem u8_of {a : Int} (h : 0 ≤ a ∧ a ≤ 255) : ∃ b : UInt8, a = (b.toNat : Int) :=
  ⟨UInt8.ofNat a.toNat, by rw [UInt8.toNat_ofNat', Nat.mod_eq_of_lt (by omega)]; omega⟩
theorem codeLines_L (x : Bytes) (a b : Int) (hx : x.length < 2^62) (ha : 0 ≤ a ∧ a ≤ 255) (hb : 0 ≤ b ∧ b ≤ 255) :
    ACalls Tryd.prog 4 [.sl 1 (x.map byteV), .v (.int .u8 a), .v (.int .u8 b)] [] (fun r σ' => r = bv true ∧ σ' = []) := by
  obtain ⟨a, rfl⟩ := u8_of ha
  obtain ⟨b, rfl⟩ := u8_of hb
  exact codeLines_c x a b [] hx

set_option maxRecDepth 100000 in
theorem codeLines_lifted (os : Os) (started : os.Started) (H : Type) (enc : TypeId × Value → H) :
    ReturnsInHanded {} Tryd.checked os 4 .any (fun w args => (Rows.codeLinesSpec.pre enc Tryd.prog Tryd.f4 [] false w args ∧ laidMetH Tryd.prog laid8 w) ∧ sizedMet enc Tryd.prog Tryd.f4 (OpenSpec.ofChange Rows.codeLinesSpec) false w args) (Rows.codeLinesSpec.post enc Tryd.prog Tryd.f4 false true false false) := by
  refine returns_shaped (C := Tryd.checked) (X := fun w _ => laidMetH Tryd.prog laid8 w) (fun _ _ _ hh h => h.of_heap hh) ownK started (by kernel_rfl) Tryd.func4
    (ChangeSpec.witness_shaped (enc := enc) (C := Tryd.checked) (os := os) (X := fun w _ => laidMetH Tryd.prog laid8 w) false (World.laidAll Tryd.prog os laid8) #[.slice none 0 0, .int .u8 0, .int .u8 0] 8 (World.laidAll_os _ _ _) (World.shaped_of_ZipB (by kernel_rfl) (by kernel_rfl)) (by kernel_rfl) (by kernel_rfl) (by kernel_rfl) (laid_met os _)) ?_
  intro W base args ds gs before hval0 hW hsz hL hsh
  have hG : GlobOK W (lm [] []) := glob_of_laid hL hsh
  have hval : ∀ (j : Nat) t v, Tryd.f4.params[j]? = some t → args[j]? = some v → Value.okWide Tryd.prog W .any base t v := hval0
  have hW' := hW
  obtain ⟨p, q, hA0, hV, rfl, hfz, hnd⟩ := hW
  have hA : DataW.TrodAll enc Tryd.prog W 0 (fun _ => true) true Tryd.f4.params.toList args.toList ds p := hA0
  rw [Tryd.params4] at hA hval
  obtain ⟨v0, vs0, d0, ds0, p0, q0, hargs, rfl, rfl, h0, r0⟩ := trodAll_cons hA
  obtain ⟨v1, vs1, d1, ds1, p1, q1, rfl, rfl, rfl, h1, r1⟩ := trodAll_cons r0
  obtain ⟨v2, vs2, d2, ds2, p2, q2, rfl, rfl, rfl, h2, r2⟩ := trodAll_cons r1
  obtain ⟨rfl, rfl, rfl⟩ := trodAll_nil r2
  obtain rfl : args = #[v0, v1, v2] := by cases args; simp_all
  obtain ⟨rfl, rfl⟩ := trodVars_none hV
  obtain ⟨a0, w0, m0, l0⟩ := arg_slice (n := 1) (mk := byteV) Tryd.underlying22 (by kernel_rfl) (el_byte) (hval 0 22 v0 rfl rfl) h0
  have b0 : a0.length < 2^62 := by
    rcases l0 with rfl | ⟨el, sp, rfl, e⟩
    · simp
    · have h1 := sized_slice hsz (j := 0) (t := 22) (e := 5) (elems := el) (spare := sp) (by rw [Tryd.params4]; rfl) rfl Tryd.underlying22
      have h2 := reachBytes_lt
      have h3 : 0 < Tryd.prog.bytesOf 5 := of_decide_eq_true (by kernel_rfl)
      have h4 : (el.length + sp.length) * 1 ≤ (el.length + sp.length) * Tryd.prog.bytesOf 5 := Nat.mul_le_mul_left _ h3
      have h5 : (el.length + sp.length) * Tryd.prog.bytesOf 5 ≤ reachBytes := h1
      omega
  obtain ⟨a1, rfl, rfl, rfl, w1⟩ := open_int Tryd.underlying5 (hval 1 5 v1 rfl rfl) h1
  obtain ⟨a2, rfl, rfl, rfl, w2⟩ := open_int Tryd.underlying5 (hval 2 5 v2 rfl rfl) h2
  clear hA0 hval0
  refine (law_call (vs := [v0, .int .u8 a1, .int .u8 a2]) hG (codeLines_L a0 a1 a2 b0 (wf8 w1) (wf8 w2)) ⟨_, _, rfl, m0, ⟨_, _, rfl, rfl, ⟨_, _, rfl, rfl, rfl⟩⟩⟩).mono fun e W' ⟨he, old⟩ => ?_
  subst he
  exact ⟨_, rfl, _, _, _, [], _, [], hW', trodAll_mk1 (shut_bool Tryd.underlying4 _), (trodAll_cons_mk (Old.trod laidOutK (by kernel_rfl) (of_decide_eq_true (by kernel_rfl)) h0 old) (trodAll_cons_mk (shut_int Tryd.underlying5 w1) (trodAll_cons_mk (shut_int Tryd.underlying5 w2) trodAll_mk0))), rfl, old.frame _, fun h => by cases h⟩

/-- **The statement.** -/
theorem codeLines_holds : Rows.CodeLinesSaid :=
  OpenClaim.holds_of_wide 4 Tryd.f4 rfl rfl rfl rfl rfl rfl rfl ⟨rfl, rfl, rfl, rfl, rfl⟩ rfl rfl rfl rfl rfl (by kernel_rfl) Tryd.func4 (by kernel_rfl)
    (of_decide_eq_true (by kernel_rfl)) (by unfold Func.isWrapper; first | (rw [if_pos (by decide +kernel)]; kernel_rfl) | (rw [if_neg (by decide +kernel)]; exact ⟨rfl, rfl⟩))
    (fun os started H enc _ => codeLines_lifted os started H enc)

/-- **The tied card.** -/
theorem codeLines_card : Rows.CodeLinesCardSaid :=
  Claim7.holds_tied_plain_at .later [] [.data, .data, .data, .data, .sentinel, .sentinel, .widerDeep, .pinned] true (true, "c8dd30b14c193f8f19e712138cc908f00a5a477d6533cec74c4832b8f8aa1432") true
    codeLines_holds (fun _ h => by cases h) (by kernel_rfl) (fun _ h => by cases h) codeLines_row_tie rfl ⟨rfl, rfl⟩ (by kernel_rfl) rfl
    (fun f fn hf hfn => by
      obtain rfl : f = 4 := Option.some.inj ((show Tryd.prog.funcNamed Rows.codeLinesRow.func = some 4 by kernel_rfl).symm.trans hf) |>.symm
      obtain rfl : fn = Tryd.f4 := (Option.some.inj (Tryd.func4.symm.trans hfn)).symm
      exact ⟨by kernel_rfl, fun j t ht => by
        rw [Tryd.params4] at ht
        have hm : t ∈ [22, 5, 5] := by simpa using Array.mem_of_getElem? ht
        have hall : ([22, 5, 5].all fun u => !Tryd.prog.wantsStandIn u) = true := by kernel_rfl
        exact (show Tryd.prog.wantsStandIn t = false by simpa using List.all_eq_true.1 hall t hm)⟩)
    (by kernel_rfl)

end Go.Proofs.YtdlekkhjkcbbnaaDoor
