/-
  CodeParses: the program of every text, or the line and the error, is the reference's, for any text and for one with a change. Without condition.
-/
import Derived.Test.YtdlekkhjkcbbnaaGreatDoorAbW
import Derived.Test.YtdlekkhjkcbbnaaGreatDoorTie
import Derived.Test.YtdlekkhjkcbbnaaGreatDoorCards
import Derived.SevenTiedAt
import Derived.LaidMore
import Derived.Stop.Joined
import Derived.Test.YtdlekkhjkcbbnaaGreatDoorCoZ
import Derived.Test.YtdlekkhjkcbbnaaGreatDoorCoO
import Derived.WalkKit
set_option linter.unusedVariables false
set_option linter.unusedSimpArgs false
namespace Go.Proofs.YtdlekkhjkcbbnaaGreatDoor
open Go.Ab Go.Id Go.Wo Go Go.ChangeShapes Go.WideShapes Go.ChangeAt Go.RowKit

theorem wf8 {a : Int} (h : (Lit.int .u8 a).wf = true) : 0 ≤ a ∧ a ≤ 255 := by
  simpa [Lit.wf, IntKind.min, IntKind.max, IntKind.bits, IntKind.signed] using h
theorem u8_of {a : Int} (h : 0 ≤ a ∧ a ≤ 255) : ∃ b : UInt8, a = (b.toNat : Int) :=
  ⟨UInt8.ofNat a.toNat, by rw [UInt8.toNat_ofNat', Nat.mod_eq_of_lt (by omega)]; omega⟩
theorem parses_L (raw : ByteArray) (seeds : Bytes) (a b : Int) (hs : seeds.length < 2^62) (ha : 0 ≤ a ∧ a ≤ 65535) (hb : 0 ≤ b ∧ b ≤ 255) :
    ACalls Tryz.prog 4 [.v (.string raw), .sl 1 (seeds.map byteV), .v (.int .u16 a), .v (.int .u8 b)] [] (fun r σ' => r = bv true ∧ σ' = []) := by
  obtain ⟨y, rfl⟩ := u8_of hb
  exact parses_c raw.data.toList seeds a y [] hs ha

set_option maxRecDepth 100000 in
theorem codeParses_lifted (os : Os) (started : os.Started) (H : Type) (enc : TypeId × Value → H) :
    ReturnsInHanded {} Tryz.checked os 4 .any (fun w args => (Rows.codeParsesSpec.pre enc Tryz.prog Tryz.f4 [] false w args ∧ laidMetH Tryz.prog laid8 w) ∧ sizedMet enc Tryz.prog Tryz.f4 (OpenSpec.ofChange Rows.codeParsesSpec) false w args) (Rows.codeParsesSpec.post enc Tryz.prog Tryz.f4 false true false false) := by
  refine returns_shaped (C := Tryz.checked) (X := fun w _ => laidMetH Tryz.prog laid8 w) (fun _ _ _ hh h => h.of_heap hh) ownK started (by kernel_rfl) Tryz.func4
    (ChangeSpec.witness_shaped (enc := enc) (C := Tryz.checked) (os := os) (X := fun w _ => laidMetH Tryz.prog laid8 w) false (World.laidAll Tryz.prog os laid8) #[.string ⟨#[]⟩, .slice none 0 0, .int .u16 0, .int .u8 0] 8 (World.laidAll_os _ _ _) (World.shaped_of_ZipB (by kernel_rfl) (by kernel_rfl)) (by kernel_rfl) (by kernel_rfl) (by kernel_rfl) (laid_met os _)) ?_
  intro W base args ds gs before hval0 hW hsz hL hsh
  have hG : GlobOK W (lm [] []) := glob_of_laid hL hsh
  have hval : ∀ (j : Nat) t v, Tryz.f4.params[j]? = some t → args[j]? = some v → Value.okWide Tryz.prog W .any base t v := hval0
  have hW' := hW
  obtain ⟨p, q, hA0, hV, rfl, hfz, hnd⟩ := hW
  have hA : DataW.TrodAll enc Tryz.prog W 0 (fun _ => true) true Tryz.f4.params.toList args.toList ds p := hA0
  rw [Tryz.params4] at hA hval
  obtain ⟨v0, vs0, d0, ds0, p0, q0, hargs, rfl, rfl, h0, r0⟩ := trodAll_cons hA
  obtain ⟨v1, vs1, d1, ds1, p1, q1, rfl, rfl, rfl, h1, r1⟩ := trodAll_cons r0
  obtain ⟨v2, vs2, d2, ds2, p2, q2, rfl, rfl, rfl, h2, r2⟩ := trodAll_cons r1
  obtain ⟨v3, vs3, d3, ds3, p3, q3, rfl, rfl, rfl, h3, r3⟩ := trodAll_cons r2
  obtain ⟨rfl, rfl, rfl⟩ := trodAll_nil r3
  obtain rfl : args = #[v0, v1, v2, v3] := by cases args; simp_all
  obtain ⟨rfl, rfl⟩ := trodVars_none hV
  obtain ⟨a0, rfl, rfl, rfl, w0⟩ := ChangeMaps.open_string Tryz.underlying9 (hval 0 9 v0 rfl rfl) h0
  have b0 : a0.size < 2^47 := by
    have h1 := sized_string hsz (j := 0) (t := 9) (bytes := a0.data.toList) (by rw [Tryz.params4]; rfl) rfl
    have h2 := reachBytes_lt
    rw [size_len] at h1
    omega
  obtain ⟨a1, w1, m1, l1⟩ := arg_slice (n := 1) (mk := byteV) Tryz.underlying26 (by kernel_rfl) (el_byte) (hval 1 26 v1 rfl rfl) h1
  have b1 : a1.length < 2^62 := by
    rcases l1 with rfl | ⟨el, sp, rfl, e⟩
    · simp
    · have h1 := sized_slice hsz (j := 1) (t := 26) (e := 5) (elems := el) (spare := sp) (by rw [Tryz.params4]; rfl) rfl Tryz.underlying26
      have h2 := reachBytes_lt
      have h3 : 0 < Tryz.prog.bytesOf 5 := of_decide_eq_true (by kernel_rfl)
      have h4 : (el.length + sp.length) * 1 ≤ (el.length + sp.length) * Tryz.prog.bytesOf 5 := Nat.mul_le_mul_left _ h3
      have h5 : (el.length + sp.length) * Tryz.prog.bytesOf 5 ≤ reachBytes := h1
      omega
  obtain ⟨a2, rfl, rfl, rfl, w2⟩ := open_int Tryz.underlying41 (hval 2 41 v2 rfl rfl) h2
  obtain ⟨a3, rfl, rfl, rfl, w3⟩ := open_int Tryz.underlying5 (hval 3 5 v3 rfl rfl) h3
  clear hA0 hval0
  refine (law_call (vs := [.string a0, v1, .int .u16 a2, .int .u8 a3]) hG (parses_L a0 a1 a2 a3 b1 (wf16 w2) (wf8 w3)) ⟨_, _, rfl, rfl, ⟨_, _, rfl, m1, ⟨_, _, rfl, rfl, ⟨_, _, rfl, rfl, rfl⟩⟩⟩⟩).mono fun e W' ⟨he, old⟩ => ?_
  subst he
  exact ⟨_, rfl, _, _, _, [], _, [], hW', trodAll_mk1 (shut_bool Tryz.underlying4 _), (trodAll_cons_mk (ChangeMaps.shut_string Tryz.underlying9 w0) (trodAll_cons_mk (Old.trod laidOutK (by kernel_rfl) (of_decide_eq_true (by kernel_rfl)) h1 old) (trodAll_cons_mk (shut_int Tryz.underlying41 w2) (trodAll_cons_mk (shut_int Tryz.underlying5 w3) trodAll_mk0)))), rfl, old.frame _, fun h => by cases h⟩

/-- **The statement.** -/
theorem codeParses_holds : Rows.CodeParsesSaid :=
  OpenClaim.holds_of_wide 4 Tryz.f4 rfl rfl rfl rfl rfl rfl rfl ⟨rfl, rfl, rfl, rfl, rfl⟩ rfl rfl rfl rfl rfl (by kernel_rfl) Tryz.func4 (by kernel_rfl)
    (of_decide_eq_true (by kernel_rfl)) (by unfold Func.isWrapper; first | (rw [if_pos (by decide +kernel)]; kernel_rfl) | (rw [if_neg (by decide +kernel)]; exact ⟨rfl, rfl⟩))
    (fun os started H enc _ => codeParses_lifted os started H enc)

/-- **The tied card.** -/
theorem codeParses_card : Rows.CodeParsesCardSaid :=
  Claim7.holds_tied_plain_at .later [] [.data, .data, .data, .data, .sentinel, .sentinel, .widerDeep, .pinned] true (true, "26eb4d85714c9b4290e1fd85bbe8e66acbad90fa68803b5df172f2b0896bf0b6") true
    codeParses_holds (fun _ h => by cases h) (by kernel_rfl) (fun _ h => by cases h) codeParses_row_tie rfl ⟨rfl, rfl⟩ (by kernel_rfl) rfl
    (fun f fn hf hfn => by
      obtain rfl : f = 4 := Option.some.inj ((show Tryz.prog.funcNamed Rows.codeParsesRow.func = some 4 by kernel_rfl).symm.trans hf) |>.symm
      obtain rfl : fn = Tryz.f4 := (Option.some.inj (Tryz.func4.symm.trans hfn)).symm
      exact ⟨by kernel_rfl, fun j t ht => by
        rw [Tryz.params4] at ht
        have hm : t ∈ [9, 26, 41, 5] := by simpa using Array.mem_of_getElem? ht
        have hall : ([9, 26, 41, 5].all fun u => !Tryz.prog.wantsStandIn u) = true := by kernel_rfl
        exact (show Tryz.prog.wantsStandIn t = false by simpa using List.all_eq_true.1 hall t hm)⟩)
    (by kernel_rfl)

end Go.Proofs.YtdlekkhjkcbbnaaGreatDoor
