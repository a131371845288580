/-
  WordsBack: words come back from their line, numbers from their strings, and lines from their text. Without condition.
-/
import Derived.Test.YtbinpbjeeiedhaaDoorAbW
import Derived.Test.YtbinpbjeeiedhaaDoorTie
import Derived.Test.YtbinpbjeeiedhaaDoorCards
import Derived.SevenTiedAt
import Derived.LaidMore
import Derived.Stop.Joined
import Derived.Test.YtbinpbjeeiedhaaDoorWoY
import Derived.Test.YtbinpbjeeiedhaaDoorWoW
import Derived.WalkKit
set_option linter.unusedVariables false
set_option linter.unusedSimpArgs false
namespace Go.Proofs.YtbinpbjeeiedhaaDoor
open Go.Ab Go.Id Go.Wo Go Go.ChangeShapes Go.WideShapes Go.ChangeAt Go.RowKit

set_option maxRecDepth 100000 in
theorem wordsBack_lifted (os : Os) (started : os.Started) (H : Type) (enc : TypeId × Value → H) :
    ReturnsInHanded {} Tryd.checked os 11 .any (fun w args => (Rows.wordsBackSpec.pre enc Tryd.prog Tryd.f11 [] false w args ∧ laidMetH Tryd.prog laid7 w) ∧ sizedMet enc Tryd.prog Tryd.f11 (OpenSpec.ofChange Rows.wordsBackSpec) false w args) (Rows.wordsBackSpec.post enc Tryd.prog Tryd.f11 false true false false) := by
  refine returns_shaped (C := Tryd.checked) (X := fun w _ => laidMetH Tryd.prog laid7 w) (fun _ _ _ hh h => h.of_heap hh) ownK started (by kernel_rfl) Tryd.func11
    (ChangeSpec.witness_shaped (enc := enc) (C := Tryd.checked) (os := os) (X := fun w _ => laidMetH Tryd.prog laid7 w) false (World.laidAll Tryd.prog os laid7) #[.slice none 0 0, .int .i64 0] 8 (World.laidAll_os _ _ _) (World.shaped_of_ZipB (by kernel_rfl) (by kernel_rfl)) (by kernel_rfl) (by kernel_rfl) (by kernel_rfl) (laid_met os _)) ?_
  intro W base args ds gs before hval0 hW hsz hL hsh
  have hG : GlobOK W (lm [] []) := glob_of_laid hL hsh
  have hval : ∀ (j : Nat) t v, Tryd.f11.params[j]? = some t → args[j]? = some v → Value.okWide Tryd.prog W .any base t v := hval0
  have hW' := hW
  obtain ⟨p, q, hA0, hV, rfl, hfz, hnd⟩ := hW
  have hA : DataW.TrodAll enc Tryd.prog W 0 (fun _ => true) true Tryd.f11.params.toList args.toList ds p := hA0
  rw [Tryd.params11] at hA hval
  obtain ⟨v0, vs0, d0, ds0, p0, q0, hargs, rfl, rfl, h0, r0⟩ := trodAll_cons hA
  obtain ⟨v1, vs1, d1, ds1, p1, q1, rfl, rfl, rfl, h1, r1⟩ := trodAll_cons r0
  obtain ⟨rfl, rfl, rfl⟩ := trodAll_nil r1
  obtain rfl : args = #[v0, v1] := by cases args; simp_all
  obtain ⟨rfl, rfl⟩ := trodVars_none hV
  obtain ⟨a0, w0, m0, l0⟩ := arg_slice (n := 1) (mk := sv) Tryd.underlying42 (by kernel_rfl) (el_string Tryd.underlying9) (hval 0 42 v0 rfl rfl) h0
  have b0 : a0.length < 2^62 := by
    rcases l0 with rfl | ⟨el, sp, rfl, e⟩
    · simp
    · have h1 := sized_slice hsz (j := 0) (t := 42) (e := 9) (elems := el) (spare := sp) (by rw [Tryd.params11]; rfl) rfl Tryd.underlying42
      have h2 := reachBytes_lt
      have h3 : 0 < Tryd.prog.bytesOf 9 := of_decide_eq_true (by kernel_rfl)
      have h4 : (el.length + sp.length) * 1 ≤ (el.length + sp.length) * Tryd.prog.bytesOf 9 := Nat.mul_le_mul_left _ h3
      have h5 : (el.length + sp.length) * Tryd.prog.bytesOf 9 ≤ reachBytes := h1
      omega
  obtain ⟨a1, rfl, rfl, rfl, w1⟩ := open_int Tryd.underlying2 (hval 1 2 v1 rfl rfl) h1
  clear hA0 hval0
  refine (law_call (vs := [v0, .int .i64 a1]) hG (wordsBack_c a0 a1 [] b0 (wf64 w1).1 (wf64 w1).2) ⟨_, _, rfl, m0, ⟨_, _, rfl, rfl, rfl⟩⟩).mono fun e W' ⟨he, old⟩ => ?_
  subst he
  exact ⟨_, rfl, _, _, _, [], _, [], hW', trodAll_mk1 (shut_bool Tryd.underlying4 _), (trodAll_cons_mk (Old.trod laidOutK (by kernel_rfl) (of_decide_eq_true (by kernel_rfl)) h0 old) (trodAll_cons_mk (shut_int Tryd.underlying2 w1) trodAll_mk0)), rfl, old.frame _, fun h => by cases h⟩

/-- **The statement.** -/
theorem wordsBack_holds : Rows.WordsBackSaid :=
  OpenClaim.holds_of_wide 11 Tryd.f11 rfl rfl rfl rfl rfl rfl rfl ⟨rfl, rfl, rfl, rfl, rfl⟩ rfl rfl rfl rfl rfl (by kernel_rfl) Tryd.func11 (by kernel_rfl)
    (of_decide_eq_true (by kernel_rfl)) (by unfold Func.isWrapper; first | (rw [if_pos (by decide +kernel)]; kernel_rfl) | (rw [if_neg (by decide +kernel)]; exact ⟨rfl, rfl⟩))
    (fun os started H enc _ => wordsBack_lifted os started H enc)

/-- **The tied card.** -/
theorem wordsBack_card : Rows.WordsBackCardSaid :=
  Claim7.holds_tied_plain_at .later [] [.data, .data, .data, .data, .sentinel, .sentinel, .pinned] true (true, "2c0e470985b736c9c7be9300ed95b7632ebc6eb20298d4a4caa7618b5acfd9ec") true
    wordsBack_holds (fun _ h => by cases h) (by kernel_rfl) (fun _ h => by cases h) wordsBack_row_tie rfl ⟨rfl, rfl⟩ (by kernel_rfl) rfl
    (fun f fn hf hfn => by
      obtain rfl : f = 11 := Option.some.inj ((show Tryd.prog.funcNamed Rows.wordsBackRow.func = some 11 by kernel_rfl).symm.trans hf) |>.symm
      obtain rfl : fn = Tryd.f11 := (Option.some.inj (Tryd.func11.symm.trans hfn)).symm
      exact ⟨by kernel_rfl, fun j t ht => by
        rw [Tryd.params11] at ht
        have hm : t ∈ [42, 2] := by simpa using Array.mem_of_getElem? ht
        have hall : ([42, 2].all fun u => !Tryd.prog.wantsStandIn u) = true := by kernel_rfl
        exact (show Tryd.prog.wantsStandIn t = false by simpa using List.all_eq_true.1 hall t hm)⟩)
    (by kernel_rfl)

end Go.Proofs.YtbinpbjeeiedhaaDoor
