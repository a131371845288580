/-
  What the statements' rows say of the variables; an allocator that came in.
-/
import Derived.Test.YtbinpbjeeiedhaaDoorAbW
import Derived.Test.YtbinpbjeeiedhaaDoorIdE
import Derived.Test.YtbinpbjeeiedhaaDoorRows
import Derived.WalkKit
import Derived.ProofKit
import Derived.LaidMore
import Derived.Stop.Joined
set_option linter.unusedVariables false
set_option linter.unusedSimpArgs false
namespace Go.Proofs.YtbinpbjeeiedhaaDoor
open Go.Ab Go.Id Go Go.ChangeShapes Go.WideShapes Go.ChangeAt Go.RowKit

theorem ownK : ownKnob Tryd.prog.godebug = none := by kernel_rfl
theorem laidOutK : laidOutB Tryd.prog = true := by kernel_rfl

def laid3 : List (String × DataW Unit) := [("math/bits.deBruijn32tab", Rows.laid_math_bits_deBruijn32tab), ("math/bits.deBruijn64tab", Rows.laid_math_bits_deBruijn64tab), ("internal/strconv.uint64pow10", Rows.laid_internal_strconv_uint64pow10)]

/-- The door's own heap meets the condition. -/
theorem door_met (os : Os) (args : Array Value) : laidMetH Tryd.prog laid3 ((World.doorLaid Tryd.prog 400 os).forCall (fun _ _ => 0) ⟨#[], args, []⟩).memory :=
  laidMetH_of_parts3 (fuel := 8) (laidMet_of_run' 8 (by kernel_rfl) (by kernel_rfl)) (by kernel_rfl) (by kernel_rfl)

theorem gTabTy : (Tryd.prog.globals[2]?).map (·.type) = some 124 := by kernel_rfl
theorem tab_data : (Rows.laid_internal_strconv_uint64pow10 : DataW Unit) = Lib.tabData .u64 Lib.pow10Tab := by rfl

/-- What the condition gives: the table's block. -/
theorem glob_of_laid {W : World} (h : laidMetH Tryd.prog laid3 W) : GlobOK W (lm [] []) := by
  rw [MakeChecks.laidMetH_plain _ _ _ (by kernel_rfl)] at h
  obtain ⟨ps, ⟨g0, t0, cs0, f0, p0, q0, hg0, ht0, hv0, hd0, ⟨g1, t1, cs1, f1, p1, q1, hg1, ht1, hv1, hd1, ⟨g2, t2, cs2, f2, p2, q2, hg2, ht2, hv2, hd2, _, _⟩, _⟩, _⟩, _, _⟩ := h
  obtain rfl := Option.some.inj (gTab.symm.trans hg2)
  obtain rfl := Option.some.inj (gTabTy.symm.trans ht2)
  rw [tab_data] at hd2
  have hc := Lib.cells_of_tab Tryd.underlying124 Tryd.underlying36 (by kernel_rfl) (by kernel_rfl) hd2
  intro g e es hg
  simp only [GlobFacts.data] at hg
  split at hg
  · rename_i hg'
    subst hg'
    cases hg
    unfold World.var? at hv2
    rw [hg2] at hv2
    simp only [Option.bind_some] at hv2
    cases hh : W.heap[2]? with
    | none => rw [hh] at hv2; cases hv2
    | some o =>
      rw [hh] at hv2
      cases o with
      | cells cs t fr =>
        simp only [Option.some.injEq] at hv2
        subst hv2
        refine ⟨(Array.getElem?_eq_some_iff.1 hh).1, owned_nil, cs.toList, t, fr, by simp, ?_⟩
        rw [hc, tab10, show (fun z => AV.v (Value.int IntKind.u64 z)) = (AV.v ∘ fun z => Value.int IntKind.u64 z) from rfl, ← List.map_map]
        exact repE_v fun v hv => by obtain ⟨z, _, rfl⟩ := List.mem_map.1 hv; exact ⟨rfl, rfl⟩
      | _ => cases hv2
  · cases hg

set_option maxRecDepth 100000 in
theorem arg_allo {H : Type} {enc : TypeId × Value → H} {W : World} {v : Value} {d : DataW H} {ps : List MemPlace} {b0 : Nat} (hv : Value.okWide Tryd.prog W .any b0 23 v) (h : DataW.Trod enc Tryd.prog W 0 (fun _ => true) true 23 v d ps) :
    ∃ a : Allo, True ∧ Rep W (lm [] []) a.av v := by
  obtain ⟨cs, rfl, hcs⟩ := okWide_struct (P := Tryd.prog) (t := 23) (fs := alloFields) und23 hv
  obtain ⟨fuel, hf⟩ := h
  obtain ⟨xs, n, _, _, hl, hlen, hf⟩ := DataW.trod_struct und23 hf
  have hc : Tryd.prog.cellsOf 23 = 3 := by kernel_rfl
  have h3 : Tryd.prog.cellsOf 3 = 1 := by kernel_rfl
  have h2 : Tryd.prog.cellsOf 2 = 1 := by kernel_rfl
  simp only [Value.cells] at hl hf
  rw [hc] at hl
  obtain ⟨l⟩ := cs
  match l, hl with
  | [c0, c1, c2], _ =>
    match xs, hlen with
    | [y0, y1, y2], _ =>
      have f0 : DataW.trod enc Tryd.prog W 0 (fun _ => true) true n 3 [c0] = some y0 := by have := hf 0 _ rfl; simpa [h3, h2, alloFields] using this
      have f1 : DataW.trod enc Tryd.prog W 0 (fun _ => true) true n 3 [c1] = some y1 := by have := hf 1 _ rfl; simpa [h3, h2, alloFields] using this
      have f2 : DataW.trod enc Tryd.prog W 0 (fun _ => true) true n 2 [c2] = some y2 := by have := hf 2 _ rfl; simpa [h3, h2, alloFields] using this
      obtain ⟨a, e0, _, w0⟩ := DataW.trod_int Tryd.underlying3 f0
      obtain ⟨b, e1, _, w1⟩ := DataW.trod_int Tryd.underlying3 f1
      obtain ⟨c, e2, _, w2⟩ := DataW.trod_int Tryd.underlying2 f2
      simp only [List.cons.injEq, and_true] at e0 e1 e2
      subst e0; subst e1; subst e2
      exact ⟨⟨a, b, c⟩, trivial, _, rfl, ⟨_, _, rfl, rfl, _, _, rfl, rfl, _, _, rfl, rfl, rfl⟩, by simp [cellV]⟩

end Go.Proofs.YtbinpbjeeiedhaaDoor
