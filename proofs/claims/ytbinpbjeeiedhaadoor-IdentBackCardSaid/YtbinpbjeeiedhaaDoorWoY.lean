/-
  What the rows of the statements of words say of the variables; strings and lists of strings that came in.
-/
import Derived.Test.YtbinpbjeeiedhaaDoorAbW
import Derived.Test.YtbinpbjeeiedhaaDoorWoV
import Derived.Test.YtbinpbjeeiedhaaDoorRows
import Derived.WalkKit
import Derived.ProofKit
import Derived.LaidMore
import Derived.Lay
import Derived.Lib.LaidTab
import Derived.Stop.LaidErr
import Derived.Stop.Joined
set_option linter.unusedVariables false
set_option linter.unusedSimpArgs false
namespace Go.Proofs.YtbinpbjeeiedhaaDoor
open Go.Ab Go.Id Go.Wo Go Go.ChangeShapes Go.WideShapes Go.ChangeAt Go.RowKit

theorem ownK : ownKnob Tryd.prog.godebug = none := by kernel_rfl
theorem laidOutK : laidOutB Tryd.prog = true := by kernel_rfl

noncomputable def laid7 : List (String × DataW Unit) := [("math/bits.deBruijn32tab", Rows.laid_math_bits_deBruijn32tab), ("math/bits.deBruijn64tab", Rows.laid_math_bits_deBruijn64tab), ("internal/strconv.uint64pow10", Rows.laid_internal_strconv_uint64pow10), ("unicode/utf8.acceptRanges", Rows.laid_unicode_utf8_acceptRanges), ("strconv.ErrRange", Rows.laid_strconv_ErrRange), ("strconv.ErrSyntax", Rows.laid_strconv_ErrSyntax), ("unicode/utf8.first", Rows.laid_unicode_utf8_first)]

theorem laid7_split : Rows.wordsSplitRow.laid = laid7 := rfl
theorem laid_plain (W : World) : laidMetH Tryd.prog laid7 W = laidMet Tryd.prog laid7 W := MakeChecks.laidMetH_plain _ _ _ (by kernel_rfl)
theorem gTabTy : (Tryd.prog.globals[2]?).map (·.type) = some 124 := by kernel_rfl
theorem gErrTy : (Tryd.prog.globals[1]?).map (·.type) = some 78 := by kernel_rfl
theorem c36 : Tryd.prog.cellsOf 36 = 1 := by kernel_rfl
theorem c124 : Tryd.prog.cellsOf 124 = Lib.pow10Tab.length := by kernel_rfl

/-- A start for the witness: all seven variables laid. -/
theorem laid_met (os : Os) (args : Array Value) : laidMetH Tryd.prog laid7 ((World.laidAll Tryd.prog os laid7).forCall (fun _ _ => 0) ⟨#[], args, []⟩).memory := by
  rw [laid_plain]; exact laidMet_laidAll _ (by kernel_rfl) (by kernel_rfl)

theorem star_eq : "*" ++ "errors.errorString" = "*errors.errorString" := by decide
theorem rowErr (u : TypeId) (h : Tryd.prog.typeName? 3 u = some "*errors.errorString") : u = 128 :=
  typeName_ptr_named (nm := "errors.errorString") (by rw [star_eq]; kernel_rfl) (by kernel_rfl) (by decide) u (by rw [star_eq]; exact h)
theorem cErr : Tryd.prog.cellsOf 130 = 1 := by kernel_rfl
theorem c9 : Tryd.prog.cellsOf 9 = 1 := by kernel_rfl

theorem heap_of_var {P : Program} {W : World} {n : String} {g : Nat} {cs : Array Value} (hg : P.globalNamed n = some g) (h : W.var? P n = some cs) : ∃ t f, W.heap[g]? = some (.cells cs t f) := by
  unfold World.var? at h
  rw [hg] at h
  simp only [Option.bind_some] at h
  cases hh : W.heap[g]? with
  | none => rw [hh] at h; cases h
  | some o =>
    rw [hh] at h
    cases o with
    | cells cs' t f => simp only [Option.some.injEq] at h; subst h; exact ⟨t, f, rfl⟩
    | _ => cases h

set_option maxRecDepth 100000 in
/-- A variable of int64 holds some number. -/
theorem max_of_shape {W : World} (h : W.ShapedOpen Tryd.prog) : ∃ m t f, W.heap[3]? = some (.cells #[.int .i64 m] t f) := by
  obtain ⟨cs, hh, hs, hr⟩ := h.1 3 #[.int .i64 0] 3 (of_decide_eq_true (by kernel_rfl)) (by kernel_rfl)
  obtain ⟨ts, hts, hm, hall⟩ := hr (by kernel_rfl)
  obtain rfl : [3] = ts := Option.some.inj ((show Tryd.prog.cellTypes Tryd.prog.depth 3 = some [3] by kernel_rfl).symm.trans hts)
  have h1 : cs.size = 1 := hs
  obtain ⟨u, hu', hok⟩ := hall 0 cs[0] (by simp [h1])
  have : u = 3 := by simpa using hu'.symm
  subst this
  unfold Cell.ok at hok
  rw [Tryd.underlying3] at hok
  obtain ⟨l⟩ := cs
  match l, h1 with
  | [x], _ =>
    simp only [List.getElem_toArray, List.getElem_cons_zero] at hok
    cases x <;> simp at hok
    obtain ⟨rfl, _⟩ := hok
    exact ⟨_, _, _, hh⟩

theorem tab_data : (Rows.laid_internal_strconv_uint64pow10 : DataW Unit) = Lib.tabData .u64 Lib.pow10Tab := by rfl
theorem glob_of_laid {W : World} (h : laidMetH Tryd.prog laid7 W) (hsh : W.ShapedOpen Tryd.prog) : GlobOK W (lm [] []) := by
  rw [laid_plain] at h
  have h3 : laidMet Tryd.prog (("internal/strconv.uint64pow10", Lib.tabData .u64 Lib.pow10Tab) :: [("unicode/utf8.acceptRanges", Rows.laid_unicode_utf8_acceptRanges), ("strconv.ErrRange", Rows.laid_strconv_ErrRange), ("strconv.ErrSyntax", Rows.laid_strconv_ErrSyntax), ("unicode/utf8.first", Rows.laid_unicode_utf8_first)]) W := by
    rw [← tab_data]; exact h.tail.tail
  have h2 := Lib.tabIs_of_head gTab gTabTy Tryd.underlying124 Tryd.underlying36 c36 (by kernel_rfl) h3
  obtain ⟨a, s, hv, _, _, _⟩ := laid_sentinel h.tail.tail.tail.tail gErr gErrTy Tryd.underlying78 rowErr Tryd.underlying128 Tryd.underlying130 rfl rfl Tryd.underlying9 cErr c9
  obtain ⟨t1, f1, e1⟩ := heap_of_var gErr hv
  obtain ⟨t2, f2, e2⟩ := heap_of_var gTab h2
  obtain ⟨m, t3, f3, e3⟩ := max_of_shape hsh
  refine ⟨fun g hg => ⟨?_, owned_nil⟩, t1, f1, 128, .pointer (some a), t2, f2, t3, f3, m, ?_⟩
  · simp only [GlobFacts.blocks, List.mem_cons, List.not_mem_nil, or_false] at hg
    rcases hg with rfl | rfl | rfl
    · exact (Array.getElem?_eq_some_iff.1 e1).1
    · exact (Array.getElem?_eq_some_iff.1 e2).1
    · exact (Array.getElem?_eq_some_iff.1 e3).1
  · simp only [GlobFacts.blocks, List.map_cons, List.map_nil, e1, e2, e3]
    rfl

theorem wf64 {a : Int} (h : (Lit.int .i64 a).wf = true) : -9223372036854775808 ≤ a ∧ a ≤ 9223372036854775807 := by
  simpa [Lit.wf, IntKind.min, IntKind.max, IntKind.bits, IntKind.signed] using h
theorem wf16 {a : Int} (h : (Lit.int .u16 a).wf = true) : 0 ≤ a ∧ a ≤ 65535 := by
  simpa [Lit.wf, IntKind.min, IntKind.max, IntKind.bits, IntKind.signed] using h
section
variable {H : Type} {enc : TypeId × Value → H}
/-- A contract's call from every world of the row's, its shape told. -/
theorem returns_shaped {a : Assume} {C : Checked} {os : Os} {f : FuncId} {fn : Func} {s : ChangeSpec} {conds : List PathCond} {apart fresh handsOn again : Bool} {X : World → Array Value → Prop}
    (hX : ∀ (w w' : World) (args : Array Value), w.heap = w'.heap → X w args → X w' args)
    (own : ownKnob C.prog.godebug = none) (started : os.Started) (noInit : C.prog.inits.idxOf? f = none) (hfn : C.prog.funcs[f]? = some fn)
    (witness : ∃ (w : World) (tape : Tape) (i : Input), w.os = os ∧ (w.forCall tape i).Shaped C.prog ∧ i.vars = [] ∧ Input.okWide C.prog (w.forCall tape i) .any w.heap.size f i ∧
      ((s.pre enc C.prog fn conds apart (w.forCall tape i).memory i.args ∧ X (w.forCall tape i).memory i.args) ∧ sizedMet enc C.prog fn (OpenSpec.ofChange s) apart (w.forCall tape i).memory i.args) ∧ a.holds C.prog (lone (Frame.enter C.prog f i.args .normal) [] (w.forCall tape i)))
    (contract : ∀ (W : World) (base : Nat) (args : Array Value) (ds gs : List (DataW H)) (before : List MemPlace),
      (∀ (j : Nat) t v, fn.params[j]? = some t → args[j]? = some v → Value.okWide C.prog W .any base t v) →
      DataW.Whole enc C.prog fn.params.toList s.vars apart W args.toList ds gs before →
      (DataW.weightsEach C.prog (fn.params.toList ++ s.plain.varTypes C.prog) (ds ++ gs)).all (· ≤ reachBytes) = true → X W args → W.ShapedOpen C.prog →
      Calls C.prog f args W fun e W' => ∃ v, e = .returned v ∧ s.post enc C.prog fn apart fresh handsOn again W args v W') :
    ReturnsInHanded a C os f .any (fun w args => (s.pre enc C.prog fn conds apart w args ∧ X w args) ∧ sizedMet enc C.prog fn (OpenSpec.ofChange s) apart w args) (s.post enc C.prog fn apart fresh handsOn again) := by
  refine returnsInHanded_of_calls own started noInit witness ?_
  intro w tape i _ hsh _ hok hpre hholds
  obtain ⟨_, _, _, fn', hfn', _, _, _, _, hval⟩ := hok
  obtain rfl : fn' = fn := Option.some.inj (hfn'.symm.trans hfn)
  obtain ⟨⟨⟨ds, gs, before, hw, hc⟩, hx⟩, hz⟩ := hpre
  have hw' := DataW.Whole.of_heap (w' := w.forCall tape i) (by rfl) hw
  refine (contract (w.forCall tape i) w.heap.size i.args ds gs before hval hw' (hz.weights hw) (hX _ _ _ (by rfl) hx) hsh).mono fun e W' ⟨v, he, hp⟩ => ?_
  subst he
  exact ChangeSpec.post_blind hp

theorem el_string {P : Program} {W : World} {e : TypeId} (ht : P.underlying e = some .string) : ∀ fuel cs x, DataW.trod enc P W 0 (fun _ => true) true fuel e cs = some x → ∃ a : Bytes, True ∧ ∃ y : Value, y.cells.toList = cs ∧ (∀ c ∈ cs, cellV c = true) ∧ Rep W (lm [] []) (sv a) y := by
  intro fuel cs x h
  obtain ⟨s, rfl, rfl, hw⟩ := DataW.trod_string ht h
  exact ⟨s.data.toList, trivial, .string s, rfl, by simp [cellV], by cases s; rfl⟩
end
end Go.Proofs.YtbinpbjeeiedhaaDoor
