/-
  What the rows of the statements of code say of the variables; bytes, strings and programs that came in.
-/
import Derived.Test.YtdlekkhjkcbbnaaGreatDoorAbW
import Derived.Test.YtdlekkhjkcbbnaaGreatDoorCoY
import Derived.Test.YtdlekkhjkcbbnaaGreatDoorRows
import Derived.WalkKit
import Derived.ProofKit
import Derived.LaidMore
import Derived.Lay
import Derived.Lib.LaidTab
import Derived.OpenShut
import Derived.Stop.LaidErr
import Derived.Stop.Joined
set_option linter.unusedVariables false
set_option linter.unusedSimpArgs false
set_option maxRecDepth 100000
namespace Go.Proofs.YtdlekkhjkcbbnaaGreatDoor
open Go.Ab Go.Id Go.Wo Go Go.ChangeShapes Go.WideShapes Go.ChangeAt Go.RowKit

theorem ownK : ownKnob Tryz.prog.godebug = none := by kernel_rfl
theorem laidOutK : laidOutB Tryz.prog = true := by kernel_rfl

noncomputable def laid8 : List (String × DataW Unit) := [("math/bits.deBruijn32tab", Rows.laid_math_bits_deBruijn32tab), ("math/bits.deBruijn64tab", Rows.laid_math_bits_deBruijn64tab), ("internal/strconv.uint64pow10", Rows.laid_internal_strconv_uint64pow10), ("unicode/utf8.acceptRanges", Rows.laid_unicode_utf8_acceptRanges), ("strconv.ErrRange", Rows.laid_strconv_ErrRange), ("strconv.ErrSyntax", Rows.laid_strconv_ErrSyntax), ("clusterkernel/code.forms", Rows.laid_clusterkernel_code_forms), ("unicode/utf8.first", Rows.laid_unicode_utf8_first)]

theorem laid_plain (W : World) : laidMetH Tryz.prog laid8 W = laidMet Tryz.prog laid8 W := MakeChecks.laidMetH_plain _ _ _ (by kernel_rfl)
theorem gTabTy : (Tryz.prog.globals[1]?).map (·.type) = some 131 := by kernel_rfl
theorem gErrTy : (Tryz.prog.globals[8]?).map (·.type) = some 57 := by kernel_rfl
theorem gFormsTy : (Tryz.prog.globals[0]?).map (·.type) = some 89 := by kernel_rfl
theorem cU : Tryz.prog.cellsOf 97 = 1 := by kernel_rfl
theorem cTab : Tryz.prog.cellsOf 131 = Lib.pow10Tab.length := by kernel_rfl

/-- A start for the witness: all the variables laid. -/
theorem laid_met (os : Os) (args : Array Value) : laidMetH Tryz.prog laid8 ((World.laidAll Tryz.prog os laid8).forCall (fun _ _ => 0) ⟨#[], args, []⟩).memory := by
  rw [laid_plain]; exact laidMet_laidAll _ (by kernel_rfl) (by kernel_rfl)

theorem star_eq : "*" ++ "errors.errorString" = "*errors.errorString" := by decide
theorem rowErr (u : TypeId) (h : Tryz.prog.typeName? 3 u = some "*errors.errorString") : u = 163 :=
  typeName_ptr_named (nm := "errors.errorString") (by rw [star_eq]; kernel_rfl) (by kernel_rfl) (by decide) u (by rw [star_eq]; exact h)
theorem cErr : Tryz.prog.cellsOf 165 = 1 := by kernel_rfl
theorem c9 : Tryz.prog.cellsOf 9 = 1 := by kernel_rfl

theorem heap_of_var {P : Program} {W : World} {n : String} {g : Nat} {cs : Array Value} (hg : P.globalNamed n = some g) (h : W.var? P n = some cs) : ∃ t f, W.heap[g]? = some (.cells cs t f) := by
  unfold World.var? at h
  rw [hg] at h
  simp only [Option.bind_some] at h
  cases hh : W.heap[g]? with
  | none => rw [hh] at h; cases h
  | some o =>
    rw [hh] at h
    cases o with
    | cells cs' t f => simp only [Option.some.injEq] at h; subst h; exact ⟨t, f, rfl⟩
    | _ => cases h

set_option maxRecDepth 100000 in
/-- A variable of int64 holds some number. -/
theorem max_of_shape {W : World} (h : W.ShapedOpen Tryz.prog) : ∃ m t f, W.heap[2]? = some (.cells #[.int .i64 m] t f) := by
  obtain ⟨cs, hh, hs, hr⟩ := h.1 2 #[.int .i64 0] 3 (of_decide_eq_true (by kernel_rfl)) (by kernel_rfl)
  obtain ⟨ts, hts, hm, hall⟩ := hr (by kernel_rfl)
  obtain rfl : [3] = ts := Option.some.inj ((show Tryz.prog.cellTypes Tryz.prog.depth 3 = some [3] by kernel_rfl).symm.trans hts)
  have h1 : cs.size = 1 := hs
  obtain ⟨u, hu', hok⟩ := hall 0 cs[0] (by simp [h1])
  have : u = 3 := by simpa using hu'.symm
  subst this
  unfold Cell.ok at hok
  rw [Tryz.underlying3] at hok
  obtain ⟨l⟩ := cs
  match l, h1 with
  | [x], _ =>
    simp only [List.getElem_toArray, List.getElem_cons_zero] at hok
    cases x <;> simp at hok
    obtain ⟨rfl, _⟩ := hok
    exact ⟨_, _, _, hh⟩

/-! ### the forms -/

def strV (s : Bytes) : Value := .string ⟨s.toArray⟩
def formsD : List (DataW Unit) := formsB.map fun f => .agg [.lit (.string f.1), .lit (.string f.2)]
theorem forms_data : (Rows.laid_clusterkernel_code_forms : DataW Unit) = .agg formsD := by rfl
theorem pairs_at {α : Type} (f : α → List Value) (h2 : ∀ a, (f a).length = 2) : ∀ (l : List α) (i : Nat) (a : α), l[i]? = some a → ((l.flatMap f).drop (i * 2)).take 2 = f a
  | [], i, a, h => by simp at h
  | x :: l, 0, a, h => by
    simp at h; subst h
    simp only [Nat.zero_mul, List.drop_zero, List.flatMap_cons]
    rw [List.take_append_of_le_length (by rw [h2]; omega), List.take_of_length_le (by rw [h2]; omega)]
  | x :: l, i + 1, a, h => by
    rw [List.flatMap_cons, List.drop_append, List.drop_of_length_le (by rw [h2]; omega), List.nil_append, h2, show (i + 1) * 2 - 2 = i * 2 by omega]
    exact pairs_at f h2 l i a (by simpa using h)
theorem pairs_ext : ∀ (n : Nat) (l m : List Value), l.length = n * 2 → m.length = n * 2 → (∀ i, i < n → (l.drop (i * 2)).take 2 = (m.drop (i * 2)).take 2) → l = m
  | 0, l, m, h1, h2, _ => by rw [List.length_eq_zero_iff.1 (show l.length = 0 by omega), List.length_eq_zero_iff.1 (show m.length = 0 by omega)]
  | n + 1, l, m, h1, h2, h => by
    have h0 := h 0 (by omega)
    simp only [Nat.zero_mul, List.drop_zero] at h0
    have ih := pairs_ext n (l.drop 2) (m.drop 2) (by rw [List.length_drop]; omega) (by rw [List.length_drop]; omega) fun i hi => by
      have := h (i + 1) (by omega)
      rw [List.drop_drop, List.drop_drop, show 2 + i * 2 = (i + 1) * 2 by omega]
      exact this
    rw [← List.take_append_drop 2 l, ← List.take_append_drop 2 m, h0, ih]

theorem cForm : Tryz.prog.cellsOf 88 = 2 := by kernel_rfl
theorem cForms : Tryz.prog.cellsOf 89 = 26 := by kernel_rfl
theorem forms_cells {H : Type} {enc : TypeId × Value → H} {W : World} {base : Nat} {sp : Nat → Bool} {held : Bool} {fuel : Nat} {cs : List Value} {ds : List (DataW H)} {p : List MemPlace}
    (hd : ds = formsB.map fun f => .agg [.lit (.string f.1), .lit (.string f.2)]) (h : DataW.trod enc Tryz.prog W base sp held fuel 89 cs = some (.agg ds, p)) : cs = formsV := by
  obtain ⟨xs, m, _, hx, hl, hxl, hel⟩ := DataW.trod_array Tryz.underlying89 h
  rw [cForms] at hl
  have hxs : xs.map (·.1) = ds := by
    have := congrArg Prod.fst hx
    simp only [DataW.agg.injEq] at this
    exact this.symm
  refine pairs_ext 13 _ _ (by omega) (by rfl) fun i hi => ?_
  obtain ⟨f, hf⟩ : ∃ f, formsB[i]? = some f := ⟨_, List.getElem?_eq_getElem (show i < 13 from hi)⟩
  have h1 := hel i hi
  rw [cForm] at h1
  obtain ⟨x, hxi⟩ : ∃ x, xs[i]? = some x := ⟨_, List.getElem?_eq_getElem (by omega)⟩
  rw [hxi] at h1
  have hx1 : x.1 = .agg [.lit (.string f.1), .lit (.string f.2)] := by
    have : (xs.map (·.1))[i]? = some x.1 := by rw [List.getElem?_map, hxi]; rfl
    rw [hxs, hd, List.getElem?_map, hf] at this
    simpa using this.symm
  obtain ⟨ys, n, _, hy, hyl, hys, hfd⟩ := DataW.trod_struct Tryz.underlying88 h1
  rw [cForm] at hyl
  have hy1 : ys.map (·.1) = [.lit (.string f.1), .lit (.string f.2)] := by
    have := congrArg Prod.fst hy
    rw [hx1] at this
    simpa using this.symm
  rw [show formsV = formsB.flatMap fun f => [.string ⟨f.1.toArray⟩, .string ⟨f.2.toArray⟩] from rfl, pairs_at _ (fun _ => rfl) formsB i f hf]
  match hcs : (cs.drop (i * 2)).take 2, hyl with
  | [c0, c1], _ =>
    rw [hcs] at hfd
    match ys, hy1 with
    | [y0, y1], hy1 =>
      simp only [List.map_cons, List.map_nil, List.cons.injEq, and_true] at hy1
      have f0 : DataW.trod enc Tryz.prog W base sp held n 9 [c0] = some y0 := by have := hfd 0 _ rfl; simpa [c9] using this
      have f1 : DataW.trod enc Tryz.prog W base sp held n 9 [c1] = some y1 := by have := hfd 1 _ rfl; simpa [c9] using this
      obtain ⟨s0, e0, k0, _⟩ := DataW.trod_string Tryz.underlying9 f0
      obtain ⟨s1, e1, k1, _⟩ := DataW.trod_string Tryz.underlying9 f1
      simp only [List.cons.injEq, and_true] at e0 e1
      rw [k0, k1] at hy1
      simp only [DataW.lit.injEq, Lit.string.injEq] at hy1
      subst e0; subst e1
      rw [← hy1.1, ← hy1.2]
theorem forms_rep {W : World} {g : Nat} {t : TypeId} {fr : Nat × Nat} (h : W.heap[g]? = some (.cells formsV.toArray t fr)) : Rep W (lm [] []) formsAV (.pointer (some ⟨g, 0, none⟩)) := by
  have hv : ∀ l : List Value, (∀ v ∈ l, cellV v = true) → RepL W (lm [] []) (l.map .v) l := by
    intro l
    induction l with
    | nil => intro _; rfl
    | cons v l ih => intro hc; exact ⟨v, l, rfl, rfl, ih fun x hx => hc x (List.mem_cons_of_mem _ hx)⟩
  have hcell : ∀ v ∈ formsV, cellV v = true := by
    intro v hv
    simp only [formsV, List.mem_flatMap] at hv
    obtain ⟨f, _, hf⟩ := hv
    simp only [List.mem_cons, List.not_mem_nil, or_false] at hf
    rcases hf with rfl | rfl <;> rfl
  refine ⟨g, 0, rfl, (Array.getElem?_eq_some_iff.1 h).1, owned_nil, .agg formsV.toArray, ⟨formsV, rfl, hv _ hcell, hcell⟩, fun j hj => ?_⟩
  simp only [World.cell?, h, Nat.zero_add, Value.cells]
  simp

theorem tab_data : (Rows.laid_internal_strconv_uint64pow10 : DataW Unit) = Lib.tabData .u64 Lib.pow10Tab := by rfl
theorem glob_of_laid {W : World} (h : laidMetH Tryz.prog laid8 W) (hsh : W.ShapedOpen Tryz.prog) : GlobOK W (lm [] []) := by
  rw [laid_plain] at h
  have h3 : laidMet Tryz.prog (("internal/strconv.uint64pow10", Lib.tabData .u64 Lib.pow10Tab) :: [("unicode/utf8.acceptRanges", Rows.laid_unicode_utf8_acceptRanges), ("strconv.ErrRange", Rows.laid_strconv_ErrRange), ("strconv.ErrSyntax", Rows.laid_strconv_ErrSyntax), ("clusterkernel/code.forms", Rows.laid_clusterkernel_code_forms), ("unicode/utf8.first", Rows.laid_unicode_utf8_first)]) W := by
    rw [← tab_data]; exact h.tail.tail
  have h2 := Lib.tabIs_of_head gTab gTabTy Tryz.underlying131 Tryz.underlying97 cU (by kernel_rfl) h3
  obtain ⟨a, s, hv, _, _, _⟩ := laid_sentinel h.tail.tail.tail.tail gErr gErrTy Tryz.underlying57 rowErr Tryz.underlying163 Tryz.underlying165 rfl rfl Tryz.underlying9 cErr c9
  obtain ⟨_, ⟨gf, tf, csf, fuel, pf, qf, hgf, htf, hvf, hdf, _, _⟩, _⟩ := h.tail.tail.tail.tail.tail.tail
  obtain rfl := Option.some.inj (gForms.symm.trans hgf)
  obtain rfl := Option.some.inj (gFormsTy.symm.trans htf)
  rw [forms_data] at hdf
  have hcf := forms_cells rfl hdf
  obtain ⟨tf', ff, ef⟩ := heap_of_var gForms hvf
  have hcf' : csf = formsV.toArray := by rw [← hcf]
  rw [hcf'] at ef
  obtain ⟨t1, f1, e1⟩ := heap_of_var gErr hv
  obtain ⟨t2, f2, e2⟩ := heap_of_var gTab h2
  obtain ⟨m, t3, f3, e3⟩ := max_of_shape hsh
  refine ⟨fun g hg => ⟨?_, owned_nil⟩, ⟨t1, f1, 163, .pointer (some a), t2, f2, t3, f3, m, ?_⟩, fun g a h => ?_⟩
  · simp only [GlobFacts.blocks, List.mem_cons, List.not_mem_nil, or_false] at hg
    rcases hg with rfl | rfl | rfl
    · exact (Array.getElem?_eq_some_iff.1 e1).1
    · exact (Array.getElem?_eq_some_iff.1 e2).1
    · exact (Array.getElem?_eq_some_iff.1 e3).1
  · simp only [GlobFacts.blocks, List.map_cons, List.map_nil, e1, e2, e3]
    rfl
  · simp only [GlobFacts.av] at h
    split at h
    · rename_i hg
      cases h
      rw [hg]
      exact forms_rep ef
    · cases h
theorem wf64 {a : Int} (h : (Lit.int .i64 a).wf = true) : -9223372036854775808 ≤ a ∧ a ≤ 9223372036854775807 := by
  simpa [Lit.wf, IntKind.min, IntKind.max, IntKind.bits, IntKind.signed] using h
theorem wf16 {a : Int} (h : (Lit.int .u16 a).wf = true) : 0 ≤ a ∧ a ≤ 65535 := by
  simpa [Lit.wf, IntKind.min, IntKind.max, IntKind.bits, IntKind.signed] using h
section
variable {H : Type} {enc : TypeId × Value → H}
/-- A contract's call from every world of the row's, its shape told. -/
theorem returns_shaped {a : Assume} {C : Checked} {os : Os} {f : FuncId} {fn : Func} {s : ChangeSpec} {conds : List PathCond} {apart fresh handsOn again : Bool} {X : World → Array Value → Prop}
    (hX : ∀ (w w' : World) (args : Array Value), w.heap = w'.heap → X w args → X w' args)
    (own : ownKnob C.prog.godebug = none) (started : os.Started) (noInit : C.prog.inits.idxOf? f = none) (hfn : C.prog.funcs[f]? = some fn)
    (witness : ∃ (w : World) (tape : Tape) (i : Input), w.os = os ∧ (w.forCall tape i).Shaped C.prog ∧ i.vars = [] ∧ Input.okWide C.prog (w.forCall tape i) .any w.heap.size f i ∧
      ((s.pre enc C.prog fn conds apart (w.forCall tape i).memory i.args ∧ X (w.forCall tape i).memory i.args) ∧ sizedMet enc C.prog fn (OpenSpec.ofChange s) apart (w.forCall tape i).memory i.args) ∧ a.holds C.prog (lone (Frame.enter C.prog f i.args .normal) [] (w.forCall tape i)))
    (contract : ∀ (W : World) (base : Nat) (args : Array Value) (ds gs : List (DataW H)) (before : List MemPlace),
      (∀ (j : Nat) t v, fn.params[j]? = some t → args[j]? = some v → Value.okWide C.prog W .any base t v) →
      DataW.Whole enc C.prog fn.params.toList s.vars apart W args.toList ds gs before →
      (DataW.weightsEach C.prog (fn.params.toList ++ s.plain.varTypes C.prog) (ds ++ gs)).all (· ≤ reachBytes) = true → X W args → W.ShapedOpen C.prog →
      Calls C.prog f args W fun e W' => ∃ v, e = .returned v ∧ s.post enc C.prog fn apart fresh handsOn again W args v W') :
    ReturnsInHanded a C os f .any (fun w args => (s.pre enc C.prog fn conds apart w args ∧ X w args) ∧ sizedMet enc C.prog fn (OpenSpec.ofChange s) apart w args) (s.post enc C.prog fn apart fresh handsOn again) := by
  refine returnsInHanded_of_calls own started noInit witness ?_
  intro w tape i _ hsh _ hok hpre hholds
  obtain ⟨_, _, _, fn', hfn', _, _, _, _, hval⟩ := hok
  obtain rfl : fn' = fn := Option.some.inj (hfn'.symm.trans hfn)
  obtain ⟨⟨⟨ds, gs, before, hw, hc⟩, hx⟩, hz⟩ := hpre
  have hw' := DataW.Whole.of_heap (w' := w.forCall tape i) (by rfl) hw
  refine (contract (w.forCall tape i) w.heap.size i.args ds gs before hval hw' (hz.weights hw) (hX _ _ _ (by rfl) hx) hsh).mono fun e W' ⟨v, he, hp⟩ => ?_
  subst he
  exact ChangeSpec.post_blind hp

theorem el_string {P : Program} {W : World} {e : TypeId} (ht : P.underlying e = some .string) : ∀ fuel cs x, DataW.trod enc P W 0 (fun _ => true) true fuel e cs = some x → ∃ a : Bytes, True ∧ ∃ y : Value, y.cells.toList = cs ∧ (∀ c ∈ cs, cellV c = true) ∧ Rep W (lm [] []) (sv a) y := by
  intro fuel cs x h
  obtain ⟨s, rfl, rfl, hw⟩ := DataW.trod_string ht h
  exact ⟨s.data.toList, trivial, .string s, rfl, by simp [cellV], by cases s; rfl⟩

theorem el_byte {W : World} : ∀ fuel cs x, DataW.trod enc Tryz.prog W 0 (fun _ => true) true fuel 5 cs = some x → ∃ a : UInt8, True ∧ ∃ y : Value, y.cells.toList = cs ∧ (∀ c ∈ cs, cellV c = true) ∧ Rep W (lm [] []) (byteV a) y := by
  intro fuel cs x h
  obtain ⟨n, rfl, rfl, hw⟩ := DataW.trod_int Tryz.underlying5 h
  have hn : 0 ≤ n ∧ n ≤ 255 := by simpa [Lit.wf, IntKind.min, IntKind.max, IntKind.bits, IntKind.signed] using hw
  refine ⟨UInt8.ofNat n.toNat, trivial, .int .u8 n, rfl, by simp [cellV], ?_⟩
  have e : ((UInt8.ofNat n.toNat).toNat : Int) = n := by rw [UInt8.toNat_ofNat', Nat.mod_eq_of_lt (by omega)]; omega
  show Rep W (lm [] []) (.v (.int .u8 (UInt8.ofNat n.toNat).toNat)) (.int .u8 n)
  rw [e]; rfl
theorem cIns : Tryz.prog.cellsOf 32 = 4 := by kernel_rfl
theorem cInt : Tryz.prog.cellsOf 3 = 1 := by kernel_rfl
theorem el_ins {W : World} : ∀ fuel cs x, DataW.trod enc Tryz.prog W 0 (fun _ => true) true fuel 32 cs = some x → ∃ a : Ins, True ∧ ∃ y : Value, y.cells.toList = cs ∧ (∀ c ∈ cs, cellV c = true) ∧ Rep W (lm [] []) a.av y := by
  intro fuel cs x h
  obtain ⟨xs, n, _, rfl, hl, hlen, hf⟩ := DataW.trod_struct Tryz.underlying32 h
  rw [cIns] at hl
  match cs, hl with
  | [c0, c1, c2, c3], _ =>
    match xs, hlen with
    | [y0, y1, y2, y3], _ =>
      have f0 : DataW.trod enc Tryz.prog W 0 (fun _ => true) true n 3 [c0] = some y0 := by have := hf 0 _ rfl; simpa [cInt] using this
      have f1 : DataW.trod enc Tryz.prog W 0 (fun _ => true) true n 3 [c1] = some y1 := by have := hf 1 _ rfl; simpa [cInt] using this
      have f2 : DataW.trod enc Tryz.prog W 0 (fun _ => true) true n 3 [c2] = some y2 := by have := hf 2 _ rfl; simpa [cInt] using this
      have f3 : DataW.trod enc Tryz.prog W 0 (fun _ => true) true n 3 [c3] = some y3 := by have := hf 3 _ rfl; simpa [cInt] using this
      obtain ⟨a, e0, _, w0⟩ := DataW.trod_int Tryz.underlying3 f0
      obtain ⟨b, e1, _, w1⟩ := DataW.trod_int Tryz.underlying3 f1
      obtain ⟨c, e2, _, w2⟩ := DataW.trod_int Tryz.underlying3 f2
      obtain ⟨d, e3, _, w3⟩ := DataW.trod_int Tryz.underlying3 f3
      simp only [List.cons.injEq, and_true] at e0 e1 e2 e3
      subst e0; subst e1; subst e2; subst e3
      exact ⟨⟨a, b, c, d⟩, trivial, .agg #[.int .i64 a, .int .i64 b, .int .i64 c, .int .i64 d], rfl, by simp [cellV], _, rfl, ⟨_, _, rfl, rfl, _, _, rfl, rfl, _, _, rfl, rfl, _, _, rfl, rfl, rfl⟩, by simp [cellV]⟩

theorem cCode : Tryz.prog.cellsOf 22 = 1 := by kernel_rfl
theorem cStrs : Tryz.prog.cellsOf 23 = 1 := by kernel_rfl
theorem cProg : Tryz.prog.cellsOf 25 = 3 := by kernel_rfl
theorem tysProg : Tryz.prog.cellTypes Tryz.prog.depth 25 = some [22, 23, 3] := by kernel_rfl
theorem progStruct : ∃ fs, Tryz.prog.underlying 25 = some (.struct fs) := ⟨_, Tryz.underlying25⟩
theorem cell_value {W : World} {b0 : Nat} {t e : TypeId} {v : Value} (hu : Tryz.prog.underlying t = some (.slice e)) (h : Cell.okWide Tryz.prog W .any b0 t v) : Value.okWide Tryz.prog W .any b0 t v := by
  simp only [Value.okWide, hu]; exact h
/-- a slice's weight, in a program's -/
theorem arg_prog {W : World} {v : Value} {d : DataW H} {ps : List MemPlace} {b0 : Nat} (hv : Value.okWide Tryz.prog W .any b0 25 v) (h : DataW.Trod enc Tryz.prog W 0 (fun _ => true) true 25 v d ps)
    (hz : ∀ n ∈ d.weights Tryz.prog 25, n ≤ reachBytes) : ∃ p : Prg, Cnt p ∧ Rep W (lm [] []) p.av v := by
  have hvs := hv
  simp only [Value.okWide, Tryz.underlying25] at hvs
  obtain ⟨cs, rfl, hcs, ts, hts, _, hall⟩ := hvs
  obtain rfl := Option.some.inj (hts.symm.trans tysProg)
  obtain ⟨fuel, hf⟩ := h
  obtain ⟨xs, n, _, hx, hl, hlen, hf⟩ := DataW.trod_struct Tryz.underlying25 hf
  simp only [Value.cells] at hl hf
  rw [cProg] at hl
  obtain ⟨l⟩ := cs
  match l, hl with
  | [c0, c1, c2], _ =>
    match xs, hlen with
    | [y0, y1, y2], _ =>
      have f0 : DataW.trod enc Tryz.prog W 0 (fun _ => true) true n 22 [c0] = some y0 := by have := hf 0 _ rfl; simpa [cInt, cCode, cStrs] using this
      have f1 : DataW.trod enc Tryz.prog W 0 (fun _ => true) true n 23 [c1] = some y1 := by have := hf 1 _ rfl; simpa [cInt, cCode, cStrs] using this
      have f2 : DataW.trod enc Tryz.prog W 0 (fun _ => true) true n 3 [c2] = some y2 := by have := hf 2 _ rfl; simpa [cInt, cCode, cStrs] using this
      obtain ⟨u0, hu0, k0⟩ := hall 0 c0 rfl
      obtain ⟨u1, hu1, k1⟩ := hall 1 c1 rfl
      obtain rfl : u0 = 22 := by simpa using hu0.symm
      obtain rfl : u1 = 23 := by simpa using hu1.symm
      have v0 := cell_value Tryz.underlying22 k0
      have v1 := cell_value Tryz.underlying23 k1
      obtain ⟨q0, q1, q2, hq0⟩ := okWide_slice Tryz.underlying22 v0
      obtain ⟨r0, r1, r2, hr0⟩ := okWide_slice Tryz.underlying23 v1
      have t0 : DataW.Trod enc Tryz.prog W 0 (fun _ => true) true 22 c0 y0.1 y0.2 := ⟨n, by rw [hq0] at f0 ⊢; exact f0⟩
      have t1 : DataW.Trod enc Tryz.prog W 0 (fun _ => true) true 23 c1 y1.1 y1.2 := ⟨n, by rw [hr0] at f1 ⊢; exact f1⟩
      obtain ⟨code, _, m0, l0⟩ := arg_slice (n := 4) (mk := Ins.av) Tryz.underlying22 cIns (fun fuel cs x h => el_ins fuel cs x h) v0 t0
      obtain ⟨strs, _, m1, l1⟩ := arg_slice (n := 1) (mk := sv) Tryz.underlying23 c9 (el_string Tryz.underlying9) v1 t1
      obtain ⟨pg, e2, _, w2⟩ := DataW.trod_int Tryz.underlying3 f2
      simp only [List.cons.injEq, and_true] at e2
      have hd : d = .agg [y0.1, y1.1, y2.1] := congrArg Prod.fst hx
      have hw : d.weights Tryz.prog 25 = y0.1.weights Tryz.prog 22 ++ (y1.1.weights Tryz.prog 23 ++ (y2.1.weights Tryz.prog 3 ++ [])) := by
        rw [hd]
        simp only [DataW.weights, Tryz.underlying25]
        rfl
      have hr := reachBytes_lt
      refine ⟨⟨code, strs, pg⟩, ⟨?_, ?_⟩, [c0, c1, c2], rfl, ⟨c0, _, rfl, m0, c1, _, rfl, m1, c2, _, rfl, e2, rfl⟩, ?_⟩
      · simp only
        rcases l0 with rfl | ⟨el, sp, h1, h2⟩
        · simp
        · have := hz ((el.length + sp.length) * Tryz.prog.bytesOf 32) (by rw [hw, h1]; simp [DataW.weights, Tryz.underlying22])
          have h3 : 0 < Tryz.prog.bytesOf 32 := of_decide_eq_true (by kernel_rfl)
          have h4 : (el.length + sp.length) * 1 ≤ (el.length + sp.length) * Tryz.prog.bytesOf 32 := Nat.mul_le_mul_left _ h3
          omega
      · simp only
        rcases l1 with rfl | ⟨el, sp, h1, h2⟩
        · simp
        · have := hz ((el.length + sp.length) * Tryz.prog.bytesOf 9) (by rw [hw, h1]; simp [DataW.weights, Tryz.underlying23])
          have h3 : 0 < Tryz.prog.bytesOf 9 := of_decide_eq_true (by kernel_rfl)
          have h4 : (el.length + sp.length) * 1 ≤ (el.length + sp.length) * Tryz.prog.bytesOf 9 := Nat.mul_le_mul_left _ h3
          omega
      · intro y hy
        simp only [List.mem_cons, List.not_mem_nil, or_false] at hy
        rcases hy with rfl | rfl | rfl
        · rw [hq0]; rfl
        · rw [hr0]; rfl
        · rw [e2]; rfl
end
end Go.Proofs.YtdlekkhjkcbbnaaGreatDoor
