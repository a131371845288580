/-
  The same: whatever order is picked; the walk in the order of the text (vdraw).
-/
import Derived.Test.YtbinpbjeeiedhaaDoorAbN
set_option linter.unusedVariables false
set_option linter.unusedSimpArgs false
set_option linter.unusedSectionVars false
namespace Go.Ab
open Go
variable [GlobFacts]

abbrev Done := Nat → FP → Prop
def Done.add (F : Done) (i : Nat) (f : FP) : Done := fun j g => (j = i ∧ g = f) ∨ F j g

/-- Whatever order is picked from here on. -/
def AAny (P : Program) (N n0 : Nat) (ops : Array Oper) (ds : List DOp) (K : Env → Heap → Prop) : Nat → Array Bool → Done → Env → Heap → Prop
  | 0, listed, _, E, σ => Region.ready .any ops listed = [] ∧ ∃ E0, EnvEq E E0 ∧ K E0 σ
  | fuel + 1, listed, F, E, σ => (Region.ready .any ops listed = [] → ∃ E0, EnvEq E E0 ∧ K E0 σ) ∧
    ∀ i ∈ Region.ready .any ops listed, ∃ d x f, ds[i]? = some d ∧ Step P N n0 d E σ x f ∧ (∀ j g, F j g → hasDep d.deps j ∨ compat g f) ∧
      AAny P N n0 ops ds K fuel (listed.setIfInBounds i true) (F.add i f) (putE d.p.dst x E) (f.apply σ)

section
variable {P : Program} {N n0 : Nat} {ops : Array Oper} {ds : List DOp} {K : Env → Heap → Prop}

theorem AAny.congr : ∀ (fuel : Nat) (listed : Array Bool) (F F' : Done) (E E' : Env) (σ : Heap), EnvEq E E' → (∀ j g, F' j g → F j g) → AAny P N n0 ops ds K fuel listed F E σ → AAny P N n0 ops ds K fuel listed F' E' σ
  | 0, listed, F, F', E, E', σ, h, hF, H => ⟨H.1, let ⟨E0, h1, h2⟩ := H.2; ⟨E0, fun t => (h t).symm.trans (h1 t), h2⟩⟩
  | fuel + 1, listed, F, F', E, E', σ, h, hF, H => by
    refine ⟨fun hr => let ⟨E0, h1, h2⟩ := H.1 hr; ⟨E0, fun t => (h t).symm.trans (h1 t), h2⟩, fun i hi => ?_⟩
    obtain ⟨d, x, f, h1, h2, h3, h4⟩ := H.2 i hi
    refine ⟨d, x, f, h1, h2.eqv h, fun j g hg => h3 j g (hF j g hg), AAny.congr fuel _ _ _ _ _ _ (putE_eq h) (fun j g hg => hg.imp id (hF j g)) h4⟩

theorem compat_symm {f g : FP} (h : compat f g) : compat g f := ⟨h.2, h.1⟩

/-- What is listed has all that it waits for listed. -/
def Cl (ds : List DOp) (listed : Array Bool) : Prop := ∀ (j : Nat) dj, ds[j]? = some dj → listed.getD j false = true → ∀ k, hasDep dj.deps k → listed.getD k false = true
/-- The numbers say what they should. -/
def Masks (ops : Array Oper) (ds : List DOp) : Prop := ∀ (j : Nat) (o : Oper) dj, ops[j]? = some o → ds[j]? = some dj → ∀ k, hasDep dj.deps k → ∃ e ∈ o.after, Region.binds .any e = true ∧ (e.on = k ∨ ∃ dk, ds[e.on]? = some dk ∧ hasDep dk.deps k)

theorem ready_deps (hm : Masks ops ds) {listed : Array Bool} (hc : Cl ds listed) {j : Nat} {dj : DOp} (hj : j ∈ Region.ready .any ops listed) (hdj : ds[j]? = some dj) {k : Nat} (hk : hasDep dj.deps k) : listed.getD k false = true := by
  obtain ⟨_, o, ho, hall⟩ := mem_ready.1 hj
  obtain ⟨e, he, hb, h⟩ := hm j o dj ho hdj k hk
  have h1 := hall e he hb
  rcases h with rfl | ⟨dk, hdk, hk'⟩
  · exact h1
  · exact hc e.on dk hdk h1 k hk'
theorem cl_set (hm : Masks ops ds) {listed : Array Bool} (hc : Cl ds listed) {j : Nat} (hj : j ∈ Region.ready .any ops listed) : Cl ds (listed.setIfInBounds j true) := by
  intro i di hdi hi k hk
  by_cases hij : j = i
  · subst hij; exact getD_set_true (ready_deps hm hc hj hdi hk)
  · rw [getD_set_ne false hij] at hi
    exact getD_set_true (hc i di hdi hi k hk)

/-- An operation that may come up now may be taken first, if every other that has not come up yet waits for it or touches none of its slots. -/
theorem AAny_first {i : Nat} {d : DOp} {x : EV} {f : FP} (hi : ds[i]? = some d) (hm : Masks ops ds)
    (hlen : ds.length = ops.size) :
    ∀ (fuel : Nat) (listed : Array Bool) (F : Done) (E : Env) (σ : Heap), Cl ds listed →
      (∀ (j : Nat) dj, ds[j]? = some dj → j ≠ i → listed.getD j true = false → ¬ hasDep dj.deps i → d.apart dj = true) →
      i ∈ Region.ready .any ops listed → Step P N n0 d E σ x f → (∀ j g, F j g → hasDep d.deps j ∨ compat g f) →
      AAny P N n0 ops ds K fuel (listed.setIfInBounds i true) (F.add i f) (putE d.p.dst x E) (f.apply σ) → AAny P N n0 ops ds K (fuel + 1) listed F E σ := by
  intro fuel
  induction fuel with
  | zero =>
    intro listed F E σ hc _ hr hs hF H
    refine ⟨fun h => (by rw [h] at hr; cases hr), fun j hj => ?_⟩
    by_cases hji : j = i
    · subst hji; exact ⟨d, x, f, hi, hs, hF, H⟩
    · have := ready_mono hj hji
      rw [H.1] at this
      cases this
  | succ fuel ih =>
    intro listed F E σ hc hfree hr hs hF H
    refine ⟨fun h => (by rw [h] at hr; cases hr), fun j hj => ?_⟩
    by_cases hji : j = i
    · subst hji; exact ⟨d, x, f, hi, hs, hF, H⟩
    · obtain ⟨dj, y, f', hdj, hsj, hFj, Hj⟩ := H.2 j (ready_mono hj hji)
      obtain ⟨hjun, oj, hoj, hall⟩ := mem_ready.1 hj
      have hnot : ¬ hasDep dj.deps i := fun hin => by
        have h1 := ready_deps hm hc hj hdj hin
        have h0 := (mem_ready.1 hr).1
        rcases Nat.lt_or_ge i listed.size with h' | h'
        · simp [h'] at h0 h1; rw [h0] at h1; cases h1
        · simp [Array.getElem?_eq_none h'] at h1
      have hcc : compat f f' := (hFj i f (.inl ⟨rfl, rfl⟩)).resolve_left hnot
      obtain ⟨s1, s2, s3, s4⟩ := step_swap (hfree j dj hdj hji hjun hnot) hs hsj hcc
      refine ⟨dj, y, f', hdj, s1, fun k g hg => hFj k g (.inr hg), ?_⟩
      refine ih (listed.setIfInBounds j true) (F.add j f') (putE dj.p.dst y E) (f'.apply σ) (cl_set hm hc hj) (fun k dk hk hki hun hno => ?_) (ready_mono hr (Ne.symm hji)) s2 (fun k g hg => ?_) ?_
      · refine hfree k dk hk hki ?_ hno
        by_cases hjk : j = k
        · subst hjk; exact hjun
        · rw [getD_set_ne true hjk] at hun; exact hun
      · rcases hg with ⟨rfl, rfl⟩ | hg
        · exact .inr (compat_symm hcc)
        · exact hF k g hg
      · rw [Array.setIfInBounds_comm _ _ hji, ← s3]
        refine AAny.congr _ _ _ _ _ _ _ s4 (fun k g hg => ?_) Hj
        rcases hg with h | h | h
        · exact .inr (.inl h)
        · exact .inl h
        · exact .inr (.inr h)

theorem loOf_bad {o : AObj} {r : Option (Nat × Nat)} (hl : o = .hole) {g : Nat} (hr : r = none) : loOf o r g = .bad := by
  subst hl; subst hr; unfold loOf; simp [AObj.gen]

/-- An object that was made is put where a hole was. -/
theorem OpQ.move {a : Act} {w : World} {ρ : Locs} {E : Env} {σ : Heap} {d : Option Tmp} {v : Nat → AV} {obj : AObj} {j : Nat} (hst : St N a w ρ E σ) (hj : σ[j]? = some .hole) (hg : obj.gen = 0) (ho : obj.allI (· < σ.length)) (hho : obj ≠ .hole)
    (hv : (∃ n, v = fun k => .os k 0 0 n) ∨ v = fun k => .ptr k 0 0 0) {a' : Act} {w' : World} (h : OpQ N w (lm σ ρ) (fun E' σ' => E' = putE d ⟨true, v σ.length⟩ E ∧ σ' = σ ++ [obj]) a' w') :
    OpQ N w (lm σ ρ) (fun E' σ' => E' = putE d ⟨true, v j⟩ E ∧ σ' = σ.set j obj) a' w' := by
  obtain ⟨E', σ', ρ', h1, h2, rfl, rfl⟩ := h
  have hlen : ρ'.length = σ.length + 1 := by rw [h1.heap.len]; simp
  obtain ⟨ρ1, r, rfl, hl1⟩ : ∃ ρ1 r, ρ' = ρ1 ++ [r] ∧ ρ1.length = σ.length := by
    refine ⟨ρ'.take σ.length, ρ'[σ.length]'(by omega), ?_, by simp; omega⟩
    conv => lhs; rw [← List.take_append_drop σ.length ρ', List.drop_eq_getElem_cons (by omega), List.drop_eq_nil_of_le (by omega)]
  have hjl := (List.getElem?_eq_some_iff.1 hj).1
  have hjr : ρ1[j]? = some none := by
    have hr := List.getElem?_eq_getElem (l := ρ1) (i := j) (by omega)
    have := h1.heap.obj j .hole ρ1[j] (by rw [List.getElem?_append_left hjl]; exact hj) (by rw [List.getElem?_append_left (by omega)]; exact hr)
    simp only [ObjOK] at this
    rw [hr, this]
  have L1j : ∀ g, lm (σ ++ [obj]) (ρ1 ++ [r]) j g = .bad := fun g => by
    rw [lm_push_old hl1 hjl]; unfold lm; rw [hj, hjr]; exact loOf_bad rfl rfl
  have L1n : ∀ g, lm (σ ++ [obj]) (ρ1 ++ [r]) σ.length g = loOf obj r g := fun g => lm_push_new hl1
  have L2j : ∀ g, lm (σ.set j obj) (ρ1.set j r) j g = loOf obj r g := fun g => by
    unfold lm; rw [List.getElem?_set_self hjl, List.getElem?_set_self (by omega)]
  have L2o : ∀ i g, i ≠ j → i ≠ σ.length → lm (σ.set j obj) (ρ1.set j r) i g = lm (σ ++ [obj]) (ρ1 ++ [r]) i g := fun i g hij hin => by
    by_cases hi : i < σ.length
    · rw [lm_push_old hl1 hi]; unfold lm; rw [List.getElem?_set_ne (Ne.symm hij), List.getElem?_set_ne (Ne.symm hij)]
    · rw [lm_push_bad (σ := σ ++ [obj]) (by simp; omega), lm_push_bad (by simp; omega)]
  have htr : TrV (· < σ.length) w' (lm (σ ++ [obj]) (ρ1 ++ [r])) w' (lm (σ.set j obj) (ρ1.set j r)) := by
    refine ⟨rfl, rfl, Nat.le_refl _, fun _ _ _ => rfl, fun b hb => ?_, fun i g hi hg => .inl ?_⟩
    · obtain ⟨i, g, e, sz, hb⟩ := hb
      by_cases hij : i = j
      · subst hij; rw [L2j, ← L1n] at hb; exact .inl ⟨_, _, _, _, hb⟩
      · by_cases hin : i = σ.length
        · subst hin
          rw [lm_push_bad (by simp)] at hb; cases hb
        · rw [L2o i g hij hin] at hb; exact .inl ⟨_, _, _, _, hb⟩
    · by_cases hij : i = j
      · subst hij; exact absurd (L1j g) hg
      · exact L2o i g hij (by omega)
  have hwf : WfH σ.length (σ ++ [obj]) := by
    intro o hom
    rcases List.mem_append.1 hom with h | h
    · exact hst.heap.wf o h
    · rw [List.mem_singleton] at h; subst h; exact ho
  have hh : HeapOK w' (σ.set j obj) (ρ1.set j r) := by
    refine ⟨by simp [hl1], fun i o r' hoi hri => ?_, fun i k b s s' hi hk => ?_, h1.heap.glob.tr htr⟩
    · by_cases hij : i = j
      · subst hij
        rw [List.getElem?_set_self hjl] at hoi
        rw [List.getElem?_set_self (by omega)] at hri
        cases hoi; cases hri
        exact (h1.heap.obj σ.length obj r (by simp) (by rw [List.getElem?_append_right (by omega)]; simp [hl1])).trV htr ho (fun _ _ _ => rfl)
      · rw [List.getElem?_set_ne (Ne.symm hij)] at hoi hri
        have hil := (List.getElem?_eq_some_iff.1 hoi).1
        exact (h1.heap.obj i o r' (by rw [List.getElem?_append_left hil]; exact hoi) (by rw [List.getElem?_append_left (by omega)]; exact hri)).trV htr (hwf o (List.mem_append_left _ (List.mem_of_getElem? hoi))) (fun _ _ _ => rfl)
    · have up : ∀ {i b s}, (ρ1.set j r)[i]? = some (some (b, s)) → ∃ i', (ρ1 ++ [r])[i']? = some (some (b, s)) ∧ (i = j → i' = σ.length) ∧ (i ≠ j → i' = i ∧ i < σ.length) := by
        intro i b s hi
        by_cases hij : i = j
        · subst hij
          rw [List.getElem?_set_self (by omega)] at hi
          exact ⟨σ.length, by rw [List.getElem?_append_right (by omega)]; simp [hl1]; simpa using hi, fun _ => rfl, fun h => absurd rfl h⟩
        · rw [List.getElem?_set_ne (Ne.symm hij)] at hi
          have hil := (List.getElem?_eq_some_iff.1 hi).1
          exact ⟨i, by rw [List.getElem?_append_left hil]; exact hi, fun h => absurd h hij, fun _ => ⟨rfl, by omega⟩⟩
      obtain ⟨i', h3, h4, h5⟩ := up hi
      obtain ⟨k', h6, h7, h8⟩ := up hk
      have := h1.heap.inj i' k' b s s' h3 h6
      by_cases hij : i = j
      · by_cases hkj : k = j
        · rw [hij, hkj]
        · have := h4 hij; have := h8 hkj; omega
      · by_cases hkj : k = j
        · have := h7 hkj; have := h5 hij; omega
        · have := h5 hij; have := h8 hkj; omega
  refine ⟨_, _, ρ1.set j r, ⟨h1.tmps, h1.defers, fun t x ht => ?_, hh⟩, ?_, rfl, rfl⟩
  · rw [putE_get] at ht
    by_cases hdt : d = some t
    · rw [if_pos hdt] at ht
      cases ht
      obtain ⟨y, hy, hok⟩ := h1.env t ⟨true, v σ.length⟩ (by rw [putE_get, if_pos hdt])
      refine ⟨y, hy, ?_⟩
      simp only [EV.ok, if_true] at hok ⊢
      rcases hv with ⟨n, rfl⟩ | rfl
      · simp only [Rep] at hok ⊢
        rw [L2j, ← L1n]; exact hok
      · simp only [Rep] at hok ⊢
        rw [L2j, ← L1n]; exact hok
    · rw [if_neg hdt] at ht
      obtain ⟨y, hy, hok⟩ := h1.env t x (by rw [putE_get, if_neg hdt]; exact ht)
      refine ⟨y, hy, ?_⟩
      obtain ⟨y0, _, hok0⟩ := hst.env t x ht
      unfold EV.ok at *
      split
      · rename_i hc
        rw [if_pos hc] at hok hok0
        exact Rep.trV htr _ _ (Rep.ids (fun i g hg => lm_lt hg) _ _ hok0) hok
      · rename_i hc
        rw [if_neg hc] at hok; exact hok
  · refine ⟨h2.os, h2.output, h2.size, h2.keep, fun b hb => ?_, fun i g hv hg => ?_⟩
    · rcases htr.own b hb with h | h
      · exact h2.own b h
      · exact .inr (Nat.le_trans h2.size h)
    · have hi := lm_lt hg
      rcases h2.loc i g trivial hg with h3 | h3
      · rcases htr.loc i g hi (by rw [h3]; exact hg) with h4 | h4
        · exact .inl (h4.trans h3)
        · exact .inr h4
      · rcases htr.loc i g hi (by rw [h3]; simp) with h4 | h4
        · exact .inr (h4.trans h3)
        · exact .inr h4

theorem aop_move {o : POp} {E : Env} {σ : Heap} {v : Nat → AV} {obj : AObj} {j : Nat} (hj : σ[j]? = some .hole) (hg : obj.gen = 0) (ho : ∀ a w ρ, St N a w ρ E σ → obj.allI (· < σ.length)) (hho : obj ≠ .hole)
    (hv : (∃ n, v = fun k => .os k 0 0 n) ∨ v = fun k => .ptr k 0 0 0) (h : AOp P N o E σ (fun E' σ' => E' = putE o.dst ⟨true, v σ.length⟩ E ∧ σ' = σ ++ [obj])) :
    AOp P N o E σ (fun E' σ' => E' = putE o.dst ⟨true, v j⟩ E ∧ σ' = σ.set j obj) := by
  intro a w ρ hst
  have := h a w ρ hst
  split
  · rename_i hw
    rw [if_pos hw] at this
    exact Oper.wp_mono (fun _ _ H => OpQ.move hst hj hg (ho _ _ _ hst) hho hv H) this
  · rename_i hw
    rw [if_neg hw] at this
    exact OpQ.move hst hj hg (ho a _ _ hst) hho hv this

/-- A step's operation, carried out. -/
theorem Step.sound {d : DOp} {E : Env} {σ : Heap} {x : EV} {f : FP} (h : Step P N n0 d E σ x f) : AOp P N d.p E σ (fun E' σ' => E' = putE d.p.dst x E ∧ σ' = f.apply σ) := by
  have hput : ∀ {x : EV} {σ' : Heap}, dstOK N d.p.dst → putK N d.p.dst x (fun E' σ'' => E' = putE d.p.dst x E ∧ σ'' = σ') E σ' := by
    intro x σ' hd
    cases hdst : d.p.dst with
    | none => exact ⟨rfl, rfl⟩
    | some t => rw [hdst] at hd; exact ⟨hd, rfl, rfl⟩
  cases h with
  | pure hg ha hs hd => exact aop_pure hg ha hs (hput hd)
  | pick hg ho hc hr hs hd => exact aop_pick hg ho hc hr hs (hput hd)
  | call hg ho hc hs hd => exact aop_call_guarded hg ho hc _ (fun hG => ⟨(hs hG).1, (hs hG).2 σ⟩) (hput hd)
  | @alloc t ti k hg ho ht hk hh hd =>
    intro a w ρ hst
    rw [gcond_sound hst (gcond_none hg)]
    obtain ⟨z, hz, hzero, hfit⟩ := tinf_zero ht w
    obtain ⟨h1, h2, h3⟩ := hst.heap.fill hh ti.size [ti.zero] z.cells.toList [] t (0, 0) (fun off _ => by simp) ⟨z, [], by simp, hfit.2, by rw [hzero]; exact rep_cav _ _ z, rfl⟩
    have hrun : (execOp a.eval d.p.oper).run P w = .ok (.value (.pointer (some ⟨w.heap.size, 0, none⟩))) (w.alloc (.cells (z.cells.toList ++ []).toArray t (0, 0))) := by
      simp [execOp, POp.oper, ho, Instr.alloc, hz, newVar, newRow]
    simp only [if_true, Oper.wp, hrun, Oper.upon]
    exact OpQ.of hst (Tr.refl _ _) h2 h1 (by simp only [EV.ok, Rep, if_true]; rw [h3]; simp [ptrAt]) (hput hd)
  | build hg ho hb hs hd => exact aop_build hg ho hb hs (hput hd)
  | @buildSlice t e len k parts ti te es hg ho ht hk hte hlen hb hs hr hh hd =>
    refine aop_move (v := fun k => .os k 0 0 _) hh rfl (fun a w ρ hst => ?_) (by simp) (.inl ⟨_, rfl⟩) (aop_buildSlice hg ho ht hk hte hlen hb hs (hput hd))
    have hc := opsC_iff.1 hs
    obtain ⟨z, hz, hzero, hfit⟩ := tinf_zero hte w
    have hp := repP_of (w := w) (L := lm σ ρ) (ev := fun x => (lk E x).a) (ec := a.eval) (l := parts.toList) fun p hp => hst.val p.2 (hc p.2 (by simp only [ho, Op.operands]; simp; exact ⟨p.1, by simpa using hp⟩))
    have hrz : Rep w (lm σ ρ) te.zero z := by rw [hzero]; exact rep_cav _ _ z
    obtain ⟨xs, h1, h2, h3⟩ := fillE_sound hb hp (repE_replicate hrz hfit.2 len)
    exact RepE.ids (fun i g hg => lm_lt hg) _ _ _ h2
  | box hg ho hn hs hr hh hd =>
    refine aop_move (v := fun k => .ptr k 0 0 0) hh rfl (fun a w ρ hst => ?_) (by simp) (.inr rfl) (aop_box (gcond_none hg) ho hn hs (hput hd))
    exact ⟨Rep.ids (fun i g hg => lm_lt hg) _ _ (hst.val _ (opsC_iff.1 hs _ (by simp [ho, Op.operands]))), trivial⟩
  | appOs hg ho ht hk ht' hk' hte hx hi hsrc hs hd => exact aop_append_os (gcond_none hg) ho ht hk ht' hk' hte hx hi hsrc hs (hput hd)
  | appNil hg ho ht hk ht' hk' hte hx hsrc hs hr hh hd =>
    refine aop_move (v := fun k => .os k 0 0 _) hh rfl (fun a w ρ hst => ?_) (by simp) (.inl ⟨_, rfl⟩) (aop_append_nil (gcond_none hg) ho ht hk ht' hk' hte hx hsrc hs (hput hd))
    obtain ⟨cs, h1, _⟩ := asrc_sound (P := P) hst.heap hsrc hs.2.1 (hst.val _ (opsC_iff.1 hs.1 _ (by simp [ho, Op.operands, Call.operands])))
    exact RepE.ids (fun i g hg => lm_lt hg) _ _ _ h1
  | store hg ho ht hp hi hkl hsz hput' hs hd => exact aop_store (gcond_none hg) ho ht hp hi hkl hsz hput' hs ⟨by rw [hd]; rfl, rfl⟩ hd

end
end Go.Ab
