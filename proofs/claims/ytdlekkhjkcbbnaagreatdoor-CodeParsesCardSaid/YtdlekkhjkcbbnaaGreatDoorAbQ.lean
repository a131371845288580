/-
  Maps that the walk makes: make, look up, store, under a law of the key's type.
-/
import Derived.Test.YtdlekkhjkcbbnaaGreatDoorAbP
set_option linter.unusedVariables false
set_option linter.unusedSimpArgs false
set_option linter.unusedSectionVars false
namespace Go.Ab
open Go
variable [GlobFacts]

/-- Keys of a type, those that are V: '==' is equality. -/
structure KeyLaw (P : Program) (kt : TypeId) (V : Value → Prop) : Prop where
  eq : ∀ a b w, V a → V b → ∃ c, (Op.equal kt a b).run P w = .ok c w ∧ (c = true ↔ a = b)
  chk : ∀ e a w, V a → (Instr.checkKey e 10000 kt a).run P w = .ok () w
  now : ∀ d, P.underlying kt = some d → ∀ a b, V a → V b → Instr.sameNow d a b = none ∨ ∃ c, Instr.sameNow d a b = some c ∧ (c = true ↔ a = b)
  bits : ∀ a, V a → Instr.sameBits 10000 a a = true

open Classical in
noncomputable def mfind (k : Value) : List (Value × AV) → Option AV
  | [] => none
  | (a, v) :: r => if a = k then some v else mfind k r

open Classical in
noncomputable def mset (k : Value) (v : AV) : List (Value × AV) → List (Value × AV)
  | [] => [(k, v)]
  | (a, u) :: r => if a = k then (a, v) :: r else (a, u) :: mset k v r

section
variable {P : Program} {w : World} {L : LM} {kt : TypeId} {V : Value → Prop}

/-- where a key is found, and what a store there makes -/
def FoundAt (w : World) (L : LM) (k : Value) (es : List (Value × AV)) (ms : List MapEntry) (i : Nat) (r : Option (Nat × Value)) : Prop :=
  match mfind k es with
  | none => r = none ∧ ∀ u x b, Rep w L u x → mapRep w L (mset k u es) (ms ++ [{ key := k, val := x, born := b }])
  | some v => ∃ j m, r = some (i + j, m.val) ∧ ms[j]? = some m ∧ m.key = k ∧ Rep w L v m.val ∧ ∀ u x, Rep w L u x → mapRep w L (mset k u es) (ms.modify j fun e => { e with key := k, val := x })

theorem foundAt_cons {k : Value} {a : Value} {v : AV} {es : List (Value × AV)} {m : MapEntry} {ms : List MapEntry} {i : Nat} {r : Option (Nat × Value)} (hm : m.key = a) (hr : Rep w L v m.val) (hne : a ≠ k) (h : FoundAt w L k es ms (i + 1) r) : FoundAt w L k ((a, v) :: es) (m :: ms) i r := by
  unfold FoundAt at *
  simp only [mfind, if_neg hne, mset] at *
  cases hf : mfind k es with
  | none =>
    rw [hf] at h
    exact ⟨h.1, fun u x b hu => ⟨m, _, rfl, hm, hr, h.2 u x b hu⟩⟩
  | some v' =>
    rw [hf] at h
    obtain ⟨j, m', h1, h2, h3, h4, h5⟩ := h
    exact ⟨j + 1, m', by rw [h1]; congr 2; omega, by simpa using h2, h3, h4, fun u x hu => ⟨m, _, by simp, hm, hr, h5 u x hu⟩⟩

theorem foundAt_here {k : Value} {v : AV} {es : List (Value × AV)} {m : MapEntry} {ms : List MapEntry} {i : Nat} (hm : m.key = k) (hr : Rep w L v m.val) (hs : mapRep w L es ms) : FoundAt w L k ((k, v) :: es) (m :: ms) i (some (i, m.val)) := by
  unfold FoundAt
  simp only [mfind, if_true, mset]
  exact ⟨0, m, rfl, rfl, hm, hr, fun u x hu => ⟨{ m with key := k, val := x }, ms, by simp, rfl, hu, hs⟩⟩

theorem findAsking_run (law : KeyLaw P kt V) {k : Value} (hk : V k) : ∀ {es : List (Value × AV)} {ms : List MapEntry} (i : Nat), mapRep w L es ms → (∀ p ∈ es, V p.1) → ∃ r, (Instr.findAsking kt k ms i).run P w = .ok r w ∧ FoundAt w L k es ms i r
  | [], ms, i, h, _ => by
    simp only [mapRep] at h; subst h
    exact ⟨none, by simp [Instr.findAsking], by simp only [FoundAt, mfind, mset]; exact ⟨trivial, fun u x b hu => ⟨_, [], rfl, rfl, hu, rfl⟩⟩⟩
  | (a, v) :: es, ms, i, h, hV => by
    obtain ⟨m, ms', rfl, hm, hr, hs⟩ := h
    obtain ⟨c, hc, hiff⟩ := law.eq k m.key w hk (by rw [hm]; exact hV _ List.mem_cons_self)
    by_cases hka : k = m.key
    · have : c = true := hiff.2 hka
      subst this
      refine ⟨some (i, m.val), by simp [Instr.findAsking, hc], ?_⟩
      have : a = k := by rw [hka, hm]
      subst this
      exact foundAt_here hm hr hs
    · have : c = false := by cases c with | false => rfl | true => exact absurd (hiff.1 rfl) hka
      subst this
      obtain ⟨r, h1, h2⟩ := findAsking_run law hk (i + 1) hs (fun p hp => hV p (List.mem_cons_of_mem _ hp))
      exact ⟨r, by simp [Instr.findAsking, hc, h1], foundAt_cons hm hr (fun e => hka (by rw [hm, e])) h2⟩

theorem findNow_run (law : KeyLaw P kt V) {d : TypeDesc} (hd : P.underlying kt = some d) {k : Value} (hk : V k) : ∀ {es : List (Value × AV)} {ms : List MapEntry} (i : Nat), mapRep w L es ms → (∀ p ∈ es, V p.1) →
    Instr.findNow d k ms i = none ∨ ∃ r, Instr.findNow d k ms i = some r ∧ FoundAt w L k es ms i r
  | [], ms, i, h, _ => by
    simp only [mapRep] at h; subst h
    exact .inr ⟨none, rfl, by simp only [FoundAt, mfind, mset]; exact ⟨trivial, fun u x b hu => ⟨_, [], rfl, rfl, hu, rfl⟩⟩⟩
  | (a, v) :: es, ms, i, h, hV => by
    obtain ⟨m, ms', rfl, hm, hr, hs⟩ := h
    rcases law.now d hd k m.key hk (by rw [hm]; exact hV _ List.mem_cons_self) with h0 | ⟨c, hc, hiff⟩
    · exact .inl (by simp [Instr.findNow, h0])
    · by_cases hka : k = m.key
      · have : c = true := hiff.2 hka
        subst this
        refine .inr ⟨some (i, m.val), by simp [Instr.findNow, hc], ?_⟩
        have : a = k := by rw [hka, hm]
        subst this
        exact foundAt_here hm hr hs
      · have : c = false := by cases c with | false => rfl | true => exact absurd (hiff.1 rfl) hka
        subst this
        rcases findNow_run law hd hk (i + 1) hs (fun p hp => hV p (List.mem_cons_of_mem _ hp)) with h1 | ⟨r, h1, h2⟩
        · exact .inl (by simp [Instr.findNow, hc, h1])
        · exact .inr ⟨r, by simp [Instr.findNow, hc, h1], foundAt_cons hm hr (fun e => hka (by rw [hm, e])) h2⟩

theorem findKey_run (law : KeyLaw P kt V) {d : TypeDesc} (hd : P.underlying kt = some d) {k : Value} (hk : V k) {es : List (Value × AV)} {ms : List MapEntry} (h : mapRep w L es ms) (hV : ∀ p ∈ es, V p.1) : ∃ r, (Instr.findKey kt k ms).run P w = .ok r w ∧ FoundAt w L k es ms 0 r := by
  rcases findNow_run law hd hk 0 h hV with h1 | ⟨r, h1, h2⟩
  · obtain ⟨r, h2, h3⟩ := findAsking_run law hk 0 h hV
    exact ⟨r, by simp [Instr.findKey, run_underlying' hd, h1, h2], h3⟩
  · exact ⟨r, by simp [Instr.findKey, run_underlying' hd, h1], h2⟩

end

section
variable {P : Program} {N : Nat} {o : POp} {E : Env} {σ : Heap} {K : Env → Heap → Prop}

theorem HeapOK.mapAt {w : World} {ρ : Locs} (h : HeapOK w σ ρ) {i g : Nat} {es : List (Value × AV)} (hi : σ[i]? = some (.map g es)) :
    ∃ b ms clock, lm σ ρ i g = .here b 0 0 ∧ ρ[i]? = some (some (b, 0)) ∧ w.heap[b]? = some (.map ms clock) ∧ mapRep w (lm σ ρ) es ms.toList := by
  have hlt := (List.getElem?_eq_some_iff.1 hi).1
  have hr : ρ[i]? = some (ρ[i]'(by rw [h.len]; exact hlt)) := List.getElem?_eq_getElem _
  have hob := h.obj i _ _ hi hr
  cases hc : ρ[i]'(by rw [h.len]; exact hlt) with
  | none => rw [hc] at hob; exact hob.elim
  | some p =>
    obtain ⟨b, sz⟩ := p
    rw [hc] at hob hr
    obtain ⟨rfl, ms, cl, h1, h2⟩ := hob
    exact ⟨b, ms, cl, by simp [lm, hi, hr, loOf, AObj.gen], hr, h1, h2⟩

theorem aop_makeMap {t : TypeId} (hg : gcond E o = some true) (ho : o.op = .makeMap t none) (hK : putK N o.dst ⟨true, .mp σ.length 0⟩ K E (σ ++ [.map 0 []])) : AOp P N o E σ K := by
  intro a w ρ hst
  rw [gcond_sound hst hg]
  have htr := tr_push hst.heap (.map #[] 0) (.map 0 []) 0
  have hh := hst.heap.add (o := .map 0 []) (r := some (w.heap.size, 0)) htr (fun b hb => RowKit.Below.heap_alloc w _ b hb) (fun i b s hi => hst.heap.lt hi) (fun b s hb => by cases hb; exact Nat.le_refl _)
    ⟨rfl, #[], 0, by show (w.heap.push _)[w.heap.size]? = _; simp, rfl⟩
  have hl : lm (σ ++ [.map 0 []]) (ρ ++ [some (w.heap.size, 0)]) σ.length 0 = .here w.heap.size 0 0 := by
    rw [lm_push_new hst.heap.len]; simp [loOf, AObj.gen]
  have hrun : (execOp a.eval o.oper).run P w = .ok (.value (.map (some w.heap.size))) (w.alloc (.map #[] 0)) := by
    simp [execOp, POp.oper, ho, Instr.makeMap]
  simp only [if_true, Oper.wp, hrun, Oper.upon]
  exact OpQ.of hst (Tr.refl _ _) htr hh (by simp only [EV.ok, Rep, if_true, hl]; rfl) hK

/-- what a lookup yields -/
noncomputable def mres (k : Value) (es : List (Value × AV)) (zero : AV) (ok : Bool) : AV :=
  match mfind k es, ok with
  | some v, true => .tup [v, .v (.bool true)]
  | some v, false => v
  | none, true => .tup [zero, .v (.bool false)]
  | none, false => zero

theorem does_lookup {w : World} {ρ : Locs} (hh : HeapOK w σ ρ) {V : Value → Prop} {t kt et : TypeId} {ti tk te : TI} (law : KeyLaw P kt V) (ht : tinf P t = some ti) (hk : ti.kind = .map kt et) (htk : tinf P kt = some tk) (hte : tinf P et = some te) {i g : Nat} {es : List (Value × AV)}
    (hi : σ[i]? = some (.map g es)) {k : Value} (hV : V k ∧ ∀ p ∈ es, V p.1) (ok : Bool) {u : Value} (hx : Rep w (lm σ ρ) (.mp i g) u) : Does P w (lm σ ρ) (Instr.lookup t u k ok) (mres k es te.zero ok) := by
  obtain ⟨d, hd, hu⟩ := run_tinf ht w
  have hd' := tk_map (hd.symm.trans hk); subst hd'
  obtain ⟨dk, hdk, _, huk⟩ := tinf_underlying htk w
  obtain ⟨b, ms, cl, hl, hr, hb, hm⟩ := hh.mapAt hi
  simp only [Rep, hl, mpAt] at hx
  subst hx
  obtain ⟨r, hf, hfa⟩ := findKey_run (w := w) law hdk hV.1 hm hV.2
  obtain ⟨z, hz, hzero, hfit⟩ := tinf_zero hte w
  have hchk := law.chk ms.isEmpty k w hV.1
  have hget : (getObj b).run P w = .ok (.map ms cl) w := by simp [getObj, Sem.run, hb]
  unfold FoundAt at hfa
  unfold mres
  cases hfi : mfind k es with
  | none =>
    rw [hfi] at hfa
    obtain ⟨rfl, _⟩ := hfa
    have hrz : Rep w (lm σ ρ) te.zero z := by rw [hzero]; exact rep_cav _ _ z
    cases ok with
    | true => exact ⟨.tuple #[z, .bool false], by simp [Instr.lookup, hu, hget, hchk, hf, hz], [z, .bool false], rfl, z, _, rfl, hrz, _, _, rfl, rfl, rfl⟩
    | false => exact ⟨z, by simp [Instr.lookup, hu, hget, hchk, hf, hz], hrz⟩
  | some v =>
    rw [hfi] at hfa
    obtain ⟨j, m, rfl, _, _, hv, _⟩ := hfa
    cases ok with
    | true => exact ⟨.tuple #[m.val, .bool true], by simp [Instr.lookup, hu, hget, hchk, hf], [m.val, .bool true], rfl, _, _, rfl, hv, _, _, rfl, rfl, rfl⟩
    | false => exact ⟨m.val, by simp [Instr.lookup, hu, hget, hchk, hf], hv⟩

theorem aop_lookup {V : Value → Prop} {t kt et : TypeId} {ti tk te : TI} {x y : Operand} {ok : Bool} {i g : Nat} {es : List (Value × AV)} {k : Value} {G : Bool} (law : KeyLaw P kt V) (hg : gcond E o = some G) (ho : o.op = .lookup t x y ok) (ht : tinf P t = some ti) (hk : ti.kind = .map kt et) (htk : tinf P kt = some tk) (hte : tinf P et = some te)
    (hx : (lk E x).a = .mp i g) (hy : (lk E y).a = cav k) (hyk : cav k ≠ .any) (hi : σ[i]? = some (.map g es)) (hV : V k ∧ ∀ p ∈ es, V p.1) (hs : G = true → opsC E o.op.operands.toList)
    (hK : putK N o.dst ⟨G, mres k es te.zero ok⟩ K E σ) : AOp P N o E σ K := by
  refine aop_value hg (fun hG a w ρ hst => ?_) hK
  have hc := opsC_iff.1 (hs hG)
  have hx' := hst.val x (hc x (by simp [ho, Op.operands]))
  have hy' := hst.val y (hc y (by simp [ho, Op.operands]))
  rw [hx] at hx'; rw [hy] at hy'
  have hyv := cav_val hyk hy'
  obtain ⟨z, hz, hr⟩ := does_lookup hst.heap law ht hk htk hte hi hV ok hx'
  exact ⟨z, by simp [execOp, POp.oper, ho, hyv, hz], hr⟩
where
  repL_map_v_eq {w : World} {L : LM} : ∀ {xs ys : List Value}, RepL w L (xs.map .v) ys → ys = xs
    | [], ys, h => by simpa [RepL] using h
    | x :: xs, ys, h => by
      obtain ⟨y, ys', rfl, h1, h2⟩ := h
      simp only [Rep] at h1
      rw [h1, repL_map_v_eq h2]
  cav_val {w : World} {L : LM} {k u : Value} (hne : cav k ≠ .any) (h : Rep w L (cav k) u) : u = k := by
    unfold cav at h hne
    split at h
    · split at h
      · obtain ⟨ys, rfl, h1, _⟩ := h
        rw [repL_map_v_eq h1]
      · rename_i h1; simp [h1] at hne
    · obtain ⟨ys, rfl, h1⟩ := h
      rw [repL_map_v_eq h1]
    · exact h

theorem aop_mapUpdate {V : Value → Prop} {t kt et : TypeId} {ti tk : TI} {x y z : Operand} {i g : Nat} {es : List (Value × AV)} {k : Value} (law : KeyLaw P kt V) (hg : gcond E o = some true) (ho : o.op = .mapUpdate t x y z ∨ o.op = .insert t x y z) (ht : tinf P t = some ti) (hk : ti.kind = .map kt et) (htk : tinf P kt = some tk)
    (hx : (lk E x).a = .mp i g) (hy : (lk E y).a = cav k) (hyk : cav k ≠ .any) (hi : σ[i]? = some (.map g es)) (hV : V k ∧ ∀ p ∈ es, V p.1) (hs : opsC E o.op.operands.toList) (hd : o.dst = none)
    (hK : K E (σ.set i (.map g (mset k (lk E z).a es)))) : AOp P N o E σ K := by
  intro a w ρ hst
  rw [gcond_sound hst hg]
  have hc := opsC_iff.1 hs
  have hmem : ∀ q, q = x ∨ q = y ∨ q = z → q ∈ o.op.operands.toList := by
    intro q hq
    rcases ho with ho | ho <;> (rw [ho]; simp only [Op.operands]; rcases hq with rfl | rfl | rfl <;> simp)
  have hx' := hst.val x (hc x (hmem x (.inl rfl)))
  have hy' := hst.val y (hc y (hmem y (.inr (.inl rfl))))
  have hz' := hst.val z (hc z (hmem z (.inr (.inr rfl))))
  rw [hx] at hx'; rw [hy] at hy'
  have hyv := aop_lookup.cav_val hyk hy'
  obtain ⟨d, hdd, hu⟩ := run_tinf ht w
  have hd' := tk_map (hdd.symm.trans hk); subst hd'
  obtain ⟨dk, hdk, _, huk⟩ := tinf_underlying htk w
  obtain ⟨b, ms, cl, hl, hr, hb, hm⟩ := hst.heap.mapAt hi
  simp only [Rep, hl, mpAt] at hx'
  obtain ⟨r, hf, hfa⟩ := findKey_run (w := w) law hdk hV.1 hm hV.2
  have hchk := law.chk false k w hV.1
  have hget : (getObj b).run P w = .ok (.map ms cl) w := by simp [getObj, Sem.run, hb]
  have hset : ∀ ob, (setObj b ob).run P w = .ok () (wset w b ob) := fun ob => by simp [setObj, Sem.run, hb, wset]
  have hlt := hst.heap.lt hr
  -- what the new world is to the old one
  have hlm : ∀ es', lm (σ.set i (.map g es')) ρ = lm σ ρ := by
    intro es'
    funext j g'
    unfold lm
    by_cases hj : i = j
    · subst hj
      rw [List.getElem?_set_self (List.getElem?_eq_some_iff.1 hi).1, hi]
      cases ρ[i]? with
      | none => rfl
      | some r => cases r <;> rfl
    · rw [List.getElem?_set_ne hj]
  have hown : Owned (lm σ ρ) b := owned_of_loc hst.heap hr
  have fin : ∀ (ms' : Array MapEntry) (cl' : Nat) (es' : List (Value × AV)), mapRep w (lm σ ρ) es' ms'.toList → K E (σ.set i (.map g es')) → OpQ N w (lm σ ρ) K (a.put o.oper.dst undef) (wset w b (.map ms' cl')) := by
    intro ms' cl' es' hmr hk'
    have htr : Tr w (lm σ ρ) (wset w b (.map ms' cl')) (lm σ ρ) :=
      ⟨rfl, rfl, by simp, fun k _ ho => wset_other _ (fun e => ho (e ▸ hown)), fun _ h => .inl h, fun _ _ _ _ => .inl rfl⟩
    have htr' : Tr w (lm σ ρ) (wset w b (.map ms' cl')) (lm (σ.set i (.map g es')) ρ) := by rw [hlm]; exact htr
    refine OpQ.of (x := ⟨true, .any⟩) hst (Tr.refl _ _) htr' ⟨by simp [hst.heap.len], fun j ob r ho hrj => ?_, hst.heap.inj, hst.heap.glob.tr htr'⟩ (by simp [EV.ok, Rep]) (by show putK N o.dst _ K E _; rw [hd]; exact hk')
    rw [hlm]
    by_cases hj : i = j
    · subst hj
      rw [List.getElem?_set_self (List.getElem?_eq_some_iff.1 hi).1] at ho
      cases ho
      rw [hr] at hrj
      cases hrj
      exact ⟨rfl, ms', cl', wset_same _ hlt, mapRep.trV htr es' _ (fun x _ => AllI.all (fun _ => trivial) x.2) hmr⟩
    · rw [List.getElem?_set_ne hj] at ho
      refine (hst.heap.obj j ob r ho hrj).trV htr ?_ (fun b' s e => ?_)
      · cases ob with
        | dead g => trivial
        | hole => trivial
        | row g e es => exact AllIL.all (fun _ => trivial) es
        | tro g t e es => exact AllIL.all (fun _ => trivial) es
        | it g s n => trivial
        | map g es => exact fun x _ => AllI.all (fun _ => trivial) x.2
      · exact wset_other _ (ne_of_inj hst.heap hj hr (by rw [hrj, e]))
  simp only [if_true, Oper.wp]
  unfold FoundAt at hfa
  cases hfi : mfind k es with
  | none =>
    rw [hfi] at hfa
    obtain ⟨rfl, hmr⟩ := hfa
    have hrun : (execOp a.eval o.oper).run P w = .ok .skip (wset w b (.map (ms.push { key := k, val := a.eval z, born := cl }) (cl + 1))) := by
      rcases ho with ho | ho <;> simp [execOp, POp.oper, ho, Instr.mapUpdate, hu, hx', hyv, hget, hchk, hf, hset]
    simp only [hrun, Oper.upon]
    exact fin _ _ _ (by rw [Array.toList_push]; exact hmr _ _ _ hz') hK
  | some v =>
    rw [hfi] at hfa
    obtain ⟨j, m, rfl, hj, hmk, hv, hmr⟩ := hfa
    have hj' : ms[j]? = some m := by simpa using hj
    have hkeep : (Instr.keyThatStays k k).run P w = .ok k w := by simp [Instr.keyThatStays, law.bits k hV.1]
    have hrun : (execOp a.eval o.oper).run P w = .ok .skip (wset w b (.map (ms.modify j fun e => { e with key := k, val := a.eval z }) cl)) := by
      rcases ho with ho | ho <;> simp [execOp, POp.oper, ho, Instr.mapUpdate, hu, hx', hyv, hget, hchk, hf, hset, hj', hmk, hkeep]
    simp only [hrun, Oper.upon]
    exact fin _ _ _ (by rw [Array.toList_modify]; exact hmr _ _ hz') hK

end
end Go.Ab
