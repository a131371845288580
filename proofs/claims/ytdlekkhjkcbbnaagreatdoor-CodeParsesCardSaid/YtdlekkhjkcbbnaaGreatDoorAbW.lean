/-
  From the data of a statement to abstract values, and from a contract back to the statement.
  From a law about the world alone (of the kit's shelf) to a contract over the abstract heap.
-/
import Derived.Test.YtdlekkhjkcbbnaaGreatDoorAbU
import Derived.Deep.Slices
import Derived.ProofKit
import Derived.OpenShut
import Derived.SizedLaws
import Derived.Lib.SmallJoins
import Derived.Deep.Draws
import Derived.Sort.Grow
import Derived.FnData
import Derived.Lib.LaidTab
import Derived.Laws.StructEq
set_option linter.unusedVariables false
set_option linter.unusedSimpArgs false
set_option linter.unusedSectionVars false
namespace Go.Ab
open Go Go.ChangeShapes Go.WideShapes Go.Deep
variable [GlobFacts]

theorem heap_nil (w : World) (h : GlobOK w (lm [] [])) : HeapOK w [] [] := ⟨rfl, fun i o r h => by simp at h, fun i j b s s' h => by simp at h, h⟩
theorem owned_nil {b : Nat} : ¬ Owned (lm [] []) b := by rintro ⟨i, g, e, sz, h⟩; simp [lm] at h

theorem cells_app {w : World} {b off : Nat} {xs ys : List Value} (h : Cells w b off xs) (h' : Cells w b (off + xs.length) ys) : Cells w b off (xs ++ ys) := by
  intro j hj
  rw [List.length_append] at hj
  by_cases e : j < xs.length
  · rw [List.getElem?_append_left e]; exact h j e
  · rw [List.getElem?_append_right (by omega)]
    have := h' (j - xs.length) (by omega)
    rw [← this]; congr 2; omega

section
variable {H : Type} {enc : TypeId × Value → H} {P : Program} {W : World}

/-- **A slice that came in**, its elements read by f. -/
theorem arg_slice {t e : TypeId} {n : Nat} {α : Type} {p : α → Prop} {mk : α → AV} {v : Value} {d : DataW H} {ps : List MemPlace} {b0 : Nat}
    (ht : P.underlying t = some (.slice e)) (hn : P.cellsOf e = n)
    (he : ∀ fuel cs x, DataW.trod enc P W 0 (fun _ => true) true fuel e cs = some x → ∃ a, p a ∧ ∃ y : Value, y.cells.toList = cs ∧ (∀ c ∈ cs, cellV c = true) ∧ Rep W (lm [] []) (mk a) y)
    (hv : Value.okWide P W .any b0 t v) (h : DataW.Trod enc P W 0 (fun _ => true) true t v d ps) :
    ∃ l : List α, (∀ a ∈ l, p a) ∧ Rep W (lm [] []) (.sl n (l.map mk)) v ∧ (l = [] ∨ ∃ elems spare, d = .slice elems spare ∧ l.length = elems.length) := by
  obtain ⟨a, len, cap, rfl⟩ := okWide_slice ht hv
  obtain ⟨fuel, hf⟩ := h
  rcases open_slice ht hf with ⟨hcs, hx⟩ | ⟨a', len', cap', m, nn, D, Pl, hcs, hb, hl, hm, hmm, hx, hel⟩
  · simp [Value.cells] at hcs
    obtain ⟨rfl, rfl, rfl⟩ := hcs
    exact ⟨[], by simp, .inl ⟨rfl, rfl⟩, .inl rfl⟩
  · simp [Value.cells] at hcs
    obtain ⟨rfl, rfl, rfl⟩ := hcs
    simp only [Value.okWide, ht, Cell.okWide, Cell.ok] at hv
    obtain ⟨_, _, _, hspot, row, cells, hshape, _⟩ := hv
    obtain ⟨b, off, spot⟩ := a'
    simp only at hspot hshape; subst hspot
    have hbs : b < W.heap.size := by
      unfold World.shape? at hshape
      cases hh : W.heap[b]? with
      | none => rw [hh] at hshape; cases hshape
      | some o => exact (Array.getElem?_eq_some_iff.1 hh).1
    have key : ∀ k ≤ len, ∃ l : List α, l.length = k ∧ (∀ a ∈ l, p a) ∧ ∃ xs, RepE W (lm [] []) n (l.map mk) xs ∧ Cells W b off xs := by
      intro k
      induction k with
      | zero => exact fun _ => ⟨[], rfl, by simp, [], rfl, fun j hj => by simp at hj⟩
      | succ k ih =>
        intro hk
        obtain ⟨l, h1, h2, xs, h3, h4⟩ := ih (by omega)
        obtain ⟨cs', h5, h6⟩ := hel k (by rw [hmm]; simp; omega)
        obtain ⟨al, hp, y, hy, hcv, hrep⟩ := he nn cs' _ h6
        obtain ⟨_, h7, h8⟩ := World.cells?_some h5
        have hxl : xs.length = k * n := by have := (repE_get h3).1; rw [List.length_map, h1] at this; exact this
        refine ⟨l ++ [al], by simp [h1], fun a ha => ?_, xs ++ cs', ?_, cells_app h4 (fun j hj => ?_)⟩
        · rcases List.mem_append.1 ha with ha | ha
          · exact h2 a ha
          · rw [List.mem_singleton] at ha; subst ha; exact hp
        · rw [List.map_append]
          refine repE_append h3 ⟨y, [], by simp [hy], ⟨?_, by rw [hy]; exact hcv⟩, hrep, rfl⟩
          rw [← Array.length_toList, hy, h7, hn]
        · have := h8 j (by omega)
          rw [← this, hn, addr_add, addr_add, hxl]
    obtain ⟨l, h1, h2, xs, h3, h4⟩ := key len (Nat.le_refl _)
    refine ⟨l, h2, .inr ⟨b, off, cap, by rw [List.length_map, h1], by rw [List.length_map, h1]; exact hl, hbs, owned_nil, xs, h3, h4⟩, .inr ⟨_, _, congrArg Prod.fst hx, by simp [h1]⟩⟩

theorem el_int {e : TypeId} {k : IntKind} (ht : P.underlying e = some (.int k)) : ∀ fuel cs x, DataW.trod enc P W 0 (fun _ => true) true fuel e cs = some x → ∃ a : Int, (Lit.int k a).wf = true ∧ ∃ y : Value, y.cells.toList = cs ∧ (∀ c ∈ cs, cellV c = true) ∧ Rep W (lm [] []) (.v (.int k a)) y := by
  intro fuel cs x h
  obtain ⟨n, rfl, rfl, hw⟩ := DataW.trod_int ht h
  exact ⟨n, hw, .int k n, rfl, by simp [cellV], rfl⟩

/-- what was there is as it was -/
structure Old (W W' : World) : Prop where
  os : W'.os = W.os
  output : W'.output = W.output
  size : W.heap.size ≤ W'.heap.size
  block : ∀ k, k < W.heap.size → W'.heap[k]? = W.heap[k]?

theorem Old.frame {W W' : World} (h : Old W W') (may : MemPlace → Prop) : W.keptBut W' may := by
  refine ⟨h.os, h.output, fun i hi => ?_⟩
  rw [h.block i hi]
  split <;> simp_all
theorem Old.same {W W' : World} (h : Old W W') {p : MemPlace} (hp : p.block < W.heap.size) : W.sameAt W' p := by
  cases p with
  | cell b o => exact World.cell?_of_block (w := W) (h.block b hp)
  | map b => exact h.block b hp
theorem Old.trod {t : TypeId} (hl : laidOutB P = true) (hr : P.readableRec t = true) (hrow : t < P.types.size) {W W' : World} {v : Value} {d : DataW H} {ps : List MemPlace}
    (h : DataW.Trod enc P W 0 (fun _ => true) true t v d ps) (hb : Old W W') : DataW.Trod enc P W' 0 (fun b => decide (b < W.heap.size)) true t v d ps := by
  have hlt : ∀ x ∈ ps, x.block < W.heap.size := by obtain ⟨m, hm⟩ := h; exact DataW.trod_lt m _ _ _ hm
  exact WideElems.Trod_stays hl hr hrow h (fun x hx => hb.same (hlt x hx)) (fun x hx => by simpa using hlt x hx)

/-- **From a contract to the statement's call.** -/
theorem law_call {f : FuncId} {args : List AV} {vs : List Value} (hG : GlobOK W (lm [] [])) (h : ACalls P f args [] (fun r σ' => r = .v (.bool true) ∧ σ' = [])) (hr : RepL W (lm [] []) args vs) :
    Calls P f vs.toArray W fun e W' => e = .returned (.bool true) ∧ Old W W' := by
  refine (h.2 vs W [] (heap_nil W hG) hr).mono fun e W' H => ?_
  obtain ⟨v, r, σ', ρ', rfl, _, htr, hv, rfl, rfl⟩ := H
  simp only [Rep] at hv
  subst hv
  exact ⟨rfl, htr.os, htr.output, htr.size, fun k hk => htr.keep k hk owned_nil⟩
end
end Go.Ab
set_option linter.unusedVariables false
set_option linter.unusedSimpArgs false
set_option linter.unusedSectionVars false
namespace Go.Ab
open Go Go.ChangeShapes Go.WideShapes Go.Deep Go.RowKit
variable [GlobFacts]

theorem Old.refl (w : World) : Old w w := ⟨rfl, rfl, Nat.le_refl _, fun _ _ => rfl⟩
theorem Old.of_below {w w' : World} (h : Below w.heap.size w w') : Old w w' := ⟨h.os, h.output, h.size, h.block⟩
theorem Old.of_grow {w w' : World} {k : Nat} {os : Array Obj} (h : w' = Go.Sort.grow (w.drewN k) os) : Old w w' := by
  subst h
  exact ⟨rfl, rfl, by simp [Go.Sort.grow, World.drewN], fun j hj => by simp [Go.Sort.grow, World.drewN, Array.getElem?_append, hj]⟩

theorem Old.tr {w w' : World} (h : Old w w') (L : LM) : Tr w L w' L := ⟨h.os, h.output, h.size, fun b hb _ => h.block b hb, fun _ h => .inl h, fun _ _ _ _ => .inl rfl⟩

theorem HeapOK.old {w w' : World} {σ : Heap} {ρ : Locs} (h : HeapOK w σ ρ) (ho : Old w w') : HeapOK w' σ ρ := by
  have htr := ho.tr (lm σ ρ)
  refine ⟨h.len, fun i o r hoi hr => (h.obj i o r hoi hr).trV htr ?_ (fun b s e => ho.block b (h.lt (s := s) (hr.trans (congrArg some e)))), h.inj, h.glob.tr htr⟩
  cases o with
  | dead g => trivial
  | hole => trivial
  | row g e es => exact AllIL.all (fun _ => trivial) es
  | tro g t e es => exact AllIL.all (fun _ => trivial) es
  | it g s n => trivial
  | map g es => exact fun x _ => AllI.all (fun _ => trivial) x.2

/-- **From a law about the world alone**: what is returned is data, what was there is as it was. -/
theorem acalls_calls {P : Program} {f : FuncId} {args : List AV} {σ : Heap} {r : AV} (hc : ∀ (as : Array Value) w, (callFunc f as).run P w = .ok (.enter f as) w)
    (h : ∀ vs w ρ, HeapOK w σ ρ → RepL w (lm σ ρ) args vs → Calls P f vs.toArray w fun e w' => ∃ v, e = .returned v ∧ Old w w' ∧ (∀ w'', Rep w'' (lm σ ρ) r v)) : ACalls P f args σ (fun r' σ' => r' = r ∧ σ' = σ) := by
  refine ⟨hc, fun vs w ρ hh hr => (h vs w ρ hh hr).mono fun e w' ⟨v, he, ho, hv⟩ => ⟨v, r, σ, ρ, he, hh.old ho, ho.tr _, hv _, rfl, rfl⟩⟩

theorem repE_v1 {w : World} {L : LM} : ∀ {vs : List Value} {xs : List Value}, (∀ v ∈ vs, v.cells.toList = [v]) → RepE w L 1 (vs.map .v) xs → xs = vs
  | [], xs, _, h => h
  | v :: vs, xs, hv, h => by
    obtain ⟨y, zs, rfl, _, hy, hz⟩ := h
    obtain rfl : y = v := hy
    rw [hv y (by simp), repE_v1 (fun a ha => hv a (List.mem_cons_of_mem _ ha)) hz]
    rfl

theorem repE_v {w : World} {L : LM} : ∀ {vs : List Value}, (∀ v ∈ vs, v.cells.toList = [v] ∧ cellV v = true) → RepE w L 1 (vs.map .v) vs
  | [], _ => rfl
  | v :: vs, hv => by
    obtain ⟨h1, h2⟩ := hv v (by simp)
    exact ⟨v, vs, by rw [h1]; rfl, ⟨by rw [← Array.length_toList, h1]; rfl, by rw [h1]; simpa using h2⟩, rfl, repE_v fun a ha => hv a (List.mem_cons_of_mem _ ha)⟩

/-- **A table of numbers** that the program's variable g holds. -/
theorem tab_is {P : Program} {w : World} {name : String} {g : Nat} {cs : Array Value} {t : TypeId} {fr : Nat × Nat} {k : IntKind} {zs : List Int} (hg : P.globalNamed name = some g) (hh : w.heap[g]? = some (.cells cs t fr)) (hc : cs = (zs.map fun z => Value.int k z).toArray) :
    Lib.TabIs P w name k zs := by
  unfold Lib.TabIs World.var?
  rw [hg]
  simp [hh, hc]

/-- **Equality of structs**: by a law of the kind of struct. -/
theorem aop_eq {P : Program} {N : Nat} {o : POp} {E : Env} {σ : Heap} {K : Env → Heap → Prop} {G : Bool} {t u : TypeId} {x y : Operand} {cs ds : List Value} {b : Bool}
    (hg : gcond E o = some G) (ho : o.op = .binOp .eql t x y u) (hx : (lk E x).a = .agg (cs.map .v)) (hy : (lk E y).a = .agg (ds.map .v)) (hm : P.eqGuardType P.depth t = false)
    (he : ∀ w, (Op.equalIn 10000 t (.agg cs.toArray) (.agg ds.toArray)).run P w = .ok b w) (hs : G = true → opsC E o.op.operands.toList) (hk : putK N o.dst ⟨G, .v (.bool b)⟩ K E σ) : AOp P N o E σ K := by
  refine aop_value hg (fun hG a w ρ hst => ?_) hk
  have h := opsC_iff.1 (hs hG)
  rw [ho] at h
  have h1 := hst.val x (h x (by simp [Op.operands]))
  have h2 := hst.val y (h y (by simp [Op.operands]))
  rw [hx] at h1; rw [hy] at h2
  simp only [Rep] at h1 h2
  obtain ⟨xs, h1, r1, _⟩ := h1
  obtain ⟨ys, h2, r2, _⟩ := h2
  have key : ∀ (cs : List Value) (xs : List Value), RepL w (lm σ ρ) (cs.map .v) xs → xs = cs := by
    intro cs
    induction cs with
    | nil => intro xs h; exact h
    | cons c cs ih =>
      rintro _ ⟨y, ys, rfl, hy, hz⟩
      simp only [Rep] at hy
      rw [hy, ih _ hz]
  obtain rfl := key _ _ r1
  obtain rfl := key _ _ r2
  refine ⟨.bool b, ?_, rfl⟩
  simp [execOp, POp.oper, ho, h1, h2, run_eqGuard_agg w .eql t x y _ _ hm, run_eql_struct, he]

theorem aop_neq {P : Program} {N : Nat} {o : POp} {E : Env} {σ : Heap} {K : Env → Heap → Prop} {G : Bool} {t u : TypeId} {x y : Operand} {cs ds : List Value} {b : Bool}
    (hg : gcond E o = some G) (ho : o.op = .binOp .neq t x y u) (hx : (lk E x).a = .agg (cs.map .v)) (hy : (lk E y).a = .agg (ds.map .v)) (hm : P.eqGuardType P.depth t = false)
    (he : ∀ w, (Op.equalIn 10000 t (.agg cs.toArray) (.agg ds.toArray)).run P w = .ok b w) (hs : G = true → opsC E o.op.operands.toList) (hk : putK N o.dst ⟨G, .v (.bool (!b))⟩ K E σ) : AOp P N o E σ K := by
  refine aop_value hg (fun hG a w ρ hst => ?_) hk
  have h := opsC_iff.1 (hs hG)
  rw [ho] at h
  have h1 := hst.val x (h x (by simp [Op.operands]))
  have h2 := hst.val y (h y (by simp [Op.operands]))
  rw [hx] at h1; rw [hy] at h2
  simp only [Rep] at h1 h2
  obtain ⟨xs, h1, r1, _⟩ := h1
  obtain ⟨ys, h2, r2, _⟩ := h2
  have key : ∀ (cs : List Value) (xs : List Value), RepL w (lm σ ρ) (cs.map .v) xs → xs = cs := by
    intro cs
    induction cs with
    | nil => intro xs h; exact h
    | cons c cs ih =>
      rintro _ ⟨y, ys, rfl, hy, hz⟩
      simp only [Rep] at hy
      rw [hy, ih _ hz]
  obtain rfl := key _ _ r1
  obtain rfl := key _ _ r2
  refine ⟨.bool (!b), ?_, rfl⟩
  simp [execOp, POp.oper, ho, h1, h2, run_eqGuard_agg w .neq t x y _ _ hm, run_neq_struct, he]
end Go.Ab
