/-
  From a law about the world alone (of the kit's shelf) to a contract over the abstract heap.
-/
import Derived.Test.YtbinpbjeeiedhaaDoorAbV
import Derived.Deep.Draws
import Derived.Sort.Grow
import Derived.FnData
import Derived.Lib.LaidTab
import Derived.Laws.StructEq
set_option linter.unusedVariables false
set_option linter.unusedSimpArgs false
set_option linter.unusedSectionVars false
namespace Go.Ab
open Go Go.ChangeShapes Go.WideShapes Go.Deep Go.RowKit
variable [GlobFacts]

theorem Old.refl (w : World) : Old w w := ⟨rfl, rfl, Nat.le_refl _, fun _ _ => rfl⟩
theorem Old.of_below {w w' : World} (h : Below w.heap.size w w') : Old w w' := ⟨h.os, h.output, h.size, h.block⟩
theorem Old.of_grow {w w' : World} {k : Nat} {os : Array Obj} (h : w' = Go.Sort.grow (w.drewN k) os) : Old w w' := by
  subst h
  exact ⟨rfl, rfl, by simp [Go.Sort.grow, World.drewN], fun j hj => by simp [Go.Sort.grow, World.drewN, Array.getElem?_append, hj]⟩

theorem Old.tr {w w' : World} (h : Old w w') (L : LM) : Tr w L w' L := ⟨h.os, h.output, h.size, fun b hb _ => h.block b hb, fun _ h => .inl h, fun _ _ _ _ => .inl rfl⟩

theorem HeapOK.old {w w' : World} {σ : Heap} {ρ : Locs} (h : HeapOK w σ ρ) (ho : Old w w') : HeapOK w' σ ρ := by
  have htr := ho.tr (lm σ ρ)
  refine ⟨h.len, fun i o r hoi hr => (h.obj i o r hoi hr).trV htr ?_ (fun b s e => ho.block b (h.lt (s := s) (hr.trans (congrArg some e)))), h.inj, h.glob.tr htr⟩
  cases o with
  | dead g => trivial
  | hole => trivial
  | row g e es => exact AllIL.all (fun _ => trivial) es
  | map g es => exact fun x _ => AllI.all (fun _ => trivial) x.2

/-- **From a law about the world alone**: what is returned is data, what was there is as it was. -/
theorem acalls_calls {P : Program} {f : FuncId} {args : List AV} {σ : Heap} {r : AV} (hc : ∀ (as : Array Value) w, (callFunc f as).run P w = .ok (.enter f as) w)
    (h : ∀ vs w ρ, HeapOK w σ ρ → RepL w (lm σ ρ) args vs → Calls P f vs.toArray w fun e w' => ∃ v, e = .returned v ∧ Old w w' ∧ (∀ w'', Rep w'' (lm σ ρ) r v)) : ACalls P f args σ (fun r' σ' => r' = r ∧ σ' = σ) := by
  refine ⟨hc, fun vs w ρ hh hr => (h vs w ρ hh hr).mono fun e w' ⟨v, he, ho, hv⟩ => ⟨v, r, σ, ρ, he, hh.old ho, ho.tr _, hv _, rfl, rfl⟩⟩

theorem repE_v1 {w : World} {L : LM} : ∀ {vs : List Value} {xs : List Value}, (∀ v ∈ vs, v.cells.toList = [v]) → RepE w L 1 (vs.map .v) xs → xs = vs
  | [], xs, _, h => h
  | v :: vs, xs, hv, h => by
    obtain ⟨y, zs, rfl, _, hy, hz⟩ := h
    obtain rfl : y = v := hy
    rw [hv y (by simp), repE_v1 (fun a ha => hv a (List.mem_cons_of_mem _ ha)) hz]
    rfl

theorem repE_v {w : World} {L : LM} : ∀ {vs : List Value}, (∀ v ∈ vs, v.cells.toList = [v] ∧ cellV v = true) → RepE w L 1 (vs.map .v) vs
  | [], _ => rfl
  | v :: vs, hv => by
    obtain ⟨h1, h2⟩ := hv v (by simp)
    exact ⟨v, vs, by rw [h1]; rfl, ⟨by rw [← Array.length_toList, h1]; rfl, by rw [h1]; simpa using h2⟩, rfl, repE_v fun a ha => hv a (List.mem_cons_of_mem _ ha)⟩

/-- **A table of numbers** that the program's variable g holds. -/
theorem tab_is {P : Program} {w : World} {σ : Heap} {ρ : Locs} {name : String} {g : Nat} {k : IntKind} {zs : List Int} (hh : HeapOK w σ ρ) (hg : P.globalNamed name = some g) (hd : GlobFacts.data g = some (1, zs.map fun z => .v (.int k z))) :
    Lib.TabIs P w name k zs := by
  obtain ⟨_, _, xs, t, fr, h1, h2⟩ := hh.glob g _ _ hd
  have h3 : xs = zs.map (fun z => Value.int k z) := by
    refine repE_v1 ?_ (vs := zs.map fun z => Value.int k z) (by simpa [List.map_map, Function.comp_def] using h2)
    intro v hv
    obtain ⟨z, _, rfl⟩ := List.mem_map.1 hv
    rfl
  unfold Lib.TabIs World.var?
  rw [hg]
  simp [h1, h3]

/-- **Equality of structs**: by a law of the kind of struct. -/
theorem aop_eq {P : Program} {N : Nat} {o : POp} {E : Env} {σ : Heap} {K : Env → Heap → Prop} {G : Bool} {t u : TypeId} {x y : Operand} {cs ds : List Value} {b : Bool}
    (hg : gcond E o = some G) (ho : o.op = .binOp .eql t x y u) (hx : (lk E x).a = .agg (cs.map .v)) (hy : (lk E y).a = .agg (ds.map .v)) (hm : P.eqGuardType P.depth t = false)
    (he : ∀ w, (Op.equalIn 10000 t (.agg cs.toArray) (.agg ds.toArray)).run P w = .ok b w) (hs : G = true → opsC E o.op.operands.toList) (hk : putK N o.dst ⟨G, .v (.bool b)⟩ K E σ) : AOp P N o E σ K := by
  refine aop_value hg (fun hG a w ρ hst => ?_) hk
  have h := opsC_iff.1 (hs hG)
  rw [ho] at h
  have h1 := hst.val x (h x (by simp [Op.operands]))
  have h2 := hst.val y (h y (by simp [Op.operands]))
  rw [hx] at h1; rw [hy] at h2
  simp only [Rep] at h1 h2
  obtain ⟨xs, h1, r1, _⟩ := h1
  obtain ⟨ys, h2, r2, _⟩ := h2
  have key : ∀ (cs : List Value) (xs : List Value), RepL w (lm σ ρ) (cs.map .v) xs → xs = cs := by
    intro cs
    induction cs with
    | nil => intro xs h; exact h
    | cons c cs ih =>
      rintro _ ⟨y, ys, rfl, hy, hz⟩
      simp only [Rep] at hy
      rw [hy, ih _ hz]
  obtain rfl := key _ _ r1
  obtain rfl := key _ _ r2
  refine ⟨.bool b, ?_, rfl⟩
  simp [execOp, POp.oper, ho, h1, h2, run_eqGuard_agg w .eql t x y _ _ hm, run_eql_struct, he]

theorem aop_neq {P : Program} {N : Nat} {o : POp} {E : Env} {σ : Heap} {K : Env → Heap → Prop} {G : Bool} {t u : TypeId} {x y : Operand} {cs ds : List Value} {b : Bool}
    (hg : gcond E o = some G) (ho : o.op = .binOp .neq t x y u) (hx : (lk E x).a = .agg (cs.map .v)) (hy : (lk E y).a = .agg (ds.map .v)) (hm : P.eqGuardType P.depth t = false)
    (he : ∀ w, (Op.equalIn 10000 t (.agg cs.toArray) (.agg ds.toArray)).run P w = .ok b w) (hs : G = true → opsC E o.op.operands.toList) (hk : putK N o.dst ⟨G, .v (.bool (!b))⟩ K E σ) : AOp P N o E σ K := by
  refine aop_value hg (fun hG a w ρ hst => ?_) hk
  have h := opsC_iff.1 (hs hG)
  rw [ho] at h
  have h1 := hst.val x (h x (by simp [Op.operands]))
  have h2 := hst.val y (h y (by simp [Op.operands]))
  rw [hx] at h1; rw [hy] at h2
  simp only [Rep] at h1 h2
  obtain ⟨xs, h1, r1, _⟩ := h1
  obtain ⟨ys, h2, r2, _⟩ := h2
  have key : ∀ (cs : List Value) (xs : List Value), RepL w (lm σ ρ) (cs.map .v) xs → xs = cs := by
    intro cs
    induction cs with
    | nil => intro xs h; exact h
    | cons c cs ih =>
      rintro _ ⟨y, ys, rfl, hy, hz⟩
      simp only [Rep] at hy
      rw [hy, ih _ hz]
  obtain rfl := key _ _ r1
  obtain rfl := key _ _ r2
  refine ⟨.bool (!b), ?_, rfl⟩
  simp [execOp, POp.oper, ho, h1, h2, run_eqGuard_agg w .neq t x y _ _ hm, run_neq_struct, he]
end Go.Ab
