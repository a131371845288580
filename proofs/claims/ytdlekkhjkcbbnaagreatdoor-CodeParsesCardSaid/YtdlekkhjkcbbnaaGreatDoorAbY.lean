/-
  A nil slice inside an object is a row that has nothing in it yet: a new one, or one that nobody needs any more.
  Comparisons of an interface with nil.
-/
import Derived.Test.YtdlekkhjkcbbnaaGreatDoorAbW
import Derived.WideLaws
set_option linter.unusedVariables false
set_option linter.unusedSimpArgs false
set_option linter.unusedSectionVars false
namespace Go.Ab
open Go
variable [GlobFacts]

section
variable {w : World} {σ : Heap} {ρ : Locs}

/-- A row of which less is said. -/
theorem HeapOK.rowLe (h : HeapOK w σ ρ) {i g e : Nat} {es es' : List AV} (hi : σ[i]? = some (.row g e es)) (hl : es'.length = es.length) (hle : ∀ xs, RepE w (lm σ ρ) e es xs → RepE w (lm σ ρ) e es' xs) :
    HeapOK w (σ.set i (.row g e es')) ρ := by
  have hlm := lm_setRow (ρ := ρ) (es' := es') hi
  refine ⟨by simp [h.len], fun j o r ho hr => ?_, h.inj, by rw [hlm]; exact h.glob⟩
  rw [hlm]
  by_cases hij : i = j
  · subst hij
    rw [List.getElem?_set_self (List.getElem?_eq_some_iff.1 hi).1] at ho
    cases ho
    have := h.obj i _ r hi hr
    cases r with
    | none =>
      simp only [ObjOK] at this ⊢
      rw [this] at hl
      exact List.eq_nil_of_length_eq_zero hl
    | some p =>
      obtain ⟨b, sz⟩ := p
      obtain ⟨xs, ys, t, fr, h1, h2, h3, h4⟩ := this
      exact ⟨xs, ys, t, fr, h1, h2, h3, hle xs h4⟩
  · rw [List.getElem?_set_ne hij] at ho
    exact h.obj j o r ho hr

/-- what may be said of a nil slice -/
def NilTo (j g : Nat) (a b : AV) : Prop := ∀ w L x, L j g = .nilv → Rep w L a x → Rep w L b x
def NilToL (j g : Nat) (a b : List AV) : Prop := ∀ w L x, L j g = .nilv → RepL w L a x → RepL w L b x
theorem NilTo.refl (j g : Nat) (a : AV) : NilTo j g a a := fun _ _ _ _ h => h
theorem NilTo.nil (j g : Nat) : NilTo j g (.v (.slice none 0 0)) (.os j g 0 0) := fun w L x hL h => by
  show osAt (L j g) 0 0 x
  rw [hL]; exact ⟨rfl, rfl, h⟩
theorem NilToL.nil (j g : Nat) : NilToL j g [] [] := fun _ _ _ _ h => h
theorem NilToL.cons {j g : Nat} {a b : AV} {l l' : List AV} (h : NilTo j g a b) (h' : NilToL j g l l') : NilToL j g (a :: l) (b :: l') := fun w L x hL ⟨y, ys, e, h1, h2⟩ => ⟨y, ys, e, h w L y hL h1, h' w L ys hL h2⟩
theorem NilTo.agg {j g : Nat} {l l' : List AV} (h : NilToL j g l l') : NilTo j g (.agg l) (.agg l') := fun w L x hL ⟨xs, e, hr, hc⟩ => ⟨xs, e, h w L xs hL hr, hc⟩
theorem repE_nilTo {j g : Nat} {w : World} {L : LM} (hL : L j g = .nilv) {e : Nat} {a b : AV} (h : NilTo j g a b) {xs : List Value} : RepE w L e [a] xs → RepE w L e [b] xs :=
  fun ⟨y, zs, h1, h2, h3, h4⟩ => ⟨y, zs, h1, h2, h w L y hL h3, h4⟩

/-- a new empty row for a nil slice inside an object -/
theorem HeapOK.nilNew (h : HeapOK w σ ρ) {i g e : Nat} {a b : AV} (ej : Nat) (hi : σ[i]? = some (.row g e [a])) (hab : NilTo σ.length 0 a b) :
    ∃ ρ', HeapOK w (σ.set i (.row g e [b]) ++ [.row 0 ej []]) ρ' ∧ Tr w (lm σ ρ) w (lm (σ.set i (.row g e [b]) ++ [.row 0 ej []]) ρ') := by
  obtain ⟨h1, h2, h3⟩ := h.newNil ej
  have hlt := (List.getElem?_eq_some_iff.1 hi).1
  have hi' : (σ ++ [AObj.row 0 ej []])[i]? = some (.row g e [a]) := by rw [List.getElem?_append_left hlt]; exact hi
  have h4 := h1.rowLe (es' := [b]) hi' rfl (fun xs => repE_nilTo h3 hab)
  have e1 : (σ ++ [AObj.row 0 ej []]).set i (.row g e [b]) = σ.set i (.row g e [b]) ++ [.row 0 ej []] := List.set_append_left _ _ hlt
  rw [← e1]
  exact ⟨_, h4, by rw [lm_setRow hi']; exact h2⟩

/-- a row that nobody needs any more, for a nil slice inside an object -/
theorem HeapOK.nilOld (h : HeapOK w σ ρ) {i g e j gj ej : Nat} {a b : AV} {esj : List AV} (hj : σ[j]? = some (.row gj ej esj)) (hi : σ[i]? = some (.row g e [a])) (hij : i ≠ j) (hab : NilTo j (gj + 1) a b) :
    ∃ ρ', HeapOK w ((σ.set i (.row g e [b])).set j (.row (gj + 1) ej [])) ρ' ∧ Tr w (lm σ ρ) w (lm ((σ.set i (.row g e [b])).set j (.row (gj + 1) ej [])) ρ') := by
  obtain ⟨h1, h2⟩ := h.regen (w' := w) hj [] none rfl rfl (Nat.le_refl _) (fun _ _ _ => rfl) (fun b s h => by cases h) (fun _ => rfl)
  have h3 := lm_regen_new (es' := []) (r' := none) hj h.len
  have hi' : (σ.set j (AObj.row (gj + 1) ej []))[i]? = some (.row g e [a]) := by rw [List.getElem?_set_ne (Ne.symm hij)]; exact hi
  have h4 := h1.rowLe (es' := [b]) hi' rfl (fun xs => repE_nilTo h3 hab)
  rw [List.set_comm _ _ hij]
  exact ⟨_, h4, by rw [lm_setRow hi']; exact h2⟩
end

section
variable {P : Program} {N : Nat} {E : Env} {σ : Heap}

theorem awp_nilNew {c : Code} {Q : Post} {i g e : Nat} {a b : AV} (ej : Nat) (hi : σ[i]? = some (.row g e [a])) (hab : NilTo σ.length 0 a b) (h : AWP P N c Q E (σ.set i (.row g e [b]) ++ [.row 0 ej []])) : AWP P N c Q E σ := by
  intro x w ρ hst
  obtain ⟨ρ', h1, h2⟩ := hst.heap.nilNew ej hi hab
  exact wp_mono (h x w ρ' (hst.none h2 h1)) fun _ _ _ H => H.from h2 fun _ _ _ h => h

theorem awp_nilOld {c : Code} {Q : Post} {i g e j gj ej : Nat} {a b : AV} {esj : List AV} (hj : σ[j]? = some (.row gj ej esj)) (hi : σ[i]? = some (.row g e [a])) (hij : i ≠ j) (hab : NilTo j (gj + 1) a b)
    (h : AWP P N c Q E ((σ.set i (.row g e [b])).set j (.row (gj + 1) ej []))) : AWP P N c Q E σ := by
  intro x w ρ hst
  obtain ⟨ρ', h1, h2⟩ := hst.heap.nilOld hj hi hij hab
  exact wp_mono (h x w ρ' (hst.none h2 h1)) fun _ _ _ H => H.from h2 fun _ _ _ h => h

theorem retOK_nilOld {n : Nat} {r : AV} {R : AV → Heap → Prop} {i g e j gj ej : Nat} {a b : AV} {esj : List AV} (hj : σ[j]? = some (.row gj ej esj)) (hi : σ[i]? = some (.row g e [a])) (hij : i ≠ j) (hab : NilTo j (gj + 1) a b)
    (h : RetOK n r ((σ.set i (.row g e [b])).set j (.row (gj + 1) ej [])) R) : RetOK n r σ R := by
  intro w ρ v hh hrep
  obtain ⟨ρ', h1, h2⟩ := hh.nilOld hj hi hij hab
  obtain ⟨r', σ', ρ'', k1, k2, k3, k4⟩ := h w ρ' v h1 (hrep.tr h2)
  exact ⟨r', σ', ρ'', k1, (h2.mono (fun _ _ => trivial)).trans k2, k3, k4⟩

/-- what was made is forgotten, the rest was changed -/
theorem retOK_left {n : Nat} {τ l : Heap} {r : AV} {R : AV → Heap → Prop} (hl : τ.length = n) (hw : WfH n τ) (hr : AllI (· < n) r) (h : R r τ) : RetOK n r (τ ++ l) R := by
  subst hl
  exact retOK_take τ.length (Nat.le_refl _) hr (by rw [List.take_left]; exact hw) (by rw [List.take_left]; exact h)
end

/-! ### a callee that is told of the first objects alone -/

def deadL (l : Heap) : Heap := l.map fun o => .dead o.gen
theorem deadL_length (l : Heap) : (deadL l).length = l.length := by simp [deadL]

theorem lm_over_lt {σ : Heap} {ρ : Locs} (hl : ρ.length = σ.length) (l : Heap) (m : Locs) {i g : Nat} (hi : i < σ.length) : lm (σ ++ l) (ρ ++ m) i g = lm σ ρ i g := by
  unfold lm
  rw [List.getElem?_append_left hi, List.getElem?_append_left (by omega)]

theorem lm_over_bad {σ : Heap} {ρ : Locs} {i g : Nat} (hi : ¬ i < σ.length) : lm σ ρ i g = .bad := by
  unfold lm
  rw [List.getElem?_eq_none (by omega)]

theorem HeapOK.addDead {w : World} {σ : Heap} {ρ : Locs} (h : HeapOK w σ ρ) (l : Heap) : HeapOK w (σ ++ deadL l) (ρ ++ List.replicate l.length none) ∧ Tr w (lm σ ρ) w (lm (σ ++ deadL l) (ρ ++ List.replicate l.length none)) := by
  have hloc : ∀ (i b s : Nat), (ρ ++ List.replicate l.length none)[i]? = some (some (b, s)) → ρ[i]? = some (some (b, s)) := by
    intro i b s hi
    rw [List.getElem?_append] at hi
    split at hi
    · exact hi
    · rw [List.getElem?_replicate] at hi; split at hi <;> cases hi
  have htr : Tr w (lm σ ρ) w (lm (σ ++ deadL l) (ρ ++ List.replicate l.length none)) := by
    refine ⟨rfl, rfl, Nat.le_refl _, fun _ _ _ => rfl, fun b hb => .inl ?_, fun i g _ hg => .inl (lm_over_lt h.len _ _ (lm_lt hg))⟩
    obtain ⟨i, s, hi⟩ := owned_lm hb
    exact owned_of_loc h (hloc i b s hi)
  refine ⟨⟨by simp [h.len, deadL], fun i o r ho hr => ?_, fun i j b s s' hi hj => h.inj i j b s s' (hloc _ _ _ hi) (hloc _ _ _ hj), h.glob.tr htr⟩, htr⟩
  by_cases hi : i < σ.length
  · rw [List.getElem?_append_left hi] at ho
    rw [List.getElem?_append_left (by rw [h.len]; exact hi)] at hr
    refine (h.obj i o r ho hr).trV htr ?_ (fun _ _ _ => rfl)
    cases o with
    | dead g => trivial
    | hole => trivial
    | row g e es => exact AllIL.all (fun _ => trivial) es
    | tro g t e es => exact AllIL.all (fun _ => trivial) es
    | it g s n => trivial
    | map g es => exact fun x _ => AllI.all (fun _ => trivial) x.2
  · rw [List.getElem?_append_right (by omega), deadL, List.getElem?_map] at ho
    rw [List.getElem?_append_right (by rw [h.len]; omega), List.getElem?_replicate] at hr
    cases hl : l[i - σ.length]? with
    | none => rw [hl] at ho; cases ho
    | some o' =>
      rw [hl] at ho
      cases ho
      split at hr
      · cases hr; rfl
      · cases hr

/-- **The callee is told of the first objects alone; the others are dead behind the call.** -/
theorem acalls_over {P : Program} {f : FuncId} {args : List AV} {σ l : Heap} {R : AV → Heap → Prop} (hw : WfH σ.length σ) (ha : AllIL (· < σ.length) args) (hR : ∀ r σ', R r σ' → σ'.length = σ.length) (h : ACalls P f args σ R) :
    ACalls P f args (σ ++ l) (fun r τ => ∃ σ', R r σ' ∧ τ = σ' ++ deadL l) := by
  refine ⟨h.1, fun vs w ρ hh hrep => ?_⟩
  obtain ⟨t1, t2⟩ := hh.take σ.length (by rw [List.take_left]; exact hw)
  rw [List.take_left] at t1 t2
  refine (h.2 vs w _ t1 (RepL.trV t2 _ _ ha hrep)).mono ?_
  rintro e w' ⟨v, r, σ', ρ', he, k1, k2, k3, k4⟩
  have hlen := hR r σ' k4
  obtain ⟨d1, d2⟩ := k1.addDead l
  refine ⟨v, r, _, _, he, d1, ?_, k3.tr d2, σ', k4, rfl⟩
  have hρ : ρ.length = σ.length + l.length := by rw [hh.len, List.length_append]
  have own1 : ∀ b, Owned (lm σ (ρ.take σ.length)) b → Owned (lm (σ ++ l) ρ) b := by
    intro b hb
    obtain ⟨i, s, hi⟩ := owned_lm hb
    rw [List.getElem?_take] at hi
    split at hi
    · exact owned_of_loc hh hi
    · cases hi
  refine ⟨k2.os, k2.output, k2.size, fun b hb ho => k2.keep b hb (fun h1 => ho (own1 b h1)), fun b hb => ?_, fun i g _ hg => ?_⟩
  · rcases d2.own b hb with h1 | h1
    · rcases k2.own b h1 with h2 | h2
      · exact .inl (own1 b h2)
      · exact .inr h2
    · exact .inr (Nat.le_trans k2.size h1)
  · by_cases hi : i < σ.length
    · have e1 : lm (σ ++ l) ρ i g = lm σ (ρ.take σ.length) i g := by
        have := lm_take (σ := σ ++ l) (ρ := ρ) (g := g) hi
        rw [List.take_left] at this
        exact this.symm
      rw [e1] at hg ⊢
      rw [lm_over_lt k1.len _ _ (by omega)]
      exact k2.loc i g trivial hg
    · right
      have hlt := lm_lt hg
      rw [List.length_append] at hlt
      obtain ⟨o, ho⟩ : ∃ o, l[i - σ.length]? = some o := ⟨_, List.getElem?_eq_getElem (by omega)⟩
      have hle : g ≤ o.gen := by
        rcases Nat.lt_or_ge o.gen g with h1 | h1
        · exfalso; apply hg
          unfold lm
          rw [List.getElem?_append_right (by omega), ho]
          cases ρ[i]? with
          | none => rfl
          | some r => simp [loOf, h1]
        · exact h1
      unfold lm
      rw [List.getElem?_append_right (by omega : σ'.length ≤ i), hlen, deadL, List.getElem?_map, ho, List.getElem?_append_right (by rw [k1.len]; omega), List.getElem?_replicate, if_pos (by rw [k1.len]; omega)]
      simp only [Option.map_some, loOf]
      rw [if_neg (Nat.not_lt.2 hle : ¬ (AObj.dead o.gen).gen < g)]
      split <;> rfl
end Go.Ab
set_option linter.unusedVariables false
set_option linter.unusedSimpArgs false
set_option linter.unusedSectionVars false
namespace Go.Ab
open Go
variable [GlobFacts]

section
variable {P : Program} {N : Nat} {o : POp} {E : Env} {σ : Heap} {K : Env → Heap → Prop} {G : Bool} {t u : TypeId} {x y : Operand}

theorem aop_neq_ifc {t' : TypeId} {a : AV} (hg : gcond E o = some G) (ho : o.op = .binOp .neq t x y u) (hx : (lk E x).a = .ifc t' a) (hy : (lk E y).a = .v .nilIface) (ht : P.underlying t = some (.interface (P.methodsAt t)))
    (hs : G = true → opsC E o.op.operands.toList) (hk : putK N o.dst ⟨G, .v (.bool true)⟩ K E σ) : AOp P N o E σ K := by
  refine aop_value hg (fun hG a w ρ hst => ?_) hk
  have h := opsC_iff.1 (hs hG)
  rw [ho] at h
  have h1 := hst.val x (h x (by simp [Op.operands]))
  have h2 := hst.val y (h y (by simp [Op.operands]))
  rw [hx] at h1; rw [hy] at h2
  simp only [Rep] at h1 h2
  obtain ⟨z, h1, _⟩ := h1
  refine ⟨.bool true, ?_, rfl⟩
  simp [execOp, POp.oper, ho, h1, h2, run_eqGuard' (P := P) (w := w) .neq t x y (.iface t' z) .nilIface (by simp) (by simp), run_neq_held_nil w t t' z ht]

theorem aop_neq_nil (hg : gcond E o = some G) (ho : o.op = .binOp .neq t x (.const .nilIface) u) (hx : (lk E x).a = .v .nilIface) (ht : P.underlying t = some (.interface (P.methodsAt t)))
    (hs : G = true → opsC E o.op.operands.toList) (hk : putK N o.dst ⟨G, .v (.bool false)⟩ K E σ) : AOp P N o E σ K := by
  refine aop_value hg (fun hG a w ρ hst => ?_) hk
  have h := opsC_iff.1 (hs hG)
  rw [ho] at h
  have h1 := hst.val x (h x (by simp [Op.operands]))
  rw [hx] at h1
  simp only [Rep] at h1
  refine ⟨.bool false, ?_, rfl⟩
  have hg : (eqGuard .neq t x (.const .nilIface) .nilIface .nilIface).run P w = .ok () w := by
    unfold eqGuard
    simp
  have h2 : a.eval (.const .nilIface) = .nilIface := rfl
  simp only [execOp, POp.oper, ho, h1, h2]
  simp [hg, run_neq_nil_nil w t ht]
end

/-- **A point where branches meet**: what the slots then hold is told once. -/
theorem awp_meet {P : Program} {N : Nat} {E : Env} {σ : Heap} {x y : Code} {Q : Post} {T : Type} (En : T → Env) (H : T → Heap) (p : T → Prop) (h : vcode P N x (thenQ (fun E' σ' => ∃ t, p t ∧ Env.hasL E' (En t) ∧ σ' = H t) Q) E σ)
    (k : ∀ t, p t → AWP P N y Q (En t) (H t)) : AWP P N (.seq x y) Q E σ := by
  refine awp_seq ((vcode_sound x h).mono fun e E' σ' H' => ?_)
  cases e with
  | normal =>
    obtain ⟨t, hp, hE, rfl⟩ := H'
    exact (k t hp).weaken (Env.has_of hE)
  | _ => exact H'
end Go.Ab
