/-
  All operations that leave memory alone; regions, operation by operation (vops); code (vcode).
-/
import Derived.Test.YtdlekkhjkcbbnaaGreatDoorAbH
set_option linter.unusedVariables false
set_option linter.unusedSimpArgs false
set_option linter.unusedSectionVars false
namespace Go.Ab
open Go
variable [GlobFacts]

section
variable {P : Program} {σ : Heap} {w : World} {ρ : Locs}

theorem repL_two {L : LM} {a b : AV} {xs : List Value} (h : RepL w L [a, b] xs) : ∃ x y, xs = [x, y] ∧ Rep w L a x ∧ Rep w L b y := by
  obtain ⟨x, _, rfl, hx, y, _, rfl, hy, rfl⟩ := h
  exact ⟨x, y, rfl, hx, hy⟩

theorem does_builtin (hh : HeapOK w σ ρ) {b : Builtin} {t : TypeId} {ts : Array TypeId} {cs : Array Bool} {xs : List AV} {r : AV} {s : Prop} (h : abuiltin P σ b ts.toList xs = some (s, r)) (hs : s) {us : List Value} (hx : RepL w (lm σ ρ) xs us) :
    ∃ z, (builtin b ts t cs us.toArray).run P w = .ok (.value z) w ∧ Rep w (lm σ ρ) r z := by
  unfold abuiltin at h
  split at h
  · rename_i t' x hts
    obtain ⟨u, _, rfl, hu, rfl⟩ := hx
    have hts0 : ts[0]? = some t' := by rw [← Array.getElem?_toList, hts]; rfl
    split at h
    · rename_i ti ht
      obtain ⟨d, hd, hun⟩ := run_tinf ht w
      have key : ∀ z, (Builtin.len_ ts t #[u]).run P w = .ok z w → (builtin .len ts t cs #[u]).run P w = .ok (.value z) w := fun z hz => by
        simp [builtin, hz]
      split at h
      · rename_i s' hk
        have hd' := tk_str (hd.symm.trans hk); subst hd'
        cases h; simp only [Rep] at hu; subst hu
        exact ⟨_, key _ (by simp [Builtin.len_, hts0, hun, goInt]), rfl⟩
      · rename_i e es hk
        rename_i e'
        have hd' := tk_sl (hd.symm.trans hk); subst hd'
        cases h
        simp only [Rep] at hu
        rcases hu with ⟨rfl, rfl⟩ | ⟨b, off, cap, rfl, _⟩
        · exact ⟨_, key _ (by simp [Builtin.len_, hts0, hun, goInt]), rfl⟩
        · exact ⟨_, key _ (by simp [Builtin.len_, hts0, hun, goInt]), rfl⟩
      · rename_i e hk
        have hd' := tk_sl (hd.symm.trans hk); subst hd'
        cases h; simp only [Rep] at hu; subst hu
        exact ⟨_, key _ (by simp [Builtin.len_, hts0, hun, goInt]), rfl⟩
      · rename_i e i g k n hk
        have hd' := tk_sl (hd.symm.trans hk); subst hd'
        split at h
        · rename_i hal
          cases h
          simp only [Rep] at hu
          rcases alive_row hh hal with h1 | ⟨b, e', sz, h1⟩
          · rw [h1] at hu
            obtain ⟨rfl, rfl, rfl⟩ := hu
            exact ⟨_, key _ (by simp [Builtin.len_, hts0, hun, goInt]), rfl⟩
          · rw [h1] at hu
            rcases hu with ⟨cap, rfl, _⟩ | ⟨rfl, r, rfl, _⟩
            · exact ⟨_, key _ (by simp [Builtin.len_, hts0, hun, goInt]), rfl⟩
            · exact ⟨_, key _ (by simp [Builtin.len_, hts0, hun, goInt]), rfl⟩
        · cases h
      · rename_i n e _ hk
        have hd' := tk_arr (hd.symm.trans hk); subst hd'
        cases h
        exact ⟨_, key _ (by simp [Builtin.len_, hts0, hun, goInt]), rfl⟩
      · rename_i k e i g hk
        have hd' := tk_map (hd.symm.trans hk); subst hd'
        split at h
        · rename_i g' es ho
          split at h
          · rename_i hg
            subst hg
            cases h
            have hlt := (List.getElem?_eq_some_iff.1 ho).1
            have hr : ρ[i]? = some (ρ[i]'(by rw [hh.len]; exact hlt)) := List.getElem?_eq_getElem _
            have hob := hh.obj i _ _ ho hr
            cases hc : ρ[i]'(by rw [hh.len]; exact hlt) with
            | none => rw [hc] at hob; exact hob.elim
            | some p =>
              rw [hc] at hob hr
              obtain ⟨_, ms, cl, hb, hm⟩ := hob
              simp only [Rep] at hu
              have hl : lm σ ρ i g = .here p.1 0 p.2 := by simp [lm, ho, hr, loOf, AObj.gen]
              rw [hl] at hu
              simp only [mpAt] at hu
              subst hu
              have hlen : ∀ (es : List (Value × AV)) (l : List MapEntry), mapRep w (lm σ ρ) es l → l.length = es.length := by
                intro es
                induction es with
                | nil => intro l h; simp only [mapRep] at h; subst h; rfl
                | cons a es ih => intro l h; obtain ⟨m, ms, rfl, _, _, h⟩ := h; simp [ih ms h]
              have := hlen _ _ hm
              refine ⟨_, key (.int .i64 es.length) ?_, rfl⟩
              simp only [Array.length_toList] at this
              simp [Builtin.len_, hts0, hun, goInt, getObj, Sem.run, hb, this]
          · cases h
        · cases h
      · cases h
    · cases h
  · obtain ⟨x, y, rfl, h1, h2⟩ := repL_two hx
    split at h
    · rename_i hk
      subst hk
      cases h
      simp only [Rep] at h1 h2; subst h1; subst h2
      exact ⟨_, by simp [builtin, Builtin.max_, Builtin.max2], rfl⟩
    · cases h
  · obtain ⟨x, y, rfl, h1, h2⟩ := repL_two hx
    split at h
    · rename_i hk
      subst hk
      cases h
      simp only [Rep] at h1 h2; subst h1; subst h2
      exact ⟨_, by simp [builtin, Builtin.min_, Builtin.min2], rfl⟩
    · cases h
  · cases h

theorem run_eqGuard' (op : BinOp) (t : TypeId) (x y : Operand) (u v : Value) (h1 : ∀ m, u ≠ .agg m) (h2 : u ≠ .nilIface) : (eqGuard op t x y u v).run P w = .ok () w := by
  cases u <;> first
    | exact absurd rfl h2
    | exact absurd rfl (h1 _)
    | (cases op <;> rfl)

theorem repL_map {L : LM} {ev : Operand → AV} {ec : Operand → Value} : ∀ {l : List Operand}, (∀ x ∈ l, Rep w L (ev x) (ec x)) → RepL w L (l.map ev) (l.map ec)
  | [], _ => rfl
  | x :: l, h => ⟨_, _, rfl, h x List.mem_cons_self, repL_map (fun y hy => h y (List.mem_cons_of_mem _ hy))⟩

theorem repO_map {L : LM} {ev : Operand → AV} {ec : Operand → Value} {o : Option Operand} (h : ∀ x, o = some x → Rep w L (ev x) (ec x)) : RepO w L (o.map ev) (o.map ec) := by
  cases o with
  | none => trivial
  | some x => exact h x rfl

theorem apure_sound (hh : HeapOK w σ ρ) {o : Oper} {ev : Operand → AV} {r : AV} {s : Prop} (h : apure P σ o.op ev = some (s, r)) (hs : s) {ec : Operand → Value} (hr : ∀ x ∈ o.op.operands.toList, Rep w (lm σ ρ) (ev x) (ec x)) :
    ∃ z, (execOp ec o).run P w = .ok (.value z) w ∧ Rep w (lm σ ρ) r z := by
  have lift : ∀ {sm : Sem Value}, Does P w (lm σ ρ) sm r → (execOp ec o = (do pure (.value (← sm)))) → ∃ z, (execOp ec o).run P w = .ok (.value z) w ∧ Rep w (lm σ ρ) r z := by
    rintro sm ⟨z, hz, hr⟩ he
    exact ⟨z, by rw [he]; simp [hz], hr⟩
  unfold apure at h
  split at h
  · rename_i x ho
    cases h
    exact ⟨ec x, by simp [execOp, ho], hr x (by simp [ho, Op.operands])⟩
  · rename_i x ho
    cases h
    exact ⟨ec x, by simp [execOp, ho], hr x (by simp [ho, Op.operands])⟩
  · rename_i t x ho
    split at h
    · rename_i ti ht
      exact lift (does_load hh ht h hs (hr x (by simp [ho, Op.operands]))) (by simp only [execOp, ho])
    · cases h
  · rename_i x ho
    exact does_nilCheck hh ho h (hr x (by simp [ho, Op.operands]))
  · rename_i op t x y t' ho
    obtain ⟨z, hz, hrep, hcase⟩ := abinT_sound (P := P) (t := t) h hs (hr x (by simp [ho, Op.operands])) (hr y (by simp [ho, Op.operands]))
    refine ⟨z, ?_, hrep⟩
    have hg : (eqGuard op t x y (ec x) (ec y)).run P w = .ok () w := by
      rcases hcase with ⟨hna, hni⟩ | ⟨hm, xs, ys, e1, e2⟩
      · exact run_eqGuard' (P := P) (w := w) op t x y (ec x) (ec y) hna hni
      · rw [e1, e2]; exact run_eqGuard_agg w op t x y xs ys hm
    simp [execOp, ho, hg, hz]
  · rename_i op t x ho
    exact lift (does_unary h hs (hr x (by simp [ho, Op.operands]))) (by simp only [execOp, ho])
  · rename_i a b x ho
    exact lift (does_convert hh h hs (hr x (by simp [ho, Op.operands]))) (by simp only [execOp, ho])
  · rename_i f first cap ho
    cases h
    refine ⟨.func f (first.map ec) (cap.map ec), by simp [execOp, ho, Instr.makeFunc], ?_⟩
    simp only [Rep]
    refine ⟨(first.toList.map ec), (cap.toList.map ec), by congr 1 <;> (apply Array.ext'; simp), repL_map (fun x hx => hr x (by simp [ho, Op.operands]; left; simpa using hx)), repL_map (fun x hx => hr x (by simp [ho, Op.operands]; right; simpa using hx))⟩
  · rename_i t x f ho
    exact lift (does_field h hs (hr x (by simp [ho, Op.operands]))) (by simp only [execOp, ho])
  · rename_i t x f ho
    exact lift (does_fieldAddr hh h hs (hr x (by simp [ho, Op.operands]))) (by simp only [execOp, ho])
  · rename_i t x ix ho
    exact lift (does_indexAddr hh h hs (hr x (by simp [ho, Op.operands])) (hr ix (by simp [ho, Op.operands]))) (by simp only [execOp, ho])
  · rename_i t x ix ho
    exact lift (does_index h hs (hr x (by simp [ho, Op.operands])) (hr ix (by simp [ho, Op.operands]))) (by simp only [execOp, ho])
  · rename_i t x lo hi mx ho
    exact lift (does_slice hh h hs (hr x (by simp [ho, Op.operands])) (repO_map (fun y hy => hr y (by simp [ho, Op.operands, hy]))) (repO_map (fun y hy => hr y (by simp [ho, Op.operands, hy]))) (repO_map (fun y hy => hr y (by simp [ho, Op.operands, hy])))) (by simp only [execOp, ho])
  · rename_i x k ho
    have hx := hr x (by simp [ho, Op.operands])
    split at h
    · rename_i vs hvs
      rw [hvs] at hx
      simp only [Rep] at hx
      obtain ⟨xs, hx, hrl⟩ := hx
      split at h
      · rename_i r' hk
        cases h
        obtain ⟨_, hg⟩ := repL_get hrl
        obtain ⟨y, hy, hry⟩ := hg k _ hk
        exact ⟨y, by simp [execOp, ho, Instr.extract, hx, hy], hry⟩
      · cases h
    · cases h
  · rename_i c ho
    split at h
    · rename_i b hc
      obtain ⟨z, hz, hrep⟩ := does_builtin hh (t := o.type) (cs := c.args.map fun | .const _ => true | _ => false) h hs (us := c.args.toList.map ec) (repL_map (fun x hx => hr x (by simp [ho, Op.operands, Call.operands, hc]; simpa using hx)))
      refine ⟨z, ?_, hrep⟩
      simp only [execOp, ho, resolve, hc, Sem.run_bind, Sem.run_pure, Result.andThen_ok, invoke]
      rw [← hz]
      congr 2
      apply Array.ext'; simp
    · cases h
  · cases h

end
end Go.Ab
