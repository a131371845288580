/-
  The same: the heap; any order; the order of the text.
-/
import Derived.Test.YtbinpbjeeiedhaaDoorAbM
set_option linter.unusedVariables false
set_option linter.unusedSimpArgs false
set_option linter.unusedSectionVars false
namespace Go.Ab
open Go
variable [GlobFacts]

def shape : Option AObj → Option (Bool × Nat × Nat)
  | some (.row g e _) => some (false, g, e)
  | some (.map g _) => some (true, g, 0)
  | _ => none

theorem alive_shape {σ σ' : Heap} {i g : Nat} (h : shape σ[i]? = shape σ'[i]?) : alive σ i g = alive σ' i g := by
  unfold alive
  cases h1 : σ[i]? with
  | none =>
    rw [h1] at h
    cases h2 : σ'[i]? with
    | none => rfl
    | some o => rw [h2] at h; cases o <;> simp_all [shape]
  | some o =>
    rw [h1] at h
    cases h2 : σ'[i]? with
    | none => rw [h2] at h; cases o <;> simp_all [shape]
    | some o' => rw [h2] at h; cases o <;> cases o' <;> simp_all [shape]

theorem rowE_shape {σ σ' : Heap} {i : Nat} (h : shape σ[i]? = shape σ'[i]?) : rowE σ i = rowE σ' i := by
  unfold rowE
  cases h1 : σ[i]? with
  | none =>
    rw [h1] at h
    cases h2 : σ'[i]? with
    | none => rfl
    | some o => rw [h2] at h; cases o <;> simp_all [shape]
  | some o =>
    rw [h1] at h
    cases h2 : σ'[i]? with
    | none => rw [h2] at h; cases o <;> simp_all [shape]
    | some o' => rw [h2] at h; cases o <;> cases o' <;> simp_all [shape]

structure Agree (σ σ' : Heap) (f : FP) : Prop where
  ct : ∀ i ∈ f.ct, σ[i]? = σ'[i]?
  sh : ∀ i ∈ f.sh, shape σ[i]? = shape σ'[i]?

theorem Agree.symm {σ σ' : Heap} {f : FP} (h : Agree σ σ' f) : Agree σ' σ f := ⟨fun i hi => (h.ct i hi).symm, fun i hi => (h.sh i hi).symm⟩

theorem aslice_agree {P : Program} {σ σ' : Heap} {t : TypeId} {x : AV} {lo hi mx : Option AV} (h : ∀ i ∈ aids x, rowE σ i = rowE σ' i) : aslice P σ t x lo hi mx = aslice P σ' t x lo hi mx := by
  unfold aslice
  cases mx with
  | some _ => rfl
  | none =>
    cases tinf P t with
    | none => rfl
    | some ti =>
      simp only
      cases ti.kind with
      | sl e => cases x with
        | os j g k n => simp only [h j (by simp [aids])]
        | _ => rfl
      | str => cases x with
        | v y => cases y <;> rfl
        | _ => rfl
      | _ => cases x <;> rfl

theorem mem_touch {E : Env} {i : Nat} : ∀ {l : List Operand} {x : Operand}, x ∈ l → i ∈ aids (lk E x).a → i ∈ touch E l
  | [], _, hx, _ => by cases hx
  | y :: l, x, hx, hi => by
    rcases List.mem_cons.1 hx with rfl | hx
    · exact List.mem_append_left _ hi
    · exact List.mem_append_right _ (mem_touch hx hi)

theorem aref_eq {σ σ' : Heap} {a : AV} (h : ∀ i ∈ aids a, σ[i]? = σ'[i]?) : aref σ a = aref σ' a := by
  cases a with
  | ptr i g k off => simp only [aref, h i (by simp [aids])]
  | _ => rfl

theorem apure_agree {P : Program} {σ σ' : Heap} {op : Op} {E : Env} (h : Agree σ σ' ⟨touch E op.operands.toList, contentOf E op, none⟩) : apure P σ op (fun x => (lk E x).a) = apure P σ' op (fun x => (lk E x).a) := by
  have hsh : ∀ x ∈ op.operands.toList, ∀ i ∈ aids (lk E x).a, shape σ[i]? = shape σ'[i]? := fun x hx i hi => h.sh i (mem_touch hx hi)
  cases op with
  | load t x =>
    have : ∀ i ∈ aids (lk E x).a, σ[i]? = σ'[i]? := fun i hi => h.ct i hi
    simp only [apure, aload, aref_eq this]
  | convert a b x =>
    have : ∀ i ∈ aids (lk E x).a, σ[i]? = σ'[i]? := fun i hi => h.ct i hi
    simp only [apure, aconvert]
    generalize (lk E x).a = v at this
    cases tinf P a with
    | none => rfl
    | some ts => cases tinf P b with
      | none => rfl
      | some td => cases td with
        | mk kd ag sz by' z => cases kd with
          | str => cases v with
            | os j g k n =>
              simp only [this j (by simp [aids])]
            | v y => cases y <;> first | rfl | (rename_i r a b; cases r <;> cases a <;> cases b <;> rfl)
            | sl e es => cases e with
              | zero => rfl
              | succ n => cases n <;> rfl
            | _ => rfl
          | int k => cases v with
            | v y => cases y <;> rfl
            | _ => rfl
          | _ => cases v <;> rfl
  | nilCheck x =>
    have h1 := hsh x (by simp [Op.operands])
    simp only [apure]
    cases hx : (lk E x).a with
    | ptr i g k off => rw [hx] at h1; simp only [alive_shape (g := g) (h1 i (by simp [aids]))]
    | _ => rfl
  | fieldAddr t x f =>
    have h1 := hsh x (by simp [Op.operands])
    simp only [apure, afieldAddr]
    cases hx : (lk E x).a with
    | ptr i g k off => rw [hx] at h1; simp only [alive_shape (g := g) (h1 i (by simp [aids]))]
    | _ => rfl
  | indexAddr t x ix =>
    have h1 := hsh x (by simp [Op.operands])
    simp only [apure, aindexAddr]
    cases hx : (lk E x).a with
    | ptr i g k off => rw [hx] at h1; simp only [alive_shape (g := g) (h1 i (by simp [aids]))]
    | os i g k n => rw [hx] at h1; simp only [rowE_shape (h1 i (by simp [aids]))]
    | _ => rfl
  | slice t x lo hi mx =>
    have h1 := hsh x (by simp [Op.operands])
    exact aslice_agree fun i hi => rowE_shape (h1 i hi)
  | call c =>
    simp only [apure]
    split
    · rename_i b hc
      have h1 : ∀ x ∈ c.args.toList, ∀ i ∈ aids (lk E x).a, σ[i]? = σ'[i]? := fun x hx i hi => h.ct i (mem_touch hx hi)
      unfold abuiltin
      split
      · rename_i t x hts hxs
        have hx1 : ∀ i ∈ aids x, σ[i]? = σ'[i]? := by
          cases hal : c.args.toList with
          | nil => rw [hal] at hxs; simp at hxs
          | cons y ys =>
            rw [hal] at hxs
            simp at hxs
            rw [← hxs.1]
            exact h1 y (by rw [hal]; simp)
        cases tinf P t with
        | none => rfl
        | some ti =>
          simp only
          cases ti.kind with
          | sl e => cases x with
            | os i g k n => simp only [alive_shape (g := g) (congrArg shape (hx1 i (by simp [aids])))]
            | v y => cases y <;> first | rfl | (rename_i r a b; cases r <;> cases a <;> cases b <;> rfl)
            | _ => rfl
          | str => cases x with
            | v y => cases y <;> rfl
            | _ => rfl
          | map k e => cases x with
            | mp i g => simp only [hx1 i (by simp [aids])]
            | _ => rfl
          | _ => cases x <;> rfl
      · rfl
      · rfl
      · rfl
    · rfl
  | _ => rfl

theorem asrc_eq {σ σ' : Heap} {size : Nat} {a : AV} (h : ∀ i ∈ aids a, σ[i]? = σ'[i]?) : asrc σ size a = asrc σ' size a := by
  cases a with
  | os j g k n => simp only [asrc, h j (by simp [aids])]
  | v x => cases x <;> first | rfl | (rename_i r a b; cases r <;> cases a <;> cases b <;> rfl)
  | _ => rfl

theorem agree_fill {σ : Heap} {j : Nat} {o : AObj} {f f' : FP} (he : f.eff = some (j, true, o)) (h : ¬ f.hits f') : Agree (f.apply σ) σ f' := by
  simp only [FP.hits, he, true_and, not_or] at h
  simp only [FP.apply, he]
  refine ⟨fun i hi => ?_, fun i hi => ?_⟩
  · exact List.getElem?_set_ne (fun e : j = i => h.1 (by rw [e]; exact hi))
  · exact congrArg shape (List.getElem?_set_ne (fun e : j = i => h.2 (by rw [e]; exact hi)))

theorem Step.agree {P : Program} {N n0 : Nat} {d : DOp} {E : Env} {σ σ' : Heap} {x : EV} {f : FP} (h : Agree σ σ' f) (H : Step P N n0 d E σ x f) : Step P N n0 d E σ' x f := by
  cases H with
  | pure hg ha hs hd => exact .pure hg (by rw [← apure_agree h]; exact ha) hs hd
  | pick hg ho hc hr hs hd => exact .pick hg ho hc hr hs hd
  | call hg ho hc hs hd => exact .call hg ho hc hs hd
  | alloc hg ho ht hk hh hd => exact .alloc hg ho ht hk (by rw [← h.ct _ (by simp)]; exact hh) hd
  | store hg ho ht hp hi hkl hsz hput hs hd => exact .store hg ho ht hp (by rw [← h.ct _ (by simp)]; exact hi) hkl hsz hput hs hd
  | build hg ho hb hs hd => exact .build hg ho hb hs hd
  | buildSlice hg ho ht hk hte hlen hb hs hr hh hd => exact .buildSlice hg ho ht hk hte hlen hb hs hr (by rw [← h.ct _ (by simp)]; exact hh) hd
  | box hg ho hn hs hr hh hd => exact .box hg ho hn hs hr (by rw [← h.ct _ (by simp)]; exact hh) hd
  | appOs hg ho ht hk ht' hk' hte hx hi hsrc hs hd => exact .appOs hg ho ht hk ht' hk' hte hx (by rw [← h.ct _ (by simp)]; exact hi) (by rw [← asrc_eq fun i hi => h.ct i (List.mem_cons_of_mem _ hi)]; exact hsrc) hs hd
  | appNil hg ho ht hk ht' hk' hte hx hsrc hs hr hh hd => exact .appNil hg ho ht hk ht' hk' hte hx (by rw [← asrc_eq fun i hi => h.ct i (List.mem_cons_of_mem _ hi)]; exact hsrc) hs hr (by rw [← h.ct _ (by simp)]; exact hh) hd

/-- the effect of a step, seen by another -/
theorem Step.agree_apply {P : Program} {N n0 : Nat} {d : DOp} {E : Env} {σ : Heap} {x : EV} {f f' : FP} (H : Step P N n0 d E σ x f) (h : ¬ f.hits f') : Agree (f.apply σ) σ f' := by
  cases H with
  | pure hg ha hs hd => exact ⟨fun _ _ => rfl, fun _ _ => rfl⟩
  | pick hg ho hc hr hs hd => exact ⟨fun _ _ => rfl, fun _ _ => rfl⟩
  | call hg ho hc hs hd => exact ⟨fun _ _ => rfl, fun _ _ => rfl⟩
  | @alloc t ti k hg ho ht hk hh hd =>
    simp only [FP.hits, true_and, not_or] at h
    refine ⟨fun i hi => ?_, fun i hi => ?_⟩
    · exact List.getElem?_set_ne (fun e : n0 + k = i => h.1 (by rw [e]; exact hi))
    · exact congrArg shape (List.getElem?_set_ne (fun e : n0 + k = i => h.2 (by rw [e]; exact hi)))
  | @store t ti p x i g k off e es s r hg ho ht hp hi hkl hsz hput hs hd =>
    simp only [FP.hits, Bool.false_eq_true, false_and, or_false] at h
    refine ⟨fun j hj => ?_, fun j hj => ?_⟩
    · exact List.getElem?_set_ne (fun e : i = j => h (by rw [e]; exact hj))
    · by_cases hij : i = j
      · subst hij
        have hlt := (List.getElem?_eq_some_iff.1 hi).1
        show shape (σ.set i _)[i]? = _
        rw [List.getElem?_set_self hlt, hi]; rfl
      · exact congrArg shape (List.getElem?_set_ne hij)
  | build hg ho hb hs hd => exact ⟨fun _ _ => rfl, fun _ _ => rfl⟩
  | buildSlice hg ho ht hk hte hlen hb hs hr hh hd => exact agree_fill rfl h
  | box hg ho hn hs hr hh hd => exact agree_fill rfl h
  | appOs hg ho ht hk ht' hk' hte hx hi hsrc hs hd => exact agree_fill rfl h
  | appNil hg ho ht hk ht' hk' hte hx hsrc hs hr hh hd => exact agree_fill rfl h

theorem Step.eff_ct {P : Program} {N n0 : Nat} {d : DOp} {E : Env} {σ : Heap} {x : EV} {f : FP} (H : Step P N n0 d E σ x f) {i : Nat} {b : Bool} {o : AObj} (h : f.eff = some (i, b, o)) : i ∈ f.ct := by
  cases H <;> simp_all

theorem apply_comm {f f' : FP} {σ : Heap} (h : ∀ i b o i' b' o', f.eff = some (i, b, o) → f'.eff = some (i', b', o') → i ≠ i') : f'.apply (f.apply σ) = f.apply (f'.apply σ) := by
  unfold FP.apply
  cases h1 : f.eff with
  | none => rfl
  | some p =>
    obtain ⟨i, b, o⟩ := p
    cases h2 : f'.eff with
    | none => rfl
    | some q =>
      obtain ⟨i', b', o'⟩ := q
      exact List.set_comm _ _ (h i b o i' b' o' h1 h2)

/-- two environments that read alike -/
def EnvEq (E E' : Env) : Prop := ∀ t, E.get t = E'.get t

theorem putE_get (d : Option Tmp) (x : EV) (E : Env) (t : Nat) : (putE d x E).get t = if d = some t then some x else E.get t := by
  cases d with
  | none => simp [putE]
  | some d =>
    simp only [putE, Env.get_put, Option.some.injEq]
    by_cases h : t = d
    · subst h; simp
    · rw [if_neg h, if_neg (Ne.symm h)]

theorem putE_eq {d : Option Tmp} {x : EV} {E E' : Env} (h : EnvEq E E') : EnvEq (putE d x E) (putE d x E') := fun t => by rw [putE_get, putE_get, h t]

theorem Step.eqv {P : Program} {N n0 : Nat} {d : DOp} {E E' : Env} {σ : Heap} {x : EV} {f : FP} (h : EnvEq E E') (H : Step P N n0 d E σ x f) : Step P N n0 d E' σ x f := H.env fun t _ => h t

/-- they touch no slot of one another -/
def DOp.apart (x y : DOp) : Bool :=
  (match x.p.dst with
   | some d => !(plooks y.p).contains d && y.p.dst != some d
   | none => true) &&
  (match y.p.dst with
   | some d => !(plooks x.p).contains d
   | none => true)

/-- Two operations in either order. -/
theorem step_swap {P : Program} {N n0 : Nat} {a b : DOp} {E : Env} {σ : Heap} {x y : EV} {f f' : FP} (hap : a.apart b = true) (ha : Step P N n0 a E σ x f) (hb : Step P N n0 b (putE a.p.dst x E) (f.apply σ) y f') (hc : compat f f') :
    Step P N n0 b E σ y f' ∧ Step P N n0 a (putE b.p.dst y E) (f'.apply σ) x f ∧ f'.apply (f.apply σ) = f.apply (f'.apply σ) ∧ EnvEq (putE b.p.dst y (putE a.p.dst x E)) (putE a.p.dst x (putE b.p.dst y E)) := by
  have h1 : ∀ d, a.p.dst = some d → d ∉ plooks b.p ∧ b.p.dst ≠ some d := fun d hd => by simp [DOp.apart, hd] at hap; exact hap.1
  have h2 : ∀ d, b.p.dst = some d → d ∉ plooks a.p := fun d hd => by simp [DOp.apart, hd] at hap; exact hap.2
  have e1 : SameOn (plooks b.p) (putE a.p.dst x E) E := fun t ht => by
    rw [putE_get, if_neg (fun e => (h1 t e).1 ht)]
  have e2 : SameOn (plooks a.p) E (putE b.p.dst y E) := fun t ht => by
    rw [putE_get, if_neg (fun e => h2 t e ht)]
  have hb' := (hb.env e1).agree (ha.agree_apply hc.1)
  refine ⟨hb', (ha.env e2).agree (hb'.agree_apply hc.2).symm, apply_comm fun i c o i' c' o' h3 h4 => ?_, fun t => ?_⟩
  · intro e
    subst e
    exact hc.1 (by simp only [FP.hits, h3]; exact .inl (hb.eff_ct h4))
  · rw [putE_get, putE_get, putE_get, putE_get]
    by_cases h3 : b.p.dst = some t
    · by_cases h4 : a.p.dst = some t
      · exact absurd h3 (h1 t h4).2
      · simp [h3, h4]
    · simp [h3]

end Go.Ab
