/-
  Results; loops with a state that is said; small rules for a walk.
-/
import Derived.Test.YtdlekkhjkcbbnaaGreatDoorAbK
set_option linter.unusedVariables false
set_option linter.unusedSimpArgs false
set_option linter.unusedSectionVars false
namespace Go.Ab
open Go
variable [GlobFacts]

/-- a result -/
def ares1 (P : Program) (E : Env) (σ : Heap) : ResultVar → Option (Prop × AV)
  | .tmp t => match E.get t with
    | some ⟨c, a⟩ => if c then some (True, a) else none
    | none => none
  | .cell p t => match E.get p with
    | some ⟨c, a⟩ => if c then match tinf P t with
      | some ti => match a with
        | .ptr i g k off => if alive σ i g then aload σ ti (.ptr i g k off) else none
        | _ => none
      | none => none
      else none
    | none => none

def aresL (P : Program) (E : Env) (σ : Heap) : List ResultVar → Option (Prop × List AV)
  | [] => some (True, [])
  | x :: xs => match ares1 P E σ x, aresL P E σ xs with
    | some (s, a), some (s', as) => some (s ∧ s', a :: as)
    | _, _ => none

def aresF (P : Program) (rs : List ResultVar) (E : Env) (σ : Heap) : Option (Prop × AV) :=
  match aresL P E σ rs with
  | some (s, [a]) => some (s, a)
  | some (s, as) => some (s, .tup as)
  | none => none

def resSem (tmps : Array Value) : ResultVar → Sem Value
  | .tmp t => pure (tmps.getD t undef)
  | .cell p t => do loadVar t (← asAddr (tmps.getD p undef))

theorem results_eq (fn : Func) (tmps : Array Value) : results fn tmps = (fn.results.mapM (resSem tmps)) >>= fun vs => pure (if h : vs.size = 1 then vs[0] else .tuple vs) := by
  unfold results
  congr 2

section
variable {P : Program} {N : Nat} {E : Env} {σ : Heap}

theorem ares1_sound {x : ResultVar} {s : Prop} {r : AV} (h : ares1 P E σ x = some (s, r)) (hs : s) {a : Act} {w : World} {ρ : Locs} (hst : St N a w ρ E σ) :
    ∃ v, (resSem a.tmps x).run P w = .ok v w ∧ Rep w (lm σ ρ) r v := by
  unfold ares1 at h
  split at h
  · rename_i t
    split at h
    · rename_i c av he
      split at h
      · rename_i hc
        cases h; subst hc
        obtain ⟨y, hy, hok⟩ := hst.env t _ he
        simp only [EV.ok, if_true] at hok
        exact ⟨y, by simp [resSem, hy], hok⟩
      · cases h
    · cases h
  · rename_i p t
    split at h
    · rename_i c av he
      split at h
      · rename_i hc
        subst hc
        obtain ⟨y, hy, hok⟩ := hst.env p _ he
        simp only [EV.ok, if_true] at hok
        split at h
        · rename_i ti ht
          split at h
          · rename_i i g k off
            split at h
            · rename_i hal
              obtain ⟨b, e, sz, _, hp⟩ := rep_ptr_alive hst.heap hal hok
              obtain ⟨v, hv, hr⟩ := does_load hst.heap ht h hs hok
              refine ⟨v, ?_, hr⟩
              subst hp
              simp only [Instr.loadAt, Instr.sureAddr, Sem.run_bind, Sem.run_pure, Result.andThen_ok] at hv
              simp [resSem, hy, asAddr, hv]
            · cases h
          · cases h
        · cases h
      · cases h
    · cases h

theorem ares_of {fn : Func} {rs : List ResultVar} (hrs : fn.results = rs.toArray) {s : Prop} {r : AV} (h : aresF P rs E σ = some (s, r)) (hs : s) : ares P fn E σ r := by
  intro N a w ρ hst
  have key : ∀ (l : List ResultVar) (s : Prop) (as : List AV), aresL P E σ l = some (s, as) → s → ∃ vs : List Value, (l.mapM (resSem a.tmps)).run P w = .ok vs w ∧ RepL w (lm σ ρ) as vs := by
    intro l
    induction l with
    | nil => intro s as h _; simp only [aresL] at h; cases h; exact ⟨[], by simp, rfl⟩
    | cons x xs ih =>
      intro s as h hs
      simp only [aresL] at h
      split at h
      · rename_i s1 a1 s2 as2 h1 h2
        cases h
        obtain ⟨v, hv, hr⟩ := ares1_sound h1 hs.1 hst
        obtain ⟨vs, hvs, hrs⟩ := ih s2 as2 h2 hs.2
        refine ⟨v :: vs, ?_, v, vs, rfl, hr, hrs⟩
        rw [List.mapM_cons]
        simp only [Sem.run_bind]
        simp only [hv, Result.andThen_ok, hvs, Sem.run_pure]
      · cases h
  unfold aresF at h
  have run : ∀ vs : List Value, (rs.mapM (resSem a.tmps)).run P w = .ok vs w → (results fn a.tmps).run P w = .ok (if h : vs.length = 1 then vs[0] else .tuple vs.toArray) w := by
    intro vs hvs
    rw [results_eq, hrs, List.mapM_toArray]
    simp only [Sem.run_bind, Sem.run_map, hvs, Result.andThen_ok, Sem.run_pure]
    congr 1
  split at h
  · rename_i s' a' hl
    cases h
    obtain ⟨vs, hv, hr⟩ := key rs _ _ hl hs
    obtain ⟨v, _, rfl, hv1, rfl⟩ := hr
    exact ⟨v, by rw [run _ hv]; simp, hv1⟩
  · rename_i s' as hne hl
    cases h
    obtain ⟨vs, hv, hr⟩ := key rs _ _ hl hs
    have hlen := (repL_get hr).1
    have : vs.length ≠ 1 := by
      intro h1
      match as, hne, hlen with
      | [a], hne, _ => exact hne a rfl
      | [], _, h2 => simp at h2; rw [h2] at h1; simp at h1
      | a :: b :: as, _, h2 => rw [h1] at h2; simp at h2
    exact ⟨.tuple vs.toArray, by rw [run _ hv, dif_neg this], ⟨vs, rfl, hr⟩⟩
  · cases h

/-- 'E has all of F' -/
def Env.has (E F : Env) : Prop := ∀ t x, F.get t = some x → E.get t = some x

def Env.hasL (E : Env) : Env → Prop
  | [] => True
  | (t, x) :: F => E.get t = some x ∧ Env.hasL E F

theorem Env.has_of {E : Env} : ∀ {F : Env}, Env.hasL E F → Env.has E F
  | [], _ => fun t x h => by simp [Env.get] at h
  | (u, y) :: F, h => fun t x hx => by
    simp only [Env.get] at hx
    split at hx
    · rename_i e; subst e; cases hx; exact h.1
    · exact Env.has_of h.2 t x hx

/-- A loop, its states said by a number of parameters X: what the slots hold, the heap, what else is known. -/
theorem loop_of {X : Type} {c : Code} {Q : Post} (En : X → Env) (H : X → Heap) (p : X → Prop) (m : X → Nat) (x0 : X) (h0 : p x0) (hE : Env.hasL E (En x0)) (hH : σ = H x0)
    (round : ∀ x, p x → AWP P N c (thenQ (fun E' σ' => ∃ y, m y < m x ∧ p y ∧ Env.hasL E' (En y) ∧ σ' = H y) Q) (En x) (H x)) : AWP P N (.loop c) Q E σ := by
  refine awp_loop (fun n E σ => ∃ x, m x = n ∧ p x ∧ Env.has E (En x) ∧ σ = H x) (m x0) ⟨x0, rfl, h0, Env.has_of hE, hH⟩ ?_
  rintro n E σ ⟨x, rfl, hp, hE, rfl⟩
  refine ((round x hp).weaken hE).mono fun e E' σ' h => ?_
  cases e with
  | normal => obtain ⟨y, h1, h2, h3, h4⟩ := h; exact ⟨m y, h1, y, rfl, h2, Env.has_of h3, h4⟩
  | _ => exact h

/-- where a function ends: computed -/
def retV (P : Program) (rs : List ResultVar) (n : Nat) (R : AV → Heap → Prop) : Post
  | .normal, E, σ | .ret, E, σ => match aresF P rs E σ with
    | some (s, r) => s ∧ RetOK n r σ R
    | none => False
  | _, _, _ => False

theorem retV_sound {fn : Func} {rs : List ResultVar} (hrs : fn.results = rs.toArray) {n : Nat} {R : AV → Heap → Prop} {e : Exit} (h : retV P rs n R e E σ) : retQ P fn n R e E σ := by
  cases e <;> simp only [retV] at h <;> first | exact h.elim | skip
  all_goals
    split at h
    · rename_i s r hr
      exact ⟨r, ares_of hrs hr h.1, h.2⟩
    · exact h.elim

/-- the heap as it was -/
theorem retOK_same {r : AV} {R : AV → Heap → Prop} (hw : WfH σ.length σ) (hr : AllI (· < σ.length) r) (h : R r σ) : RetOK σ.length r σ R :=
  retOK_take σ.length (Nat.le_refl _) hr (by rw [List.take_length]; exact hw) (by rw [List.take_length]; exact h)

/-- what was made is forgotten -/
theorem retOK_app {l : Heap} {r : AV} {R : AV → Heap → Prop} (hw : WfH σ.length σ) (hr : AllI (· < σ.length) r) (h : R r σ) : RetOK σ.length r (σ ++ l) R :=
  retOK_take σ.length (Nat.le_refl _) hr (by rw [List.take_left]; exact hw) (by rw [List.take_left]; exact h)

theorem acalls_go {f : FuncId} {fn : Func} {c : Code} {args : List AV} {R : AV → Heap → Prop}
    (hf : P.funcs[f]? = some fn) (hb : fn.body = some c) (hcall : ∀ (as : Array Value) w, (callFunc f as).run P w = .ok (.enter f as) w) (hN : fn.ntmps = N) {rs : List ResultVar} (hrs : fn.results = rs.toArray) (hn : args.length ≤ N)
    (h : WfH σ.length σ → vcode P N c (retV P rs σ.length R) (env0 0 args) σ) : ACalls P f args σ R := by
  subst hN
  exact acalls_of hf hb hcall hn fun hw => (vcode_sound _ (h hw)).mono fun _ _ _ h => retV_sound hrs h

/-- what holds before the next round -/
def loopQ {X : Type} (En : X → Env) (H : X → Heap) (p : X → Prop) (less : X → Prop) : Env → Heap → Prop := fun E' σ' => ∃ y, less y ∧ p y ∧ Env.hasL E' (En y) ∧ σ' = H y

@[go_sem] theorem loopQ_eq {X : Type} {En : X → Env} {H : X → Heap} {p : X → Prop} {less : X → Prop} : loopQ En H p less E σ = ∃ y, less y ∧ p y ∧ Env.hasL E (En y) ∧ σ = H y := rfl

/-- the same, the loop's body walked by vcode -/
theorem loop_go {X : Type} {c : Code} {Q : Post} (En : X → Env) (H : X → Heap) (p : X → Prop) (m : X → Nat) (x0 : X) (h0 : p x0) (hE : Env.hasL E (En x0)) (hH : σ = H x0)
    (round : ∀ x, p x → vcode P N c (thenQ (loopQ En H p (fun y => m y < m x)) Q) (En x) (H x)) : AWP P N (.loop c) Q E σ :=
  loop_of En H p m x0 h0 hE hH fun x hp => vcode_sound _ (round x hp)

section
variable {K : Env → Heap → Prop} {Q : Post} {o : POp} {os : List POp} {ops : Array Oper} {id i j n : Nat} {x y : Code} {c : Operand} {R : AV → Heap → Prop} {rs : List ResultVar}
@[go_sem] theorem vops_nil : vops P N K [] E σ = K E σ := rfl
@[go_sem] theorem vops_cons : vops P N K (o :: os) E σ = vop P N o E σ (vops P N K os) := rfl
@[go_sem] theorem vcode_skip : vcode P N .skip Q E σ = Q .normal E σ := rfl
@[go_sem] theorem vcode_region : vcode P N (.region id ops false) Q E σ = vops P N (Q .normal) (prep ops) E σ := rfl
@[go_sem] theorem vcode_draw : vcode P N (.region id ops true) Q E σ = AWP P N (.region id ops true) Q E σ := rfl
@[go_sem] theorem vcode_seq : vcode P N (.seq x y) Q E σ = vcode P N x (thenQ (vcode P N y Q) Q) E σ := rfl
@[go_sem] theorem vcode_cond : vcode P N (.cond c x y) Q E σ = match lk E c with
    | ⟨true, .v (.bool t)⟩ => if t = true then vcode P N x Q E σ else vcode P N y Q E σ
    | _ => AWP P N (.cond c x y) Q E σ := rfl
@[go_sem] theorem vcode_block : vcode P N (.block i x) Q E σ = vcode P N x (blockQ i Q) E σ := rfl
@[go_sem] theorem vcode_loop : vcode P N (.loop x) Q E σ = AWP P N (.loop x) Q E σ := rfl
@[go_sem] theorem vcode_exit : vcode P N (.exit i) Q E σ = Q (.exit i) E σ := rfl
@[go_sem] theorem vcode_label : vcode P N (.label i) Q E σ = Q .normal E σ := rfl
@[go_sem] theorem vcode_ret : vcode P N .ret Q E σ = Q .ret E σ := rfl
@[go_sem] theorem thenQ_normal : thenQ K Q .normal E σ = K E σ := rfl
@[go_sem] theorem thenQ_ret : thenQ K Q .ret E σ = Q .ret E σ := rfl
@[go_sem] theorem thenQ_exit : thenQ K Q (.exit i) E σ = Q (.exit i) E σ := rfl
@[go_sem] theorem blockQ_normal : blockQ i Q .normal E σ = Q .normal E σ := rfl
@[go_sem] theorem blockQ_ret : blockQ i Q .ret E σ = Q .ret E σ := rfl
@[go_sem] theorem blockQ_exit : blockQ i Q (.exit j) E σ = if j = i then Q .normal E σ else Q (.exit j) E σ := rfl
@[go_sem] theorem retV_normal : retV P rs n R .normal E σ = match aresF P rs E σ with
    | some (s, r) => s ∧ RetOK n r σ R
    | none => False := rfl
@[go_sem] theorem retV_ret : retV P rs n R .ret E σ = match aresF P rs E σ with
    | some (s, r) => s ∧ RetOK n r σ R
    | none => False := rfl
end

end
end Go.Ab
namespace Go.Ab
attribute [go_sem ↓] reduceIte
attribute [go_sem] chunks aints vapp veff2 vcall asrc abuild placesA fillA acells mapP fillE List.replicate_succ List.replicate_zero prep prep1 prepG vop veff vstore gcond apure abinT abin lk cav Env.get Env.put putK opsC Op.operands Call.operands abuiltin aref aload asub alive rowE aindexAddr afieldAddr afield aindex abound aslice aunary aconvert apick acallee asz acell aput over env0 Env.hasL aresF aresL ares1 cellV vagg
attribute [go_sem] imp_self implies_true true_and and_true forall_const if_true if_false Bool.true_and Bool.and_true Option.getD_some Option.getD_none Option.map_some Option.map_none Option.bind_some Option.bind_none ite_true ite_false decide_eq_true_eq decide_eq_false_iff_not Bool.cond_false_right Bool.cond_true_left Bool.cond_true_right Bool.cond_false_left Bool.and_eq_true Bool.or_eq_true and_false false_and or_false false_or true_or or_true not_false_eq_true Bool.and_false Bool.false_and Bool.or_false Bool.false_or Bool.true_or Bool.or_true Bool.not_true Bool.not_false Bool.false_eq_true List.map_cons List.map_nil List.getElem?_toArray List.toList_toArray reduceCtorEq Nat.reduceEqDiff Nat.reduceBEq Nat.reduceLT Nat.reduceAdd Nat.reduceMul Nat.reduceSub reduceIte Int.reduceNeg and_self Bool.and_self List.getElem?_map List.length_map Int.toNat_natCast Array.toList_append List.nil_append List.cons_append true_imp_iff false_imp_iff Int.ofNat_lt Int.ofNat_le Int.natCast_nonneg Option.some.injEq EV.mk.injEq AV.v.injEq Value.int.injEq Value.bool.injEq exists_eq_left not_true_eq_false not_false_eq_true eq_self Bool.not_eq_true' Bool.not_eq_false'
end Go.Ab
