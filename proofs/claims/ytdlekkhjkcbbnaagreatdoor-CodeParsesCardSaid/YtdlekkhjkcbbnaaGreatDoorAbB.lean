/-
  The walk of code over the abstract heap: what a piece of code does to a state (AWP), what a call does (ACalls), loops.
-/
import Derived.Test.YtdlekkhjkcbbnaaGreatDoorAbA
set_option linter.unusedVariables false
set_option linter.unusedSimpArgs false
set_option linter.unusedSectionVars false
namespace Go.Ab
open Go
variable [GlobFacts]

abbrev Post := Exit → Env → Heap → Prop

/-- A state that is reached from (w0, L0). -/
def Lift (N : Nat) (w0 : World) (L0 : LM) (Q : Post) : Exit → Act → World → Prop :=
  fun e a w => ∃ E σ ρ, St N a w ρ E σ ∧ Tr w0 L0 w (lm σ ρ) ∧ Q e E σ

def AWP (P : Program) (N : Nat) (c : Code) (Q : Post) (E : Env) (σ : Heap) : Prop :=
  ∀ a w ρ, St N a w ρ E σ → c.wp P (Lift N w (lm σ ρ) Q) a w

section rules
variable {P : Program} {N : Nat} {Q : Post} {E : Env} {σ : Heap}

theorem Lift.from {w0 w1 : World} {L0 L1 : LM} {Q Q' : Post} {e : Exit} {a : Act} {w : World} (h : Tr w0 L0 w1 L1) (hq : ∀ e E σ, Q e E σ → Q' e E σ) (H : Lift N w1 L1 Q e a w) : Lift N w0 L0 Q' e a w :=
  let ⟨E, σ, ρ, h1, h2, h3⟩ := H
  ⟨E, σ, ρ, h1, h.trans h2, hq _ _ _ h3⟩

theorem AWP.mono {c : Code} {Q' : Post} (h : AWP P N c Q E σ) (hq : ∀ e E σ, Q e E σ → Q' e E σ) : AWP P N c Q' E σ :=
  fun a w ρ hs => wp_mono (h a w ρ hs) fun _ _ _ H => H.from (Tr.refl _ _) hq

def thenQ (K : Env → Heap → Prop) (Q : Post) : Post
  | .normal, E, σ => K E σ
  | e, E, σ => Q e E σ

theorem awp_skip (h : Q .normal E σ) : AWP P N .skip Q E σ := fun _ w ρ hs => wp_skip ⟨E, σ, ρ, hs, Tr.refl _ _, h⟩
theorem awp_label {l : Nat} (h : Q .normal E σ) : AWP P N (.label l) Q E σ := fun _ w ρ hs => wp_label ⟨E, σ, ρ, hs, Tr.refl _ _, h⟩
theorem awp_exit {i : Nat} (h : Q (.exit i) E σ) : AWP P N (.exit i) Q E σ := fun _ w ρ hs => wp_exit ⟨E, σ, ρ, hs, Tr.refl _ _, h⟩
theorem awp_ret (h : Q .ret E σ) : AWP P N .ret Q E σ := fun _ w ρ hs => wp_ret ⟨E, σ, ρ, hs, Tr.refl _ _, h⟩

theorem awp_seq {x y : Code} (h : AWP P N x (thenQ (AWP P N y Q) Q) E σ) : AWP P N (.seq x y) Q E σ := by
  intro a w ρ hs
  refine wp_seq (wp_mono (h a w ρ hs) fun e a' w' H => ?_)
  obtain ⟨E', σ', ρ', h1, h2, h3⟩ := H
  cases e with
  | normal => exact wp_mono (h3 a' w' ρ' h1) fun _ _ _ H => H.from h2 fun _ _ _ h => h
  | _ => exact ⟨E', σ', ρ', h1, h2, h3⟩

def blockQ (i : Nat) (Q : Post) : Post
  | .exit j, E, σ => if j = i then Q .normal E σ else Q (.exit j) E σ
  | e, E, σ => Q e E σ

theorem awp_block {i : Nat} {c : Code} (h : AWP P N c (blockQ i Q) E σ) : AWP P N (.block i c) Q E σ := by
  intro a w ρ hs
  refine wp_block (wp_mono (h a w ρ hs) fun e a' w' H => ?_)
  obtain ⟨E', σ', ρ', h1, h2, h3⟩ := H
  cases e with
  | exit j =>
    simp only [Exit.inBlock, blockQ] at *
    split
    · rename_i hj; rw [if_pos hj] at h3; exact ⟨E', σ', ρ', h1, h2, h3⟩
    · rename_i hj; rw [if_neg hj] at h3; exact ⟨E', σ', ρ', h1, h2, h3⟩
  | _ => exact ⟨E', σ', ρ', h1, h2, h3⟩

/-- Every round lowers a number. -/
theorem awp_loop {c : Code} (I : Nat → Env → Heap → Prop) (n0 : Nat) (h0 : I n0 E σ)
    (round : ∀ n E σ, I n E σ → AWP P N c (thenQ (fun E' σ' => ∃ m, m < n ∧ I m E' σ') Q) E σ) : AWP P N (.loop c) Q E σ := by
  intro a w ρ hs b k cs
  have key : ∀ n a1 w1 E1 σ1 ρ1, St N a1 w1 ρ1 E1 σ1 → Tr w (lm σ ρ) w1 (lm σ1 ρ1) → I n E1 σ1 →
      ∃ e a' w', Lift N w (lm σ ρ) Q e a' w' ∧ Arrives P (lone (b.at a1 (.code c :: .inLoop c :: k)) cs w1) b k cs e a' w' := by
    intro n
    induction n using Nat.strongRecOn with
    | _ n ih =>
      intro a1 w1 E1 σ1 ρ1 hs1 ht1 hI
      obtain ⟨e, a2, w2, hq, harr⟩ := round n E1 σ1 hI a1 w1 ρ1 hs1 b (.inLoop c :: k) cs
      obtain ⟨E2, σ2, ρ2, hs2, ht2, hq2⟩ := hq
      cases e with
      | normal =>
        obtain ⟨m, hm, hI2⟩ := hq2
        obtain ⟨e3, a3, w3, hq3, harr3⟩ := ih m hm a2 w2 E2 σ2 ρ2 hs2 (ht1.trans ht2) hI2
        exact ⟨e3, a3, w3, hq3, .of_steps (Steps.trans harr (.one step_inLoop)) harr3⟩
      | exit id => exact ⟨_, a2, w2, ⟨E2, σ2, ρ2, hs2, ht1.trans ht2, hq2⟩, .pass (x := .inLoop c) rfl (fun _ _ => .inl (by simp)) harr⟩
      | goto l => exact ⟨_, a2, w2, ⟨E2, σ2, ρ2, hs2, ht1.trans ht2, hq2⟩, .pass (x := .inLoop c) rfl (fun _ _ => .inl (by simp)) harr⟩
      | ret => exact ⟨_, a2, w2, ⟨E2, σ2, ρ2, hs2, ht1.trans ht2, hq2⟩, .pass (x := .inLoop c) rfl (fun _ _ => .inl (by simp)) harr⟩
      | panic ch => exact ⟨_, a2, w2, ⟨E2, σ2, ρ2, hs2, ht1.trans ht2, hq2⟩, .pass (x := .inLoop c) rfl (fun _ _ => .inl (by simp)) harr⟩
      | outgrown => exact ⟨_, a2, w2, ⟨E2, σ2, ρ2, hs2, ht1.trans ht2, hq2⟩, .pass (x := .inLoop c) rfl (fun _ _ => .inl (by simp)) harr⟩
  obtain ⟨e, a', w', hq, harr⟩ := key n0 a w E σ ρ hs (Tr.refl _ _) h0
  exact ⟨e, a', w', hq, .of_steps (.one step_loop) harr⟩

/-- What an operand is. -/
def cav : Value → AV
  | .agg cs => if cs.toList.all cellV then .agg (cs.toList.map .v) else .any
  | .tuple vs => .tup (vs.toList.map .v)
  | x => .v x

def lk (E : Env) : Operand → EV
  | .tmp t => (E.get t).getD ⟨true, .any⟩
  | .const x => ⟨true, cav x⟩
  | .global g => ⟨true, (GlobFacts.av g).getD (.v (.pointer (some ⟨g, 0, none⟩)))⟩
  | .func f => ⟨true, .fn (.func f) [] []⟩

theorem repL_map_v (w : World) (L : LM) : ∀ xs : List Value, RepL w L (xs.map .v) xs
  | [] => rfl
  | x :: xs => ⟨x, xs, rfl, rfl, repL_map_v w L xs⟩

theorem rep_cav (w : World) (L : LM) (x : Value) : Rep w L (cav x) x := by
  unfold cav
  split
  · split
    · rename_i h
      exact ⟨_, by simp, repL_map_v w L _, fun y hy => List.all_eq_true.1 h y hy⟩
    · trivial
  · exact ⟨_, by simp, repL_map_v w L _⟩
  · rfl

theorem St.val {a : Act} {w : World} {ρ : Locs} (h : St N a w ρ E σ) (x : Operand) (hc : (lk E x).c = true) : Rep w (lm σ ρ) (lk E x).a (a.eval x) := by
  cases x with
  | tmp t =>
    simp only [lk] at *
    cases hg : E.get t with
    | none => simp only [Option.getD_none]; simp [Rep]
    | some z =>
      obtain ⟨y, hy, hok⟩ := h.env t z hg
      simp only [hg, Option.getD_some] at *
      unfold EV.ok at hok
      rw [if_pos hc] at hok
      simpa [Act.eval, hy] using hok
  | const x => exact rep_cav _ _ x
  | global g =>
    show Rep w (lm σ ρ) ((GlobFacts.av g).getD _) (.pointer (some ⟨g, 0, Option.none⟩))
    cases hg : GlobFacts.av g with
    | none => rfl
    | some a => exact h.heap.glob.2.2 g a hg
  | func f => exact ⟨[], [], rfl, rfl, rfl⟩

theorem awp_cond {c : Operand} {x y : Code} {t : Bool} (hc : lk E c = ⟨true, .v (.bool t)⟩) (h1 : t = true → AWP P N x Q E σ) (h2 : t = false → AWP P N y Q E σ) : AWP P N (.cond c x y) Q E σ := by
  intro a w ρ hs
  have := hs.val c (by rw [hc])
  rw [hc] at this
  exact wp_cond_split this (fun ht => h1 ht a w ρ hs) (fun ht => h2 ht a w ρ hs)

/-- Less is known. -/
theorem St.weaken {a : Act} {w : World} {ρ : Locs} {E' : Env} (h : St N a w ρ E σ) (hE : ∀ t x, E'.get t = some x → E.get t = some x) : St N a w ρ E' σ :=
  ⟨h.tmps, h.defers, fun t x ht => h.env t x (hE t x ht), h.heap⟩

theorem AWP.weaken {c : Code} {E' : Env} (h : AWP P N c Q E' σ) (hE : ∀ t x, E'.get t = some x → E.get t = some x) : AWP P N c Q E σ :=
  fun a w ρ hs => h a w ρ (hs.weaken hE)

end rules

/-! ### Cutting the abstract heap down -/

def AObj.allI (V : Nat → Prop) : AObj → Prop
  | .dead _ => True
  | .hole => True
  | .row _ _ es => AllIL V es
  | .map _ es => ∀ x ∈ es, AllI V x.2
  | .tro _ _ _ es => AllIL V es
  | .it _ _ _ => True

def WfH (k : Nat) (σ : Heap) : Prop := ∀ o ∈ σ, o.allI (· < k)

theorem lm_lt {σ : Heap} {ρ : Locs} {i g : Nat} (h : lm σ ρ i g ≠ .bad) : i < σ.length := by
  unfold lm at h
  cases hi : σ[i]? with
  | none => simp [hi] at h
  | some o => exact (List.getElem?_eq_some_iff.1 hi).1

theorem mapRep_ids {w : World} {L : LM} {V : Nat → Prop} (hL : ∀ i g, L i g ≠ .bad → V i) : ∀ es ms, mapRep w L es ms → ∀ x ∈ es, AllI V x.2
  | [], _, _ => by simp
  | (k, a) :: es, ms, H => by
    obtain ⟨m, ms', _, _, hr, hs⟩ := H
    intro x hx
    rcases List.mem_cons.1 hx with rfl | hx
    · exact Rep.ids hL _ _ hr
    · exact mapRep_ids hL es ms' hs x hx

theorem mapRep.trV {V : Nat → Prop} {w w' : World} {L L' : LM} (h : TrV V w L w' L') : ∀ es ms, (∀ x ∈ es, AllI V x.2) → mapRep w L es ms → mapRep w' L' es ms
  | [], _, _, H => H
  | (k, a) :: es, ms, hv, H => by
    obtain ⟨m, ms', h1, h2, hr, hs⟩ := H
    exact ⟨m, ms', h1, h2, Rep.trV h a _ (hv _ List.mem_cons_self) hr, mapRep.trV h es ms' (fun x hx => hv x (List.mem_cons_of_mem _ hx)) hs⟩

theorem HeapOK.wf {w : World} {σ : Heap} {ρ : Locs} (h : HeapOK w σ ρ) : WfH σ.length σ := by
  intro o ho
  obtain ⟨i, hi⟩ := List.getElem?_of_mem ho
  have hlt := (List.getElem?_eq_some_iff.1 hi).1
  have hr : ρ[i]? = some (ρ[i]'(by rw [h.len]; exact hlt)) := List.getElem?_eq_getElem _
  have := h.obj i o _ hi hr
  have hL : ∀ j g, lm σ ρ j g ≠ .bad → j < σ.length := fun j g hg => lm_lt hg
  cases o with
  | dead g => trivial
  | hole => trivial
  | row g e es =>
    cases hr' : ρ[i]'(by rw [h.len]; exact hlt) with
    | none => rw [hr'] at this; simp only [ObjOK] at this; subst this; trivial
    | some p =>
      rw [hr'] at this
      obtain ⟨xs, ys, t, fr, _, _, _, hE⟩ := this
      exact RepE.ids hL e es xs hE
  | map g es =>
    cases hr' : ρ[i]'(by rw [h.len]; exact hlt) with
    | none => rw [hr'] at this; exact this.elim
    | some p =>
      rw [hr'] at this
      obtain ⟨_, ms, cl, _, hE⟩ := this
      exact mapRep_ids hL es _ hE
  | tro g t e es =>
    cases hr' : ρ[i]'(by rw [h.len]; exact hlt) with
    | none => rw [hr'] at this; exact this.elim
    | some p =>
      rw [hr'] at this
      obtain ⟨xs, ys, _, _, hE⟩ := this
      exact RepE.ids hL e es xs hE
  | it g s n => trivial
  
theorem ObjOK.trV {V : Nat → Prop} {w w' : World} {L L' : LM} (h : TrV V w L w' L') {o : AObj} {r : Option (Nat × Nat)} (hv : o.allI V) (hb : ∀ b s, r = some (b, s) → w'.heap[b]? = w.heap[b]?) (H : ObjOK w L o r) : ObjOK w' L' o r := by
  cases o with
  | dead g => exact H
  | hole => exact H
  | row g e es =>
    cases r with
    | none => exact H
    | some p =>
      obtain ⟨b, sz⟩ := p
      obtain ⟨xs, ys, t, fr, h1, h2, h3, h4⟩ := H
      exact ⟨xs, ys, t, fr, by rw [hb b sz rfl]; exact h1, h2, h3, RepE.trV h e es xs hv h4⟩
  | map g es =>
    cases r with
    | none => exact H
    | some p =>
      obtain ⟨b, sz⟩ := p
      obtain ⟨h0, ms, cl, h1, h2⟩ := H
      exact ⟨h0, ms, cl, by rw [hb b sz rfl]; exact h1, mapRep.trV h es _ hv h2⟩
  | tro g t e es =>
    cases r with
    | none => exact H
    | some p =>
      obtain ⟨b, sz⟩ := p
      obtain ⟨xs, ys, h1, h2, h4⟩ := H
      exact ⟨xs, ys, by rw [hb b sz rfl]; exact h1, h2, RepE.trV h e es xs hv h4⟩
  | it g s n =>
    cases r with
    | none => exact H
    | some p =>
      obtain ⟨b, sz⟩ := p
      exact ⟨H.1, by rw [hb b sz rfl]; exact H.2⟩

theorem lm_take {σ : Heap} {ρ : Locs} {k i g : Nat} (hi : i < k) : lm (σ.take k) (ρ.take k) i g = lm σ ρ i g := by
  unfold lm
  simp [hi]

theorem owned_lm {σ : Heap} {ρ : Locs} {b : Nat} (h : Owned (lm σ ρ) b) : ∃ (i : Nat) (s : Nat), ρ[i]? = some (some (b, s)) := by
  obtain ⟨i, g, e, sz, h⟩ := h
  unfold lm at h
  split at h
  · rename_i o r ho hr
    unfold loOf at h
    split at h
    · cases h
    · split at h
      · cases h
      · split at h <;> first | (cases h; done) | (cases h; exact ⟨i, _, hr⟩)
  · cases h

theorem owned_of_loc {w : World} {σ : Heap} {ρ : Locs} (hh : HeapOK w σ ρ) {b i s : Nat} (h : ρ[i]? = some (some (b, s))) : Owned (lm σ ρ) b := by
  have hlt : i < σ.length := by rw [← hh.len]; exact (List.getElem?_eq_some_iff.1 h).1
  have ho : σ[i]? = some σ[i] := List.getElem?_eq_getElem hlt
  have hob := hh.obj i _ _ ho h
  cases hc : σ[i] with
  | dead g => rw [hc] at hob; cases hob
  | hole => rw [hc] at hob; cases hob
  | row g e es => exact ⟨i, g, e, s, by simp [lm, ho, h, hc, loOf, AObj.gen]⟩
  | map g es => rw [hc] at hob; exact ⟨i, g, 0, s, by simp [lm, ho, h, hc, loOf, AObj.gen]⟩
  | tro g t e es => exact ⟨i, g, e, s, by simp [lm, ho, h, hc, loOf, AObj.gen]⟩
  | it g s' n => rw [hc] at hob; exact ⟨i, g, 0, s, by simp [lm, ho, h, hc, loOf, AObj.gen]⟩

/-- The objects from k on are forgotten. -/
theorem HeapOK.take {w : World} {σ : Heap} {ρ : Locs} (h : HeapOK w σ ρ) (k : Nat) (hk : WfH k (σ.take k)) :
    HeapOK w (σ.take k) (ρ.take k) ∧ TrV (· < k) w (lm σ ρ) w (lm (σ.take k) (ρ.take k)) := by
  have htr : TrV (· < k) w (lm σ ρ) w (lm (σ.take k) (ρ.take k)) := by
    refine ⟨rfl, rfl, Nat.le_refl _, fun _ _ _ => rfl, fun b hb => .inl ?_, fun i g hi _ => .inl (lm_take hi)⟩
    obtain ⟨i, s, hi⟩ := owned_lm hb
    rw [List.getElem?_take] at hi
    split at hi
    · exact owned_of_loc h hi
    · cases hi
  refine ⟨⟨by simp [h.len], fun i o r ho hr => ?_, fun i j b s s' hi hj => ?_, h.glob.tr htr⟩, htr⟩
  · have ho' := ho
    rw [List.getElem?_take] at ho hr
    split at ho
    · rename_i hik
      rw [if_pos hik] at hr
      exact (h.obj i o r ho hr).trV htr (hk o (List.mem_of_getElem? ho')) (fun _ _ _ => rfl)
    · cases ho
  · rw [List.getElem?_take] at hi hj
    split at hi
    · split at hj
      · exact h.inj i j b s s' hi hj
      · cases hj
    · cases hi

/-! ### Calls -/

/-- the result is read off the frame -/
def ares (P : Program) (fn : Func) (E : Env) (σ : Heap) (r : AV) : Prop :=
  ∀ N a w ρ, St N a w ρ E σ → ∃ v, (results fn a.tmps).run P w = .ok v w ∧ Rep w (lm σ ρ) r v

/-- A call of f with these arguments, from this abstract heap. -/
def ACalls (P : Program) (f : FuncId) (args : List AV) (σ : Heap) (R : AV → Heap → Prop) : Prop :=
  (∀ (as : Array Value) w, (callFunc f as).run P w = .ok (.enter f as) w) ∧
  ∀ vs w ρ, HeapOK w σ ρ → RepL w (lm σ ρ) args vs → Calls P f vs.toArray w fun e w' =>
    ∃ v r σ' ρ', e = .returned v ∧ HeapOK w' σ' ρ' ∧ Tr w (lm σ ρ) w' (lm σ' ρ') ∧ Rep w' (lm σ' ρ') r v ∧ R r σ'

theorem ACalls.mono {P : Program} {f : FuncId} {args : List AV} {σ : Heap} {R R' : AV → Heap → Prop} (h : ACalls P f args σ R) (hr : ∀ r σ', R r σ' → R' r σ') : ACalls P f args σ R' :=
  ⟨h.1, fun vs w ρ h1 h2 => (h.2 vs w ρ h1 h2).mono fun _ _ ⟨v, r, σ', ρ', e1, e2, e3, e4, e5⟩ => ⟨v, r, σ', ρ', e1, e2, e3, e4, hr _ _ e5⟩⟩

def env0 : Nat → List AV → Env
  | _, [] => []
  | i, a :: as => (i, ⟨true, a⟩) :: env0 (i + 1) as

theorem env0_get : ∀ (args : List AV) (i t : Nat), (env0 i args).get t = if i ≤ t then (args[t - i]?).map (⟨true, ·⟩) else none
  | [], i, t => by simp [env0, Env.get]
  | a :: as, i, t => by
    simp only [env0, Env.get]
    by_cases h : i = t
    · subst h; simp
    · rw [if_neg h, env0_get as (i + 1) t]
      by_cases h2 : i + 1 ≤ t
      · rw [if_pos h2, if_pos (by omega), show t - i = (t - (i + 1)) + 1 from by omega]; simp
      · rw [if_neg h2, if_neg (by omega)]

theorem repL_get {w : World} {L : LM} : ∀ {l : List AV} {xs : List Value}, RepL w L l xs → xs.length = l.length ∧ ∀ (i : Nat) a, l[i]? = some a → ∃ x, xs[i]? = some x ∧ Rep w L a x
  | [], xs, H => by simp only [RepL] at H; subst H; simp
  | a :: l, xs, H => by
    obtain ⟨y, ys, rfl, hr, hs⟩ := H
    obtain ⟨h1, h2⟩ := repL_get hs
    refine ⟨by simp [h1], fun i b hb => ?_⟩
    cases i with
    | zero => simp at hb; subst hb; exact ⟨y, rfl, hr⟩
    | succ i => simpa using h2 i b (by simpa using hb)

/-- A result r, in the heap σ, is as good as one of which R holds, for a caller that knows the first n objects. -/
def RetOK (n : Nat) (r : AV) (σ : Heap) (R : AV → Heap → Prop) : Prop :=
  ∀ w ρ v, HeapOK w σ ρ → Rep w (lm σ ρ) r v → ∃ r' σ' ρ', HeapOK w σ' ρ' ∧ TrV (· < n) w (lm σ ρ) w (lm σ' ρ') ∧ Rep w (lm σ' ρ') r' v ∧ R r' σ'

theorem retOK_take {n : Nat} {r : AV} {σ : Heap} {R : AV → Heap → Prop} (k : Nat) (hk : n ≤ k) (hid : AllI (· < k) r) (hwf : WfH k (σ.take k)) (hR : R r (σ.take k)) : RetOK n r σ R := by
  intro w ρ v hh hrep
  obtain ⟨ht1, ht2⟩ := hh.take k hwf
  exact ⟨r, _, _, ht1, ht2.mono (fun i (hi : i < n) => Nat.lt_of_lt_of_le hi hk), Rep.trV ht2 r v hid hrep, hR⟩

/-- Where a body ends: the result. -/
def retQ (P : Program) (fn : Func) (n : Nat) (R : AV → Heap → Prop) : Post
  | .normal, E, σ | .ret, E, σ => ∃ r, ares P fn E σ r ∧ RetOK n r σ R
  | _, _, _ => False

theorem acalls_of {P : Program} {f : FuncId} {fn : Func} {c : Code} {args : List AV} {σ : Heap} {R : AV → Heap → Prop}
    (hf : P.funcs[f]? = some fn) (hb : fn.body = some c) (hcall : ∀ (as : Array Value) w, (callFunc f as).run P w = .ok (.enter f as) w) (hn : args.length ≤ fn.ntmps)
    (h : WfH σ.length σ → AWP P fn.ntmps c (retQ P fn σ.length R) (env0 0 args) σ) : ACalls P f args σ R := by
  refine ⟨hcall, fun vs w ρ hh hr => calls_of_wp hf hb ?_⟩
  obtain ⟨hl, hg⟩ := repL_get hr
  have hs : St fn.ntmps { tmps := vs.toArray ++ Array.replicate (fn.ntmps - vs.toArray.size) undef, defers := [] } w ρ (env0 0 args) σ := by
    refine ⟨by simp [hl]; omega, rfl, fun t x ht => ?_, hh⟩
    rw [env0_get] at ht
    simp at ht
    obtain ⟨a, ha, rfl⟩ := ht
    obtain ⟨y, hy, hr⟩ := hg t a ha
    have hlt := (List.getElem?_eq_some_iff.1 hy).1
    refine ⟨y, ?_, by simpa [EV.ok] using hr⟩
    rw [Array.getElem?_append_left (by simpa using hlt)]
    simpa using hy
  refine wp_mono (h hh.wf _ w ρ hs) fun e a' w' H => ?_
  obtain ⟨E', σ', ρ', h1, h2, h3⟩ := H
  have fin : (∃ r, ares P fn E' σ' r ∧ RetOK σ.length r σ' R) → a'.defers = [] ∧ ∃ v, (results fn a'.tmps).run P w' = .ok v w' ∧
      ∃ v' r σ'' ρ'', Ending.returned v = .returned v' ∧ HeapOK w' σ'' ρ'' ∧ Tr w (lm σ ρ) w' (lm σ'' ρ'') ∧ Rep w' (lm σ'' ρ'') r v' ∧ R r σ'' := by
    rintro ⟨r, har, hret⟩
    obtain ⟨v, hv, hrep⟩ := har _ _ _ _ h1
    obtain ⟨r', σ'', ρ'', ht1, ht2, hrep', hR⟩ := hret w' ρ' v h1.heap hrep
    have htr : Tr w (lm σ ρ) w' (lm σ'' ρ'') := by
      have h2' : TrV (· < σ.length) w (lm σ ρ) w' (lm σ' ρ') := h2.mono (fun _ _ => trivial)
      have h4 := h2'.trans ht2
      exact ⟨h4.os, h4.output, h4.size, h4.keep, h4.own, fun i g _ hg => h4.loc i g (lm_lt hg) hg⟩
    exact ⟨h1.defers, v, hv, v, r', σ'', ρ'', rfl, ht1, htr, hrep', hR⟩
  cases e with
  | normal => exact fin h3
  | ret => exact fin h3
  | _ => exact h3.elim

end Go.Ab
