/-
  One operation of a region, over a state (vop): operations that leave memory alone, choices, calls; new variables and stores.
-/
import Derived.Test.YtdlekkhjkcbbnaaGreatDoorAbI
set_option linter.unusedVariables false
set_option linter.unusedSimpArgs false
set_option linter.unusedSectionVars false
namespace Go.Ab
open Go
variable [GlobFacts]

def OpQ (N : Nat) (w0 : World) (L0 : LM) (K : Env → Heap → Prop) : Act → World → Prop :=
  fun a w => ∃ E σ ρ, St N a w ρ E σ ∧ Tr w0 L0 w (lm σ ρ) ∧ K E σ

def NoExit : Exit → Act → World → Prop := fun _ _ _ => False

/-- An operation as a walk needs it: the slot it writes, the operation, its type, the slot that guards it. -/
structure POp where
  dst : Option Tmp
  op : Op
  type : TypeId
  g : Option (Option Tmp × Bool)

def POp.oper (p : POp) : Oper := { dst := p.dst, op := p.op, type := p.type, pos := "", after := #[], guard := none }

def wantedG (g : Option (Option Tmp × Bool)) (tmps : Array Value) : Bool :=
  match g with
  | none => true
  | some (none, _) => false
  | some (some d, want) => match tmps[d]? with
    | some (.bool b) => b == want
    | _ => false

def prepG (ops : Array Oper) (g : Option (Nat × Bool)) : Option (Option Tmp × Bool) :=
  match g with
  | none => none
  | some (j, want) => some ((ops[j]?).bind (·.dst), want)

def prep1 (ops : Array Oper) (o : Oper) : POp := ⟨o.dst, o.op, o.type, prepG ops o.guard⟩

theorem wanted_prep (ops : Array Oper) (o : Oper) (tmps : Array Value) : Region.wanted o (yielded ops tmps) = wantedG (prepG ops o.guard) tmps := by
  unfold Region.wanted prepG wantedG
  cases hg : o.guard with
  | none => rfl
  | some p =>
    obtain ⟨j, want⟩ := p
    simp only [yielded]
    cases hd : (ops[j]?).bind (·.dst) with
    | none => simp
    | some d =>
      simp only [Option.bind_some]
      cases tmps[d]? with
      | none => rfl
      | some x => cases x <;> first | rfl | (rename_i b; cases b <;> cases want <;> rfl)

theorem wp_prep (P : Program) (ops : Array Oper) (o : Oper) (a : Act) (w : World) (K : Act → World → Prop) (Q : Exit → Act → World → Prop) : (prep1 ops o).oper.wp P a w K Q = o.wp P a w K Q := rfl

/-- An operation takes every state that is (E, σ) to one of which K holds. -/
def AOp (P : Program) (N : Nat) (o : POp) (E : Env) (σ : Heap) (K : Env → Heap → Prop) : Prop :=
  ∀ a w ρ, St N a w ρ E σ → if wantedG o.g a.tmps then o.oper.wp P a w (OpQ N w (lm σ ρ) K) NoExit else OpQ N w (lm σ ρ) K (a.put o.dst undef) w

theorem wp_of_noExit {P : Program} {o : Oper} {a : Act} {w : World} {K : Act → World → Prop} {Q : Exit → Act → World → Prop} (h : o.wp P a w K NoExit) : o.wp P a w K Q := by
  unfold Oper.wp at *
  generalize (execOp a.eval o).run P w = r at *
  cases r with
  | ok n w' =>
    cases n <;> simp only [Oper.upon] at h ⊢ <;>
      first
        | exact h
        | (refine Calls.mono h fun e w'' he => ?_
           cases e with
           | returned v => exact he
           | panicked c => exact he.elim
           | outgrown => obtain ⟨_, _, h⟩ := he; exact h.elim)
  | halt x w' => cases x <;> simp only [Oper.upon, NoExit] at h ⊢

def AOps (P : Program) (N : Nat) (K : Env → Heap → Prop) : List POp → Env → Heap → Prop
  | [], E, σ => K E σ
  | o :: os, E, σ => AOp P N o E σ (AOps P N K os)

theorem aops_sound {P : Program} {N : Nat} {ops : Array Oper} {K : Env → Heap → Prop} {Q : Exit → Act → World → Prop} : ∀ (l : List Oper) (i : Nat), ops.toList.drop i = l → ∀ (E : Env) (σ : Heap) (a : Act) (w : World) (ρ : Locs) (w0 : World) (L0 : LM),
    AOps P N K (l.map (prep1 ops)) E σ → St N a w ρ E σ → Tr w0 L0 w (lm σ ρ) → (∀ a w, OpQ N w0 L0 K a w → Q .normal a w) → wpOps P ops Q (List.range' i l.length) a w
  | [], i, hl, E, σ, a, w, ρ, w0, L0, h, hs, ht, hq => by
    simp only [List.length_nil, List.range'_zero, wpOps]
    exact hq a w ⟨E, σ, ρ, hs, ht, h⟩
  | o :: os, i, hl, E, σ, a, w, ρ, w0, L0, h, hs, ht, hq => by
    have hi : ops[i]? = some o := by
      have := congrArg (·[0]?) hl
      simpa using this
    have hl' : ops.toList.drop (i + 1) = os := by
      have := congrArg (List.drop 1) hl
      simpa [List.drop_drop, Nat.add_comm] using this
    simp only [List.length_cons, List.range'_succ, wpOps, hi]
    have h1 := h a w ρ hs
    have next : ∀ a' w', OpQ N w (lm σ ρ) (AOps P N K (os.map (prep1 ops))) a' w' → wpOps P ops Q (List.range' (i + 1) os.length) a' w' := by
      rintro a' w' ⟨E', σ', ρ', hs', ht', hk⟩
      exact aops_sound os (i + 1) hl' E' σ' a' w' ρ' w0 L0 hk hs' (ht.trans ht') hq
    rw [wanted_prep]
    split
    · rename_i hw
      rw [show (prep1 ops o).g = prepG ops o.guard from rfl, if_pos hw] at h1
      rw [wp_prep] at h1
      exact .inl (Oper.wp_mono next (wp_of_noExit h1))
    · rename_i hw
      rw [show (prep1 ops o).g = prepG ops o.guard from rfl, if_neg hw] at h1
      exact next _ _ h1

def prep (ops : Array Oper) : List POp := ops.toList.map (prep1 ops)

theorem awp_region {P : Program} {N : Nat} {id : Nat} {ops : Array Oper} {Q : Post} {E : Env} {σ : Heap} (h : AOps P N (Q .normal) (prep ops) E σ) : AWP P N (.region id ops false) Q E σ := by
  intro a w ρ hs
  refine wp_region ?_
  have := aops_sound (Q := Lift N w (lm σ ρ) Q) ops.toList 0 rfl E σ a w ρ w (lm σ ρ) h hs (Tr.refl _ _) (fun a w ⟨E, σ, ρ, h1, h2, h3⟩ => ⟨E, σ, ρ, h1, h2, h3⟩)
  rw [Array.length_toList] at this
  rwa [List.range_eq_range']

/-! ### guards -/

def gcond (E : Env) (o : POp) : Option Bool :=
  match o.g with
  | none => some true
  | some (none, _) => none
  | some (some d, want) => match E.get d with
      | some ⟨c, .v (.bool b)⟩ => some (c && (if want then b else !b))
      | _ => none

theorem gcond_sound {N : Nat} {a : Act} {w : World} {ρ : Locs} {E : Env} {σ : Heap} {o : POp} {G : Bool} (hs : St N a w ρ E σ) (h : gcond E o = some G) : wantedG o.g a.tmps = G := by
  unfold gcond at h
  unfold wantedG
  split at h
  · simpa using h
  · cases h
  · rename_i d want hg
    split at h
    · rename_i c b he
      cases h
      obtain ⟨y, hy, hok⟩ := hs.env d _ he
      simp only [hy]
      unfold EV.ok at hok
      cases c with
      | true => simp only [if_true, Rep] at hok; subst hok; cases want <;> cases b <;> rfl
      | false => simp at hok; subst hok; rfl
    · cases h

def opsC (E : Env) : List Operand → Prop
  | [] => True
  | x :: xs => (lk E x).c = true ∧ opsC E xs

theorem opsC_iff {E : Env} : ∀ {l : List Operand}, opsC E l ↔ ∀ x ∈ l, (lk E x).c = true
  | [] => by simp [opsC]
  | x :: l => by simp [opsC, opsC_iff (l := l)]

/-- what follows, the result put into its slot -/
def putK (N : Nat) (d : Option Tmp) (x : EV) (K : Env → Heap → Prop) (E : Env) (σ : Heap) : Prop :=
  match d with
  | some d => d < N ∧ K (E.put d x) σ
  | none => K E σ

theorem OpQ.of {N : Nat} {w0 : World} {L0 : LM} {K : Env → Heap → Prop} {a : Act} {w w' : World} {ρ ρ' : Locs} {E : Env} {σ σ' : Heap} {d : Option Tmp} {x : EV} {y : Value} (hs : St N a w ρ E σ) (ht0 : Tr w0 L0 w (lm σ ρ)) (htr : Tr w (lm σ ρ) w' (lm σ' ρ')) (hh : HeapOK w' σ' ρ')
    (hx : x.ok w' (lm σ' ρ') y) (hk : putK N d x K E σ') : OpQ N w0 L0 K (a.put d y) w' := by
  cases d with
  | none => exact ⟨E, σ', ρ', hs.none htr hh, ht0.trans htr, hk⟩
  | some d => exact ⟨_, σ', ρ', hs.put htr hh hk.1 hx, ht0.trans htr, hk.2⟩

/-- An operation that yields a value and leaves memory alone. -/
theorem aop_value {P : Program} {N : Nat} {o : POp} {E : Env} {σ : Heap} {K : Env → Heap → Prop} {G : Bool} {r : AV} (hg : gcond E o = some G)
    (h : G = true → ∀ a w ρ, St N a w ρ E σ → ∃ z, (execOp a.eval o.oper).run P w = .ok (.value z) w ∧ Rep w (lm σ ρ) r z) (hk : putK N o.dst ⟨G, r⟩ K E σ) : AOp P N o E σ K := by
  intro a w ρ hs
  rw [gcond_sound hs hg]
  cases G with
  | true =>
    obtain ⟨z, hz, hr⟩ := h rfl a w ρ hs
    simp only [if_true, Oper.wp, hz, Oper.upon]
    exact OpQ.of hs (Tr.refl _ _) (Tr.refl _ _) hs.heap (by simpa [EV.ok] using hr) hk
  | false =>
    simp only [Bool.false_eq_true, if_false]
    exact OpQ.of hs (Tr.refl _ _) (Tr.refl _ _) hs.heap (by simp [EV.ok]) hk

theorem aop_pure {P : Program} {N : Nat} {o : POp} {E : Env} {σ : Heap} {K : Env → Heap → Prop} {G : Bool} {s : Prop} {r : AV} (hg : gcond E o = some G) (ha : apure P σ o.op (fun x => (lk E x).a) = some (s, r))
    (hs : G = true → opsC E o.op.operands.toList ∧ s) (hk : putK N o.dst ⟨G, r⟩ K E σ) : AOp P N o E σ K :=
  aop_value hg (fun hG a w ρ hst => apure_sound (o := o.oper) hst.heap ha (hs hG).2 (fun x hx => hst.val x (opsC_iff.1 (hs hG).1 x hx))) hk

def apick (t : Bool) (x y : AV) : Option AV :=
  match x, y with
  | .v (.bool p), .v (.bool q) => some (.v (.bool (bif t then p else q)))
  | _, _ => none

theorem apick_sound {w : World} {L : LM} {t : Bool} {x y r : AV} {u v : Value} (h : apick t x y = some r) (hx : t = true → Rep w L x u) (hy : t = false → Rep w L y v) : Rep w L r (if t then u else v) := by
  unfold apick at h
  split at h <;> cases h <;> cases t <;> simp_all [Rep]

theorem aop_pick {P : Program} {N : Nat} {o : POp} {E : Env} {σ : Heap} {K : Env → Heap → Prop} {G gc t : Bool} {c x y : Operand} {r : AV} (hg : gcond E o = some G) (ho : o.op = .pick c x y) (hc : lk E c = ⟨gc, .v (.bool t)⟩)
    (hr : apick t (lk E x).a (lk E y).a = some r) (hs : G = true → gc = true ∧ (t = true → (lk E x).c = true) ∧ (t = false → (lk E y).c = true)) (hk : putK N o.dst ⟨G, r⟩ K E σ) : AOp P N o E σ K := by
  refine aop_value hg (fun hG a w ρ hst => ?_) hk
  obtain ⟨h1, h2, h3⟩ := hs hG
  have := hst.val c (by rw [hc]; exact h1)
  rw [hc] at this
  simp only [Rep] at this
  refine ⟨if t then a.eval x else a.eval y, ?_, apick_sound hr (fun ht => hst.val x (h2 ht)) (fun ht => hst.val y (h3 ht))⟩
  simp [execOp, POp.oper, ho, this, asBool]

/-! ### calls -/

def acallee (E : Env) (σ : Heap) (c : Call) : Option (FuncId × List AV) :=
  match c.callee with
  | .value f => match (lk E f).a with
    | .fn (.func g) first cap => some (g, first ++ c.args.toList.map (fun x => (lk E x).a) ++ cap)
    | _ => none
  | _ => none

theorem repL_append {w : World} {L : LM} : ∀ {l l' : List AV} {xs ys : List Value}, RepL w L l xs → RepL w L l' ys → RepL w L (l ++ l') (xs ++ ys)
  | [], l', xs, ys, h, h' => by simp only [RepL] at h; subst h; exact h'
  | a :: l, l', xs, ys, h, h' => by obtain ⟨y, zs, rfl, h1, h2⟩ := h; exact ⟨y, zs ++ ys, rfl, h1, repL_append h2 h'⟩

theorem run_call {P : Program} {N : Nat} {o : POp} {E : Env} {σ : Heap} {c : Call} {f : FuncId} {args : List AV} (ho : o.op = .call c) (hc : acallee E σ c = some (f, args)) (hcond : opsC E o.op.operands.toList) (hcall : ∀ (as : Array Value) w, (callFunc f as).run P w = .ok (.enter f as) w)
    {a : Act} {w : World} {ρ : Locs} (hs : St N a w ρ E σ) : ∃ vs, RepL w (lm σ ρ) args vs ∧ (execOp a.eval o.oper).run P w = .ok (.enter f vs.toArray) w := by
  have hcond' := opsC_iff.1 hcond
  unfold acallee at hc
  split at hc
  · rename_i g hcal
    split at hc
    · rename_i f' first cap hlook
      cases hc
      have h1 := hs.val g (hcond' g (by simp [ho, Op.operands, Call.operands, hcal]))
      rw [hlook] at h1
      simp only [Rep] at h1
      obtain ⟨xs, ys, hg, hx, hy⟩ := h1
      refine ⟨xs ++ c.args.toList.map a.eval ++ ys, repL_append (repL_append hx (repL_map (fun x hx => hs.val x (hcond' x (by simp [ho, Op.operands, Call.operands, hcal]; right; simpa using hx))))) hy, ?_⟩
      simp only [execOp, POp.oper, ho, resolve, hcal, hg, Deferred.ofValue, Sem.run_bind, Sem.run_pure, Result.andThen_ok, invoke]
      rw [hcall]
      congr 2
      apply Array.ext'; simp
    · cases hc
  · cases hc

theorem aop_call {P : Program} {N : Nat} {o : POp} {E : Env} {σ : Heap} {K : Env → Heap → Prop} {c : Call} {f : FuncId} {args : List AV} (hg : gcond E o = some true) (ho : o.op = .call c) (hc : acallee E σ c = some (f, args)) (hcond : opsC E o.op.operands.toList)
    (h : ACalls P f args σ (fun r σ' => putK N o.dst ⟨true, r⟩ K E σ')) : AOp P N o E σ K := by
  intro a w ρ hs
  rw [gcond_sound hs hg]
  obtain ⟨vs, hv, hrun⟩ := run_call ho hc hcond h.1 hs
  simp only [if_true, Oper.wp, hrun, Oper.upon]
  refine (h.2 vs w ρ hs.heap hv).mono fun e w' ⟨v, r, σ', ρ', he, hh, htr, hr, hk⟩ => ?_
  subst he
  exact OpQ.of hs (Tr.refl _ _) htr hh (by simpa [EV.ok] using hr) hk

/-- A guarded call: it leaves the abstract heap as it was. -/
theorem aop_call_guarded {P : Program} {N : Nat} {o : POp} {E : Env} {σ : Heap} {K : Env → Heap → Prop} {c : Call} {f : FuncId} {args : List AV} {G : Bool} (hg : gcond E o = some G) (ho : o.op = .call c) (hc : acallee E σ c = some (f, args)) (r : AV)
    (h : G = true → opsC E o.op.operands.toList ∧ ACalls P f args σ (fun r' σ' => r' = r ∧ σ' = σ)) (hk : putK N o.dst ⟨G, r⟩ K E σ) : AOp P N o E σ K := by
  cases G with
  | true =>
    obtain ⟨h1, h2⟩ := h rfl
    exact aop_call hg ho hc h1 (h2.mono fun r' σ' ⟨e1, e2⟩ => by subst e1; subst e2; exact hk)
  | false =>
    intro a w ρ hs
    rw [gcond_sound hs hg]
    simp only [Bool.false_eq_true, if_false]
    exact OpQ.of hs (Tr.refl _ _) (Tr.refl _ _) hs.heap (by simp [EV.ok]) hk

/-! ### new variables -/

/-- how many cells a value takes -/
def asz : AV → Option Nat
  | .agg cs => some cs.length
  | .any => none
  | .tup _ => none
  | .v x => if cellV x then some 1 else none
  | _ => some 1

/-- a cell's value -/
def acell : AV → Bool
  | .agg _ => false
  | .any => false
  | .tup _ => false
  | .v x => cellV x
  | _ => true

theorem acell_sound {w : World} {L : LM} {a : AV} {x : Value} (h : acell a = true) (hr : Rep w L a x) : cellV x = true := by
  cases a with
  | any => cases h
  | v y => simp only [Rep] at hr; subst hr; exact h
  | sl e es => simp only [Rep] at hr; rcases hr with ⟨_, rfl⟩ | ⟨b, off, cap, rfl, _⟩ <;> rfl
  | rp a => simp only [Rep] at hr; obtain ⟨b, off, rfl, _⟩ := hr; rfl
  | ptr i g k off => simp only [Rep] at hr; obtain ⟨r, rfl⟩ := hr.stale; rfl
  | os i g k n => simp only [Rep] at hr; obtain ⟨r, m, c, rfl⟩ := hr.stale; rfl
  | mp i g => simp only [Rep] at hr; obtain ⟨r, rfl⟩ := hr.stale; rfl
  | agg cs => cases h
  | tup cs => cases h
  | fn f x y => simp only [Rep] at hr; obtain ⟨xs, ys, rfl, _⟩ := hr; rfl
  | ifc t a => simp only [Rep] at hr; obtain ⟨z, rfl, _⟩ := hr; rfl

theorem asz_sound {w : World} {L : LM} {a : AV} {x : Value} {n : Nat} (h : asz a = some n) (hr : Rep w L a x) : x.cells.size = n ∧ ∀ y ∈ x.cells.toList, cellV y = true := by
  by_cases hc : acell a = true
  · have hv := acell_sound hc hr
    rw [cellV_cells hv]
    have : n = 1 := by cases a <;> simp_all [asz, acell]
    exact ⟨by simp [this], by simpa using hv⟩
  · cases a with
    | agg cs =>
      simp only [asz, Option.some.injEq] at h
      simp only [Rep] at hr
      obtain ⟨xs, rfl, hl, hq⟩ := hr
      exact ⟨by simp [cells_agg, (repL_get hl).1, h], by simpa [cells_agg] using hq⟩
    | v x => simp_all [asz, acell]
    | any => simp [asz] at h
    | tup _ => simp [asz] at h
    | _ => simp [acell] at hc

theorem aop_alloc {P : Program} {N : Nat} {o : POp} {E : Env} {σ : Heap} {K : Env → Heap → Prop} {t : TypeId} {ti : TI} (hg : gcond E o = some true) (ho : o.op = .alloc t) (ht : tinf P t = some ti)
    (hk : putK N o.dst ⟨true, .ptr σ.length 0 0 0⟩ K E (σ ++ [.row 0 ti.size [ti.zero]])) : AOp P N o E σ K := by
  intro a w ρ hs
  rw [gcond_sound hs hg]
  obtain ⟨z, hz, hzero, hfit⟩ := tinf_zero ht w
  obtain ⟨h1, h2, h3⟩ := hs.heap.newRow ti.size [ti.zero] z.cells.toList [] t (0, 0) (fun off _ => by simp) ⟨z, [], by simp, hfit.2, by rw [hzero]; exact rep_cav _ _ z, rfl⟩
  have hrun : (execOp a.eval o.oper).run P w = .ok (.value (.pointer (some ⟨w.heap.size, 0, none⟩))) (w.alloc (.cells (z.cells.toList ++ []).toArray t (0, 0))) := by
    simp [execOp, POp.oper, ho, Instr.alloc, hz, newVar, newRow]
  simp only [if_true, Oper.wp, hrun, Oper.upon]
  exact OpQ.of hs (Tr.refl _ _) h2 h1 (by simp only [EV.ok, Rep, if_true]; rw [h3]; simp [ptrAt]) hk

theorem aop_box {P : Program} {N : Nat} {o : POp} {E : Env} {σ : Heap} {K : Env → Heap → Prop} {t : TypeId} {x : Operand} {n : Nat} (hg : gcond E o = some true) (ho : o.op = .box t x) (hn : asz (lk E x).a = some n) (hc : opsC E o.op.operands.toList)
    (hk : putK N o.dst ⟨true, .ptr σ.length 0 0 0⟩ K E (σ ++ [.row 0 n [(lk E x).a]])) : AOp P N o E σ K := by
  intro a w ρ hs
  rw [gcond_sound hs hg]
  have hx := hs.val x (opsC_iff.1 hc x (by simp [ho, Op.operands]))
  have hsz := asz_sound hn hx
  obtain ⟨h1, h2, h3⟩ := hs.heap.newRow n [(lk E x).a] (a.eval x).cells.toList [] t (0, 0) (fun off _ => by simp) ⟨_, [], by simp, hsz, hx, rfl⟩
  have hrun : (execOp a.eval o.oper).run P w = .ok (.value (.pointer (some ⟨w.heap.size, 0, none⟩))) (w.alloc (.cells ((a.eval x).cells.toList ++ []).toArray t (0, 0))) := by
    simp [execOp, POp.oper, ho, Instr.box, newVar, newRow]
  simp only [if_true, Oper.wp, hrun, Oper.upon]
  exact OpQ.of hs (Tr.refl _ _) h2 h1 (by simp only [EV.ok, Rep, if_true]; rw [h3]; simp [ptrAt]) hk

/-! ### stores -/

/-- a variable of e cells, part of it written -/
def aput (e : Nat) (old : AV) (off : Nat) (v : AV) : Option (Prop × AV) :=
  match v with
  | .agg vs => if off = 0 ∧ vs.length = e then some (True, .agg vs) else match old with
    | .agg cs => some (off + vs.length ≤ cs.length, .agg (over cs off vs))
    | _ => none
  | v => if acell v then match old with
    | .agg cs => some (off < cs.length, .agg (cs.set off v))
    | .any => none
    | .tup _ => none
    | .v x => if vagg x then none else some (off = 0, v)
    | _ => some (off = 0, v)
    else none

theorem repL_set {w : World} {L : LM} {a : AV} {x : Value} (hr : Rep w L a x) : ∀ {l : List AV} {xs : List Value} (i : Nat), RepL w L l xs → RepL w L (l.set i a) (xs.set i x)
  | [], xs, i, h => by simp only [RepL] at h; subst h; simp [RepL]
  | b :: l, xs, 0, h => by obtain ⟨y, ys, rfl, _, h2⟩ := h; exact ⟨x, ys, rfl, hr, h2⟩
  | b :: l, xs, i + 1, h => by obtain ⟨y, ys, rfl, h1, h2⟩ := h; exact ⟨y, ys.set i x, rfl, h1, repL_set hr i h2⟩

theorem repL_over {w : World} {L : LM} : ∀ {vs : List AV} {us : List Value} {l : List AV} {xs : List Value} (i : Nat), RepL w L vs us → RepL w L l xs → RepL w L (over l i vs) (over xs i us)
  | [], us, l, xs, i, h, h' => by simp only [RepL] at h; subst h; exact h'
  | a :: vs, us, l, xs, i, h, h' => by obtain ⟨y, ys, rfl, h1, h2⟩ := h; exact repL_over (i + 1) h2 (repL_set h1 i h')

theorem mem_over {α : Type} {p : α → Prop} : ∀ {us : List α} {xs : List α} (i : Nat), (∀ u ∈ us, p u) → (∀ x ∈ xs, p x) → ∀ y ∈ over xs i us, p y
  | [], xs, i, _, h, y, hy => h y hy
  | u :: us, xs, i, hu, h, y, hy => mem_over (i + 1) (fun v hv => hu v (List.mem_cons_of_mem _ hv)) (fun v hv => (List.mem_or_eq_of_mem_set hv).elim (h v) (fun e => e ▸ hu u List.mem_cons_self)) y hy

/-- the new content's cells are the old ones, written over -/
theorem aput_sound {w : World} {L : LM} {e off : Nat} {old v r : AV} {s : Prop} {y u : Value} (h : aput e old off v = some (s, r)) (hs : s) (hold : Rep w L old y) (hy : y.cells.size = e) (hv : Rep w L v u) :
    ∃ z, Rep w L r z ∧ z.cells.size = e ∧ z.cells.toList = over y.cells.toList off u.cells.toList ∧ off + u.cells.size ≤ e ∧ (∀ x ∈ u.cells.toList, cellV x = true) := by
  unfold aput at h
  split at h
  · rename_i vs
    have hv0 := hv
    simp only [Rep] at hv
    obtain ⟨us, rfl, hl, hq⟩ := hv
    have hlen := (repL_get hl).1
    split at h
    · rename_i hc
      cases h
      refine ⟨_, hv0, by simp [cells_agg, hlen, hc.2], ?_, by simp [cells_agg, hlen, hc], by simpa [cells_agg] using hq⟩
      rw [hc.1]
      have := over_eq us [] y.cells.toList [] (by simp [hy, hlen, hc.2])
      simpa [cells_agg] using this.symm
    · split at h
      · rename_i cs
        cases h
        simp only [Rep] at hold
        obtain ⟨xs, rfl, hl2, hq2⟩ := hold
        have hlen2 := (repL_get hl2).1
        refine ⟨.agg (over xs off us).toArray, ⟨_, rfl, repL_over off hl hl2, mem_over off hq hq2⟩, ?_, by simp [cells_agg], ?_, by simpa [cells_agg] using hq⟩
        · simp only [cells_agg, List.size_toArray, over_length] at hy ⊢; exact hy
        · simp only [cells_agg, List.size_toArray] at hy ⊢; omega
      · cases h
  · split at h
    · rename_i hcell
      have hu := acell_sound hcell hv
      have huc := cellV_cells hu
      have one : ∀ (_ : y.cells.size = 1), off = 0 → ∃ z, Rep w L v z ∧ z.cells.size = e ∧ z.cells.toList = over y.cells.toList off u.cells.toList ∧ off + u.cells.size ≤ e ∧ (∀ x ∈ u.cells.toList, cellV x = true) := by
        intro h1 h0
        subst h0
        refine ⟨u, hv, by rw [huc]; simp; omega, ?_, by rw [huc]; simp; omega, by rw [huc]; simpa using hu⟩
        rw [huc]
        have : ∃ q, y.cells = #[q] := by
          refine ⟨y.cells[0], ?_⟩
          apply Array.ext
          · simp [h1]
          · intro i h2 h3; have : i = 0 := by omega
            subst this; rfl
        obtain ⟨q, hq⟩ := this
        simp [hq, over]
      split at h
      · rename_i cs
        cases h
        simp only [Rep] at hold
        obtain ⟨xs, rfl, hl2, hq2⟩ := hold
        have hlen2 := (repL_get hl2).1
        simp only [cells_agg, List.size_toArray] at hy
        refine ⟨.agg (xs.set off u).toArray, ⟨_, rfl, repL_set hv off hl2, fun y hy => (List.mem_or_eq_of_mem_set hy).elim (hq2 y) (fun e => e ▸ hu)⟩, by simp [cells_agg, hy], by rw [huc]; simp [cells_agg, over], by rw [huc]; simp; omega, by rw [huc]; simpa using hu⟩
      · cases h
      · cases h
      · split at h
        · cases h
        · rename_i hvx
          cases h
          simp only [Rep] at hold; subst hold
          exact one (by rw [cells_of_not_agg (by simpa using hvx)]; rfl) hs
      · rename_i hn1 hn2 hn3 hn4
        cases h
        refine one ?_ hs
        have : acell old = true := by cases old <;> simp_all [acell]
        rw [cellV_cells (acell_sound this hold)]; rfl
    · cases h

theorem over_mid {α : Type} : ∀ (us pre mid post : List α) (off : Nat), off + us.length ≤ mid.length → over (pre ++ mid ++ post) (pre.length + off) us = pre ++ over mid off us ++ post
  | [], pre, mid, post, off, _ => rfl
  | u :: us, pre, mid, post, off, h => by
    simp only [List.length_cons] at h
    simp only [over]
    have h1 : (pre ++ mid ++ post).set (pre.length + off) u = pre ++ mid.set off u ++ post := by
      rw [List.append_assoc, List.set_append_right _ _ (by omega), List.append_assoc, Nat.add_sub_cancel_left, List.set_append_left _ _ (by omega)]
    rw [h1, Nat.add_assoc, over_mid us pre (mid.set off u) post (off + 1) (by simp; omega)]

theorem aop_store {P : Program} {N : Nat} {o : POp} {E : Env} {σ : Heap} {K : Env → Heap → Prop} {t : TypeId} {ti : TI} {p x : Operand} {i g k off e : Nat} {es : List AV} {s : Prop} {r : AV} (hg : gcond E o = some true) (ho : o.op = .store t p x) (ht : tinf P t = some ti)
    (hp : (lk E p).a = .ptr i g k off) (hi : σ[i]? = some (.row g e es)) (hkl : k < es.length) (hsz : asz (lk E x).a = some ti.size) (hput : aput e (es[k]?.getD .any) off (lk E x).a = some (s, r)) (hside : opsC E o.op.operands.toList ∧ s)
    (hk : K E (σ.set i (.row g e (es.set k r)))) (hd : o.dst = none) : AOp P N o E σ K := by
  intro a w ρ hs
  rw [gcond_sound hs hg]
  have hc := opsC_iff.1 hside.1
  have hp' := hs.val p (hc p (by simp [ho, Op.operands]))
  have hx := hs.val x (hc x (by simp [ho, Op.operands]))
  obtain ⟨hxsz, hxc⟩ := asz_sound hsz hx
  rw [hp] at hp'
  simp only [Rep] at hp'
  rcases hs.heap.row hi with ⟨_, he, _⟩ | ⟨b, sz, xs, ys, t', fr, hl, hr, hblk, hlen, hfr, hrep⟩
  · subst he; simp at hkl
  · rw [hl] at hp'
    simp only [ptrAt] at hp'
    obtain ⟨hxl, hget⟩ := repE_get hrep
    obtain ⟨y, hy, hye, pre, post, hxs, hpre, hset⟩ := hget k _ (List.getElem?_eq_getElem hkl)
    rw [List.getElem?_eq_getElem hkl] at hput
    obtain ⟨z, hz, hze, hzc, hle, huc⟩ := aput_sound hput hside.2 hy hye.1 hx
    have hover : over (xs ++ ys) (k * e + off) (a.eval x).cells.toList = (pre ++ z.cells.toList ++ post) ++ ys := by
      rw [hxs, ← hpre, hzc]
      have := over_mid (a.eval x).cells.toList pre y.cells.toList (post ++ ys) off (by simp [hye.1]; omega)
      simp only [List.append_assoc] at this ⊢
      exact this
    have hlt : k * e + off + (a.eval x).cells.size ≤ (xs ++ ys).length := by
      rw [hxs]
      simp [hpre, hye.1]
      omega
    have hrun : (execOp a.eval o.oper).run P w = .ok .skip (wset w b (.cells ((pre ++ z.cells.toList ++ post) ++ ys).toArray t' fr)) := by
      have h1 := run_storeVar' (P := P) ht hblk (v := a.eval x) (off := k * e + off) hxsz hlt (by rw [hlen]; exact hfr) hxc
      rw [hover] at h1
      simp only [execOp, POp.oper, ho, Instr.storeAt, Sem.run_bind, hp', Instr.sureAddr, Sem.run_pure, Result.andThen_ok, h1]
    obtain ⟨h1, h2⟩ := hs.heap.setRow hi hr (es.set k r) (pre ++ z.cells.toList ++ post) ys t' fr (by rw [← hlen, hxs]; simp [hye.1, hze]) hfr (hset r z hz ⟨hze, by rw [hzc]; exact mem_over off huc hye.2⟩)
    simp only [if_true, Oper.wp, hrun, Oper.upon]
    exact OpQ.of (x := ⟨true, .any⟩) hs (Tr.refl _ _) h2 h1 (by simp [EV.ok, Rep]) (by show putK N o.dst _ K E _; rw [hd]; exact hk)

end Go.Ab
