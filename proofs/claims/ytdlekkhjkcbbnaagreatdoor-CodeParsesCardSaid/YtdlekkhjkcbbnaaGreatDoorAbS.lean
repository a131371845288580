/-
  Loops that leave objects behind; small facts about heaps; the guards' own facts.
-/
import Derived.Test.YtdlekkhjkcbbnaaGreatDoorAbR
import Derived.Scope
set_option linter.unusedVariables false
set_option linter.unusedSimpArgs false
set_option linter.unusedSectionVars false
namespace Go.Ab
open Go
variable [GlobFacts]

def envI (n : Nat) : Env → Prop
  | [] => True
  | (_, x) :: r => AllI (· < n) x.a ∧ envI n r

theorem envI_get {n : Nat} : ∀ {E : Env}, envI n E → ∀ t x, E.get t = some x → AllI (· < n) x.a
  | [], _, t, x, h => by simp [Env.get] at h
  | (u, y) :: F, h, t, x, hx => by
    simp only [Env.get] at hx
    split at hx
    · cases hx; exact h.1
    · exact envI_get h.2 t x hx

theorem TrV.full {σ : Heap} {ρ : Locs} {n : Nat} {w w' : World} {L' : LM} (hn : σ.length ≤ n) (h : TrV (· < n) w (lm σ ρ) w' L') : Tr w (lm σ ρ) w' L' :=
  ⟨h.os, h.output, h.size, h.keep, h.own, fun i g _ hb => h.loc i g (Nat.lt_of_lt_of_le (lm_lt hb) hn) hb⟩

section
variable {P : Program} {N : Nat} {E : Env} {σ : Heap}

theorem St.take {a : Act} {w : World} {ρ : Locs} (h : St N a w ρ E σ) {n : Nat} (hn : WfH n (σ.take n)) {E' : Env} (hE : Env.has E E') (hI : envI n E') : St N a w (ρ.take n) E' (σ.take n) ∧ TrV (· < n) w (lm σ ρ) w (lm (σ.take n) (ρ.take n)) := by
  obtain ⟨h1, h2⟩ := h.heap.take n hn
  refine ⟨⟨h.tmps, h.defers, fun t x ht => ?_, h1⟩, h2⟩
  obtain ⟨y, hy, hok⟩ := h.env t x (hE t x ht)
  refine ⟨y, hy, ?_⟩
  unfold EV.ok at *
  split
  · rename_i hc; rw [if_pos hc] at hok; exact Rep.trV h2 _ _ (envI_get hI t x ht) hok
  · rename_i hc; rw [if_neg hc] at hok; exact hok

/-- What was made on the way is forgotten. -/
theorem awp_junk {c : Code} {Q : Post} {K : Env → Heap → Prop} (h : AWP P N c (thenQ (fun E' σ' => ∃ E2 n, σ.length ≤ n ∧ Env.has E' E2 ∧ envI n E2 ∧ WfH n (σ'.take n) ∧ K E2 (σ'.take n)) Q) E σ) : AWP P N c (thenQ K Q) E σ := by
  intro a w ρ hs
  refine wp_mono (h a w ρ hs) fun e a' w' H => ?_
  obtain ⟨E', σ', ρ', h1, h2, h3⟩ := H
  cases e with
  | normal =>
    obtain ⟨E2, n, k1, k2, k3, k4, k5⟩ := h3
    obtain ⟨s1, s2⟩ := h1.take k4 k2 k3
    exact ⟨E2, _, _, s1, TrV.full k1 ((h2.mono (fun _ _ => trivial)).trans s2), k5⟩
  | _ => exact ⟨E', σ', ρ', h1, h2, h3⟩

/-- what holds before the next round, with objects left behind -/
def loopJ {X : Type} (En : X → Env) (H : X → Heap) (p : X → Prop) (less : X → Prop) : Env → Heap → Prop := fun E' σ' => ∃ y, less y ∧ p y ∧ Env.hasL E' (En y) ∧ σ'.take (H y).length = H y ∧ envI (H y).length (En y) ∧ WfH (H y).length (H y)

@[go_sem] theorem loopJ_eq {X : Type} {En : X → Env} {H : X → Heap} {p : X → Prop} {less : X → Prop} : loopJ En H p less E σ = ∃ y, less y ∧ p y ∧ Env.hasL E (En y) ∧ σ.take (H y).length = H y ∧ envI (H y).length (En y) ∧ WfH (H y).length (H y) := rfl

/-- the rule for a loop whose rounds leave objects behind -/
theorem loop_junk {X : Type} {c : Code} {Q : Post} (En : X → Env) (H : X → Heap) (p : X → Prop) (m : X → Nat) (x0 : X) (h0 : p x0) (hE : Env.hasL E (En x0)) (hH : σ = H x0)
    (round : ∀ x, p x → vcode P N c (thenQ (loopJ En H p (fun y => m y < m x ∧ (H x).length ≤ (H y).length)) Q) (En x) (H x)) : AWP P N (.loop c) Q E σ :=
  by
  refine awp_loop (fun n E σ => ∃ x, m x = n ∧ p x ∧ Env.has E (En x) ∧ σ = H x) (m x0) ⟨x0, rfl, h0, Env.has_of hE, hH⟩ ?_
  rintro n E σ ⟨x, rfl, hp, hE, rfl⟩
  refine awp_junk (((vcode_sound _ (round x hp)).weaken hE).mono fun e E' σ' h => ?_)
  cases e with
  | normal =>
    obtain ⟨y, ⟨h1, h2⟩, h3, h4, h5, h6, h7⟩ := h
    exact ⟨En y, (H y).length, h2, Env.has_of h4, h6, by rwa [h5], m y, h1, y, rfl, h3, fun _ _ h => h, h5⟩
  | _ => exact h

end

theorem Pure.allI {n : Nat} {a : AV} (h : Pure a) : AllI (· < n) a := AllI.mono (fun _ h => h.elim) a h

theorem AObj.allI_mono {V V' : Nat → Prop} (hv : ∀ i, V i → V' i) {o : AObj} (h : o.allI V) : o.allI V' := by
  cases o with
  | dead g => trivial
  | hole => trivial
  | row g e es => exact AllIL.mono hv es h
  | map g es => exact fun x hx => AllI.mono hv x.2 (h x hx)
  | tro g t e es => exact AllIL.mono hv es h
  | it g s n => trivial

theorem wfH_app {σ l : Heap} (hw : WfH σ.length σ) (h : ∀ o ∈ l, o.allI (· < σ.length + l.length)) : WfH (σ.length + l.length) (σ ++ l) := by
  intro o ho
  rcases List.mem_append.1 ho with ho | ho
  · exact AObj.allI_mono (fun i hi => by omega) (hw o ho)
  · exact h o ho

theorem wfH_set {σ : Heap} {n i : Nat} {o : AObj} (hw : WfH n σ) (h : o.allI (· < n)) : WfH n (σ.set i o) := by
  intro x hx
  rcases List.mem_or_eq_of_mem_set hx with hx | hx
  · exact hw x hx
  · rw [hx]; exact h

theorem imp_and_l {p q : Prop} : (p → p ∧ q) = (p → q) := propext ⟨fun h hp => (h hp).2, fun h hp => ⟨hp, h hp⟩⟩
theorem imp_and_r {p q : Prop} : (p → q ∧ p) = (p → q) := propext ⟨fun h hp => (h hp).1, fun h hp => ⟨h hp, hp⟩⟩
theorem imp_imp_l {p q : Prop} : (p → q → p) = True := propext ⟨fun _ => trivial, fun _ hp _ => hp⟩
theorem imp_imp_and {p q : Prop} : (p → q → p ∧ q) = True := propext ⟨fun _ => trivial, fun _ hp hq => ⟨hp, hq⟩⟩
theorem imp_imp_and_l {p q r : Prop} : (p → q → p ∧ r) = (p → q → r) := propext ⟨fun h hp hq => (h hp hq).2, fun h hp hq => ⟨hp, h hp hq⟩⟩
theorem mode_any_text : (Region.Mode.any == Region.Mode.text) = false := rfl
theorem mode_any_any : (Region.Mode.any == Region.Mode.any) = true := rfl
theorem len_ne1 (n k : Nat) : (n = n + (k + 1)) = False := by simp
theorem len_ne2 (n k : Nat) : (n + (k + 1) = n) = False := by simp
attribute [go_sem] Nat.mul_one List.length_set List.length_map Nat.reduceLeDiff beq_self_eq_true Int.le_refl Int.reduceLE Int.reduceLT Option.toArray_some Option.toArray_none Int.toNat_zero List.map_take List.map_drop Int.natCast_inj imp_and_l imp_and_r imp_imp_l imp_imp_and imp_imp_and_l mode_any_text mode_any_any len_ne1 len_ne2 Nat.le_refl envI AllI AllIL Nat.add_left_cancel_iff Nat.left_eq_add Nat.add_eq_left
end Go.Ab
namespace Go.Ab
open Go
variable [GlobFacts]

/-- an abstract value that says less -/
def AVle (a b : AV) : Prop := ∀ w L x, Rep w L a x → Rep w L b x
def AVleL (a b : List AV) : Prop := ∀ w L x, RepL w L a x → RepL w L b x
theorem AVle.refl (a : AV) : AVle a a := fun _ _ _ h => h
theorem AVleL.nil : AVleL [] [] := fun _ _ _ h => h
theorem AVleL.cons {a b : AV} {l l' : List AV} (h : AVle a b) (h' : AVleL l l') : AVleL (a :: l) (b :: l') := fun w L x ⟨y, ys, e, h1, h2⟩ => ⟨y, ys, e, h w L y h1, h' w L ys h2⟩
theorem AVle.nil (e : Nat) : AVle (.v (.slice none 0 0)) (.sl e []) := fun w L x h => .inl ⟨rfl, h⟩
theorem AVle.tup {l l' : List AV} (h : AVleL l l') : AVle (.tup l) (.tup l') := fun w L x ⟨xs, e, hr⟩ => ⟨xs, e, h w L xs hr⟩

theorem retOK_le {n : Nat} {r r' : AV} {σ : Heap} {R : AV → Heap → Prop} (h : AVle r r') (H : RetOK n r' σ R) : RetOK n r σ R := fun w ρ v hh hr => H w ρ v hh (h _ _ _ hr)
theorem lend_le {σ : Heap} {args args1 args' : List AV} (h : AVleL args args1) (H : Lend σ args1 args') : Lend σ args args' := fun w ρ vs hh hr => H w ρ vs hh (h _ _ _ hr)
theorem acalls_le {P : Program} {f : FuncId} {args args' : List AV} {σ : Heap} {R : AV → Heap → Prop} (h : AVleL args args') (H : ACalls P f args' σ R) : ACalls P f args σ R := ⟨H.1, fun vs w ρ hh hr => H.2 vs w ρ hh (h _ _ _ hr)⟩
end Go.Ab
namespace Go.Ab
open Go
variable [GlobFacts]

/-! ### a list that is built by appending to none -/

section
variable {α : Type}
def outV (i : Nat) : List α → AV
  | [] => .v (.slice none 0 0)
  | _ :: r => .os i r.length 0 (r.length + 1)
def outH (e : Nat) (f : α → AV) : List α → Heap
  | [] => []
  | a :: r => [.row 0 e [f a], .row r.length e (f a :: r.map f)]

variable {e i : Nat} {f : α → AV} {a : α} {r o : List α} {σ junk : Heap}
theorem outV_nil : outV i ([] : List α) = .v (.slice none 0 0) := rfl
theorem outV_cons : outV i (a :: r) = .os i r.length 0 (r.length + 1) := rfl
theorem outH_nil : outH e f [] = [] := rfl
theorem outH_cons : outH e f (a :: r) = [.row 0 e [f a], .row r.length e (f a :: r.map f)] := rfl

theorem out_get : (σ ++ (outH e f (a :: r) ++ junk))[σ.length + 1]? = some (.row r.length e (f a :: r.map f)) := by
  rw [List.getElem?_append_right (by omega)]; simp [outH]

theorem frz_out (e' : Nat) (es : List AV) (h : es.length = r.length + 1) : frz (σ.length + 1) r.length e' es (.os (σ.length + 1) r.length 0 (r.length + 1)) = .sl e' es := by
  simp only [frz, if_true, true_and]
  rw [if_pos (by omega), List.drop_zero, List.take_of_length_le (by omega)]

theorem lend_out {pre post : List AV} (hpre : PureL pre) (hpost : PureL post) (hp : PureL (o.map f)) : Lend (σ ++ (outH e f o ++ junk)) (pre ++ outV (σ.length + 1) o :: post) (pre ++ .sl e (o.map f) :: post) := by
  have key : ∀ {l l' : List AV}, PureL l → PureL l' → PureL (l ++ l') := by
    intro l l' h h'
    induction l with
    | nil => exact h'
    | cons a l ih => exact ⟨h.1, ih h.2⟩
  have hall : PureL (pre ++ .sl e (o.map f) :: post) := key hpre ⟨hp, hpost⟩
  have hmap : ∀ (pre : List AV) (i g : Nat) (es : List AV) (x : AV), PureL pre → frzL i g e es (pre ++ x :: post) = pre ++ frz i g e es x :: post := by
    intro pre i g es x h
    induction pre with
    | nil => simp only [List.nil_append, frzL, frzL_pure _ _ _ _ hpost]
    | cons a l ih => simp only [List.cons_append, frzL, frz_pure _ _ _ _ h.1, ih h.2]
  cases o with
  | nil =>
    refine lend_le (args1 := pre ++ .sl e [] :: post) ?_ (lend_pure hall)
    intro w L x h
    clear hall hmap
    induction pre generalizing x with
    | nil => obtain ⟨y, ys, e1, h1, h2⟩ := h; exact ⟨y, ys, e1, AVle.nil e w L y h1, h2⟩
    | cons a l ih => obtain ⟨y, ys, e1, h1, h2⟩ := h; exact ⟨y, ys, e1, h1, ih hpre.2 ys h2⟩
  | cons a r =>
    refine lend_frz out_get ?_
    rw [hmap pre _ _ _ _ hpre, outV_cons, frz_out _ _ (by simp)]
    exact lend_pure hall

theorem retOK_out {R : AV → Heap → Prop} (hw : WfH σ.length σ) (hp : PureL (o.map f)) (h : R (.sl e (o.map f)) σ) : RetOK σ.length (outV (σ.length + 1) o) (σ ++ (outH e f o ++ junk)) R := by
  cases o with
  | nil => exact retOK_le (AVle.nil e) (retOK_app hw (Pure.allI (show Pure (.sl e []) from trivial)) h)
  | cons a r =>
    refine retOK_frz out_get ?_
    rw [outV_cons, frz_out _ _ (by simp)]
    refine retOK_take σ.length (Nat.le_refl _) (Pure.allI (show Pure (.sl e _) from hp)) ?_ ?_
    · rw [List.take_set_of_le (by omega), List.take_left]; exact hw
    · rw [List.take_set_of_le (by omega), List.take_left]; exact h

theorem frz_tup2 {i g e : Nat} {es : List AV} {x y : AV} : frz i g e es (.tup [x, y]) = .tup [frz i g e es x, frz i g e es y] := by simp only [frz, frzL]

theorem retOK_out_tup {b : AV} {R : AV → Heap → Prop} (hw : WfH σ.length σ) (hp : PureL (o.map f)) (hb : Pure b) (h : R (.tup [.sl e (o.map f), b]) σ) : RetOK σ.length (.tup [outV (σ.length + 1) o, b]) (σ ++ (outH e f o ++ junk)) R := by
  cases o with
  | nil => exact retOK_le (AVle.tup (.cons (AVle.nil e) (.cons (.refl _) .nil))) (retOK_app hw (Pure.allI (show Pure (.tup [.sl e [], b]) from ⟨trivial, hb, trivial⟩)) h)
  | cons a r =>
    refine retOK_frz out_get ?_
    rw [frz_tup2, frz_pure _ _ _ _ hb, outV_cons, frz_out _ _ (by simp)]
    refine retOK_take σ.length (Nat.le_refl _) (Pure.allI (show Pure (.tup [.sl e _, b]) from ⟨hp, hb, trivial⟩)) ?_ ?_
    · rw [List.take_set_of_le (by omega), List.take_left]; exact hw
    · rw [List.take_set_of_le (by omega), List.take_left]; exact h

theorem outH_wf (hw : WfH σ.length σ) (hp : PureL (o.map f)) : WfH (σ ++ outH e f o).length (σ ++ outH e f o) := by
  rw [List.length_append]
  refine wfH_app hw fun x hx => ?_
  cases o with
  | nil => cases hx
  | cons a r =>
    have h1 : ∀ {n : Nat} {l : List AV}, PureL l → AllIL (· < n) l := fun h => AllIL.mono (fun _ h => h.elim) _ h
    rcases List.mem_cons.1 hx with rfl | hx
    · exact ⟨Pure.allI hp.1, trivial⟩
    · rcases List.mem_cons.1 hx with rfl | hx
      · exact h1 (n := _) (l := f a :: r.map f) hp
      · cases hx

theorem out_take : (σ ++ (outH e f o ++ junk)).take (σ ++ outH e f o).length = σ ++ outH e f o := by rw [← List.append_assoc, List.take_left]
theorem outH_snoc (x : α) : [AObj.row 0 e [f a], .row (r.length + 1) e (f a :: ((r.map f).take r.length ++ [f x]))] ++ junk = outH e f (a :: (r ++ [x])) ++ junk := by
  rw [← List.map_take, List.take_length]; simp [outH]
theorem outV_snoc (x : α) : AV.os i (r.length + 1) 0 (r.length + 1 + 1) = outV i (a :: (r ++ [x])) := by simp [outV]
theorem outH_len : (outH e f (a :: r)).length = 2 := rfl
theorem nat_lt0 (n : Nat) : ((n : Int) < 0) = False := eq_false (by omega)
theorem nat_ge0 (n : Nat) : (0 ≤ (n : Int)) = True := eq_true (by omega)

theorem outV_lt : AllI (· < (σ ++ outH e f o).length) (outV (σ.length + 1) o) := by
  cases o with
  | nil => trivial
  | cons a r => simp only [outV_cons, outH_cons, AllI, List.length_append, List.length_cons, List.length_nil]; omega
end
attribute [go_sem] Option.isSome_none Option.isSome_some Int.natCast_pos nat_lt0 nat_ge0
end Go.Ab
namespace Go.Ab
open Go
variable [GlobFacts]

theorem retOK_keep {σ σ' : Heap} {r : AV} {R : AV → Heap → Prop} (hl : σ'.length = σ.length) (hw : WfH σ.length σ') (hr : AllI (· < σ.length) r) (h : R r σ') : RetOK σ.length r σ' R :=
  retOK_take σ.length (Nat.le_refl _) hr (by rw [← hl, List.take_length]; rw [hl]; exact hw) (by rw [← hl, List.take_length]; exact h)

theorem retOK_new {σ : Heap} {o : AObj} {r : AV} {R : AV → Heap → Prop} (hw : WfH σ.length σ) (ho : o.allI (· < σ.length + 1)) (hr : AllI (· < σ.length + 1) r) (h : R r (σ ++ [o])) : RetOK σ.length r (σ ++ [o]) R := by
  have e : (σ ++ [o]).take (σ.length + 1) = σ ++ [o] := List.take_of_length_le (by simp)
  refine retOK_take (σ.length + 1) (by omega) hr ?_ (by rw [e]; exact h)
  rw [e]; exact wfH_app (l := [o]) hw (by intro x hx; rw [List.mem_singleton] at hx; subst hx; exact ho)

/-- a row that is lent -/
theorem lend_os {τ : Heap} {i g e : Nat} {es : List AV} {pre post : List AV} (hi : τ[i]? = some (.row g e es)) (hpre : PureL pre) (hpost : PureL post) (hp : PureL es) : Lend τ (pre ++ .os i g 0 es.length :: post) (pre ++ .sl e es :: post) := by
  have key : ∀ {l l' : List AV}, PureL l → PureL l' → PureL (l ++ l') := by
    intro l l' h h'
    induction l with
    | nil => exact h'
    | cons a l ih => exact ⟨h.1, ih h.2⟩
  have hall : PureL (pre ++ .sl e es :: post) := key hpre ⟨hp, hpost⟩
  have hmap : ∀ (pre : List AV) (x : AV), PureL pre → frzL i g e es (pre ++ x :: post) = pre ++ frz i g e es x :: post := by
    intro pre x h
    induction pre with
    | nil => simp only [List.nil_append, frzL, frzL_pure _ _ _ _ hpost]
    | cons a l ih => simp only [List.cons_append, frzL, frz_pure _ _ _ _ h.1, ih h.2]
  refine lend_frz hi ?_
  rw [hmap pre _ hpre]
  simp only [frz, if_true, true_and, Nat.zero_add, Nat.le_refl, List.drop_zero, List.take_length]
  exact lend_pure hall

/-- a row that is handed out as data -/
theorem retOK_os {n i g e : Nat} {es : List AV} {τ : Heap} {R : AV → Heap → Prop} (hi : τ[i]? = some (.row g e es)) (hp : PureL es) (hn : n ≤ i) (hw : WfH n (τ.take n)) (h : R (.sl e es) (τ.take n)) : RetOK n (.os i g 0 es.length) τ R := by
  refine retOK_frz hi ?_
  simp only [frz, if_true, true_and, Nat.zero_add, Nat.le_refl, List.drop_zero, List.take_length]
  refine retOK_take n (Nat.le_refl _) (Pure.allI (show Pure (.sl e es) from hp)) ?_ ?_
  · rw [List.take_set_of_le hn]; exact hw
  · rw [List.take_set_of_le hn]; exact h
end Go.Ab
namespace Go.Ab
open Go
variable [GlobFacts]
theorem does_lookup_nil {P : Program} {w : World} {L : LM} {kt : TypeId} {V : Value → Prop} {t et : TypeId} {ti tk te : TI} (law : KeyLaw P kt V) (ht : tinf P t = some ti) (hk : ti.kind = .map kt et) (htk : tinf P kt = some tk) (hte : tinf P et = some te)
    {k : Value} (hV : V k) (ok : Bool) : Does P w L (Instr.lookup t (.map none) k ok) (mres k [] te.zero ok) := by
  obtain ⟨d, hd, hu⟩ := run_tinf ht w
  have hd' := tk_map (hd.symm.trans hk); subst hd'
  obtain ⟨dk, hdk, _, huk⟩ := tinf_underlying htk w
  obtain ⟨r, hf, hfa⟩ := findKey_run (w := w) (L := L) (es := []) (ms := []) law hdk hV rfl (by simp)
  obtain ⟨z, hz, hzero, hfit⟩ := tinf_zero hte w
  have hchk := law.chk true k w hV
  unfold FoundAt at hfa
  simp only [mfind] at hfa
  obtain ⟨rfl, _⟩ := hfa
  have hrz : Rep w L te.zero z := by rw [hzero]; exact rep_cav _ _ z
  unfold mres
  simp only [mfind]
  cases ok with
  | true => exact ⟨.tuple #[z, .bool false], by simp [Instr.lookup, hu, hchk, hf, hz], [z, .bool false], rfl, z, _, rfl, hrz, _, _, rfl, rfl, rfl⟩
  | false => exact ⟨z, by simp [Instr.lookup, hu, hchk, hf, hz], hrz⟩

theorem aop_lookup_nil {P : Program} {N : Nat} {o : POp} {E : Env} {σ : Heap} {K : Env → Heap → Prop} {V : Value → Prop} {t kt et : TypeId} {ti tk te : TI} {x y : Operand} {ok : Bool} {k : Value} {G : Bool} (law : KeyLaw P kt V) (hg : gcond E o = some G) (ho : o.op = .lookup t x y ok) (ht : tinf P t = some ti) (hk : ti.kind = .map kt et) (htk : tinf P kt = some tk) (hte : tinf P et = some te)
    (hx : (lk E x).a = .v (.map none)) (hy : (lk E y).a = cav k) (hyk : cav k ≠ .any) (hV : V k) (hs : G = true → opsC E o.op.operands.toList)
    (hK : putK N o.dst ⟨G, mres k [] te.zero ok⟩ K E σ) : AOp P N o E σ K := by
  refine aop_value hg (fun hG a w ρ hst => ?_) hK
  have hc := opsC_iff.1 (hs hG)
  have hx' := hst.val x (hc x (by simp [ho, Op.operands]))
  have hy' := hst.val y (hc y (by simp [ho, Op.operands]))
  rw [hx] at hx'; rw [hy] at hy'
  have hyv := aop_lookup.cav_val hyk hy'
  simp only [Rep] at hx'
  obtain ⟨z, hz, hr⟩ := does_lookup_nil (L := lm σ ρ) (w := w) law ht hk htk hte hV ok
  exact ⟨z, by simp [execOp, POp.oper, ho, hyv, hx', hz], hr⟩

open Classical in
theorem mfind_mset (k k' : Value) (v : AV) : ∀ es : List (Value × AV), mfind k' (mset k v es) = if k = k' then some v else mfind k' es
  | [] => by simp [mset, mfind]
  | (a, u) :: r => by
    unfold mset
    by_cases h : a = k
    · subst h
      simp only [if_true, mfind]
      split <;> rfl
    · simp only [h, if_false, mfind, mfind_mset k k' v r]
      by_cases h' : a = k'
      · subst h'; simp [Ne.symm h]
      · simp [h']

theorem mset_keys {V : Value × AV → Prop} {k : Value} {v : AV} (hv : V (k, v)) (hk : ∀ a, a = k → V (a, v)) : ∀ {es : List (Value × AV)}, (∀ p ∈ es, V p) → ∀ p ∈ mset k v es, V p
  | [], _ => by intro p hp; simp [mset] at hp; rw [hp]; exact hv
  | (a, u) :: r, h => by
    intro p hp
    unfold mset at hp
    split at hp
    · rename_i e
      rcases List.mem_cons.1 hp with rfl | hp
      · exact hk a e
      · exact h p (List.mem_cons_of_mem _ hp)
    · rcases List.mem_cons.1 hp with rfl | hp
      · exact h _ List.mem_cons_self
      · exact mset_keys hv hk (fun q hq => h q (List.mem_cons_of_mem _ hq)) p hp
end Go.Ab
namespace Go.Ab
open Go
variable [GlobFacts]
/-- a part with labels that nothing jumps to -/
def scopeQ (Q : Post) : Post
  | .goto _, _, _ => False
  | e, E, σ => Q e E σ
section
variable {P : Program} {N i : Nat} {E : Env} {σ : Heap} {Q : Post} {c : Code}
theorem scope_go (h : vcode P N c (scopeQ Q) E σ) : AWP P N (.scope c) Q E σ := by
  intro a w ρ hs
  refine wp_scope_straight (wp_mono (vcode_sound _ h a w ρ hs) fun e a' w' H => ?_)
  obtain ⟨E', σ', ρ', h1, h2, h3⟩ := H
  cases e <;> first | exact ⟨E', σ', ρ', h1, h2, h3⟩ | exact h3.elim
@[go_sem] theorem vcode_scope : vcode P N (.scope c) Q E σ = AWP P N (.scope c) Q E σ := rfl
@[go_sem] theorem scopeQ_normal : scopeQ Q .normal E σ = Q .normal E σ := rfl
@[go_sem] theorem scopeQ_ret : scopeQ Q .ret E σ = Q .ret E σ := rfl
@[go_sem] theorem scopeQ_exit : scopeQ Q (.exit i) E σ = Q (.exit i) E σ := rfl
end
end Go.Ab
