/-
  A region that draws its order: the walk in the order of the text (vdraw), and that it serves.
-/
import Derived.Test.YtdlekkhjkcbbnaaGreatDoorAbO
set_option linter.unusedVariables false
set_option linter.unusedSimpArgs false
set_option linter.unusedSectionVars false
namespace Go.Ab
open Go
variable [GlobFacts]

def depsOf (o : Oper) : List Nat := o.after.toList.filterMap fun e => if Region.binds .any e then some e.on else none

def isAlloc : Op → Bool
  | .alloc _ => true
  | .box _ _ => true
  | .buildSlice _ _ _ => true
  | .call { callee := .builtin .append, .. } => true
  | _ => false

/-- the k-th of a list of numbers, 0 behind its end -/
def nthD : List Nat → Nat → Nat
  | [], _ => 0
  | a :: _, 0 => a
  | _ :: r, k + 1 => nthD r k
theorem nthD_eq : ∀ (l : List Nat) (k : Nat), nthD l k = (l[k]?).getD 0
  | [], k => by simp [nthD]
  | a :: _, 0 => by simp [nthD]
  | _ :: r, k + 1 => by simp [nthD, nthD_eq r k]

/-- all that is waited for, through others too -/
def maskOf (acc : List Nat) : List Nat → Nat
  | [] => 0
  | k :: r => (2 ^ k ||| nthD acc k) ||| maskOf acc r
theorem maskOf_dep {acc : List Nat} {k : Nat} : ∀ {l : List Nat}, hasDep (maskOf acc l) k → ∃ e ∈ l, e = k ∨ ∃ m, acc[e]? = some m ∧ hasDep m k
  | [], h => (hasDep_zero h).elim
  | e :: r, h => by
    unfold maskOf at h
    rw [hasDep_or, hasDep_or, hasDep_pow, nthD_eq] at h
    rcases h with (h | h) | h
    · exact ⟨e, List.mem_cons_self, .inl h⟩
    · cases he : acc[e]? with
      | none => rw [he] at h; exact (hasDep_zero h).elim
      | some m => rw [he] at h; exact ⟨e, List.mem_cons_self, .inr ⟨m, he, h⟩⟩
    · obtain ⟨e', h1, h2⟩ := maskOf_dep h
      exact ⟨e', List.mem_cons_of_mem _ h1, h2⟩

def dprepL (ops : Array Oper) : Nat → List Nat → List Oper → List DOp
  | _, _, [] => []
  | k, acc, o :: os => ⟨prep1 ops o, maskOf acc (depsOf o), if isAlloc o.op then some k else none⟩ :: dprepL ops (if isAlloc o.op then k + 1 else k) (acc ++ [maskOf acc (depsOf o)]) os

def dprep (ops : Array Oper) : List DOp := dprepL ops 0 [] ops.toList

def countAlloc : List Oper → Nat
  | [] => 0
  | o :: os => if isAlloc o.op then countAlloc os + 1 else countAlloc os

def holes : Nat → Heap
  | 0 => []
  | n + 1 => .hole :: holes n

/-- a call in such a region -/
def callD (P : Program) (σ : Heap) (f : FuncId) (args : List AV) (G : Bool) (C : EV → FP → Prop) : Prop := (∃ r, (G = true → ∀ σ', ACalls P f args σ' (fun r' σ'' => r' = r ∧ σ'' = σ')) ∧ C ⟨G, r⟩ ⟨[], [], none⟩) ∨
  (G = true ∧ ∃ r i g e es es', σ[i]? = some (.row g e es) ∧ (∀ σ', σ'[i]? = some (.row g e es) → ACalls P f args σ' (fun r' σ'' => r' = r ∧ σ'' = σ'.set i (.row g e es'))) ∧ C ⟨true, r⟩ ⟨[i], [i], some (i, false, .row g e es')⟩)
theorem callD_of {P : Program} {σ : Heap} {f : FuncId} {args : List AV} {G : Bool} {C : EV → FP → Prop} (r : AV) (h : G = true → ∀ σ', ACalls P f args σ' (fun r' σ'' => r' = r ∧ σ'' = σ')) (k : C ⟨G, r⟩ ⟨[], [], none⟩) : callD P σ f args G C := .inl ⟨r, h, k⟩
/-- a call that writes one row -/
theorem callW_of {P : Program} {σ : Heap} {f : FuncId} {args : List AV} {C : EV → FP → Prop} (r : AV) (i g e : Nat) (es es' : List AV) (hi : σ[i]? = some (.row g e es)) (h : ∀ σ', σ'[i]? = some (.row g e es) → ACalls P f args σ' (fun r' σ'' => r' = r ∧ σ'' = σ'.set i (.row g e es')))
    (k : C ⟨true, r⟩ ⟨[i], [i], some (i, false, .row g e es')⟩) : callD P σ f args true C := .inr ⟨rfl, r, i, g, e, es, es', hi, h, k⟩

def isRow : TK → Bool
  | .str => true
  | .sl _ => true
  | _ => false

/-- append in such a region -/
def vstepA (P : Program) (N n0 : Nat) (d : DOp) (E : Env) (σ : Heap) (C : EV → FP → Prop) (c : Call) : Prop :=
  match c with
  | { callee := .builtin .append, args := args, argTypes := ts } => match args.toList, ts.toList with
    | [x, y], [t, t'] => match d.p.g, tinf P t, tinf P t' with
      | none, some ti, some ti' => match ti.kind with
        | .sl e => match tinf P e with
          | some te => match asrc σ te.size (lk E y).a with
            | some (s, news) => isRow ti'.kind = true ∧ (match (lk E x).a with
              | .os i g 0 n => match σ[i]? with
                | some (.row g' e' es) => if g = g' ∧ e' = te.size then
                    (opsC E d.p.op.operands.toList ∧ s ∧ n ≤ es.length ∧ (n + news.length) * te.bytes ≤ 140737488355328 ∧ n + news.length ≤ 4611686018427387904) ∧ dstOK N d.p.dst ∧
                    C ⟨true, .os i (g + 1) 0 (n + news.length)⟩ ⟨[], i :: aids (lk E y).a, some (i, true, .row (g + 1) te.size (es.take n ++ news))⟩
                  else False
                | _ => False
              | .v (.slice none 0 0) => match d.rank with
                | some k => (opsC E d.p.op.operands.toList ∧ s ∧ news.length * te.bytes ≤ 140737488355328 ∧ news.length ≤ 4611686018427387904) ∧ σ[n0 + k]? = some .hole ∧ dstOK N d.p.dst ∧
                    C ⟨true, .os (n0 + k) 0 0 news.length⟩ ⟨[], (n0 + k) :: aids (lk E y).a, some (n0 + k, true, .row 0 te.size news)⟩
                | none => False
              | _ => False)
            | none => False
          | none => False
        | _ => False
      | _, _, _ => False
    | _, _ => False
  | _ => False

theorem vstepA_sound {P : Program} {N n0 : Nat} {d : DOp} {E : Env} {σ : Heap} {C : EV → FP → Prop} {c : Call} (ho : d.p.op = .call c) (h : vstepA P N n0 d E σ C c) : ∃ x f, Step P N n0 d E σ x f ∧ C x f := by
  unfold vstepA at h
  split at h
  · rename_i args ts
    split at h
    · rename_i x y t t' ha hts
      have ho' : d.p.op = .call { callee := .builtin .append, args := #[x, y], argTypes := #[t, t'] } := by
        rw [ho]; congr 2
        · exact Array.toList_inj.1 (by rw [ha])
        · exact Array.toList_inj.1 (by rw [hts])
      split at h
      · rename_i ti ti' hn ht ht'
        split at h
        · rename_i e hk
          split at h
          · rename_i te hte
            split at h
            · rename_i s news hsrc
              obtain ⟨hrow, h⟩ := h
              have hk' : ti'.kind = .str ∨ ∃ e2, ti'.kind = .sl e2 := by
                cases hkk : ti'.kind <;> rw [hkk] at hrow <;> simp [isRow] at hrow ⊢
              split at h
              · rename_i i g n hx
                split at h
                · rename_i g' e' es hi
                  split at h
                  · rename_i hge
                    obtain ⟨rfl, rfl⟩ := hge
                    exact ⟨_, _, .appOs hn ho' ht hk ht' hk' hte hx hi hsrc h.1 h.2.1, h.2.2⟩
                  · exact h.elim
                · exact h.elim
              · rename_i hx
                split at h
                · rename_i k hr
                  exact ⟨_, _, .appNil hn ho' ht hk ht' hk' hte hx hsrc h.1 hr h.2.1 h.2.2.1, h.2.2.2⟩
                · exact h.elim
              · exact h.elim
            · exact h.elim
          · exact h.elim
        · exact h.elim
      · exact h.elim
    · exact h.elim
  · exact h.elim

def vstep (P : Program) (N n0 : Nat) (d : DOp) (E : Env) (σ : Heap) (C : EV → FP → Prop) : Prop :=
  match gcond E d.p with
  | none => False
  | some G => match apure P σ d.p.op (fun x => (lk E x).a) with
    | some (s, r) => (G = true → opsC E d.p.op.operands.toList ∧ s) ∧ dstOK N d.p.dst ∧ C ⟨G, r⟩ ⟨touch E d.p.op.operands.toList, contentOf E d.p.op, none⟩
    | none => match d.p.op with
      | .pick c x y => match lk E c with
        | ⟨gc, .v (.bool t)⟩ => match apick t (lk E x).a (lk E y).a with
          | some r => (G = true → gc = true ∧ (t = true → (lk E x).c = true) ∧ (t = false → (lk E y).c = true)) ∧ dstOK N d.p.dst ∧ C ⟨G, r⟩ ⟨[], [], none⟩
          | none => False
        | _ => False
      | .call c => match acallee E σ c with
        | some (f, args) => (G = true → opsC E d.p.op.operands.toList) ∧ dstOK N d.p.dst ∧ callD P σ f args G C
        | none => vstepA P N n0 d E σ C c
      | .build t parts => match abuild P t (mapP (fun x => (lk E x).a) parts.toList) with
        | some r => (G = true → opsC E d.p.op.operands.toList) ∧ dstOK N d.p.dst ∧ C ⟨G, r⟩ ⟨[], [], none⟩
        | none => False
      | .buildSlice t len parts => match d.p.g, tinf P t, d.rank with
        | none, some ti, some k => match ti.kind with
          | .sl e => match tinf P e with
            | some te => match fillE te.size (List.replicate len te.zero) (mapP (fun x => (lk E x).a) parts.toList) with
              | some es => len * te.size ≤ 16777216 ∧ opsC E d.p.op.operands.toList ∧ σ[n0 + k]? = some .hole ∧ dstOK N d.p.dst ∧ C ⟨true, .os (n0 + k) 0 0 len⟩ ⟨[], [n0 + k], some (n0 + k, true, .row 0 te.size es)⟩
              | none => False
            | none => False
          | _ => False
        | _, _, _ => False
      | .box t x => match d.p.g, asz (lk E x).a, d.rank with
        | none, some n, some k => opsC E d.p.op.operands.toList ∧ σ[n0 + k]? = some .hole ∧ dstOK N d.p.dst ∧ C ⟨true, .ptr (n0 + k) 0 0 0⟩ ⟨[], [n0 + k], some (n0 + k, true, .row 0 n [(lk E x).a])⟩
        | _, _, _ => False
      | .alloc t => match d.p.g, tinf P t, d.rank with
        | none, some ti, some k => σ[n0 + k]? = some .hole ∧ dstOK N d.p.dst ∧ C ⟨true, .ptr (n0 + k) 0 0 0⟩ ⟨[], [n0 + k], some (n0 + k, true, .row 0 ti.size [ti.zero])⟩
        | _, _, _ => False
      | .store t p x => match d.p.g, d.p.dst, tinf P t with
        | none, none, some ti => match (lk E p).a with
          | .ptr i g k off => match σ[i]? with
            | some (.row g' e es) => if g = g' then if asz (lk E x).a = some ti.size then
              match aput e (es[k]?.getD .any) off (lk E x).a with
              | some (s, r) => k < es.length ∧ (opsC E d.p.op.operands.toList ∧ s) ∧ C ⟨true, .any⟩ ⟨[i], [i], some (i, false, .row g e (es.set k r))⟩
              | none => False
              else False else False
            | _ => False
          | _ => False
        | _, _, _ => False
      | _ => False

theorem vstep_sound {P : Program} {N n0 : Nat} {d : DOp} {E : Env} {σ : Heap} {C : EV → FP → Prop} (h : vstep P N n0 d E σ C) : ∃ x f, Step P N n0 d E σ x f ∧ C x f := by
  unfold vstep at h
  split at h
  · exact h.elim
  · rename_i G hg
    split at h
    · rename_i s r ha
      exact ⟨_, _, .pure hg ha h.1 h.2.1, h.2.2⟩
    · split at h
      · rename_i c x y ho
        split at h
        · rename_i gc t hc
          split at h
          · rename_i r hr
            exact ⟨_, _, .pick hg ho hc hr h.1 h.2.1, h.2.2⟩
          · exact h.elim
        · exact h.elim
      · rename_i c ho
        split at h
        · rename_i f args hc
          obtain ⟨h0, h2, ⟨r, h1, h3⟩ | ⟨hG, r, i, g, e, es, es', hi, h1, h3⟩⟩ := h
          · exact ⟨_, _, .call hg ho hc (fun hG => ⟨h0 hG, h1 hG⟩) h2, h3⟩
          · subst hG
            exact ⟨_, _, .callW hg ho hc hi (h0 rfl) h1 h2, h3⟩
        · exact vstepA_sound ho h
      · rename_i t parts ho
        split at h
        · rename_i r hb
          exact ⟨_, _, .build hg ho hb h.1 h.2.1, h.2.2⟩
        · exact h.elim
      · rename_i t len parts ho
        split at h
        · rename_i ti k hn ht hr
          split at h
          · rename_i e hk
            split at h
            · rename_i te hte
              split at h
              · rename_i es hb
                exact ⟨_, _, .buildSlice hn ho ht hk hte h.1 hb h.2.1 hr h.2.2.1 h.2.2.2.1, h.2.2.2.2⟩
              · exact h.elim
            · exact h.elim
          · exact h.elim
        · exact h.elim
      · rename_i t x ho
        split at h
        · rename_i n k hn hz hr
          exact ⟨_, _, .box hn ho hz h.1 hr h.2.1 h.2.2.1, h.2.2.2⟩
        · exact h.elim
      · rename_i t ho
        split at h
        · rename_i ti k hn ht hk
          exact ⟨_, _, .alloc hn ho ht hk h.1 h.2.1, h.2.2⟩
        · exact h.elim
      · rename_i t p x ho
        split at h
        · rename_i ti hn hd ht
          split at h
          · rename_i i g k off hp
            split at h
            · rename_i g' e es hi
              split at h
              · rename_i hgg
                subst hgg
                split at h
                · rename_i hsz
                  split at h
                  · rename_i s r hput
                    exact ⟨_, _, .store hn ho ht hp hi h.1 hsz hput h.2.1 hd, h.2.2⟩
                  · exact h.elim
                · exact h.elim
              · exact h.elim
            · exact h.elim
          · exact h.elim
        · exact h.elim
      · exact h.elim

open Classical in
def okFor (fps : List (Nat × FP)) (deps : Nat) (f : FP) : Prop :=
  match fps with
  | [] => True
  | g :: r => if compat g.2 f then okFor r deps f else hasDep deps g.1 ∧ okFor r deps f

theorem okFor_iff {deps : Nat} {f : FP} : ∀ {fps : List (Nat × FP)}, okFor fps deps f → ∀ g ∈ fps, hasDep deps g.1 ∨ compat g.2 f
  | [], _, _, hg => by cases hg
  | g :: r, h, g', hg => by
    unfold okFor at h
    split at h
    · rename_i hc
      rcases List.mem_cons.1 hg with rfl | hg
      · exact .inr hc
      · exact okFor_iff h g' hg
    · rcases List.mem_cons.1 hg with rfl | hg
      · exact .inl h.1
      · exact okFor_iff h.2 g' hg

/-- In the order of the text. -/
def vdraw (P : Program) (N n0 : Nat) (K : Env → Heap → Prop) : Nat → List DOp → List (Nat × FP) → Env → Heap → Prop
  | _, [], _, E, σ => K E σ
  | i, d :: ds, fps, E, σ => vstep P N n0 d E σ fun x f => okFor fps d.deps f ∧ vdraw P N n0 K (i + 1) ds ((i, f) :: fps) (putE d.p.dst x E) (f.apply σ)

/-- what follows an operation of such a region -/
def drawK (P : Program) (N n0 : Nat) (K : Env → Heap → Prop) (i : Nat) (d : DOp) (ds : List DOp) (fps : List (Nat × FP)) (E : Env) (σ : Heap) : EV → FP → Prop :=
  fun x f => okFor fps d.deps f ∧ vdraw P N n0 K (i + 1) ds ((i, f) :: fps) (putE d.p.dst x E) (f.apply σ)

section
variable {P : Program} {N n0 i : Nat} {K : Env → Heap → Prop} {d : DOp} {ds : List DOp} {fps : List (Nat × FP)} {E : Env} {σ : Heap} {x : EV} {f : FP}
@[go_sem] theorem vdraw_nil : vdraw P N n0 K i [] fps E σ = K E σ := rfl
@[go_sem] theorem vdraw_cons : vdraw P N n0 K i (d :: ds) fps E σ = vstep P N n0 d E σ (drawK P N n0 K i d ds fps E σ) := rfl
@[go_sem] theorem drawK_eq : drawK P N n0 K i d ds fps E σ x f = (okFor fps d.deps f ∧ vdraw P N n0 K (i + 1) ds ((i, f) :: fps) (putE d.p.dst x E) (f.apply σ)) := rfl
end

def pairOK : Nat → List DOp → Bool
  | _, [] => true
  | i, d :: ds => (ds.all fun dj => dj.deps.testBit i || d.apart dj) && pairOK (i + 1) ds

def edgesOK : Nat → List Oper → Bool
  | _, [] => true
  | i, o :: os => (o.after.all fun e => !Region.binds .any e || decide (e.on < i)) && edgesOK (i + 1) os

def drawB (ops : Array Oper) : Bool := pairOK 0 (dprep ops) && edgesOK 0 ops.toList

theorem dprepL_length (ops : Array Oper) : ∀ (l : List Oper) (k : Nat) (acc : List Nat), (dprepL ops k acc l).length = l.length
  | [], _, _ => rfl
  | o :: os, k, acc => by simp [dprepL, dprepL_length ops os]

theorem dprepL_get (ops : Array Oper) : ∀ (l : List Oper) (k : Nat) (acc : List Nat) (i : Nat) (d : DOp), (dprepL ops k acc l)[i]? = some d → ∃ o acc', l[i]? = some o ∧ d.p = prep1 ops o ∧ d.deps = maskOf acc' (depsOf o) ∧
    acc'.length = acc.length + i ∧ (∀ j < acc.length, acc'[j]? = acc[j]?) ∧ ∀ j < i, ∃ dj, (dprepL ops k acc l)[j]? = some dj ∧ acc'[acc.length + j]? = some dj.deps
  | [], _, _, _, _, h => by simp [dprepL] at h
  | o :: os, k, acc, 0, d, h => by simp [dprepL] at h; subst h; exact ⟨o, acc, rfl, rfl, rfl, rfl, fun _ _ => rfl, fun j hj => by omega⟩
  | o :: os, k, acc, i + 1, d, h => by
    simp only [dprepL, List.getElem?_cons_succ] at h ⊢
    obtain ⟨o', acc', h1, h2, h3, h4, h5, h6⟩ := dprepL_get ops os _ _ i d h
    refine ⟨o', acc', h1, h2, h3, ?_, fun j hj => ?_, fun j hj => ?_⟩
    · rw [h4, List.length_append, List.length_singleton]; omega
    · rw [h5 j (by simp; omega), List.getElem?_append_left hj]
    · cases j with
      | zero =>
        refine ⟨_, List.getElem?_cons_zero, ?_⟩
        rw [Nat.add_zero, h5 acc.length (by simp), List.getElem?_append_right (Nat.le_refl _)]; simp
      | succ j =>
        obtain ⟨dj, h7, h8⟩ := h6 j (by omega)
        refine ⟨dj, by rw [List.getElem?_cons_succ]; exact h7, ?_⟩
        rw [List.length_append, List.length_singleton] at h8
        rw [show acc.length + (j + 1) = acc.length + 1 + j from by omega]; exact h8

theorem dprep_get {ops : Array Oper} {i : Nat} {d : DOp} (h : (dprep ops)[i]? = some d) : ∃ o, ops.toList[i]? = some o ∧ d.p = prep1 ops o := by
  obtain ⟨o, _, h1, h2, _⟩ := dprepL_get ops _ _ _ _ _ h; exact ⟨o, h1, h2⟩

theorem dprep_masks (ops : Array Oper) : Masks ops (dprep ops) := by
  intro j o dj ho hdj k hk
  obtain ⟨o', acc', h1, _, h3, h4, _, h6⟩ := dprepL_get ops _ _ _ _ _ hdj
  have : o' = o := by rw [show ops.toList[j]? = some o from by simpa using ho] at h1; cases h1; rfl
  subst this
  rw [h3] at hk
  obtain ⟨e, he, h⟩ := maskOf_dep hk
  unfold depsOf at he
  obtain ⟨x, hx, hxe⟩ := List.mem_filterMap.1 he
  split at hxe
  · rename_i hb
    cases hxe
    refine ⟨x, by simpa using hx, hb, h.imp id ?_⟩
    rintro ⟨m, hm, hmk⟩
    have hlt := (List.getElem?_eq_some_iff.1 hm).1
    simp only [List.length_nil, Nat.zero_add] at h4
    obtain ⟨dj', h7, h8⟩ := h6 x.on (by omega)
    simp only [List.length_nil, Nat.zero_add] at h8
    rw [hm] at h8; cases h8
    exact ⟨dj', h7, hmk⟩
  · cases hxe

theorem pairOK_spec : ∀ (l : List DOp) (i : Nat), pairOK i l = true → ∀ (a b : Nat) (da db : DOp), l[a]? = some da → l[b]? = some db → a < b → hasDep db.deps (i + a) ∨ da.apart db = true
  | [], _, _, _, _, _, _, h, _, _ => by simp at h
  | d :: ds, i, h, a, b, da, db, ha, hb, hab => by
    simp only [pairOK, Bool.and_eq_true] at h
    cases b with
    | zero => omega
    | succ b =>
      simp only [List.getElem?_cons_succ] at hb
      cases a with
      | zero =>
        simp at ha; subst ha
        have := List.all_eq_true.1 h.1 db (List.mem_of_getElem? hb)
        simp at this
        rcases this with h1 | h1
        · exact .inl (by rw [hasDep_iff]; simpa using h1)
        · exact .inr h1
      | succ a =>
        simp only [List.getElem?_cons_succ] at ha
        have := pairOK_spec ds (i + 1) h.2 a b da db ha hb (by omega)
        rwa [show i + 1 + a = i + (a + 1) from by omega] at this

theorem edgesOK_spec : ∀ (l : List Oper) (i : Nat), edgesOK i l = true → ∀ (a : Nat) (o : Oper), l[a]? = some o → ∀ e ∈ o.after, Region.binds .any e = true → e.on < i + a
  | [], _, _, _, _, h, _, _, _ => by simp at h
  | o :: os, i, h, a, o', ho, e, he, hb => by
    simp only [edgesOK, Bool.and_eq_true] at h
    cases a with
    | zero =>
      simp at ho; subst ho
      have := Array.all_eq_true'.1 h.1 e he
      simp [hb] at this
      simpa using this
    | succ a =>
      have := edgesOK_spec os (i + 1) h.2 a o' (by simpa using ho) e he hb
      omega

section
variable {P : Program} {N n0 : Nat} {ops : Array Oper} {K : Env → Heap → Prop}

def upto (n i : Nat) : Array Bool := Array.ofFn (n := n) fun j => decide (j.1 < i)

theorem upto_get (n i j : Nat) : (upto n i).getD j true = (decide (j < i) || decide (n ≤ j)) := by
  unfold upto
  by_cases h : j < n
  · have h' : ¬ n ≤ j := by omega
    simp [Array.getD, h, h']
  · have h' : n ≤ j := by omega
    simp [Array.getD, h, h']

theorem upto_getF (n i j : Nat) (h : j < n) : (upto n i).getD j false = decide (j < i) := by
  unfold upto
  simp [Array.getD, h]

theorem upto_set (n i : Nat) : (upto n i).setIfInBounds i true = upto n (i + 1) := by
  apply Array.ext
  · simp [upto]
  · intro j h1 h2
    simp only [upto, Array.size_setIfInBounds, Array.size_ofFn] at h1
    rw [Array.getElem_setIfInBounds (by simpa [upto] using h1)]
    simp only [upto, Array.getElem_ofFn]
    split
    · subst ‹i = j›; simp
    · congr 1; simp; omega

theorem vdraw_sound (hB : drawB ops = true) : ∀ (l : List DOp) (i : Nat), (dprep ops).drop i = l → ∀ (fps : List (Nat × FP)) (F : Done) (E : Env) (σ : Heap), (∀ j g, F j g → (j, g) ∈ fps) → vdraw P N n0 K i l fps E σ →
    AAny P N n0 ops (dprep ops) K l.length (upto ops.size i) F E σ := by
  have hB' := hB
  simp only [drawB, Bool.and_eq_true] at hB'
  have hlen : (dprep ops).length = ops.size := by simp [dprep, dprepL_length]
  intro l
  induction l with
  | nil =>
    intro i hl fps F E σ hF h
    have hi : ops.size ≤ i := by
      have := congrArg List.length hl
      simp [hlen] at this
      omega
    refine ⟨?_, E, fun _ => rfl, h⟩
    apply List.eq_nil_iff_forall_not_mem.2
    intro j hj
    obtain ⟨h1, o, h2, _⟩ := mem_ready.1 hj
    have hlt := (Array.getElem?_eq_some_iff.1 h2).1
    rw [upto_get] at h1
    simp at h1
    omega
  | cons d ds ih =>
    intro i hl fps F E σ hF h
    have hdi : (dprep ops)[i]? = some d := by
      have := congrArg (·[0]?) hl
      simpa using this
    have hl' : (dprep ops).drop (i + 1) = ds := by
      have := congrArg (List.drop 1) hl
      simpa [List.drop_drop, Nat.add_comm] using this
    obtain ⟨x, f, hs, hok, hrest⟩ := vstep_sound h
    obtain ⟨o, ho, hdp⟩ := dprep_get hdi
    have hio : ops[i]? = some o := by simpa using ho
    have hilt := (Array.getElem?_eq_some_iff.1 hio).1
    have H := ih (i + 1) hl' ((i, f) :: fps) (F.add i f) (putE d.p.dst x E) (f.apply σ) (fun j g hg => by
      rcases hg with ⟨rfl, rfl⟩ | hg
      · exact List.mem_cons_self
      · exact List.mem_cons_of_mem _ (hF j g hg)) hrest
    rw [← upto_set] at H
    refine AAny_first hdi (dprep_masks ops) hlen ds.length (upto ops.size i) F E σ (fun j dj hdj hj k hk => ?_) (fun j dj hdj hji hun hno => ?_) ?_ hs (fun j g hg => okFor_iff hok _ (hF j g hg)) H
    · have hjl : j < ops.size := by have := (List.getElem?_eq_some_iff.1 hdj).1; omega
      have hk' : k < j := by
        have all : ∀ (n j : Nat) dj k, j ≤ n → (dprep ops)[j]? = some dj → hasDep dj.deps k → k < j := by
          intro n
          induction n with
          | zero =>
            intro j dj k hjn hdj hk
            obtain ⟨o', ho', _⟩ := dprep_get hdj
            obtain ⟨e, he, hb, h⟩ := dprep_masks ops j o' dj (by simpa using ho') hdj k hk
            have := edgesOK_spec ops.toList 0 hB'.2 j o' ho' e he hb
            omega
          | succ n ih =>
            intro j dj k hjn hdj hk
            obtain ⟨o', ho', _⟩ := dprep_get hdj
            obtain ⟨e, he, hb, h⟩ := dprep_masks ops j o' dj (by simpa using ho') hdj k hk
            have := edgesOK_spec ops.toList 0 hB'.2 j o' ho' e he hb
            rcases h with h | ⟨dk, h1, h2⟩
            · omega
            · have := ih e.on dk k (by omega) h1 h2; omega
        exact all j j dj k (Nat.le_refl _) hdj hk
      rw [upto_getF _ _ _ hjl] at hj
      rw [upto_getF _ _ _ (by omega)]
      simp at hj ⊢; omega
    · rw [upto_get] at hun
      simp at hun
      rcases pairOK_spec (dprep ops) 0 hB'.1 i j d dj hdi hdj (by omega) with h1 | h1
      · rw [Nat.zero_add] at h1; exact absurd h1 hno
      · exact h1
    · refine mem_ready.2 ⟨?_, o, hio, fun e he hb => ?_⟩
      · rw [upto_get]; simp; omega
      · have := edgesOK_spec ops.toList 0 hB'.2 i o ho e he hb
        rw [upto_getF _ _ _ (by omega)]
        simp; omega

theorem AAny_sound {ds : List DOp} {Q : Exit → Act → World → Prop} (hds : ∀ (i : Nat) d o, ds[i]? = some d → ops[i]? = some o → d.p = prep1 ops o) : ∀ (fuel : Nat) (listed : Array Bool) (F : Done) (E : Env) (σ : Heap) (a : Act) (w : World) (ρ : Locs) (w0 : World) (L0 : LM),
    AAny P N n0 ops ds K fuel listed F E σ → St N a w ρ E σ → Tr w0 L0 w (lm σ ρ) → (∀ a w, OpQ N w0 L0 K a w → Q .normal a w) → wpAny P .any ops Q fuel listed a w
  | 0, listed, F, E, σ, a, w, ρ, w0, L0, h, hs, ht, hq => by
    obtain ⟨h1, E0, h2, h3⟩ := h
    exact ⟨h1, hq a w ⟨E0, σ, ρ, hs.weaken (fun t x hx => (h2 t).trans hx), ht, h3⟩⟩
  | fuel + 1, listed, F, E, σ, a, w, ρ, w0, L0, h, hs, ht, hq => by
    refine ⟨fun hr => ?_, fun i hi => ?_⟩
    · obtain ⟨E0, h2, h3⟩ := h.1 hr
      exact hq a w ⟨E0, σ, ρ, hs.weaken (fun t x hx => (h2 t).trans hx), ht, h3⟩
    · obtain ⟨d, x, f, hd, hstep, _, hrest⟩ := h.2 i hi
      obtain ⟨_, o, ho, _⟩ := mem_ready.1 hi
      have hdo := hds i d o hd ho
      have h1 := hstep.sound a w ρ hs
      rw [hdo] at h1
      have next : ∀ a' w', OpQ N w (lm σ ρ) (fun E' σ' => E' = putE (prep1 ops o).dst x E ∧ σ' = f.apply σ) a' w' → wpAny P .any ops Q fuel (listed.setIfInBounds i true) a' w' := by
        rintro a' w' ⟨E', σ', ρ', hs', ht', rfl, rfl⟩
        rw [hdo] at hrest
        exact AAny_sound hds fuel _ _ _ _ a' w' ρ' w0 L0 hrest hs' (ht.trans ht') hq
      unfold wpOp
      simp only [ho]
      rw [wanted_prep]
      split
      · rename_i hw
        rw [show (prep1 ops o).g = prepG ops o.guard from rfl, if_pos hw] at h1
        rw [wp_prep] at h1
        exact .inl (Oper.wp_mono next (wp_of_noExit h1))
      · rename_i hw
        rw [show (prep1 ops o).g = prepG ops o.guard from rfl, if_neg hw] at h1
        exact next _ _ h1

theorem St.holes {a : Act} {w : World} {E : Env} : ∀ (n : Nat) {σ : Heap} {ρ : Locs}, St N a w ρ E σ → ∃ ρ', St N a w ρ' E (σ ++ holes n) ∧ Tr w (lm σ ρ) w (lm (σ ++ holes n) ρ')
  | 0, σ, ρ, h => ⟨ρ, by simpa [Ab.holes] using h, by simp only [Ab.holes, List.append_nil]; exact Tr.refl _ _⟩
  | n + 1, σ, ρ, h => by
    have htr := tr_pushNil h.heap .hole
    have hh := h.heap.add (o := .hole) (r := Option.none) htr (fun _ _ => rfl) (fun i b s hi => h.heap.lt hi) (fun b s hb => by cases hb) rfl
    obtain ⟨ρ', h1, h2⟩ := St.holes n (h.none htr hh)
    simp only [List.append_assoc, List.singleton_append] at h1 h2
    exact ⟨ρ', h1, htr.trans h2⟩

theorem tape_free {a : Act} {w : World} {ρ : Locs} {E : Env} {σ : Heap} (h : St N a w ρ E σ) : St N a { w with drawn := w.drawn + 1 } ρ E σ ∧ Tr w (lm σ ρ) { w with drawn := w.drawn + 1 } (lm σ ρ) := by
  have htr : Tr w (lm σ ρ) { w with drawn := w.drawn + 1 } (lm σ ρ) := ⟨rfl, rfl, Nat.le_refl _, fun _ _ _ => rfl, fun _ h => .inl h, fun _ _ _ _ => .inl rfl⟩
  refine ⟨h.none htr ⟨h.heap.len, fun i o r ho hr => (h.heap.obj i o r ho hr).trV htr ?_ (fun _ _ _ => rfl), h.heap.inj, h.heap.glob.tr htr⟩, htr⟩
  cases o with
  | dead g => trivial
  | hole => trivial
  | row g e es => exact AllIL.all (fun _ => trivial) es
  | tro g t e es => exact AllIL.all (fun _ => trivial) es
  | it g s n => trivial
  | map g es => exact fun x _ => AllI.all (fun _ => trivial) x.2

/-- **A region that draws its order.** -/
theorem awp_draw {id : Nat} {Q : Post} {E : Env} {σ : Heap} (hm : P.follows .mixedOrders = true) (hB : drawB ops = true) (h : vdraw P N σ.length (Q .normal) 0 (dprep ops) [] E (σ ++ holes (countAlloc ops.toList))) : AWP P N (.region id ops true) Q E σ := by
  intro a w ρ hs
  refine wp_region_any hm ?_
  obtain ⟨hs1, ht1⟩ := tape_free hs
  obtain ⟨ρ2, hs2, ht2⟩ := St.holes (countAlloc ops.toList) hs1
  have hA := vdraw_sound (P := P) (N := N) (n0 := σ.length) (K := Q .normal) hB (dprep ops) 0 rfl [] (fun _ _ => False) E _ (fun _ _ h => h.elim) h
  have hlen : (dprep ops).length = ops.size := by simp [dprep, dprepL_length]
  rw [hlen] at hA
  have e : upto ops.size 0 = Array.replicate ops.size false := by
    apply Array.ext
    · simp [upto]
    · intro i h1 h2; simp [upto]
  rw [e] at hA
  exact AAny_sound (Q := Lift N w (lm σ ρ) Q) (fun i d o hd ho => by
    obtain ⟨o', ho', hp⟩ := dprep_get hd
    have : o' = o := by rw [show ops.toList[i]? = some o from by simpa using ho] at ho'; cases ho'; rfl
    rw [hp, this]) ops.size _ _ _ _ a _ ρ2 w (lm σ ρ) hA hs2 (ht1.trans ht2) (fun a w ⟨E, σ, ρ, h1, h2, h3⟩ => ⟨E, σ, ρ, h1, h2, h3⟩)

end

/-! ### the heap behind an opaque beginning -/

@[go_sem] theorem app_get0 (σ l : Heap) : (σ ++ l)[σ.length]? = l[0]? := by rw [List.getElem?_append_right (Nat.le_refl _), Nat.sub_self]
@[go_sem] theorem app_getk (σ l : Heap) (k : Nat) : (σ ++ l)[σ.length + k]? = l[k]? := by rw [List.getElem?_append_right (by omega), Nat.add_sub_cancel_left]
@[go_sem] theorem app_set0 (σ l : Heap) (o : AObj) : (σ ++ l).set σ.length o = σ ++ l.set 0 o := by rw [List.set_append_right _ _ (Nat.le_refl _), Nat.sub_self]
@[go_sem] theorem app_setk (σ l : Heap) (k : Nat) (o : AObj) : (σ ++ l).set (σ.length + k) o = σ ++ l.set k o := by rw [List.set_append_right _ _ (by omega), Nat.add_sub_cancel_left]
@[go_sem] theorem app_app (σ l l' : Heap) : (σ ++ l) ++ l' = σ ++ (l ++ l') := List.append_assoc ..
@[go_sem] theorem app_len1 (σ : Heap) (o : AObj) (l : Heap) : (σ ++ o :: l).length = σ.length + (l.length + 1) := by simp
@[go_sem] theorem mode_any_gc : (Region.Mode.any == Region.Mode.gc) = false := rfl
attribute [go_sem] vstep vstepA isRow dprep dprepL maskOf nthD hasDep Nat.reducePow Nat.reduceOr Nat.reduceDiv Nat.reduceMod Nat.reduceEqDiff Nat.zero_or Nat.or_zero depsOf isAlloc countAlloc holes okFor dstOK putE FP.apply touch contentOf aids compat FP.hits Region.binds List.filterMap_cons List.filterMap_nil
attribute [go_sem] List.getElem?_cons_zero List.getElem?_cons_succ List.getElem?_nil List.set_cons_zero List.set_cons_succ List.length_cons List.length_nil List.append_nil Nat.add_zero Nat.zero_add List.take_succ_cons List.take_zero List.drop_succ_cons List.drop_zero List.drop_nil List.take_nil
attribute [go_sem] List.mem_cons List.not_mem_nil or_false false_or or_true true_or and_false false_and not_false_eq_true List.mem_nil_iff
end Go.Ab
