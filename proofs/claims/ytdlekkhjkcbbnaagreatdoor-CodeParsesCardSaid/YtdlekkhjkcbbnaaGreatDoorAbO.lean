/-
  A region that draws its order: one walk in the order of the text serves every order, where no two operations that do not wait for one another touch one object in a way that tells.
  The same: the heap; any order; the order of the text.
  The same: whatever order is picked; the walk in the order of the text (vdraw).
-/
import Derived.Test.YtdlekkhjkcbbnaaGreatDoorAbL
set_option linter.unusedVariables false
set_option linter.unusedSimpArgs false
set_option linter.unusedSectionVars false
namespace Go.Ab
open Go
variable [GlobFacts]

/-- an operation of such a region: what it waits for, directly or through others (the bits of a number), and which new object it makes -/
structure DOp where
  p : POp
  deps : Nat
  rank : Option Nat

def hasDep (m k : Nat) : Prop := m / 2 ^ k % 2 = 1

theorem hasDep_iff {m k : Nat} : hasDep m k ↔ m.testBit k = true := by
  unfold hasDep; rw [Nat.testBit_eq_decide_div_mod_eq, decide_eq_true_eq]
theorem hasDep_zero {k : Nat} : ¬ hasDep 0 k := by rw [hasDep_iff]; simp
theorem hasDep_or {a b k : Nat} : hasDep (a ||| b) k ↔ hasDep a k ∨ hasDep b k := by simp only [hasDep_iff, Nat.testBit_or, Bool.or_eq_true]
theorem hasDep_pow {i k : Nat} : hasDep (2 ^ i) k ↔ i = k := by rw [hasDep_iff, Nat.testBit_two_pow]; simp

/-- what an operation looks at (the shape of objects, their content), and which object it makes or writes -/
structure FP where
  sh : List Nat
  ct : List Nat
  eff : Option (Nat × Bool × AObj)

def FP.apply (f : FP) (σ : Heap) : Heap :=
  match f.eff with
  | none => σ
  | some (i, _, o) => σ.set i o

def FP.hits (f f' : FP) : Prop :=
  match f.eff with
  | none => False
  | some (i, fill, _) => i ∈ f'.ct ∨ (fill = true ∧ i ∈ f'.sh)

def compat (f f' : FP) : Prop := ¬ f.hits f' ∧ ¬ f'.hits f

def aids : AV → List Nat
  | .ptr i _ _ _ => [i]
  | .os i _ _ _ => [i]
  | .mp i _ => [i]
  | _ => []

def touch (E : Env) : List Operand → List Nat
  | [] => []
  | x :: xs => aids (lk E x).a ++ touch E xs

def contentOf (E : Env) (op : Op) : List Nat :=
  match op with
  | .load _ x => aids (lk E x).a
  | .convert _ _ x => aids (lk E x).a
  | .call c => touch E c.args.toList
  | _ => []

def putE (d : Option Tmp) (x : EV) (E : Env) : Env :=
  match d with
  | some d => E.put d x
  | none => E

def dstOK (N : Nat) : Option Tmp → Prop
  | some d => d < N
  | none => True

/-- What an operation yields at a state, and what it does. -/
inductive Step (P : Program) (N n0 : Nat) (d : DOp) (E : Env) (σ : Heap) : EV → FP → Prop
  | pure {G : Bool} {s : Prop} {r : AV} (hg : gcond E d.p = some G) (ha : apure P σ d.p.op (fun x => (lk E x).a) = some (s, r)) (hs : G = true → opsC E d.p.op.operands.toList ∧ s) (hd : dstOK N d.p.dst) :
      Step P N n0 d E σ ⟨G, r⟩ ⟨touch E d.p.op.operands.toList, contentOf E d.p.op, none⟩
  | pick {G gc t : Bool} {c x y : Operand} {r : AV} (hg : gcond E d.p = some G) (ho : d.p.op = .pick c x y) (hc : lk E c = ⟨gc, .v (.bool t)⟩) (hr : apick t (lk E x).a (lk E y).a = some r)
      (hs : G = true → gc = true ∧ (t = true → (lk E x).c = true) ∧ (t = false → (lk E y).c = true)) (hd : dstOK N d.p.dst) : Step P N n0 d E σ ⟨G, r⟩ ⟨[], [], none⟩
  | call {G : Bool} {c : Call} {f : FuncId} {args : List AV} {r : AV} (hg : gcond E d.p = some G) (ho : d.p.op = .call c) (hc : acallee E σ c = some (f, args))
      (hs : G = true → opsC E d.p.op.operands.toList ∧ ∀ σ', ACalls P f args σ' (fun r' σ'' => r' = r ∧ σ'' = σ')) (hd : dstOK N d.p.dst) : Step P N n0 d E σ ⟨G, r⟩ ⟨[], [], none⟩
  | callW {c : Call} {f : FuncId} {args : List AV} {r : AV} {i g e : Nat} {es es' : List AV} (hg : gcond E d.p = some true) (ho : d.p.op = .call c) (hc : acallee E σ c = some (f, args)) (hi : σ[i]? = some (.row g e es)) (hs : opsC E d.p.op.operands.toList)
      (hcall : ∀ σ', σ'[i]? = some (.row g e es) → ACalls P f args σ' (fun r' σ'' => r' = r ∧ σ'' = σ'.set i (.row g e es'))) (hd : dstOK N d.p.dst) : Step P N n0 d E σ ⟨true, r⟩ ⟨[i], [i], some (i, false, .row g e es')⟩
  | alloc {t : TypeId} {ti : TI} {k : Nat} (hg : d.p.g = none) (ho : d.p.op = .alloc t) (ht : tinf P t = some ti) (hk : d.rank = some k) (hh : σ[n0 + k]? = some .hole) (hd : dstOK N d.p.dst) :
      Step P N n0 d E σ ⟨true, .ptr (n0 + k) 0 0 0⟩ ⟨[], [n0 + k], some (n0 + k, true, .row 0 ti.size [ti.zero])⟩
  | store {t : TypeId} {ti : TI} {p x : Operand} {i g k off e : Nat} {es : List AV} {s : Prop} {r : AV} (hg : d.p.g = none) (ho : d.p.op = .store t p x) (ht : tinf P t = some ti)
      (hp : (lk E p).a = .ptr i g k off) (hi : σ[i]? = some (.row g e es)) (hkl : k < es.length) (hsz : asz (lk E x).a = some ti.size) (hput : aput e (es[k]?.getD .any) off (lk E x).a = some (s, r))
      (hs : opsC E d.p.op.operands.toList ∧ s) (hd : d.p.dst = none) : Step P N n0 d E σ ⟨true, .any⟩ ⟨[i], [i], some (i, false, .row g e (es.set k r))⟩
  | build {G : Bool} {t : TypeId} {parts : Array (Nat × Operand)} {r : AV} (hg : gcond E d.p = some G) (ho : d.p.op = .build t parts) (hb : abuild P t (mapP (fun x => (lk E x).a) parts.toList) = some r) (hs : G = true → opsC E d.p.op.operands.toList) (hd : dstOK N d.p.dst) :
      Step P N n0 d E σ ⟨G, r⟩ ⟨[], [], none⟩
  | buildSlice {t e : TypeId} {len k : Nat} {parts : Array (Nat × Operand)} {ti te : TI} {es : List AV} (hg : d.p.g = none) (ho : d.p.op = .buildSlice t len parts) (ht : tinf P t = some ti) (hk : ti.kind = .sl e) (hte : tinf P e = some te)
      (hlen : len * te.size ≤ 16777216) (hb : fillE te.size (List.replicate len te.zero) (mapP (fun x => (lk E x).a) parts.toList) = some es) (hs : opsC E d.p.op.operands.toList) (hr : d.rank = some k) (hh : σ[n0 + k]? = some .hole) (hd : dstOK N d.p.dst) :
      Step P N n0 d E σ ⟨true, .os (n0 + k) 0 0 len⟩ ⟨[], [n0 + k], some (n0 + k, true, .row 0 te.size es)⟩
  | box {t : TypeId} {x : Operand} {n k : Nat} (hg : d.p.g = none) (ho : d.p.op = .box t x) (hn : asz (lk E x).a = some n) (hs : opsC E d.p.op.operands.toList) (hr : d.rank = some k) (hh : σ[n0 + k]? = some .hole) (hd : dstOK N d.p.dst) :
      Step P N n0 d E σ ⟨true, .ptr (n0 + k) 0 0 0⟩ ⟨[], [n0 + k], some (n0 + k, true, .row 0 n [(lk E x).a])⟩
  | appOs {t t' e : TypeId} {ti ti' te : TI} {x y : Operand} {i g n : Nat} {es news : List AV} {s : Prop} (hg : d.p.g = none) (ho : d.p.op = .call { callee := .builtin .append, args := #[x, y], argTypes := #[t, t'] }) (ht : tinf P t = some ti) (hk : ti.kind = .sl e)
      (ht' : tinf P t' = some ti') (hk' : ti'.kind = .str ∨ ∃ e2, ti'.kind = .sl e2) (hte : tinf P e = some te) (hx : (lk E x).a = .os i g 0 n) (hi : σ[i]? = some (.row g te.size es)) (hsrc : asrc σ te.size (lk E y).a = some (s, news))
      (hs : opsC E d.p.op.operands.toList ∧ s ∧ n ≤ es.length ∧ (n + news.length) * te.bytes ≤ 140737488355328 ∧ n + news.length ≤ 4611686018427387904) (hd : dstOK N d.p.dst) :
      Step P N n0 d E σ ⟨true, .os i (g + 1) 0 (n + news.length)⟩ ⟨[], i :: aids (lk E y).a, some (i, true, .row (g + 1) te.size (es.take n ++ news))⟩
  | appNil {t t' e : TypeId} {ti ti' te : TI} {x y : Operand} {k : Nat} {news : List AV} {s : Prop} (hg : d.p.g = none) (ho : d.p.op = .call { callee := .builtin .append, args := #[x, y], argTypes := #[t, t'] }) (ht : tinf P t = some ti) (hk : ti.kind = .sl e)
      (ht' : tinf P t' = some ti') (hk' : ti'.kind = .str ∨ ∃ e2, ti'.kind = .sl e2) (hte : tinf P e = some te) (hx : (lk E x).a = .v (.slice none 0 0)) (hsrc : asrc σ te.size (lk E y).a = some (s, news))
      (hs : opsC E d.p.op.operands.toList ∧ s ∧ news.length * te.bytes ≤ 140737488355328 ∧ news.length ≤ 4611686018427387904) (hr : d.rank = some k) (hh : σ[n0 + k]? = some .hole) (hd : dstOK N d.p.dst) :
      Step P N n0 d E σ ⟨true, .os (n0 + k) 0 0 news.length⟩ ⟨[], (n0 + k) :: aids (lk E y).a, some (n0 + k, true, .row 0 te.size news)⟩

/-! ### the environment -/

def plooks (p : POp) : List Tmp :=
  (p.op.operands.toList.filterMap fun | .tmp t => some t | _ => none) ++ (match p.g with | some (some d, _) => [d] | _ => [])

def SameOn (l : List Tmp) (E E' : Env) : Prop := ∀ t ∈ l, E.get t = E'.get t

theorem lk_same {E E' : Env} {x : Operand} (h : ∀ t, x = .tmp t → E.get t = E'.get t) : lk E x = lk E' x := by
  cases x with
  | tmp t => simp only [lk, h t rfl]
  | _ => rfl

theorem lk_plooks {p : POp} {E E' : Env} (h : SameOn (plooks p) E E') {x : Operand} (hx : x ∈ p.op.operands.toList) : lk E x = lk E' x :=
  lk_same fun t e => h t (List.mem_append_left _ (List.mem_filterMap.2 ⟨x, hx, by rw [e]⟩))

theorem gcond_same {p : POp} {E E' : Env} (h : SameOn (plooks p) E E') : gcond E p = gcond E' p := by
  unfold gcond
  split
  · rfl
  · rfl
  · rename_i d want hg
    rw [h d (by unfold plooks; rw [hg]; simp)]

theorem opsC_same {E E' : Env} : ∀ {l : List Operand}, (∀ x ∈ l, lk E x = lk E' x) → opsC E l = opsC E' l
  | [], _ => rfl
  | x :: l, h => by simp only [opsC, h x List.mem_cons_self, opsC_same fun y hy => h y (List.mem_cons_of_mem _ hy)]

theorem touch_same {E E' : Env} : ∀ {l : List Operand}, (∀ x ∈ l, lk E x = lk E' x) → touch E l = touch E' l
  | [], _ => rfl
  | x :: l, h => by simp only [touch, h x List.mem_cons_self, touch_same fun y hy => h y (List.mem_cons_of_mem _ hy)]

theorem map_congr' {ev ev' : Operand → AV} {l : List Operand} (h : ∀ x ∈ l, ev x = ev' x) : l.map ev = l.map ev' := List.map_congr_left h

theorem apure_same {P : Program} {σ : Heap} {op : Op} {ev ev' : Operand → AV} (h : ∀ x ∈ op.operands.toList, ev x = ev' x) : apure P σ op ev = apure P σ op ev' := by
  cases op with
  | makeFunc f first cap =>
    simp only [apure]
    rw [map_congr' (ev := ev) (ev' := ev') (l := first.toList) (fun x hx => h x (by simp [Op.operands]; left; simpa using hx)), map_congr' (ev := ev) (ev' := ev') (l := cap.toList) (fun x hx => h x (by simp [Op.operands]; right; simpa using hx))]
  | slice t x lo hi mx =>
    simp only [apure]
    rw [h x (by simp [Op.operands]), Option.map_congr (x := lo) (fun y hy => h y (by simp [Op.operands, hy])), Option.map_congr (x := hi) (fun y hy => h y (by simp [Op.operands, hy])), Option.map_congr (x := mx) (fun y hy => h y (by simp [Op.operands, hy]))]
  | call c =>
    simp only [apure]
    split
    · rename_i b hc
      rw [map_congr' (ev := ev) (ev' := ev') (l := c.args.toList) (fun x hx => h x (by simp [Op.operands, Call.operands, hc]; simpa using hx))]
    · rfl
  | _ => simp_all [apure, Op.operands]

theorem acallee_same {σ σ' : Heap} {c : Call} {p : POp} (ho : p.op = .call c) {E E' : Env} (h : SameOn (plooks p) E E') : acallee E σ c = acallee E' σ' c := by
  unfold acallee
  split
  · rename_i f hc
    rw [lk_plooks h (x := f) (by simp [ho, Op.operands, Call.operands, hc]), List.map_congr_left (fun x hx => by rw [lk_plooks h (x := x) (by simp [ho, Op.operands, Call.operands, hc]; right; simpa using hx)])]
  · rfl

theorem mapP_same {ev ev' : Operand → AV} : ∀ {l : List (Nat × Operand)}, (∀ p ∈ l, ev p.2 = ev' p.2) → mapP ev l = mapP ev' l
  | [], _ => rfl
  | p :: l, h => by simp only [mapP, h p List.mem_cons_self, mapP_same fun q hq => h q (List.mem_cons_of_mem _ hq)]

theorem Step.env {P : Program} {N n0 : Nat} {d : DOp} {E E' : Env} {σ : Heap} {x : EV} {f : FP} (h : SameOn (plooks d.p) E E') (H : Step P N n0 d E σ x f) : Step P N n0 d E' σ x f := by
  have hl : ∀ y ∈ d.p.op.operands.toList, lk E y = lk E' y := fun y hy => lk_plooks h hy
  have hg' := gcond_same h
  cases H with
  | pure hg ha hs hd =>
    have h1 : contentOf E d.p.op = contentOf E' d.p.op := by
      unfold contentOf
      split
      · rename_i t x ho; rw [hl x (by simp [ho, Op.operands])]
      · rename_i t t' x ho; rw [hl x (by simp [ho, Op.operands])]
      · rename_i c ho; exact touch_same fun x hx => hl x (by rw [ho]; simp only [Op.operands, Call.operands, Array.toList_append]; exact List.mem_append_right _ hx)
      · rfl
    rw [touch_same hl, h1]
    exact .pure (hg' ▸ hg) (by rw [← apure_same (ev := fun x => (lk E x).a) (ev' := fun x => (lk E' x).a) fun x hx => by simp only [hl x hx]]; exact ha) (by rw [← opsC_same hl]; exact hs) hd
  | @pick G gc t c x y r hg ho hc hr hs hd =>
    have e1 := hl c (by simp [ho, Op.operands])
    have e2 := hl x (by simp [ho, Op.operands])
    have e3 := hl y (by simp [ho, Op.operands])
    exact .pick (hg' ▸ hg) ho (by rw [← e1]; exact hc) (by rw [← e2, ← e3]; exact hr) (by rw [← e2, ← e3]; exact hs) hd
  | call hg ho hc hs hd => exact .call (hg' ▸ hg) ho ((acallee_same ho h).symm.trans hc) (by rw [← opsC_same hl]; exact hs) hd
  | callW hg ho hc hi hs hcall hd => exact .callW (hg' ▸ hg) ho ((acallee_same ho h).symm.trans hc) hi (by rw [← opsC_same hl]; exact hs) hcall hd
  | alloc hg ho ht hk hh hd => exact .alloc hg ho ht hk hh hd
  | @store t ti p x i g k off e es s r hg ho ht hp hi hkl hsz hput hs hd =>
    have e1 := hl p (by simp [ho, Op.operands])
    have e2 := hl x (by simp [ho, Op.operands])
    exact .store hg ho ht (by rw [← e1]; exact hp) hi hkl (by rw [← e2]; exact hsz) (by rw [← e2]; exact hput) (by rw [← opsC_same hl]; exact hs) hd
  | @build G t parts r hg ho hb hs hd =>
    have e1 := mapP_same (ev := fun x => (lk E x).a) (ev' := fun x => (lk E' x).a) (l := parts.toList) fun p hp => congrArg EV.a (hl p.2 (by rw [ho]; simp only [Op.operands]; simp; exact ⟨p.1, by simpa using hp⟩))
    exact .build (hg' ▸ hg) ho (by rw [← e1]; exact hb) (by rw [← opsC_same hl]; exact hs) hd
  | @buildSlice t e len k parts ti te es hg ho ht hk hte hlen hb hs hr hh hd =>
    have e1 := mapP_same (ev := fun x => (lk E x).a) (ev' := fun x => (lk E' x).a) (l := parts.toList) fun p hp => congrArg EV.a (hl p.2 (by rw [ho]; simp only [Op.operands]; simp; exact ⟨p.1, by simpa using hp⟩))
    exact .buildSlice hg ho ht hk hte hlen (by rw [← e1]; exact hb) (by rw [← opsC_same hl]; exact hs) hr hh hd
  | @box t x n k hg ho hn hs hr hh hd =>
    have e1 := hl x (by simp [ho, Op.operands])
    rw [e1]
    exact .box hg ho (by rw [← e1]; exact hn) (by rw [← opsC_same hl]; exact hs) hr hh hd
  | @appOs t t' e ti ti' te x y i g n es news s hg ho ht hk ht' hk' hte hx hi hsrc hs hd =>
    have e1 := hl x (by simp [ho, Op.operands, Call.operands])
    have e2 := hl y (by simp [ho, Op.operands, Call.operands])
    rw [e2]
    exact .appOs hg ho ht hk ht' hk' hte (by rw [← e1]; exact hx) hi (by rw [← e2]; exact hsrc) (by rw [← opsC_same hl]; exact hs) hd
  | @appNil t t' e ti ti' te x y k news s hg ho ht hk ht' hk' hte hx hsrc hs hr hh hd =>
    have e1 := hl x (by simp [ho, Op.operands, Call.operands])
    have e2 := hl y (by simp [ho, Op.operands, Call.operands])
    rw [e2]
    exact .appNil hg ho ht hk ht' hk' hte (by rw [← e1]; exact hx) (by rw [← e2]; exact hsrc) (by rw [← opsC_same hl]; exact hs) hr hh hd

end Go.Ab
set_option linter.unusedVariables false
set_option linter.unusedSimpArgs false
set_option linter.unusedSectionVars false
namespace Go.Ab
open Go
variable [GlobFacts]

def shape : Option AObj → Option (Bool × Nat × Nat)
  | some (.row g e _) => some (false, g, e)
  | some (.map g _) => some (true, g, 0)
  | _ => none

theorem alive_shape {σ σ' : Heap} {i g : Nat} (h : shape σ[i]? = shape σ'[i]?) : alive σ i g = alive σ' i g := by
  unfold alive
  cases h1 : σ[i]? with
  | none =>
    rw [h1] at h
    cases h2 : σ'[i]? with
    | none => rfl
    | some o => rw [h2] at h; cases o <;> simp_all [shape]
  | some o =>
    rw [h1] at h
    cases h2 : σ'[i]? with
    | none => rw [h2] at h; cases o <;> simp_all [shape]
    | some o' => rw [h2] at h; cases o <;> cases o' <;> simp_all [shape]

theorem rowE_shape {σ σ' : Heap} {i : Nat} (h : shape σ[i]? = shape σ'[i]?) : rowE σ i = rowE σ' i := by
  unfold rowE
  cases h1 : σ[i]? with
  | none =>
    rw [h1] at h
    cases h2 : σ'[i]? with
    | none => rfl
    | some o => rw [h2] at h; cases o <;> simp_all [shape]
  | some o =>
    rw [h1] at h
    cases h2 : σ'[i]? with
    | none => rw [h2] at h; cases o <;> simp_all [shape]
    | some o' => rw [h2] at h; cases o <;> cases o' <;> simp_all [shape]

structure Agree (σ σ' : Heap) (f : FP) : Prop where
  ct : ∀ i ∈ f.ct, σ[i]? = σ'[i]?
  sh : ∀ i ∈ f.sh, shape σ[i]? = shape σ'[i]?

theorem Agree.symm {σ σ' : Heap} {f : FP} (h : Agree σ σ' f) : Agree σ' σ f := ⟨fun i hi => (h.ct i hi).symm, fun i hi => (h.sh i hi).symm⟩

theorem aslice_agree {P : Program} {σ σ' : Heap} {t : TypeId} {x : AV} {lo hi mx : Option AV} (h : ∀ i ∈ aids x, rowE σ i = rowE σ' i) : aslice P σ t x lo hi mx = aslice P σ' t x lo hi mx := by
  unfold aslice
  cases mx with
  | some _ => rfl
  | none =>
    cases tinf P t with
    | none => rfl
    | some ti =>
      simp only
      cases ti.kind with
      | sl e => cases x with
        | os j g k n => simp only [h j (by simp [aids])]
        | _ => rfl
      | str => cases x with
        | v y => cases y <;> rfl
        | _ => rfl
      | arr n e => cases x with
        | rp a => cases a <;> rfl
        | _ => rfl
      | _ => cases x <;> rfl

theorem mem_touch {E : Env} {i : Nat} : ∀ {l : List Operand} {x : Operand}, x ∈ l → i ∈ aids (lk E x).a → i ∈ touch E l
  | [], _, hx, _ => by cases hx
  | y :: l, x, hx, hi => by
    rcases List.mem_cons.1 hx with rfl | hx
    · exact List.mem_append_left _ hi
    · exact List.mem_append_right _ (mem_touch hx hi)

theorem aref_eq {σ σ' : Heap} {a : AV} (h : ∀ i ∈ aids a, σ[i]? = σ'[i]?) : aref σ a = aref σ' a := by
  cases a with
  | ptr i g k off => simp only [aref, h i (by simp [aids])]
  | _ => rfl

theorem apure_agree {P : Program} {σ σ' : Heap} {op : Op} {E : Env} (h : Agree σ σ' ⟨touch E op.operands.toList, contentOf E op, none⟩) : apure P σ op (fun x => (lk E x).a) = apure P σ' op (fun x => (lk E x).a) := by
  have hsh : ∀ x ∈ op.operands.toList, ∀ i ∈ aids (lk E x).a, shape σ[i]? = shape σ'[i]? := fun x hx i hi => h.sh i (mem_touch hx hi)
  cases op with
  | load t x =>
    have : ∀ i ∈ aids (lk E x).a, σ[i]? = σ'[i]? := fun i hi => h.ct i hi
    simp only [apure, aload, aref_eq this]
  | convert a b x =>
    have : ∀ i ∈ aids (lk E x).a, σ[i]? = σ'[i]? := fun i hi => h.ct i hi
    simp only [apure, aconvert]
    generalize (lk E x).a = v at this
    cases tinf P a with
    | none => rfl
    | some ts => cases tinf P b with
      | none => rfl
      | some td => cases td with
        | mk kd ag sz by' z => cases kd with
          | str => cases v with
            | os j g k n =>
              simp only [this j (by simp [aids])]
            | v y => cases y <;> first | rfl | (rename_i r a b; cases r <;> cases a <;> cases b <;> rfl)
            | sl e es => cases e with
              | zero => rfl
              | succ n => cases n <;> rfl
            | _ => rfl
          | int k => cases v with
            | v y => cases y <;> rfl
            | _ => rfl
          | _ => cases v <;> rfl
  | nilCheck x =>
    have h1 := hsh x (by simp [Op.operands])
    simp only [apure]
    cases hx : (lk E x).a with
    | ptr i g k off => rw [hx] at h1; simp only [alive_shape (g := g) (h1 i (by simp [aids]))]
    | _ => rfl
  | fieldAddr t x f =>
    have h1 := hsh x (by simp [Op.operands])
    simp only [apure, afieldAddr]
    cases hx : (lk E x).a with
    | ptr i g k off => rw [hx] at h1; simp only [alive_shape (g := g) (h1 i (by simp [aids]))]
    | _ => rfl
  | indexAddr t x ix =>
    have h1 := hsh x (by simp [Op.operands])
    simp only [apure, aindexAddr]
    cases hx : (lk E x).a with
    | ptr i g k off => rw [hx] at h1; simp only [alive_shape (g := g) (h1 i (by simp [aids]))]
    | os i g k n => rw [hx] at h1; simp only [rowE_shape (h1 i (by simp [aids]))]
    | _ => rfl
  | slice t x lo hi mx =>
    have h1 := hsh x (by simp [Op.operands])
    exact aslice_agree fun i hi => rowE_shape (h1 i hi)
  | call c =>
    simp only [apure]
    split
    · rename_i b hc
      have h1 : ∀ x ∈ c.args.toList, ∀ i ∈ aids (lk E x).a, σ[i]? = σ'[i]? := fun x hx i hi => h.ct i (mem_touch hx hi)
      unfold abuiltin
      split
      · rename_i t x hts hxs
        have hx1 : ∀ i ∈ aids x, σ[i]? = σ'[i]? := by
          cases hal : c.args.toList with
          | nil => rw [hal] at hxs; simp at hxs
          | cons y ys =>
            rw [hal] at hxs
            simp at hxs
            rw [← hxs.1]
            exact h1 y (by rw [hal]; simp)
        cases tinf P t with
        | none => rfl
        | some ti =>
          simp only
          cases ti.kind with
          | sl e => cases x with
            | os i g k n => simp only [alive_shape (g := g) (congrArg shape (hx1 i (by simp [aids])))]
            | v y => cases y <;> first | rfl | (rename_i r a b; cases r <;> cases a <;> cases b <;> rfl)
            | _ => rfl
          | str => cases x with
            | v y => cases y <;> rfl
            | _ => rfl
          | map k e => cases x with
            | mp i g => simp only [hx1 i (by simp [aids])]
            | _ => rfl
          | _ => cases x <;> rfl
      · rfl
      · rfl
      · rfl
    · rfl
  | _ => rfl

theorem asrc_eq {σ σ' : Heap} {size : Nat} {a : AV} (h : ∀ i ∈ aids a, σ[i]? = σ'[i]?) : asrc σ size a = asrc σ' size a := by
  cases a with
  | os j g k n => simp only [asrc, h j (by simp [aids])]
  | v x => cases x <;> first | rfl | (rename_i r a b; cases r <;> cases a <;> cases b <;> rfl)
  | _ => rfl

theorem agree_fill {σ : Heap} {j : Nat} {o : AObj} {f f' : FP} (he : f.eff = some (j, true, o)) (h : ¬ f.hits f') : Agree (f.apply σ) σ f' := by
  simp only [FP.hits, he, true_and, not_or] at h
  simp only [FP.apply, he]
  refine ⟨fun i hi => ?_, fun i hi => ?_⟩
  · exact List.getElem?_set_ne (fun e : j = i => h.1 (by rw [e]; exact hi))
  · exact congrArg shape (List.getElem?_set_ne (fun e : j = i => h.2 (by rw [e]; exact hi)))

theorem Step.agree {P : Program} {N n0 : Nat} {d : DOp} {E : Env} {σ σ' : Heap} {x : EV} {f : FP} (h : Agree σ σ' f) (H : Step P N n0 d E σ x f) : Step P N n0 d E σ' x f := by
  cases H with
  | pure hg ha hs hd => exact .pure hg (by rw [← apure_agree h]; exact ha) hs hd
  | pick hg ho hc hr hs hd => exact .pick hg ho hc hr hs hd
  | call hg ho hc hs hd => exact .call hg ho hc hs hd
  | callW hg ho hc hi hs hcall hd => exact .callW hg ho hc (by rw [← h.ct _ (by simp)]; exact hi) hs hcall hd
  | alloc hg ho ht hk hh hd => exact .alloc hg ho ht hk (by rw [← h.ct _ (by simp)]; exact hh) hd
  | store hg ho ht hp hi hkl hsz hput hs hd => exact .store hg ho ht hp (by rw [← h.ct _ (by simp)]; exact hi) hkl hsz hput hs hd
  | build hg ho hb hs hd => exact .build hg ho hb hs hd
  | buildSlice hg ho ht hk hte hlen hb hs hr hh hd => exact .buildSlice hg ho ht hk hte hlen hb hs hr (by rw [← h.ct _ (by simp)]; exact hh) hd
  | box hg ho hn hs hr hh hd => exact .box hg ho hn hs hr (by rw [← h.ct _ (by simp)]; exact hh) hd
  | appOs hg ho ht hk ht' hk' hte hx hi hsrc hs hd => exact .appOs hg ho ht hk ht' hk' hte hx (by rw [← h.ct _ (by simp)]; exact hi) (by rw [← asrc_eq fun i hi => h.ct i (List.mem_cons_of_mem _ hi)]; exact hsrc) hs hd
  | appNil hg ho ht hk ht' hk' hte hx hsrc hs hr hh hd => exact .appNil hg ho ht hk ht' hk' hte hx (by rw [← asrc_eq fun i hi => h.ct i (List.mem_cons_of_mem _ hi)]; exact hsrc) hs hr (by rw [← h.ct _ (by simp)]; exact hh) hd

/-- the effect of a step, seen by another -/
theorem Step.agree_apply {P : Program} {N n0 : Nat} {d : DOp} {E : Env} {σ : Heap} {x : EV} {f f' : FP} (H : Step P N n0 d E σ x f) (h : ¬ f.hits f') : Agree (f.apply σ) σ f' := by
  cases H with
  | pure hg ha hs hd => exact ⟨fun _ _ => rfl, fun _ _ => rfl⟩
  | pick hg ho hc hr hs hd => exact ⟨fun _ _ => rfl, fun _ _ => rfl⟩
  | call hg ho hc hs hd => exact ⟨fun _ _ => rfl, fun _ _ => rfl⟩
  | @callW c fn args r i g e es es' hg ho hc hi hs hcall hd =>
    simp only [FP.hits, Bool.false_eq_true, false_and, or_false] at h
    refine ⟨fun j hj => ?_, fun j hj => ?_⟩
    · exact List.getElem?_set_ne (fun e : i = j => h (by rw [e]; exact hj))
    · by_cases hij : i = j
      · subst hij
        have hlt := (List.getElem?_eq_some_iff.1 hi).1
        show shape (σ.set i _)[i]? = _
        rw [List.getElem?_set_self hlt, hi]; rfl
      · exact congrArg shape (List.getElem?_set_ne hij)
  | @alloc t ti k hg ho ht hk hh hd =>
    simp only [FP.hits, true_and, not_or] at h
    refine ⟨fun i hi => ?_, fun i hi => ?_⟩
    · exact List.getElem?_set_ne (fun e : n0 + k = i => h.1 (by rw [e]; exact hi))
    · exact congrArg shape (List.getElem?_set_ne (fun e : n0 + k = i => h.2 (by rw [e]; exact hi)))
  | @store t ti p x i g k off e es s r hg ho ht hp hi hkl hsz hput hs hd =>
    simp only [FP.hits, Bool.false_eq_true, false_and, or_false] at h
    refine ⟨fun j hj => ?_, fun j hj => ?_⟩
    · exact List.getElem?_set_ne (fun e : i = j => h (by rw [e]; exact hj))
    · by_cases hij : i = j
      · subst hij
        have hlt := (List.getElem?_eq_some_iff.1 hi).1
        show shape (σ.set i _)[i]? = _
        rw [List.getElem?_set_self hlt, hi]; rfl
      · exact congrArg shape (List.getElem?_set_ne hij)
  | build hg ho hb hs hd => exact ⟨fun _ _ => rfl, fun _ _ => rfl⟩
  | buildSlice hg ho ht hk hte hlen hb hs hr hh hd => exact agree_fill rfl h
  | box hg ho hn hs hr hh hd => exact agree_fill rfl h
  | appOs hg ho ht hk ht' hk' hte hx hi hsrc hs hd => exact agree_fill rfl h
  | appNil hg ho ht hk ht' hk' hte hx hsrc hs hr hh hd => exact agree_fill rfl h

theorem Step.eff_ct {P : Program} {N n0 : Nat} {d : DOp} {E : Env} {σ : Heap} {x : EV} {f : FP} (H : Step P N n0 d E σ x f) {i : Nat} {b : Bool} {o : AObj} (h : f.eff = some (i, b, o)) : i ∈ f.ct := by
  cases H <;> simp_all

theorem apply_comm {f f' : FP} {σ : Heap} (h : ∀ i b o i' b' o', f.eff = some (i, b, o) → f'.eff = some (i', b', o') → i ≠ i') : f'.apply (f.apply σ) = f.apply (f'.apply σ) := by
  unfold FP.apply
  cases h1 : f.eff with
  | none => rfl
  | some p =>
    obtain ⟨i, b, o⟩ := p
    cases h2 : f'.eff with
    | none => rfl
    | some q =>
      obtain ⟨i', b', o'⟩ := q
      exact List.set_comm _ _ (h i b o i' b' o' h1 h2)

/-- two environments that read alike -/
def EnvEq (E E' : Env) : Prop := ∀ t, E.get t = E'.get t

theorem putE_get (d : Option Tmp) (x : EV) (E : Env) (t : Nat) : (putE d x E).get t = if d = some t then some x else E.get t := by
  cases d with
  | none => simp [putE]
  | some d =>
    simp only [putE, Env.get_put, Option.some.injEq]
    by_cases h : t = d
    · subst h; simp
    · rw [if_neg h, if_neg (Ne.symm h)]

theorem putE_eq {d : Option Tmp} {x : EV} {E E' : Env} (h : EnvEq E E') : EnvEq (putE d x E) (putE d x E') := fun t => by rw [putE_get, putE_get, h t]

theorem Step.eqv {P : Program} {N n0 : Nat} {d : DOp} {E E' : Env} {σ : Heap} {x : EV} {f : FP} (h : EnvEq E E') (H : Step P N n0 d E σ x f) : Step P N n0 d E' σ x f := H.env fun t _ => h t

/-- they touch no slot of one another -/
def DOp.apart (x y : DOp) : Bool :=
  (match x.p.dst with
   | some d => !(plooks y.p).contains d && y.p.dst != some d
   | none => true) &&
  (match y.p.dst with
   | some d => !(plooks x.p).contains d
   | none => true)

/-- Two operations in either order. -/
theorem step_swap {P : Program} {N n0 : Nat} {a b : DOp} {E : Env} {σ : Heap} {x y : EV} {f f' : FP} (hap : a.apart b = true) (ha : Step P N n0 a E σ x f) (hb : Step P N n0 b (putE a.p.dst x E) (f.apply σ) y f') (hc : compat f f') :
    Step P N n0 b E σ y f' ∧ Step P N n0 a (putE b.p.dst y E) (f'.apply σ) x f ∧ f'.apply (f.apply σ) = f.apply (f'.apply σ) ∧ EnvEq (putE b.p.dst y (putE a.p.dst x E)) (putE a.p.dst x (putE b.p.dst y E)) := by
  have h1 : ∀ d, a.p.dst = some d → d ∉ plooks b.p ∧ b.p.dst ≠ some d := fun d hd => by simp [DOp.apart, hd] at hap; exact hap.1
  have h2 : ∀ d, b.p.dst = some d → d ∉ plooks a.p := fun d hd => by simp [DOp.apart, hd] at hap; exact hap.2
  have e1 : SameOn (plooks b.p) (putE a.p.dst x E) E := fun t ht => by
    rw [putE_get, if_neg (fun e => (h1 t e).1 ht)]
  have e2 : SameOn (plooks a.p) E (putE b.p.dst y E) := fun t ht => by
    rw [putE_get, if_neg (fun e => h2 t e ht)]
  have hb' := (hb.env e1).agree (ha.agree_apply hc.1)
  refine ⟨hb', (ha.env e2).agree (hb'.agree_apply hc.2).symm, apply_comm fun i c o i' c' o' h3 h4 => ?_, fun t => ?_⟩
  · intro e
    subst e
    exact hc.1 (by simp only [FP.hits, h3]; exact .inl (hb.eff_ct h4))
  · rw [putE_get, putE_get, putE_get, putE_get]
    by_cases h3 : b.p.dst = some t
    · by_cases h4 : a.p.dst = some t
      · exact absurd h3 (h1 t h4).2
      · simp [h3, h4]
    · simp [h3]

end Go.Ab
set_option linter.unusedVariables false
set_option linter.unusedSimpArgs false
set_option linter.unusedSectionVars false
namespace Go.Ab
open Go
variable [GlobFacts]

abbrev Done := Nat → FP → Prop
def Done.add (F : Done) (i : Nat) (f : FP) : Done := fun j g => (j = i ∧ g = f) ∨ F j g

/-- Whatever order is picked from here on. -/
def AAny (P : Program) (N n0 : Nat) (ops : Array Oper) (ds : List DOp) (K : Env → Heap → Prop) : Nat → Array Bool → Done → Env → Heap → Prop
  | 0, listed, _, E, σ => Region.ready .any ops listed = [] ∧ ∃ E0, EnvEq E E0 ∧ K E0 σ
  | fuel + 1, listed, F, E, σ => (Region.ready .any ops listed = [] → ∃ E0, EnvEq E E0 ∧ K E0 σ) ∧
    ∀ i ∈ Region.ready .any ops listed, ∃ d x f, ds[i]? = some d ∧ Step P N n0 d E σ x f ∧ (∀ j g, F j g → hasDep d.deps j ∨ compat g f) ∧
      AAny P N n0 ops ds K fuel (listed.setIfInBounds i true) (F.add i f) (putE d.p.dst x E) (f.apply σ)

section
variable {P : Program} {N n0 : Nat} {ops : Array Oper} {ds : List DOp} {K : Env → Heap → Prop}

theorem AAny.congr : ∀ (fuel : Nat) (listed : Array Bool) (F F' : Done) (E E' : Env) (σ : Heap), EnvEq E E' → (∀ j g, F' j g → F j g) → AAny P N n0 ops ds K fuel listed F E σ → AAny P N n0 ops ds K fuel listed F' E' σ
  | 0, listed, F, F', E, E', σ, h, hF, H => ⟨H.1, let ⟨E0, h1, h2⟩ := H.2; ⟨E0, fun t => (h t).symm.trans (h1 t), h2⟩⟩
  | fuel + 1, listed, F, F', E, E', σ, h, hF, H => by
    refine ⟨fun hr => let ⟨E0, h1, h2⟩ := H.1 hr; ⟨E0, fun t => (h t).symm.trans (h1 t), h2⟩, fun i hi => ?_⟩
    obtain ⟨d, x, f, h1, h2, h3, h4⟩ := H.2 i hi
    refine ⟨d, x, f, h1, h2.eqv h, fun j g hg => h3 j g (hF j g hg), AAny.congr fuel _ _ _ _ _ _ (putE_eq h) (fun j g hg => hg.imp id (hF j g)) h4⟩

theorem compat_symm {f g : FP} (h : compat f g) : compat g f := ⟨h.2, h.1⟩

/-- What is listed has all that it waits for listed. -/
def Cl (ds : List DOp) (listed : Array Bool) : Prop := ∀ (j : Nat) dj, ds[j]? = some dj → listed.getD j false = true → ∀ k, hasDep dj.deps k → listed.getD k false = true
/-- The numbers say what they should. -/
def Masks (ops : Array Oper) (ds : List DOp) : Prop := ∀ (j : Nat) (o : Oper) dj, ops[j]? = some o → ds[j]? = some dj → ∀ k, hasDep dj.deps k → ∃ e ∈ o.after, Region.binds .any e = true ∧ (e.on = k ∨ ∃ dk, ds[e.on]? = some dk ∧ hasDep dk.deps k)

theorem ready_deps (hm : Masks ops ds) {listed : Array Bool} (hc : Cl ds listed) {j : Nat} {dj : DOp} (hj : j ∈ Region.ready .any ops listed) (hdj : ds[j]? = some dj) {k : Nat} (hk : hasDep dj.deps k) : listed.getD k false = true := by
  obtain ⟨_, o, ho, hall⟩ := mem_ready.1 hj
  obtain ⟨e, he, hb, h⟩ := hm j o dj ho hdj k hk
  have h1 := hall e he hb
  rcases h with rfl | ⟨dk, hdk, hk'⟩
  · exact h1
  · exact hc e.on dk hdk h1 k hk'
theorem cl_set (hm : Masks ops ds) {listed : Array Bool} (hc : Cl ds listed) {j : Nat} (hj : j ∈ Region.ready .any ops listed) : Cl ds (listed.setIfInBounds j true) := by
  intro i di hdi hi k hk
  by_cases hij : j = i
  · subst hij; exact getD_set_true (ready_deps hm hc hj hdi hk)
  · rw [getD_set_ne false hij] at hi
    exact getD_set_true (hc i di hdi hi k hk)

/-- An operation that may come up now may be taken first, if every other that has not come up yet waits for it or touches none of its slots. -/
theorem AAny_first {i : Nat} {d : DOp} {x : EV} {f : FP} (hi : ds[i]? = some d) (hm : Masks ops ds)
    (hlen : ds.length = ops.size) :
    ∀ (fuel : Nat) (listed : Array Bool) (F : Done) (E : Env) (σ : Heap), Cl ds listed →
      (∀ (j : Nat) dj, ds[j]? = some dj → j ≠ i → listed.getD j true = false → ¬ hasDep dj.deps i → d.apart dj = true) →
      i ∈ Region.ready .any ops listed → Step P N n0 d E σ x f → (∀ j g, F j g → hasDep d.deps j ∨ compat g f) →
      AAny P N n0 ops ds K fuel (listed.setIfInBounds i true) (F.add i f) (putE d.p.dst x E) (f.apply σ) → AAny P N n0 ops ds K (fuel + 1) listed F E σ := by
  intro fuel
  induction fuel with
  | zero =>
    intro listed F E σ hc _ hr hs hF H
    refine ⟨fun h => (by rw [h] at hr; cases hr), fun j hj => ?_⟩
    by_cases hji : j = i
    · subst hji; exact ⟨d, x, f, hi, hs, hF, H⟩
    · have := ready_mono hj hji
      rw [H.1] at this
      cases this
  | succ fuel ih =>
    intro listed F E σ hc hfree hr hs hF H
    refine ⟨fun h => (by rw [h] at hr; cases hr), fun j hj => ?_⟩
    by_cases hji : j = i
    · subst hji; exact ⟨d, x, f, hi, hs, hF, H⟩
    · obtain ⟨dj, y, f', hdj, hsj, hFj, Hj⟩ := H.2 j (ready_mono hj hji)
      obtain ⟨hjun, oj, hoj, hall⟩ := mem_ready.1 hj
      have hnot : ¬ hasDep dj.deps i := fun hin => by
        have h1 := ready_deps hm hc hj hdj hin
        have h0 := (mem_ready.1 hr).1
        rcases Nat.lt_or_ge i listed.size with h' | h'
        · simp [h'] at h0 h1; rw [h0] at h1; cases h1
        · simp [Array.getElem?_eq_none h'] at h1
      have hcc : compat f f' := (hFj i f (.inl ⟨rfl, rfl⟩)).resolve_left hnot
      obtain ⟨s1, s2, s3, s4⟩ := step_swap (hfree j dj hdj hji hjun hnot) hs hsj hcc
      refine ⟨dj, y, f', hdj, s1, fun k g hg => hFj k g (.inr hg), ?_⟩
      refine ih (listed.setIfInBounds j true) (F.add j f') (putE dj.p.dst y E) (f'.apply σ) (cl_set hm hc hj) (fun k dk hk hki hun hno => ?_) (ready_mono hr (Ne.symm hji)) s2 (fun k g hg => ?_) ?_
      · refine hfree k dk hk hki ?_ hno
        by_cases hjk : j = k
        · subst hjk; exact hjun
        · rw [getD_set_ne true hjk] at hun; exact hun
      · rcases hg with ⟨rfl, rfl⟩ | hg
        · exact .inr (compat_symm hcc)
        · exact hF k g hg
      · rw [Array.setIfInBounds_comm _ _ hji, ← s3]
        refine AAny.congr _ _ _ _ _ _ _ s4 (fun k g hg => ?_) Hj
        rcases hg with h | h | h
        · exact .inr (.inl h)
        · exact .inl h
        · exact .inr (.inr h)

theorem loOf_bad {o : AObj} {r : Option (Nat × Nat)} (hl : o = .hole) {g : Nat} (hr : r = none) : loOf o r g = .bad := by
  subst hl; subst hr; unfold loOf; simp [AObj.gen]

/-- An object that was made is put where a hole was. -/
theorem OpQ.move {a : Act} {w : World} {ρ : Locs} {E : Env} {σ : Heap} {d : Option Tmp} {v : Nat → AV} {obj : AObj} {j : Nat} (hst : St N a w ρ E σ) (hj : σ[j]? = some .hole) (hg : obj.gen = 0) (ho : obj.allI (· < σ.length)) (hho : obj ≠ .hole)
    (hv : (∃ n, v = fun k => .os k 0 0 n) ∨ v = fun k => .ptr k 0 0 0) {a' : Act} {w' : World} (h : OpQ N w (lm σ ρ) (fun E' σ' => E' = putE d ⟨true, v σ.length⟩ E ∧ σ' = σ ++ [obj]) a' w') :
    OpQ N w (lm σ ρ) (fun E' σ' => E' = putE d ⟨true, v j⟩ E ∧ σ' = σ.set j obj) a' w' := by
  obtain ⟨E', σ', ρ', h1, h2, rfl, rfl⟩ := h
  have hlen : ρ'.length = σ.length + 1 := by rw [h1.heap.len]; simp
  obtain ⟨ρ1, r, rfl, hl1⟩ : ∃ ρ1 r, ρ' = ρ1 ++ [r] ∧ ρ1.length = σ.length := by
    refine ⟨ρ'.take σ.length, ρ'[σ.length]'(by omega), ?_, by simp; omega⟩
    conv => lhs; rw [← List.take_append_drop σ.length ρ', List.drop_eq_getElem_cons (by omega), List.drop_eq_nil_of_le (by omega)]
  have hjl := (List.getElem?_eq_some_iff.1 hj).1
  have hjr : ρ1[j]? = some none := by
    have hr := List.getElem?_eq_getElem (l := ρ1) (i := j) (by omega)
    have := h1.heap.obj j .hole ρ1[j] (by rw [List.getElem?_append_left hjl]; exact hj) (by rw [List.getElem?_append_left (by omega)]; exact hr)
    simp only [ObjOK] at this
    rw [hr, this]
  have L1j : ∀ g, lm (σ ++ [obj]) (ρ1 ++ [r]) j g = .bad := fun g => by
    rw [lm_push_old hl1 hjl]; unfold lm; rw [hj, hjr]; exact loOf_bad rfl rfl
  have L1n : ∀ g, lm (σ ++ [obj]) (ρ1 ++ [r]) σ.length g = loOf obj r g := fun g => lm_push_new hl1
  have L2j : ∀ g, lm (σ.set j obj) (ρ1.set j r) j g = loOf obj r g := fun g => by
    unfold lm; rw [List.getElem?_set_self hjl, List.getElem?_set_self (by omega)]
  have L2o : ∀ i g, i ≠ j → i ≠ σ.length → lm (σ.set j obj) (ρ1.set j r) i g = lm (σ ++ [obj]) (ρ1 ++ [r]) i g := fun i g hij hin => by
    by_cases hi : i < σ.length
    · rw [lm_push_old hl1 hi]; unfold lm; rw [List.getElem?_set_ne (Ne.symm hij), List.getElem?_set_ne (Ne.symm hij)]
    · rw [lm_push_bad (σ := σ ++ [obj]) (by simp; omega), lm_push_bad (by simp; omega)]
  have htr : TrV (· < σ.length) w' (lm (σ ++ [obj]) (ρ1 ++ [r])) w' (lm (σ.set j obj) (ρ1.set j r)) := by
    refine ⟨rfl, rfl, Nat.le_refl _, fun _ _ _ => rfl, fun b hb => ?_, fun i g hi hg => .inl ?_⟩
    · obtain ⟨i, g, e, sz, hb⟩ := hb
      by_cases hij : i = j
      · subst hij; rw [L2j, ← L1n] at hb; exact .inl ⟨_, _, _, _, hb⟩
      · by_cases hin : i = σ.length
        · subst hin
          rw [lm_push_bad (by simp)] at hb; cases hb
        · rw [L2o i g hij hin] at hb; exact .inl ⟨_, _, _, _, hb⟩
    · by_cases hij : i = j
      · subst hij; exact absurd (L1j g) hg
      · exact L2o i g hij (by omega)
  have hwf : WfH σ.length (σ ++ [obj]) := by
    intro o hom
    rcases List.mem_append.1 hom with h | h
    · exact hst.heap.wf o h
    · rw [List.mem_singleton] at h; subst h; exact ho
  have hh : HeapOK w' (σ.set j obj) (ρ1.set j r) := by
    refine ⟨by simp [hl1], fun i o r' hoi hri => ?_, fun i k b s s' hi hk => ?_, h1.heap.glob.tr htr⟩
    · by_cases hij : i = j
      · subst hij
        rw [List.getElem?_set_self hjl] at hoi
        rw [List.getElem?_set_self (by omega)] at hri
        cases hoi; cases hri
        exact (h1.heap.obj σ.length obj r (by simp) (by rw [List.getElem?_append_right (by omega)]; simp [hl1])).trV htr ho (fun _ _ _ => rfl)
      · rw [List.getElem?_set_ne (Ne.symm hij)] at hoi hri
        have hil := (List.getElem?_eq_some_iff.1 hoi).1
        exact (h1.heap.obj i o r' (by rw [List.getElem?_append_left hil]; exact hoi) (by rw [List.getElem?_append_left (by omega)]; exact hri)).trV htr (hwf o (List.mem_append_left _ (List.mem_of_getElem? hoi))) (fun _ _ _ => rfl)
    · have up : ∀ {i b s}, (ρ1.set j r)[i]? = some (some (b, s)) → ∃ i', (ρ1 ++ [r])[i']? = some (some (b, s)) ∧ (i = j → i' = σ.length) ∧ (i ≠ j → i' = i ∧ i < σ.length) := by
        intro i b s hi
        by_cases hij : i = j
        · subst hij
          rw [List.getElem?_set_self (by omega)] at hi
          exact ⟨σ.length, by rw [List.getElem?_append_right (by omega)]; simp [hl1]; simpa using hi, fun _ => rfl, fun h => absurd rfl h⟩
        · rw [List.getElem?_set_ne (Ne.symm hij)] at hi
          have hil := (List.getElem?_eq_some_iff.1 hi).1
          exact ⟨i, by rw [List.getElem?_append_left hil]; exact hi, fun h => absurd h hij, fun _ => ⟨rfl, by omega⟩⟩
      obtain ⟨i', h3, h4, h5⟩ := up hi
      obtain ⟨k', h6, h7, h8⟩ := up hk
      have := h1.heap.inj i' k' b s s' h3 h6
      by_cases hij : i = j
      · by_cases hkj : k = j
        · rw [hij, hkj]
        · have := h4 hij; have := h8 hkj; omega
      · by_cases hkj : k = j
        · have := h7 hkj; have := h5 hij; omega
        · have := h5 hij; have := h8 hkj; omega
  refine ⟨_, _, ρ1.set j r, ⟨h1.tmps, h1.defers, fun t x ht => ?_, hh⟩, ?_, rfl, rfl⟩
  · rw [putE_get] at ht
    by_cases hdt : d = some t
    · rw [if_pos hdt] at ht
      cases ht
      obtain ⟨y, hy, hok⟩ := h1.env t ⟨true, v σ.length⟩ (by rw [putE_get, if_pos hdt])
      refine ⟨y, hy, ?_⟩
      simp only [EV.ok, if_true] at hok ⊢
      rcases hv with ⟨n, rfl⟩ | rfl
      · simp only [Rep] at hok ⊢
        rw [L2j, ← L1n]; exact hok
      · simp only [Rep] at hok ⊢
        rw [L2j, ← L1n]; exact hok
    · rw [if_neg hdt] at ht
      obtain ⟨y, hy, hok⟩ := h1.env t x (by rw [putE_get, if_neg hdt]; exact ht)
      refine ⟨y, hy, ?_⟩
      obtain ⟨y0, _, hok0⟩ := hst.env t x ht
      unfold EV.ok at *
      split
      · rename_i hc
        rw [if_pos hc] at hok hok0
        exact Rep.trV htr _ _ (Rep.ids (fun i g hg => lm_lt hg) _ _ hok0) hok
      · rename_i hc
        rw [if_neg hc] at hok; exact hok
  · refine ⟨h2.os, h2.output, h2.size, h2.keep, fun b hb => ?_, fun i g hv hg => ?_⟩
    · rcases htr.own b hb with h | h
      · exact h2.own b h
      · exact .inr (Nat.le_trans h2.size h)
    · have hi := lm_lt hg
      rcases h2.loc i g trivial hg with h3 | h3
      · rcases htr.loc i g hi (by rw [h3]; exact hg) with h4 | h4
        · exact .inl (h4.trans h3)
        · exact .inr h4
      · rcases htr.loc i g hi (by rw [h3]; simp) with h4 | h4
        · exact .inr (h4.trans h3)
        · exact .inr h4

theorem aop_move {o : POp} {E : Env} {σ : Heap} {v : Nat → AV} {obj : AObj} {j : Nat} (hj : σ[j]? = some .hole) (hg : obj.gen = 0) (ho : ∀ a w ρ, St N a w ρ E σ → obj.allI (· < σ.length)) (hho : obj ≠ .hole)
    (hv : (∃ n, v = fun k => .os k 0 0 n) ∨ v = fun k => .ptr k 0 0 0) (h : AOp P N o E σ (fun E' σ' => E' = putE o.dst ⟨true, v σ.length⟩ E ∧ σ' = σ ++ [obj])) :
    AOp P N o E σ (fun E' σ' => E' = putE o.dst ⟨true, v j⟩ E ∧ σ' = σ.set j obj) := by
  intro a w ρ hst
  have := h a w ρ hst
  split
  · rename_i hw
    rw [if_pos hw] at this
    exact Oper.wp_mono (fun _ _ H => OpQ.move hst hj hg (ho _ _ _ hst) hho hv H) this
  · rename_i hw
    rw [if_neg hw] at this
    exact OpQ.move hst hj hg (ho a _ _ hst) hho hv this

/-- A step's operation, carried out. -/
theorem Step.sound {d : DOp} {E : Env} {σ : Heap} {x : EV} {f : FP} (h : Step P N n0 d E σ x f) : AOp P N d.p E σ (fun E' σ' => E' = putE d.p.dst x E ∧ σ' = f.apply σ) := by
  have hput : ∀ {x : EV} {σ' : Heap}, dstOK N d.p.dst → putK N d.p.dst x (fun E' σ'' => E' = putE d.p.dst x E ∧ σ'' = σ') E σ' := by
    intro x σ' hd
    cases hdst : d.p.dst with
    | none => exact ⟨rfl, rfl⟩
    | some t => rw [hdst] at hd; exact ⟨hd, rfl, rfl⟩
  cases h with
  | pure hg ha hs hd => exact aop_pure hg ha hs (hput hd)
  | pick hg ho hc hr hs hd => exact aop_pick hg ho hc hr hs (hput hd)
  | call hg ho hc hs hd => exact aop_call_guarded hg ho hc _ (fun hG => ⟨(hs hG).1, (hs hG).2 σ⟩) (hput hd)
  | callW hg ho hc hi hs hcall hd => exact aop_call hg ho hc hs ((hcall σ hi).mono fun r' σ'' ⟨e1, e2⟩ => by subst e1; subst e2; exact hput hd)
  | @alloc t ti k hg ho ht hk hh hd =>
    intro a w ρ hst
    rw [gcond_sound hst (gcond_none hg)]
    obtain ⟨z, hz, hzero, hfit⟩ := tinf_zero ht w
    obtain ⟨h1, h2, h3⟩ := hst.heap.fill hh ti.size [ti.zero] z.cells.toList [] t (0, 0) (fun off _ => by simp) ⟨z, [], by simp, hfit.2, by rw [hzero]; exact rep_cav _ _ z, rfl⟩
    have hrun : (execOp a.eval d.p.oper).run P w = .ok (.value (.pointer (some ⟨w.heap.size, 0, none⟩))) (w.alloc (.cells (z.cells.toList ++ []).toArray t (0, 0))) := by
      simp [execOp, POp.oper, ho, Instr.alloc, hz, newVar, newRow]
    simp only [if_true, Oper.wp, hrun, Oper.upon]
    exact OpQ.of hst (Tr.refl _ _) h2 h1 (by simp only [EV.ok, Rep, if_true]; rw [h3]; simp [ptrAt]) (hput hd)
  | build hg ho hb hs hd => exact aop_build hg ho hb hs (hput hd)
  | @buildSlice t e len k parts ti te es hg ho ht hk hte hlen hb hs hr hh hd =>
    refine aop_move (v := fun k => .os k 0 0 _) hh rfl (fun a w ρ hst => ?_) (by simp) (.inl ⟨_, rfl⟩) (aop_buildSlice hg ho ht hk hte hlen hb hs (hput hd))
    have hc := opsC_iff.1 hs
    obtain ⟨z, hz, hzero, hfit⟩ := tinf_zero hte w
    have hp := repP_of (w := w) (L := lm σ ρ) (ev := fun x => (lk E x).a) (ec := a.eval) (l := parts.toList) fun p hp => hst.val p.2 (hc p.2 (by simp only [ho, Op.operands]; simp; exact ⟨p.1, by simpa using hp⟩))
    have hrz : Rep w (lm σ ρ) te.zero z := by rw [hzero]; exact rep_cav _ _ z
    obtain ⟨xs, h1, h2, h3⟩ := fillE_sound hb hp (repE_replicate hrz hfit.2 len)
    exact RepE.ids (fun i g hg => lm_lt hg) _ _ _ h2
  | box hg ho hn hs hr hh hd =>
    refine aop_move (v := fun k => .ptr k 0 0 0) hh rfl (fun a w ρ hst => ?_) (by simp) (.inr rfl) (aop_box (gcond_none hg) ho hn hs (hput hd))
    exact ⟨Rep.ids (fun i g hg => lm_lt hg) _ _ (hst.val _ (opsC_iff.1 hs _ (by simp [ho, Op.operands]))), trivial⟩
  | appOs hg ho ht hk ht' hk' hte hx hi hsrc hs hd => exact aop_append_os (gcond_none hg) ho ht hk ht' hk' hte hx hi hsrc hs (hput hd)
  | appNil hg ho ht hk ht' hk' hte hx hsrc hs hr hh hd =>
    refine aop_move (v := fun k => .os k 0 0 _) hh rfl (fun a w ρ hst => ?_) (by simp) (.inl ⟨_, rfl⟩) (aop_append_nil (gcond_none hg) ho ht hk ht' hk' hte hx hsrc hs (hput hd))
    obtain ⟨cs, h1, _⟩ := asrc_sound (P := P) hst.heap hsrc hs.2.1 (hst.val _ (opsC_iff.1 hs.1 _ (by simp [ho, Op.operands, Call.operands])))
    exact RepE.ids (fun i g hg => lm_lt hg) _ _ _ h1
  | store hg ho ht hp hi hkl hsz hput' hs hd => exact aop_store (gcond_none hg) ho ht hp hi hkl hsz hput' hs ⟨by rw [hd]; rfl, rfl⟩ hd

end
end Go.Ab
