/-
  A region that draws its order: one walk in the order of the text serves every order, where no two operations that do not wait for one another touch one object in a way that tells.
-/
import Derived.Test.YtbinpbjeeiedhaaDoorAbL
set_option linter.unusedVariables false
set_option linter.unusedSimpArgs false
set_option linter.unusedSectionVars false
namespace Go.Ab
open Go
variable [GlobFacts]

/-- an operation of such a region: what it waits for, directly or through others (the bits of a number), and which new object it makes -/
structure DOp where
  p : POp
  deps : Nat
  rank : Option Nat

def hasDep (m k : Nat) : Prop := m / 2 ^ k % 2 = 1

theorem hasDep_iff {m k : Nat} : hasDep m k ↔ m.testBit k = true := by
  unfold hasDep; rw [Nat.testBit_eq_decide_div_mod_eq, decide_eq_true_eq]
theorem hasDep_zero {k : Nat} : ¬ hasDep 0 k := by rw [hasDep_iff]; simp
theorem hasDep_or {a b k : Nat} : hasDep (a ||| b) k ↔ hasDep a k ∨ hasDep b k := by simp only [hasDep_iff, Nat.testBit_or, Bool.or_eq_true]
theorem hasDep_pow {i k : Nat} : hasDep (2 ^ i) k ↔ i = k := by rw [hasDep_iff, Nat.testBit_two_pow]; simp

/-- what an operation looks at (the shape of objects, their content), and which object it makes or writes -/
structure FP where
  sh : List Nat
  ct : List Nat
  eff : Option (Nat × Bool × AObj)

def FP.apply (f : FP) (σ : Heap) : Heap :=
  match f.eff with
  | none => σ
  | some (i, _, o) => σ.set i o

def FP.hits (f f' : FP) : Prop :=
  match f.eff with
  | none => False
  | some (i, fill, _) => i ∈ f'.ct ∨ (fill = true ∧ i ∈ f'.sh)

def compat (f f' : FP) : Prop := ¬ f.hits f' ∧ ¬ f'.hits f

def aids : AV → List Nat
  | .ptr i _ _ _ => [i]
  | .os i _ _ _ => [i]
  | .mp i _ => [i]
  | _ => []

def touch (E : Env) : List Operand → List Nat
  | [] => []
  | x :: xs => aids (lk E x).a ++ touch E xs

def contentOf (E : Env) (op : Op) : List Nat :=
  match op with
  | .load _ x => aids (lk E x).a
  | .convert _ _ x => aids (lk E x).a
  | .call c => touch E c.args.toList
  | _ => []

def putE (d : Option Tmp) (x : EV) (E : Env) : Env :=
  match d with
  | some d => E.put d x
  | none => E

def dstOK (N : Nat) : Option Tmp → Prop
  | some d => d < N
  | none => True

/-- What an operation yields at a state, and what it does. -/
inductive Step (P : Program) (N n0 : Nat) (d : DOp) (E : Env) (σ : Heap) : EV → FP → Prop
  | pure {G : Bool} {s : Prop} {r : AV} (hg : gcond E d.p = some G) (ha : apure P σ d.p.op (fun x => (lk E x).a) = some (s, r)) (hs : G = true → opsC E d.p.op.operands.toList ∧ s) (hd : dstOK N d.p.dst) :
      Step P N n0 d E σ ⟨G, r⟩ ⟨touch E d.p.op.operands.toList, contentOf E d.p.op, none⟩
  | pick {G gc t : Bool} {c x y : Operand} {r : AV} (hg : gcond E d.p = some G) (ho : d.p.op = .pick c x y) (hc : lk E c = ⟨gc, .v (.bool t)⟩) (hr : apick t (lk E x).a (lk E y).a = some r)
      (hs : G = true → gc = true ∧ (t = true → (lk E x).c = true) ∧ (t = false → (lk E y).c = true)) (hd : dstOK N d.p.dst) : Step P N n0 d E σ ⟨G, r⟩ ⟨[], [], none⟩
  | call {G : Bool} {c : Call} {f : FuncId} {args : List AV} {r : AV} (hg : gcond E d.p = some G) (ho : d.p.op = .call c) (hc : acallee E σ c = some (f, args))
      (hs : G = true → opsC E d.p.op.operands.toList ∧ ∀ σ', ACalls P f args σ' (fun r' σ'' => r' = r ∧ σ'' = σ')) (hd : dstOK N d.p.dst) : Step P N n0 d E σ ⟨G, r⟩ ⟨[], [], none⟩
  | alloc {t : TypeId} {ti : TI} {k : Nat} (hg : d.p.g = none) (ho : d.p.op = .alloc t) (ht : tinf P t = some ti) (hk : d.rank = some k) (hh : σ[n0 + k]? = some .hole) (hd : dstOK N d.p.dst) :
      Step P N n0 d E σ ⟨true, .ptr (n0 + k) 0 0 0⟩ ⟨[], [n0 + k], some (n0 + k, true, .row 0 ti.size [ti.zero])⟩
  | store {t : TypeId} {ti : TI} {p x : Operand} {i g k off e : Nat} {es : List AV} {s : Prop} {r : AV} (hg : d.p.g = none) (ho : d.p.op = .store t p x) (ht : tinf P t = some ti)
      (hp : (lk E p).a = .ptr i g k off) (hi : σ[i]? = some (.row g e es)) (hkl : k < es.length) (hsz : asz (lk E x).a = some ti.size) (hput : aput e (es[k]?.getD .any) off (lk E x).a = some (s, r))
      (hs : opsC E d.p.op.operands.toList ∧ s) (hd : d.p.dst = none) : Step P N n0 d E σ ⟨true, .any⟩ ⟨[i], [i], some (i, false, .row g e (es.set k r))⟩
  | build {G : Bool} {t : TypeId} {parts : Array (Nat × Operand)} {r : AV} (hg : gcond E d.p = some G) (ho : d.p.op = .build t parts) (hb : abuild P t (mapP (fun x => (lk E x).a) parts.toList) = some r) (hs : G = true → opsC E d.p.op.operands.toList) (hd : dstOK N d.p.dst) :
      Step P N n0 d E σ ⟨G, r⟩ ⟨[], [], none⟩
  | buildSlice {t e : TypeId} {len k : Nat} {parts : Array (Nat × Operand)} {ti te : TI} {es : List AV} (hg : d.p.g = none) (ho : d.p.op = .buildSlice t len parts) (ht : tinf P t = some ti) (hk : ti.kind = .sl e) (hte : tinf P e = some te)
      (hlen : len * te.size ≤ 16777216) (hb : fillE te.size (List.replicate len te.zero) (mapP (fun x => (lk E x).a) parts.toList) = some es) (hs : opsC E d.p.op.operands.toList) (hr : d.rank = some k) (hh : σ[n0 + k]? = some .hole) (hd : dstOK N d.p.dst) :
      Step P N n0 d E σ ⟨true, .os (n0 + k) 0 0 len⟩ ⟨[], [n0 + k], some (n0 + k, true, .row 0 te.size es)⟩
  | box {t : TypeId} {x : Operand} {n k : Nat} (hg : d.p.g = none) (ho : d.p.op = .box t x) (hn : asz (lk E x).a = some n) (hs : opsC E d.p.op.operands.toList) (hr : d.rank = some k) (hh : σ[n0 + k]? = some .hole) (hd : dstOK N d.p.dst) :
      Step P N n0 d E σ ⟨true, .ptr (n0 + k) 0 0 0⟩ ⟨[], [n0 + k], some (n0 + k, true, .row 0 n [(lk E x).a])⟩
  | appOs {t t' e : TypeId} {ti ti' te : TI} {x y : Operand} {i g n : Nat} {es news : List AV} {s : Prop} (hg : d.p.g = none) (ho : d.p.op = .call { callee := .builtin .append, args := #[x, y], argTypes := #[t, t'] }) (ht : tinf P t = some ti) (hk : ti.kind = .sl e)
      (ht' : tinf P t' = some ti') (hk' : ti'.kind = .str ∨ ∃ e2, ti'.kind = .sl e2) (hte : tinf P e = some te) (hx : (lk E x).a = .os i g 0 n) (hi : σ[i]? = some (.row g te.size es)) (hsrc : asrc σ te.size (lk E y).a = some (s, news))
      (hs : opsC E d.p.op.operands.toList ∧ s ∧ n ≤ es.length ∧ (n + news.length) * te.bytes ≤ 140737488355328 ∧ n + news.length ≤ 4611686018427387904) (hd : dstOK N d.p.dst) :
      Step P N n0 d E σ ⟨true, .os i (g + 1) 0 (n + news.length)⟩ ⟨[], i :: aids (lk E y).a, some (i, true, .row (g + 1) te.size (es.take n ++ news))⟩
  | appNil {t t' e : TypeId} {ti ti' te : TI} {x y : Operand} {k : Nat} {news : List AV} {s : Prop} (hg : d.p.g = none) (ho : d.p.op = .call { callee := .builtin .append, args := #[x, y], argTypes := #[t, t'] }) (ht : tinf P t = some ti) (hk : ti.kind = .sl e)
      (ht' : tinf P t' = some ti') (hk' : ti'.kind = .str ∨ ∃ e2, ti'.kind = .sl e2) (hte : tinf P e = some te) (hx : (lk E x).a = .v (.slice none 0 0)) (hsrc : asrc σ te.size (lk E y).a = some (s, news))
      (hs : opsC E d.p.op.operands.toList ∧ s ∧ news.length * te.bytes ≤ 140737488355328 ∧ news.length ≤ 4611686018427387904) (hr : d.rank = some k) (hh : σ[n0 + k]? = some .hole) (hd : dstOK N d.p.dst) :
      Step P N n0 d E σ ⟨true, .os (n0 + k) 0 0 news.length⟩ ⟨[], (n0 + k) :: aids (lk E y).a, some (n0 + k, true, .row 0 te.size news)⟩

/-! ### the environment -/

def plooks (p : POp) : List Tmp :=
  (p.op.operands.toList.filterMap fun | .tmp t => some t | _ => none) ++ (match p.g with | some (some d, _) => [d] | _ => [])

def SameOn (l : List Tmp) (E E' : Env) : Prop := ∀ t ∈ l, E.get t = E'.get t

theorem lk_same {E E' : Env} {x : Operand} (h : ∀ t, x = .tmp t → E.get t = E'.get t) : lk E x = lk E' x := by
  cases x with
  | tmp t => simp only [lk, h t rfl]
  | _ => rfl

theorem lk_plooks {p : POp} {E E' : Env} (h : SameOn (plooks p) E E') {x : Operand} (hx : x ∈ p.op.operands.toList) : lk E x = lk E' x :=
  lk_same fun t e => h t (List.mem_append_left _ (List.mem_filterMap.2 ⟨x, hx, by rw [e]⟩))

theorem gcond_same {p : POp} {E E' : Env} (h : SameOn (plooks p) E E') : gcond E p = gcond E' p := by
  unfold gcond
  split
  · rfl
  · rfl
  · rename_i d want hg
    rw [h d (by unfold plooks; rw [hg]; simp)]

theorem opsC_same {E E' : Env} : ∀ {l : List Operand}, (∀ x ∈ l, lk E x = lk E' x) → opsC E l = opsC E' l
  | [], _ => rfl
  | x :: l, h => by simp only [opsC, h x List.mem_cons_self, opsC_same fun y hy => h y (List.mem_cons_of_mem _ hy)]

theorem touch_same {E E' : Env} : ∀ {l : List Operand}, (∀ x ∈ l, lk E x = lk E' x) → touch E l = touch E' l
  | [], _ => rfl
  | x :: l, h => by simp only [touch, h x List.mem_cons_self, touch_same fun y hy => h y (List.mem_cons_of_mem _ hy)]

theorem map_congr' {ev ev' : Operand → AV} {l : List Operand} (h : ∀ x ∈ l, ev x = ev' x) : l.map ev = l.map ev' := List.map_congr_left h

theorem apure_same {P : Program} {σ : Heap} {op : Op} {ev ev' : Operand → AV} (h : ∀ x ∈ op.operands.toList, ev x = ev' x) : apure P σ op ev = apure P σ op ev' := by
  cases op with
  | makeFunc f first cap =>
    simp only [apure]
    rw [map_congr' (ev := ev) (ev' := ev') (l := first.toList) (fun x hx => h x (by simp [Op.operands]; left; simpa using hx)), map_congr' (ev := ev) (ev' := ev') (l := cap.toList) (fun x hx => h x (by simp [Op.operands]; right; simpa using hx))]
  | slice t x lo hi mx =>
    simp only [apure]
    rw [h x (by simp [Op.operands]), Option.map_congr (x := lo) (fun y hy => h y (by simp [Op.operands, hy])), Option.map_congr (x := hi) (fun y hy => h y (by simp [Op.operands, hy])), Option.map_congr (x := mx) (fun y hy => h y (by simp [Op.operands, hy]))]
  | call c =>
    simp only [apure]
    split
    · rename_i b hc
      rw [map_congr' (ev := ev) (ev' := ev') (l := c.args.toList) (fun x hx => h x (by simp [Op.operands, Call.operands, hc]; simpa using hx))]
    · rfl
  | _ => simp_all [apure, Op.operands]

theorem acallee_same {σ σ' : Heap} {c : Call} {p : POp} (ho : p.op = .call c) {E E' : Env} (h : SameOn (plooks p) E E') : acallee E σ c = acallee E' σ' c := by
  unfold acallee
  split
  · rename_i f hc
    rw [lk_plooks h (x := f) (by simp [ho, Op.operands, Call.operands, hc]), List.map_congr_left (fun x hx => by rw [lk_plooks h (x := x) (by simp [ho, Op.operands, Call.operands, hc]; right; simpa using hx)])]
  · rfl

theorem mapP_same {ev ev' : Operand → AV} : ∀ {l : List (Nat × Operand)}, (∀ p ∈ l, ev p.2 = ev' p.2) → mapP ev l = mapP ev' l
  | [], _ => rfl
  | p :: l, h => by simp only [mapP, h p List.mem_cons_self, mapP_same fun q hq => h q (List.mem_cons_of_mem _ hq)]

theorem Step.env {P : Program} {N n0 : Nat} {d : DOp} {E E' : Env} {σ : Heap} {x : EV} {f : FP} (h : SameOn (plooks d.p) E E') (H : Step P N n0 d E σ x f) : Step P N n0 d E' σ x f := by
  have hl : ∀ y ∈ d.p.op.operands.toList, lk E y = lk E' y := fun y hy => lk_plooks h hy
  have hg' := gcond_same h
  cases H with
  | pure hg ha hs hd =>
    have h1 : contentOf E d.p.op = contentOf E' d.p.op := by
      unfold contentOf
      split
      · rename_i t x ho; rw [hl x (by simp [ho, Op.operands])]
      · rename_i t t' x ho; rw [hl x (by simp [ho, Op.operands])]
      · rename_i c ho; exact touch_same fun x hx => hl x (by rw [ho]; simp only [Op.operands, Call.operands, Array.toList_append]; exact List.mem_append_right _ hx)
      · rfl
    rw [touch_same hl, h1]
    exact .pure (hg' ▸ hg) (by rw [← apure_same (ev := fun x => (lk E x).a) (ev' := fun x => (lk E' x).a) fun x hx => by simp only [hl x hx]]; exact ha) (by rw [← opsC_same hl]; exact hs) hd
  | @pick G gc t c x y r hg ho hc hr hs hd =>
    have e1 := hl c (by simp [ho, Op.operands])
    have e2 := hl x (by simp [ho, Op.operands])
    have e3 := hl y (by simp [ho, Op.operands])
    exact .pick (hg' ▸ hg) ho (by rw [← e1]; exact hc) (by rw [← e2, ← e3]; exact hr) (by rw [← e2, ← e3]; exact hs) hd
  | call hg ho hc hs hd => exact .call (hg' ▸ hg) ho ((acallee_same ho h).symm.trans hc) (by rw [← opsC_same hl]; exact hs) hd
  | alloc hg ho ht hk hh hd => exact .alloc hg ho ht hk hh hd
  | @store t ti p x i g k off e es s r hg ho ht hp hi hkl hsz hput hs hd =>
    have e1 := hl p (by simp [ho, Op.operands])
    have e2 := hl x (by simp [ho, Op.operands])
    exact .store hg ho ht (by rw [← e1]; exact hp) hi hkl (by rw [← e2]; exact hsz) (by rw [← e2]; exact hput) (by rw [← opsC_same hl]; exact hs) hd
  | @build G t parts r hg ho hb hs hd =>
    have e1 := mapP_same (ev := fun x => (lk E x).a) (ev' := fun x => (lk E' x).a) (l := parts.toList) fun p hp => congrArg EV.a (hl p.2 (by rw [ho]; simp only [Op.operands]; simp; exact ⟨p.1, by simpa using hp⟩))
    exact .build (hg' ▸ hg) ho (by rw [← e1]; exact hb) (by rw [← opsC_same hl]; exact hs) hd
  | @buildSlice t e len k parts ti te es hg ho ht hk hte hlen hb hs hr hh hd =>
    have e1 := mapP_same (ev := fun x => (lk E x).a) (ev' := fun x => (lk E' x).a) (l := parts.toList) fun p hp => congrArg EV.a (hl p.2 (by rw [ho]; simp only [Op.operands]; simp; exact ⟨p.1, by simpa using hp⟩))
    exact .buildSlice hg ho ht hk hte hlen (by rw [← e1]; exact hb) (by rw [← opsC_same hl]; exact hs) hr hh hd
  | @box t x n k hg ho hn hs hr hh hd =>
    have e1 := hl x (by simp [ho, Op.operands])
    rw [e1]
    exact .box hg ho (by rw [← e1]; exact hn) (by rw [← opsC_same hl]; exact hs) hr hh hd
  | @appOs t t' e ti ti' te x y i g n es news s hg ho ht hk ht' hk' hte hx hi hsrc hs hd =>
    have e1 := hl x (by simp [ho, Op.operands, Call.operands])
    have e2 := hl y (by simp [ho, Op.operands, Call.operands])
    rw [e2]
    exact .appOs hg ho ht hk ht' hk' hte (by rw [← e1]; exact hx) hi (by rw [← e2]; exact hsrc) (by rw [← opsC_same hl]; exact hs) hd
  | @appNil t t' e ti ti' te x y k news s hg ho ht hk ht' hk' hte hx hsrc hs hr hh hd =>
    have e1 := hl x (by simp [ho, Op.operands, Call.operands])
    have e2 := hl y (by simp [ho, Op.operands, Call.operands])
    rw [e2]
    exact .appNil hg ho ht hk ht' hk' hte (by rw [← e1]; exact hx) (by rw [← e2]; exact hsrc) (by rw [← opsC_same hl]; exact hs) hr hh hd

end Go.Ab
