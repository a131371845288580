/-
  The walk, computed: an operation (vop), a region (vops), code (vcode). What is left open stands there as it is: a loop, a call, an operation with no rule.
-/
import Derived.Test.YtdlekkhjkcbbnaaGreatDoorAbJc
set_option linter.unusedVariables false
set_option linter.unusedSimpArgs false
set_option linter.unusedSectionVars false
namespace Go.Ab
open Go
variable [GlobFacts]

def vstore (P : Program) (N : Nat) (o : POp) (E : Env) (σ : Heap) (K : Env → Heap → Prop) (t : TypeId) (p x : Operand) : Prop :=
  match tinf P t with
  | some ti => match (lk E p).a with
    | .ptr i g k off => match σ[i]? with
      | some (.row g' e es) =>
        if g = g' then
        if asz (lk E x).a = some ti.size then
        match aput e (es[k]?.getD .any) off (lk E x).a with
        | some (s, r) => k < es.length ∧ (opsC E o.op.operands.toList ∧ s) ∧ K E (σ.set i (.row g e (es.set k r)))
        | none => AOp P N o E σ K
        else AOp P N o E σ K
        else AOp P N o E σ K
      | _ => AOp P N o E σ K
    | _ => AOp P N o E σ K
  | none => AOp P N o E σ K

def vapp (P : Program) (N : Nat) (o : POp) (E : Env) (σ : Heap) (K : Env → Heap → Prop) (x y : Operand) (t t' : TypeId) : Prop :=
  match tinf P t, tinf P t' with
  | some ti, some ti' => match ti.kind with
    | .sl e => match tinf P e with
      | some te => match ti'.kind with
        | .str | .sl _ => match (lk E x).a with
          | .v (.slice none 0 0) => match asrc σ te.size (lk E y).a with
            | some (s, news) => (opsC E o.op.operands.toList ∧ s ∧ news.length * te.bytes ≤ 140737488355328 ∧ news.length ≤ 4611686018427387904) ∧ putK N o.dst ⟨true, .os σ.length 0 0 news.length⟩ K E (σ ++ [.row 0 te.size news])
            | none => AOp P N o E σ K
          | .os i g k n => match σ[i]? with
            | some (.row g' e' es) => if k = 0 then if g = g' then if e' = te.size then match asrc σ te.size (lk E y).a with
              | some (s, news) => (opsC E o.op.operands.toList ∧ s ∧ n ≤ es.length ∧ (n + news.length) * te.bytes ≤ 140737488355328 ∧ n + news.length ≤ 4611686018427387904) ∧
                  putK N o.dst ⟨true, .os i (g + 1) 0 (n + news.length)⟩ K E (σ.set i (.row (g + 1) te.size (es.take n ++ news)))
              | none => AOp P N o E σ K
              else AOp P N o E σ K else AOp P N o E σ K else AOp P N o E σ K
            | _ => AOp P N o E σ K
          | _ => AOp P N o E σ K
        | _ => AOp P N o E σ K
      | none => AOp P N o E σ K
    | _ => AOp P N o E σ K
  | _, _ => AOp P N o E σ K

def veff2 (P : Program) (N : Nat) (o : POp) (E : Env) (σ : Heap) (K : Env → Heap → Prop) (G : Bool) : Prop :=
  match o.op with
  | .build t parts => match abuild P t (mapP (fun x => (lk E x).a) parts.toList) with
    | some r => (G = true → opsC E o.op.operands.toList) ∧ putK N o.dst ⟨G, r⟩ K E σ
    | none => AOp P N o E σ K
  | .buildSlice t len parts => match o.g, tinf P t with
    | none, some ti => match ti.kind with
      | .sl e => match tinf P e with
        | some te => match fillE te.size (List.replicate len te.zero) (mapP (fun x => (lk E x).a) parts.toList) with
          | some es => (len * te.size ≤ 16777216) ∧ opsC E o.op.operands.toList ∧ putK N o.dst ⟨true, .os σ.length 0 0 len⟩ K E (σ ++ [.row 0 te.size es])
          | none => AOp P N o E σ K
        | none => AOp P N o E σ K
      | _ => AOp P N o E σ K
    | _, _ => AOp P N o E σ K
  | .makeSlice t x y => match o.g, tinf P t with
    | none, some ti => match ti.kind with
      | .sl e => match tinf P e, (lk E x).a, (lk E y).a with
        | some te, .v (.int _ l), .v (.int _ c) => (0 ≤ l ∧ l ≤ c ∧ c < 4611686018427387904 ∧ te.bytes * c ≤ 140737488355328 ∧ 0 < te.size) ∧ opsC E o.op.operands.toList ∧
            putK N o.dst ⟨true, .os σ.length 0 0 l.toNat⟩ K E (σ ++ [.row 0 te.size (List.replicate l.toNat te.zero)])
        | _, _, _ => AOp P N o E σ K
      | _ => AOp P N o E σ K
    | _, _ => AOp P N o E σ K
  | _ => AOp P N o E σ K

def vcall (P : Program) (N : Nat) (o : POp) (E : Env) (σ : Heap) (K : Env → Heap → Prop) (c : Call) : Prop :=
  match c with
  | { callee := .builtin .append, args := args, argTypes := ts } => match args.toList, ts.toList with
    | [x, y], [t, t'] => match o.g with
      | none => vapp P N o E σ K x y t t'
      | some _ => AOp P N o E σ K
    | _, _ => AOp P N o E σ K
  | _ => AOp P N o E σ K

/-- a call -/
def callN (P : Program) (N : Nat) (o : POp) (f : FuncId) (args : List AV) (E : Env) (σ : Heap) (K : Env → Heap → Prop) : Prop := ACalls P f args σ (fun r σ' => putK N o.dst ⟨true, r⟩ K E σ')

/-- a call under a guard: of a function that leaves the heap as it was; or the guard is known to be open -/
def callG (P : Program) (N : Nat) (o : POp) (f : FuncId) (args : List AV) (G : Bool) (E : Env) (σ : Heap) (K : Env → Heap → Prop) : Prop := (∃ r, (G = true → ACalls P f args σ (fun r' σ' => r' = r ∧ σ' = σ)) ∧ putK N o.dst ⟨G, r⟩ K E σ) ∨ (G = true ∧ callN P N o f args E σ K)

theorem callN_of {P : Program} {N : Nat} {o : POp} {f : FuncId} {args : List AV} {E : Env} {σ : Heap} {K : Env → Heap → Prop} {R : AV → Heap → Prop} (h : ACalls P f args σ R) (k : ∀ r σ', R r σ' → putK N o.dst ⟨true, r⟩ K E σ') : callN P N o f args E σ K := h.mono k

theorem callG_of {P : Program} {N : Nat} {o : POp} {f : FuncId} {args : List AV} {G : Bool} {E : Env} {σ : Heap} {K : Env → Heap → Prop} (r : AV) (h : G = true → ACalls P f args σ (fun r' σ' => r' = r ∧ σ' = σ)) (k : putK N o.dst ⟨G, r⟩ K E σ) : callG P N o f args G E σ K := .inl ⟨r, h, k⟩

theorem callT_of {P : Program} {N : Nat} {o : POp} {f : FuncId} {args : List AV} {E : Env} {σ : Heap} {K : Env → Heap → Prop} {R : AV → Heap → Prop} (h : ACalls P f args σ R) (k : ∀ r σ', R r σ' → putK N o.dst ⟨true, r⟩ K E σ') : callG P N o f args true E σ K := .inr ⟨rfl, h.mono k⟩

def veff (P : Program) (N : Nat) (o : POp) (E : Env) (σ : Heap) (K : Env → Heap → Prop) (G : Bool) : Prop :=
  match o.op with
  | .pick c x y => match lk E c with
    | ⟨gc, .v (.bool t)⟩ => match apick t (lk E x).a (lk E y).a with
      | some r => (G = true → gc = true ∧ (t = true → (lk E x).c = true) ∧ (t = false → (lk E y).c = true)) ∧ putK N o.dst ⟨G, r⟩ K E σ
      | none => AOp P N o E σ K
    | _ => AOp P N o E σ K
  | .call c => match acallee E σ c with
    | some (f, args) => match o.g with
      | none => opsC E o.op.operands.toList ∧ callN P N o f args E σ K
      | some _ => (G = true → opsC E o.op.operands.toList) ∧ callG P N o f args G E σ K
    | none => vcall P N o E σ K c
  | .alloc t => match o.g, tinf P t with
    | none, some ti => putK N o.dst ⟨true, .ptr σ.length 0 0 0⟩ K E (σ ++ [.row 0 ti.size [ti.zero]])
    | _, _ => AOp P N o E σ K
  | .box t x => match o.g, asz (lk E x).a with
    | none, some n => opsC E o.op.operands.toList ∧ putK N o.dst ⟨true, .ptr σ.length 0 0 0⟩ K E (σ ++ [.row 0 n [(lk E x).a]])
    | _, _ => AOp P N o E σ K
  | .store t p x => match o.g, o.dst with
    | none, none => vstore P N o E σ K t p x
    | _, _ => AOp P N o E σ K
  | _ => veff2 P N o E σ K G

def vop (P : Program) (N : Nat) (o : POp) (E : Env) (σ : Heap) (K : Env → Heap → Prop) : Prop :=
  match gcond E o with
  | none => AOp P N o E σ K
  | some G => match apure P σ o.op (fun x => (lk E x).a) with
    | some (s, r) => (G = true → opsC E o.op.operands.toList ∧ s) ∧ putK N o.dst ⟨G, r⟩ K E σ
    | none => veff P N o E σ K G

section
variable {P : Program} {N : Nat} {o : POp} {E : Env} {σ : Heap} {K : Env → Heap → Prop}

theorem gcond_none (h : o.g = none) : gcond E o = some true := by simp [gcond, h]

theorem vstore_sound {t : TypeId} {p x : Operand} (hg : o.g = none) (ho : o.op = .store t p x) (hd : o.dst = none) (h : vstore P N o E σ K t p x) : AOp P N o E σ K := by
  unfold vstore at h
  split at h
  · rename_i ti ht
    split at h
    · rename_i i g k off hp
      split at h
      · rename_i g' e es hi
        split at h
        · rename_i hgg
          subst hgg
          split at h
          · rename_i hsz
            split at h
            · rename_i s r hput
              exact aop_store (gcond_none hg) ho ht hp hi h.1 hsz hput h.2.1 h.2.2 hd
            · exact h
          · exact h
        · exact h
      · exact h
    · exact h
  · exact h

theorem vapp_sound {x y : Operand} {t t' : TypeId} (hg : o.g = none) (ho : o.op = .call { callee := .builtin .append, args := #[x, y], argTypes := #[t, t'] }) (h : vapp P N o E σ K x y t t') : AOp P N o E σ K := by
  unfold vapp at h
  split at h
  · rename_i ti ti' ht ht'
    split at h
    · rename_i e hk
      split at h
      · rename_i te hte
        have key : (ti'.kind = .str ∨ ∃ e2, ti'.kind = .sl e2) → (match (lk E x).a with
          | .v (.slice none 0 0) => match asrc σ te.size (lk E y).a with
            | some (s, news) => (opsC E o.op.operands.toList ∧ s ∧ news.length * te.bytes ≤ 140737488355328 ∧ news.length ≤ 4611686018427387904) ∧ putK N o.dst ⟨true, .os σ.length 0 0 news.length⟩ K E (σ ++ [.row 0 te.size news])
            | none => AOp P N o E σ K
          | .os i g k n => match σ[i]? with
            | some (.row g' e' es) => if k = 0 then if g = g' then if e' = te.size then match asrc σ te.size (lk E y).a with
              | some (s, news) => (opsC E o.op.operands.toList ∧ s ∧ n ≤ es.length ∧ (n + news.length) * te.bytes ≤ 140737488355328 ∧ n + news.length ≤ 4611686018427387904) ∧
                  putK N o.dst ⟨true, .os i (g + 1) 0 (n + news.length)⟩ K E (σ.set i (.row (g + 1) te.size (es.take n ++ news)))
              | none => AOp P N o E σ K
              else AOp P N o E σ K else AOp P N o E σ K else AOp P N o E σ K
            | _ => AOp P N o E σ K
          | _ => AOp P N o E σ K) → AOp P N o E σ K := by
          intro hk' h
          split at h
          · rename_i hx
            split at h
            · rename_i s news hsrc
              exact aop_append_nil (gcond_none hg) ho ht hk ht' hk' hte hx hsrc h.1 h.2
            · exact h
          · rename_i i g k n hx
            split at h
            · rename_i g' e' es hi
              split at h
              · rename_i hk0
                split at h
                · rename_i hgg
                  split at h
                  · rename_i hee
                    subst hk0; subst hgg; subst hee
                    split at h
                    · rename_i s news hsrc
                      exact aop_append_os (gcond_none hg) ho ht hk ht' hk' hte hx hi hsrc h.1 h.2
                    · exact h
                  · exact h
                · exact h
              · exact h
            · exact h
          · exact h
        split at h
        · rename_i hk'
          exact key (.inl hk') h
        · rename_i e2 hk'
          exact key (.inr ⟨e2, hk'⟩) h
        · exact h
      · exact h
    · exact h
  · exact h

theorem vcall_sound {c : Call} (ho : o.op = .call c) (h : vcall P N o E σ K c) : AOp P N o E σ K := by
  unfold vcall at h
  split at h
  · rename_i args ts
    split at h
    · rename_i x y t t' ha htt
      have e1 : args = #[x, y] := Array.ext' ha
      have e2 : ts = #[t, t'] := Array.ext' htt
      subst e1; subst e2
      split at h
      · rename_i hn
        exact vapp_sound hn ho h
      · exact h
    · exact h
  · exact h

theorem veff2_sound {G : Bool} (hg : gcond E o = some G) (h : veff2 P N o E σ K G) : AOp P N o E σ K := by
  unfold veff2 at h
  split at h
  · rename_i t parts ho
    split at h
    · rename_i r hr
      exact aop_build hg ho hr h.1 h.2
    · exact h
  · rename_i t len parts ho
    split at h
    · rename_i ti hn ht
      split at h
      · rename_i e hk
        split at h
        · rename_i te hte
          split at h
          · rename_i es hes
            exact aop_buildSlice hn ho ht hk hte h.1 hes h.2.1 h.2.2
          · exact h
        · exact h
      · exact h
    · exact h
  · rename_i t x y ho
    split at h
    · rename_i ti hn ht
      split at h
      · rename_i e hk
        split at h
        · rename_i te k l k' c hte hx hy
          exact aop_makeSlice (gcond_none hn) ho ht hk hte hx hy h.1 h.2.1 h.2.2
        · exact h
      · exact h
    · exact h
  · exact h

theorem veff_sound {G : Bool} (hg : gcond E o = some G) (h : veff P N o E σ K G) : AOp P N o E σ K := by
  unfold veff at h
  split at h
  · rename_i c x y ho
    split at h
    · rename_i gc t hc
      split at h
      · rename_i r hr
        exact aop_pick hg ho hc hr h.1 h.2
      · exact h
    · exact h
  · rename_i c ho
    split at h
    · rename_i f args hc
      split at h
      · rename_i hn
        rw [gcond_none hn] at hg
        cases hg
        exact aop_call (gcond_none hn) ho hc h.1 h.2
      · obtain ⟨h0, ⟨r, h1, h2⟩ | ⟨hG, h1⟩⟩ := h
        · exact aop_call_guarded hg ho hc r (fun hG => ⟨h0 hG, h1 hG⟩) h2
        · subst hG
          exact aop_call hg ho hc (h0 rfl) h1
    · exact vcall_sound ho h
  · rename_i t ho
    split at h
    · rename_i hn ht
      exact aop_alloc (gcond_none hn) ho ht h
    · exact h
  · rename_i t x ho
    split at h
    · rename_i hn hz
      exact aop_box (gcond_none hn) ho hz h.1 h.2
    · exact h
  · rename_i t p x ho
    split at h
    · rename_i hn hd
      exact vstore_sound hn ho hd h
    · exact h
  · exact veff2_sound hg h

theorem vop_sound (h : vop P N o E σ K) : AOp P N o E σ K := by
  unfold vop at h
  split at h
  · exact h
  · rename_i G hg
    split at h
    · rename_i s r ha
      exact aop_pure hg ha h.1 h.2
    · exact veff_sound hg h

theorem AOp.mono {K' : Env → Heap → Prop} (h : AOp P N o E σ K) (hk : ∀ E σ, K E σ → K' E σ) : AOp P N o E σ K' := by
  intro a w ρ hs
  have := h a w ρ hs
  split
  · rename_i hw; rw [if_pos hw] at this; exact Oper.wp_mono (fun a w ⟨E, σ, ρ, h1, h2, h3⟩ => ⟨E, σ, ρ, h1, h2, hk _ _ h3⟩) this
  · rename_i hw; rw [if_neg hw] at this; obtain ⟨E, σ, ρ, h1, h2, h3⟩ := this; exact ⟨E, σ, ρ, h1, h2, hk _ _ h3⟩

def vops (P : Program) (N : Nat) (K : Env → Heap → Prop) : List POp → Env → Heap → Prop
  | [], E, σ => K E σ
  | o :: os, E, σ => vop P N o E σ (vops P N K os)

theorem vops_sound : ∀ {l : List POp} {E : Env} {σ : Heap}, vops P N K l E σ → AOps P N K l E σ
  | [], _, _, h => h
  | _ :: _, _, _, h => (vop_sound h).mono fun _ _ => vops_sound

def vcode (P : Program) (N : Nat) : Code → Post → Env → Heap → Prop
  | .skip, Q, E, σ => Q .normal E σ
  | .region id ops draw, Q, E, σ => match draw with
    | false => vops P N (Q .normal) (prep ops) E σ
    | true => AWP P N (.region id ops true) Q E σ
  | .seq x y, Q, E, σ => vcode P N x (thenQ (vcode P N y Q) Q) E σ
  | .cond c x y, Q, E, σ => match lk E c with
    | ⟨true, .v (.bool t)⟩ => if t = true then vcode P N x Q E σ else vcode P N y Q E σ
    | _ => AWP P N (.cond c x y) Q E σ
  | .block i c, Q, E, σ => vcode P N c (blockQ i Q) E σ
  | .loop c, Q, E, σ => AWP P N (.loop c) Q E σ
  | .exit i, Q, E, σ => Q (.exit i) E σ
  | .label _, Q, E, σ => Q .normal E σ
  | .ret, Q, E, σ => Q .ret E σ
  | c, Q, E, σ => AWP P N c Q E σ

theorem vcode_sound : ∀ (c : Code) {Q : Post} {E : Env} {σ : Heap}, vcode P N c Q E σ → AWP P N c Q E σ
  | .skip, Q, E, σ, h => awp_skip h
  | .region id ops draw, Q, E, σ, h => by
    cases draw with
    | false => exact awp_region (vops_sound h)
    | true => exact h
  | .seq x y, Q, E, σ, h => awp_seq ((vcode_sound x h).mono fun e E σ h => by cases e <;> first | exact vcode_sound y h | exact h)
  | .cond c x y, Q, E, σ, h => by
    simp only [vcode] at h
    split at h
    · rename_i t hc
      exact awp_cond hc (fun ht => vcode_sound x (by rwa [if_pos ht] at h)) (fun ht => vcode_sound y (by rwa [if_neg (by rw [ht]; exact Bool.noConfusion)] at h))
    · exact h
  | .block i c, Q, E, σ, h => awp_block (vcode_sound c h)
  | .loop c, Q, E, σ, h => h
  | .exit i, Q, E, σ, h => awp_exit h
  | .label _, Q, E, σ, h => awp_label h
  | .ret, Q, E, σ, h => awp_ret h
  | .scope _, Q, E, σ, h => h
  | .goto _, Q, E, σ, h => h
  | .rangeFunc _ _ _ _, Q, E, σ, h => h
  | .refuse _, Q, E, σ, h => h

end
end Go.Ab
