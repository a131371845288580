/-
  Values that are built: structs, arrays, slices; make; a new map.
-/
import Derived.Test.YtbinpbjeeiedhaaDoorAbJ
set_option linter.unusedVariables false
set_option linter.unusedSimpArgs false
set_option linter.unusedSectionVars false
namespace Go.Ab
open Go
variable [GlobFacts]

def acells : AV → List AV
  | .agg cs => cs
  | a => [a]

def fillA (place : Nat → Option (Nat × Nat)) (cells : List AV) : List (Nat × AV) → Option (List AV)
  | [] => some cells
  | (i, v) :: rest => match place i, asz v with
    | some (off, size), some n => if n = size ∧ off + n ≤ cells.length then fillA place (over cells off (acells v)) rest else none
    | _, _ => none

theorem zip_over (u : List Value) : ∀ (xs : Array Value) (off k : Nat), (u.zipIdx k).foldl (fun (cs : Array Value) (p : Value × Nat) => cs.setIfInBounds (off + p.2) p.1) xs = (over xs.toList (off + k) u).toArray := by
  induction u with
  | nil => intro xs off k; simp [over]
  | cons c u ih =>
    intro xs off k
    simp only [List.zipIdx_cons, List.foldl_cons]
    rw [ih]
    simp [over, Nat.add_assoc]

theorem asz_cells {w : World} {L : LM} {a : AV} {x : Value} {n : Nat} (h : asz a = some n) (hr : Rep w L a x) : RepL w L (acells a) x.cells.toList := by
  by_cases hc : acell a = true
  · rw [cellV_cells (acell_sound hc hr)]
    have : acells a = [a] := by cases a <;> first | rfl | cases hc
    rw [this]
    exact ⟨x, [], rfl, hr, rfl⟩
  · cases a with
    | agg cs =>
      simp only [Rep] at hr
      obtain ⟨xs, rfl, hl, hq⟩ := hr
      exact hl
    | v x => simp_all [asz, acell]
    | any => simp [asz] at h
    | tup _ => simp [asz] at h
    | _ => simp [acell] at hc

def RepP (w : World) (L : LM) : List (Nat × AV) → List (Nat × Value) → Prop
  | [], l => l = []
  | (i, a) :: r, l => ∃ x l', l = (i, x) :: l' ∧ Rep w L a x ∧ RepP w L r l'

theorem fillA_sound {w : World} {L : LM} {place : Nat → Option (Nat × Nat)} : ∀ {ps : List (Nat × AV)} {us : List (Nat × Value)} {cs cs' : List AV} {xs : List Value}, fillA place cs ps = some cs' → RepP w L ps us → RepL w L cs xs → (∀ c ∈ xs, cellV c = true) →
    ∃ xs', Instr.fill place xs.toArray us = some xs'.toArray ∧ RepL w L cs' xs' ∧ (∀ c ∈ xs', cellV c = true) ∧ xs'.length = xs.length
  | [], us, cs, cs', xs, h, hp, hr, hc => by
    simp only [RepP] at hp; subst hp
    simp only [fillA] at h; cases h
    exact ⟨xs, rfl, hr, hc, rfl⟩
  | (i, a) :: ps, us, cs, cs', xs, h, hp, hr, hc => by
    obtain ⟨x, us', rfl, hx, hp'⟩ := hp
    simp only [fillA] at h
    split at h
    · rename_i off size n hpl hn
      split at h
      · rename_i hcond
        obtain ⟨hsz, hcv⟩ := asz_sound hn hx
        have hl := (repL_get hr).1
        have h1 := fillA_sound h hp' (repL_over off (asz_cells hn hx) hr) (mem_over off hcv hc)
        obtain ⟨xs', h2, h3, h4, h5⟩ := h1
        refine ⟨xs', ?_, h3, h4, by rw [h5, over_length]⟩
        simp only [Instr.fill, hpl]
        have e1 : (x.cells.size ≠ size || decide (off + x.cells.size > xs.toArray.size)) = false := by
          simp [hsz, hcond.1]; have := hcond.2; rw [← hl] at this; omega
        simp only [ne_eq] at e1
        simp only [ne_eq, e1, Bool.false_eq_true, if_false]
        have e2 := zip_over x.cells.toList xs.toArray off 0
        simp only [Nat.add_zero] at e2
        rw [← h2, ← e2]
        congr 1
        rw [← Array.foldl_toList]
        simp
      · cases h
    · cases h

def placesA (P : Program) : List (Nat × TypeId) → Option (List (Nat × Nat))
  | [] => some []
  | (o, t) :: r => match tinf P t, placesA P r with
    | some ti, some l => some ((o, ti.size) :: l)
    | _, _ => none

theorem placesA_run {P : Program} {w : World} : ∀ {F : List Field} {l : List (Nat × Nat)}, placesA P (F.map fun f => (f.offset, f.type)) = some l → (F.mapM (fun f => do pure (f.offset, ← sizeOf f.type)) : Sem (List (Nat × Nat))).run P w = .ok l w
  | [], l, h => by simp [placesA] at h; subst h; simp
  | f :: F, l, h => by
    simp only [List.map_cons, placesA] at h
    split at h
    · rename_i ti l' ht hl
      cases h
      have ih := placesA_run (w := w) hl
      rw [List.mapM_cons]
      simp only [Sem.run_bind, tinf_size ht, Result.andThen_ok, Sem.run_pure, ih]
    · cases h

def mapP (ev : Operand → AV) : List (Nat × Operand) → List (Nat × AV)
  | [] => []
  | (i, x) :: r => (i, ev x) :: mapP ev r

/-- a struct, an array -/
def abuild (P : Program) (t : TypeId) (ps : List (Nat × AV)) : Option AV :=
  match tinf P t with
  | some ti => match ti.zero with
    | .agg zs => match ti.kind with
      | .st fs => match placesA P fs with
        | some l => match fillA (fun i => l[i]?) zs ps with
          | some cs => some (.agg cs)
          | none => none
        | none => none
      | .arr _ e => match tinf P e with
        | some te => match fillA (fun i => some (i * te.size, te.size)) zs ps with
          | some cs => some (.agg cs)
          | none => none
        | none => none
      | _ => none
    | _ => none
  | none => none

theorem repP_of {w : World} {L : LM} {ev : Operand → AV} {ec : Operand → Value} : ∀ {l : List (Nat × Operand)}, (∀ p ∈ l, Rep w L (ev p.2) (ec p.2)) → RepP w L (mapP ev l) (l.map fun p => (p.1, ec p.2))
  | [], _ => rfl
  | (i, x) :: l, h => ⟨_, _, rfl, h (i, x) List.mem_cons_self, repP_of fun p hp => h p (List.mem_cons_of_mem _ hp)⟩

theorem does_build {P : Program} {w : World} {L : LM} {t : TypeId} {ps : List (Nat × AV)} {us : Array (Nat × Value)} {r : AV} (h : abuild P t ps = some r) (hp : RepP w L ps us.toList) : Does P w L (Instr.build t us) r := by
  unfold abuild at h
  split at h
  · rename_i ti ht
    obtain ⟨d, hd, hu⟩ := run_tinf ht w
    obtain ⟨z, hz, hzero, hfit⟩ := tinf_zero ht w
    split at h
    · rename_i zs hzs
      have hrz : Rep w L (.agg zs) z := by rw [← hzs, hzero]; exact rep_cav _ _ z
      simp only [Rep] at hrz
      obtain ⟨xs, rfl, hxs, hxc⟩ := hrz
      split at h
      · rename_i fs hk
        obtain ⟨F, rfl, rfl⟩ := tk_st (hd.symm.trans hk)
        split at h
        · rename_i l hl
          split at h
          · rename_i cs hcs
            cases h
            obtain ⟨xs', h1, h2, h3, _⟩ := fillA_sound hcs hp hxs hxc
            refine ⟨.agg xs'.toArray, ?_, xs', rfl, h2, h3⟩
            have hpl := placesA_run (w := w) hl
            simp only [Instr.build, Sem.run_bind, hz, hu, Result.andThen_ok, Array.mapM_eq_mapM_toList, Sem.run_map, hpl, cells_agg]
            have : (fun i : Nat => l.toArray[i]?) = fun i : Nat => l[i]? := by funext i; simp
            rw [this, h1]
            rfl
          · cases h
        · cases h
      · rename_i n e hk
        have hd' := tk_arr (hd.symm.trans hk); subst hd'
        split at h
        · rename_i te hte
          split at h
          · rename_i cs hcs
            cases h
            obtain ⟨xs', h1, h2, h3, _⟩ := fillA_sound hcs hp hxs hxc
            refine ⟨.agg xs'.toArray, ?_, xs', rfl, h2, h3⟩
            simp only [Instr.build, Sem.run_bind, hz, hu, Result.andThen_ok, tinf_size hte, cells_agg]
            rw [h1]
            rfl
          · cases h
        · cases h
      · cases h
    · cases h
  · cases h

theorem aop_build {P : Program} {N : Nat} {o : POp} {E : Env} {σ : Heap} {K : Env → Heap → Prop} {G : Bool} {t : TypeId} {parts : Array (Nat × Operand)} {r : AV} (hg : gcond E o = some G) (ho : o.op = .build t parts) (hb : abuild P t (mapP (fun x => (lk E x).a) parts.toList) = some r)
    (hs : G = true → opsC E o.op.operands.toList) (hk : putK N o.dst ⟨G, r⟩ K E σ) : AOp P N o E σ K := by
  refine aop_value hg (fun hG a w ρ hst => ?_) hk
  have hc := opsC_iff.1 (hs hG)
  have hp : RepP w (lm σ ρ) (mapP (fun x => (lk E x).a) parts.toList) (parts.map fun (i, x) => (i, a.eval x)).toList := by
    rw [Array.toList_map]
    exact repP_of fun p hp => hst.val p.2 (hc p.2 (by simp only [ho, Op.operands]; simp; exact ⟨p.1, by simpa using hp⟩))
  obtain ⟨z, hz, hr⟩ := does_build hb hp
  exact ⟨z, by simp [execOp, POp.oper, ho, hz], hr⟩

/-! ### rows of zeros -/

theorem range_mod (z : Array Value) : ∀ n : Nat, (List.range (n * z.size)).map (fun i => z[i % z.size]!) = (List.replicate n z.toList).flatten
  | 0 => by simp
  | n + 1 => by
    rw [Nat.succ_mul, List.range_add, List.map_append, range_mod z n, List.replicate_succ', List.flatten_append]
    congr 1
    simp only [List.map_map, List.flatten_singleton]
    apply List.ext_getElem
    · simp
    · intro i h1 h2
      simp at h1
      simp [Nat.mul_add_mod_self_right, Nat.mod_eq_of_lt h1, h1, Nat.add_comm (n * z.size)]

theorem repE_replicate {w : World} {L : LM} {a : AV} {z : Value} {e : Nat} (hr : Rep w L a z) (hz : z.cells.size = e ∧ ∀ c ∈ z.cells.toList, cellV c = true) : ∀ n, RepE w L e (List.replicate n a) (List.replicate n z.cells.toList).flatten
  | 0 => rfl
  | n + 1 => by
    simp only [List.replicate_succ, List.flatten_cons]
    exact ⟨z, _, rfl, hz, hr, repE_replicate hr hz n⟩

def fillE (size : Nat) (es : List AV) : List (Nat × AV) → Option (List AV)
  | [] => some es
  | (i, v) :: r => if asz v = some size then if i < es.length then fillE size (es.set i v) r else none else none

theorem fillE_sound {w : World} {L : LM} {size : Nat} : ∀ {ps : List (Nat × AV)} {us : List (Nat × Value)} {es es' : List AV} {xs : List Value}, fillE size es ps = some es' → RepP w L ps us → RepE w L size es xs →
    ∃ xs', Instr.fill (fun i => some (i * size, size)) xs.toArray us = some xs'.toArray ∧ RepE w L size es' xs' ∧ es'.length = es.length
  | [], us, es, es', xs, h, hp, hr => by
    simp only [RepP] at hp; subst hp
    simp only [fillE] at h; cases h
    exact ⟨xs, rfl, hr, rfl⟩
  | (i, a) :: ps, us, es, es', xs, h, hp, hr => by
    obtain ⟨x, us', rfl, hx, hp'⟩ := hp
    simp only [fillE] at h
    split at h
    · rename_i hn
      split at h
      · rename_i hi
        obtain ⟨hsz, hcv⟩ := asz_sound hn hx
        obtain ⟨hl, hget⟩ := repE_get hr
        obtain ⟨y, hy, hye, pre, post, hxs, hpre, hset⟩ := hget i _ (List.getElem?_eq_getElem hi)
        have hov : over xs (i * size) x.cells.toList = pre ++ x.cells.toList ++ post := by
          rw [hxs, ← hpre]
          exact over_eq x.cells.toList pre y.cells.toList post (by simp [hye.1, hsz])
        have hr' := hset a x hx ⟨hsz, hcv⟩
        obtain ⟨xs', h2, h3, h4⟩ := fillE_sound h hp' hr'
        refine ⟨xs', ?_, h3, by simpa using h4⟩
        simp only [Instr.fill]
        have e1 : (x.cells.size ≠ size || decide (i * size + x.cells.size > xs.toArray.size)) = false := by
          simp [hsz, hxs, hpre, hye.1]
        simp only [ne_eq] at e1
        simp only [ne_eq, e1, Bool.false_eq_true, if_false]
        have e2 := zip_over x.cells.toList xs.toArray (i * size) 0
        simp only [Nat.add_zero, List.toList_toArray] at e2
        rw [← h2, ← hov, ← e2]
        congr 1
        rw [← Array.foldl_toList]
        simp
      · cases h
    · cases h

theorem aop_buildSlice {P : Program} {N : Nat} {o : POp} {E : Env} {σ : Heap} {K : Env → Heap → Prop} {t e : TypeId} {len : Nat} {parts : Array (Nat × Operand)} {ti te : TI} {es : List AV} (hg : o.g = none) (ho : o.op = .buildSlice t len parts) (ht : tinf P t = some ti) (hk : ti.kind = .sl e) (hte : tinf P e = some te)
    (hlen : len * te.size ≤ 16777216) (hb : fillE te.size (List.replicate len te.zero) (mapP (fun x => (lk E x).a) parts.toList) = some es) (hs : opsC E o.op.operands.toList)
    (hK : putK N o.dst ⟨true, .os σ.length 0 0 len⟩ K E (σ ++ [.row 0 te.size es])) : AOp P N o E σ K := by
  intro a w ρ hst
  rw [gcond_sound hst (gcond_none' hg)]
  have hc := opsC_iff.1 hs
  obtain ⟨d, hd, hu⟩ := run_tinf ht w
  have hd' := tk_sl (hd.symm.trans hk); subst hd'
  obtain ⟨z, hz, hzero, hfit⟩ := tinf_zero hte w
  have hp : RepP w (lm σ ρ) (mapP (fun x => (lk E x).a) parts.toList) (parts.map fun (i, x) => (i, a.eval x)).toList := by
    rw [Array.toList_map]
    exact repP_of fun p hp => hst.val p.2 (hc p.2 (by simp only [ho, Op.operands]; simp; exact ⟨p.1, by simpa using hp⟩))
  have hrz : Rep w (lm σ ρ) te.zero z := by rw [hzero]; exact rep_cav _ _ z
  have hr0 := repE_replicate hrz hfit.2 len
  obtain ⟨xs, h1, h2, h3⟩ := fillE_sound hb hp hr0
  obtain ⟨h4, h5, h6⟩ := hst.heap.newRow te.size es xs [] e (0, 0) (fun off _ => by simp) h2
  have hsz : z.cells.size = te.size := hfit.2.1
  have hrun : (execOp a.eval o.oper).run P w = .ok (.value (.slice (some ⟨w.heap.size, 0, none⟩) len len)) (w.alloc (.cells (xs ++ []).toArray e (0, 0))) := by
    have e0 : ¬ (len * te.size > 2 ^ 24) := by omega
    have e2 : ((Array.range (len * te.size)).map (z.cells[· % z.cells.size]!)) = (List.replicate len z.cells.toList).flatten.toArray := by
      rw [← range_mod, hsz]
      apply Array.ext'
      simp
    by_cases e1 : len * te.size = 0
    · have e3 : (List.replicate len z.cells.toList).flatten.toArray = ((Array.range (len * te.size)).map ((#[] : Array Value)[· % (#[] : Array Value).size]!)) := by
        rw [← e2, e1]; simp
      simp only [execOp, POp.oper, ho, Instr.buildSlice, Sem.run_bind, hu, Result.andThen_ok, tinf_size hte, if_neg e0, if_pos e1, Sem.run_pure]
      rw [← e3, h1]
      simp [newRow]
    · simp only [execOp, POp.oper, ho, Instr.buildSlice, Sem.run_bind, hu, Result.andThen_ok, tinf_size hte, if_neg e0, if_neg e1, hz, Sem.run_pure]
      rw [e2, h1]
      simp [newRow]
  simp only [if_true, Oper.wp, hrun, Oper.upon]
  refine OpQ.of hst (Tr.refl _ _) h5 h4 ?_ hK
  simp only [EV.ok, Rep, if_true]
  rw [h6]
  refine .inl ⟨len, by simp, Nat.le_refl _, ?_⟩
  have := (repE_get h2).1
  have hl : es.length = len := by simpa using h3
  simp [this, hl]
where
  gcond_none' {E : Env} {o : POp} (h : o.g = none) : gcond E o = some true := by simp [gcond, h]

theorem aop_makeSlice {P : Program} {N : Nat} {o : POp} {E : Env} {σ : Heap} {K : Env → Heap → Prop} {t e : TypeId} {x y : Operand} {ti te : TI} {l c : Int} {k k' : IntKind} (hg : gcond E o = some true) (ho : o.op = .makeSlice t x y) (ht : tinf P t = some ti) (hk : ti.kind = .sl e) (hte : tinf P e = some te)
    (hx : (lk E x).a = .v (.int k l)) (hy : (lk E y).a = .v (.int k' c)) (hlen : 0 ≤ l ∧ l ≤ c ∧ c < 4611686018427387904 ∧ te.bytes * c ≤ 140737488355328 ∧ 0 < te.size) (hs : opsC E o.op.operands.toList)
    (hK : putK N o.dst ⟨true, .os σ.length 0 0 l.toNat⟩ K E (σ ++ [.row 0 te.size (List.replicate l.toNat te.zero)])) : AOp P N o E σ K := by
  intro a w ρ hst
  rw [gcond_sound hst hg]
  have hc := opsC_iff.1 hs
  obtain ⟨d, hd, hu⟩ := run_tinf ht w
  have hd' := tk_sl (hd.symm.trans hk); subst hd'
  obtain ⟨z, hz, hzero, hfit⟩ := tinf_zero hte w
  obtain ⟨i, hi, hib, his⟩ := tinf_info hte w
  have hx' := hst.val x (hc x (by simp [ho, Op.operands]))
  have hy' := hst.val y (hc y (by simp [ho, Op.operands]))
  rw [hx] at hx'; rw [hy] at hy'
  simp only [Rep] at hx' hy'
  obtain ⟨h0, h1, h2, h3, h4⟩ := hlen
  have hrz : Rep w (lm σ ρ) te.zero z := by rw [hzero]; exact rep_cav _ _ z
  have hr0 := repE_replicate hrz hfit.2 l.toNat
  have hsz : z.cells.size = te.size := hfit.2.1
  have hsplit : (List.replicate c.toNat z.cells.toList).flatten = (List.replicate l.toNat z.cells.toList).flatten ++ (List.replicate (c.toNat - l.toNat) z.cells.toList).flatten := by
    rw [← List.flatten_append, List.replicate_append_replicate]; congr 2; omega
  obtain ⟨h5, h6, h7⟩ := hst.heap.newRow te.size _ _ (List.replicate (c.toNat - l.toNat) z.cells.toList).flatten e (0, 0) (fun off _ => by simp) hr0
  have hw1 : IntKind.i64.wrap l = l := wrapi l (by omega) (by omega)
  have hw2 : IntKind.i64.wrap c = c := wrapi c (by omega) (by omega)
  have hroom : (askRoom (c.toNat * te.bytes)).run P w = .ok () w := by
    unfold askRoom
    split <;> simp [mark, Sem.run]
  have hrun : (execOp a.eval o.oper).run P w = .ok (.value (.slice (some ⟨w.heap.size, 0, none⟩) l.toNat c.toNat)) (w.alloc (.cells ((List.replicate l.toNat z.cells.toList).flatten ++ (List.replicate (c.toNat - l.toNat) z.cells.toList).flatten).toArray e (0, 0))) := by
    have e3 : ¬ (((c < 0 ∨ 281474976710656 < (te.bytes : Int) * c) ∨ l < 0) ∨ c < l) := by omega
    rw [← hsplit]
    by_cases hn : c.toNat * te.size = 0
    · have hc0 : c.toNat = 0 := by
        rcases Nat.mul_eq_zero.1 hn with h | h
        · exact h
        · omega
      rw [hc0] at hroom
      simp only [Nat.zero_mul] at hroom
      simp [execOp, POp.oper, ho, Instr.makeSlice, hu, hx', hy', asInt, asIntOf, hi, hw1, hw2, hib, newRow, hc0, e3, tinf_size hte, hroom]
      have er : Array.range 0 = #[] := Array.ext' (by simp)
      rw [er, Array.map_empty]
    · have e2 : ((Array.range (c.toNat * te.size)).map (fun x => z.cells[x % z.cells.size]!)) = (List.replicate c.toNat z.cells.toList).flatten.toArray := by
        rw [← range_mod, hsz]
        apply Array.ext'
        simp
      have hn' : ¬ (c.toNat = 0 ∨ te.size = 0) := by simpa [Nat.mul_eq_zero] using hn
      rw [← e2]
      simp [execOp, POp.oper, ho, Instr.makeSlice, hu, hx', hy', asInt, asIntOf, hi, hw1, hw2, hib, newRow, hn, hn', e3, tinf_size hte, hroom, hz]
  simp only [if_true, Oper.wp, hrun, Oper.upon]
  refine OpQ.of hst (Tr.refl _ _) h6 h5 ?_ hK
  simp only [EV.ok, Rep, if_true]
  rw [h7]
  refine .inl ⟨c.toNat, by simp, by omega, ?_⟩
  rw [← hsplit]
  have := (repE_get (repE_replicate hrz hfit.2 c.toNat)).1
  simp at this
  simp [this]
where
  wrapi (n : Int) (h1 : -9223372036854775808 ≤ n) (h2 : n ≤ 9223372036854775807) : IntKind.i64.wrap n = n := by
    simp [IntKind.wrap, IntKind.bits, IntKind.signed]
    split <;> omega

end Go.Ab
