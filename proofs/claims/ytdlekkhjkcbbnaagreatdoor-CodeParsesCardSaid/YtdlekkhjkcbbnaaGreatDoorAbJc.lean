/-
  Values that are built: structs, arrays, slices; make; a new map.
  append: to a nil slice, and to a row of one's own.
  append, as an operation of a walk.
-/
import Derived.Test.YtdlekkhjkcbbnaaGreatDoorAbJ
import Derived.Laws.Append
set_option linter.unusedVariables false
set_option linter.unusedSimpArgs false
set_option linter.unusedSectionVars false
namespace Go.Ab
open Go
variable [GlobFacts]

def acells : AV → List AV
  | .agg cs => cs
  | a => [a]

def fillA (place : Nat → Option (Nat × Nat)) (cells : List AV) : List (Nat × AV) → Option (List AV)
  | [] => some cells
  | (i, v) :: rest => match place i, asz v with
    | some (off, size), some n => if n = size ∧ off + n ≤ cells.length then fillA place (over cells off (acells v)) rest else none
    | _, _ => none

theorem zip_over (u : List Value) : ∀ (xs : Array Value) (off k : Nat), (u.zipIdx k).foldl (fun (cs : Array Value) (p : Value × Nat) => cs.setIfInBounds (off + p.2) p.1) xs = (over xs.toList (off + k) u).toArray := by
  induction u with
  | nil => intro xs off k; simp [over]
  | cons c u ih =>
    intro xs off k
    simp only [List.zipIdx_cons, List.foldl_cons]
    rw [ih]
    simp [over, Nat.add_assoc]

theorem asz_cells {w : World} {L : LM} {a : AV} {x : Value} {n : Nat} (h : asz a = some n) (hr : Rep w L a x) : RepL w L (acells a) x.cells.toList := by
  by_cases hc : acell a = true
  · rw [cellV_cells (acell_sound hc hr)]
    have : acells a = [a] := by cases a <;> first | rfl | cases hc
    rw [this]
    exact ⟨x, [], rfl, hr, rfl⟩
  · cases a with
    | agg cs =>
      simp only [Rep] at hr
      obtain ⟨xs, rfl, hl, hq⟩ := hr
      exact hl
    | v x => simp_all [asz, acell]
    | any => simp [asz] at h
    | tup _ => simp [asz] at h
    | _ => simp [acell] at hc

def RepP (w : World) (L : LM) : List (Nat × AV) → List (Nat × Value) → Prop
  | [], l => l = []
  | (i, a) :: r, l => ∃ x l', l = (i, x) :: l' ∧ Rep w L a x ∧ RepP w L r l'

theorem fillA_sound {w : World} {L : LM} {place : Nat → Option (Nat × Nat)} : ∀ {ps : List (Nat × AV)} {us : List (Nat × Value)} {cs cs' : List AV} {xs : List Value}, fillA place cs ps = some cs' → RepP w L ps us → RepL w L cs xs → (∀ c ∈ xs, cellV c = true) →
    ∃ xs', Instr.fill place xs.toArray us = some xs'.toArray ∧ RepL w L cs' xs' ∧ (∀ c ∈ xs', cellV c = true) ∧ xs'.length = xs.length
  | [], us, cs, cs', xs, h, hp, hr, hc => by
    simp only [RepP] at hp; subst hp
    simp only [fillA] at h; cases h
    exact ⟨xs, rfl, hr, hc, rfl⟩
  | (i, a) :: ps, us, cs, cs', xs, h, hp, hr, hc => by
    obtain ⟨x, us', rfl, hx, hp'⟩ := hp
    simp only [fillA] at h
    split at h
    · rename_i off size n hpl hn
      split at h
      · rename_i hcond
        obtain ⟨hsz, hcv⟩ := asz_sound hn hx
        have hl := (repL_get hr).1
        have h1 := fillA_sound h hp' (repL_over off (asz_cells hn hx) hr) (mem_over off hcv hc)
        obtain ⟨xs', h2, h3, h4, h5⟩ := h1
        refine ⟨xs', ?_, h3, h4, by rw [h5, over_length]⟩
        simp only [Instr.fill, hpl]
        have e1 : (x.cells.size ≠ size || decide (off + x.cells.size > xs.toArray.size)) = false := by
          simp [hsz, hcond.1]; have := hcond.2; rw [← hl] at this; omega
        simp only [ne_eq] at e1
        simp only [ne_eq, e1, Bool.false_eq_true, if_false]
        have e2 := zip_over x.cells.toList xs.toArray off 0
        simp only [Nat.add_zero] at e2
        rw [← h2, ← e2]
        congr 1
        rw [← Array.foldl_toList]
        simp
      · cases h
    · cases h

def placesA (P : Program) : List (Nat × TypeId) → Option (List (Nat × Nat))
  | [] => some []
  | (o, t) :: r => match tinf P t, placesA P r with
    | some ti, some l => some ((o, ti.size) :: l)
    | _, _ => none

theorem placesA_run {P : Program} {w : World} : ∀ {F : List Field} {l : List (Nat × Nat)}, placesA P (F.map fun f => (f.offset, f.type)) = some l → (F.mapM (fun f => do pure (f.offset, ← sizeOf f.type)) : Sem (List (Nat × Nat))).run P w = .ok l w
  | [], l, h => by simp [placesA] at h; subst h; simp
  | f :: F, l, h => by
    simp only [List.map_cons, placesA] at h
    split at h
    · rename_i ti l' ht hl
      cases h
      have ih := placesA_run (w := w) hl
      rw [List.mapM_cons]
      simp only [Sem.run_bind, tinf_size ht, Result.andThen_ok, Sem.run_pure, ih]
    · cases h

def mapP (ev : Operand → AV) : List (Nat × Operand) → List (Nat × AV)
  | [] => []
  | (i, x) :: r => (i, ev x) :: mapP ev r

/-- a struct, an array -/
def abuild (P : Program) (t : TypeId) (ps : List (Nat × AV)) : Option AV :=
  match tinf P t with
  | some ti => match ti.zero with
    | .agg zs => match ti.kind with
      | .st fs => match placesA P fs with
        | some l => match fillA (fun i => l[i]?) zs ps with
          | some cs => some (.agg cs)
          | none => none
        | none => none
      | .arr _ e => match tinf P e with
        | some te => match fillA (fun i => some (i * te.size, te.size)) zs ps with
          | some cs => some (.agg cs)
          | none => none
        | none => none
      | _ => none
    | _ => none
  | none => none

theorem repP_of {w : World} {L : LM} {ev : Operand → AV} {ec : Operand → Value} : ∀ {l : List (Nat × Operand)}, (∀ p ∈ l, Rep w L (ev p.2) (ec p.2)) → RepP w L (mapP ev l) (l.map fun p => (p.1, ec p.2))
  | [], _ => rfl
  | (i, x) :: l, h => ⟨_, _, rfl, h (i, x) List.mem_cons_self, repP_of fun p hp => h p (List.mem_cons_of_mem _ hp)⟩

theorem does_build {P : Program} {w : World} {L : LM} {t : TypeId} {ps : List (Nat × AV)} {us : Array (Nat × Value)} {r : AV} (h : abuild P t ps = some r) (hp : RepP w L ps us.toList) : Does P w L (Instr.build t us) r := by
  unfold abuild at h
  split at h
  · rename_i ti ht
    obtain ⟨d, hd, hu⟩ := run_tinf ht w
    obtain ⟨z, hz, hzero, hfit⟩ := tinf_zero ht w
    split at h
    · rename_i zs hzs
      have hrz : Rep w L (.agg zs) z := by rw [← hzs, hzero]; exact rep_cav _ _ z
      simp only [Rep] at hrz
      obtain ⟨xs, rfl, hxs, hxc⟩ := hrz
      split at h
      · rename_i fs hk
        obtain ⟨F, rfl, rfl⟩ := tk_st (hd.symm.trans hk)
        split at h
        · rename_i l hl
          split at h
          · rename_i cs hcs
            cases h
            obtain ⟨xs', h1, h2, h3, _⟩ := fillA_sound hcs hp hxs hxc
            refine ⟨.agg xs'.toArray, ?_, xs', rfl, h2, h3⟩
            have hpl := placesA_run (w := w) hl
            simp only [Instr.build, Sem.run_bind, hz, hu, Result.andThen_ok, Array.mapM_eq_mapM_toList, Sem.run_map, hpl, cells_agg]
            have : (fun i : Nat => l.toArray[i]?) = fun i : Nat => l[i]? := by funext i; simp
            rw [this, h1]
            rfl
          · cases h
        · cases h
      · rename_i n e hk
        have hd' := tk_arr (hd.symm.trans hk); subst hd'
        split at h
        · rename_i te hte
          split at h
          · rename_i cs hcs
            cases h
            obtain ⟨xs', h1, h2, h3, _⟩ := fillA_sound hcs hp hxs hxc
            refine ⟨.agg xs'.toArray, ?_, xs', rfl, h2, h3⟩
            simp only [Instr.build, Sem.run_bind, hz, hu, Result.andThen_ok, tinf_size hte, cells_agg]
            rw [h1]
            rfl
          · cases h
        · cases h
      · cases h
    · cases h
  · cases h

theorem aop_build {P : Program} {N : Nat} {o : POp} {E : Env} {σ : Heap} {K : Env → Heap → Prop} {G : Bool} {t : TypeId} {parts : Array (Nat × Operand)} {r : AV} (hg : gcond E o = some G) (ho : o.op = .build t parts) (hb : abuild P t (mapP (fun x => (lk E x).a) parts.toList) = some r)
    (hs : G = true → opsC E o.op.operands.toList) (hk : putK N o.dst ⟨G, r⟩ K E σ) : AOp P N o E σ K := by
  refine aop_value hg (fun hG a w ρ hst => ?_) hk
  have hc := opsC_iff.1 (hs hG)
  have hp : RepP w (lm σ ρ) (mapP (fun x => (lk E x).a) parts.toList) (parts.map fun (i, x) => (i, a.eval x)).toList := by
    rw [Array.toList_map]
    exact repP_of fun p hp => hst.val p.2 (hc p.2 (by simp only [ho, Op.operands]; simp; exact ⟨p.1, by simpa using hp⟩))
  obtain ⟨z, hz, hr⟩ := does_build hb hp
  exact ⟨z, by simp [execOp, POp.oper, ho, hz], hr⟩

/-! ### rows of zeros -/

theorem range_mod (z : Array Value) : ∀ n : Nat, (List.range (n * z.size)).map (fun i => z[i % z.size]!) = (List.replicate n z.toList).flatten
  | 0 => by simp
  | n + 1 => by
    rw [Nat.succ_mul, List.range_add, List.map_append, range_mod z n, List.replicate_succ', List.flatten_append]
    congr 1
    simp only [List.map_map, List.flatten_singleton]
    apply List.ext_getElem
    · simp
    · intro i h1 h2
      simp at h1
      simp [Nat.mul_add_mod_self_right, Nat.mod_eq_of_lt h1, h1, Nat.add_comm (n * z.size)]

theorem repE_replicate {w : World} {L : LM} {a : AV} {z : Value} {e : Nat} (hr : Rep w L a z) (hz : z.cells.size = e ∧ ∀ c ∈ z.cells.toList, cellV c = true) : ∀ n, RepE w L e (List.replicate n a) (List.replicate n z.cells.toList).flatten
  | 0 => rfl
  | n + 1 => by
    simp only [List.replicate_succ, List.flatten_cons]
    exact ⟨z, _, rfl, hz, hr, repE_replicate hr hz n⟩

def fillE (size : Nat) (es : List AV) : List (Nat × AV) → Option (List AV)
  | [] => some es
  | (i, v) :: r => if asz v = some size then if i < es.length then fillE size (es.set i v) r else none else none

theorem fillE_sound {w : World} {L : LM} {size : Nat} : ∀ {ps : List (Nat × AV)} {us : List (Nat × Value)} {es es' : List AV} {xs : List Value}, fillE size es ps = some es' → RepP w L ps us → RepE w L size es xs →
    ∃ xs', Instr.fill (fun i => some (i * size, size)) xs.toArray us = some xs'.toArray ∧ RepE w L size es' xs' ∧ es'.length = es.length
  | [], us, es, es', xs, h, hp, hr => by
    simp only [RepP] at hp; subst hp
    simp only [fillE] at h; cases h
    exact ⟨xs, rfl, hr, rfl⟩
  | (i, a) :: ps, us, es, es', xs, h, hp, hr => by
    obtain ⟨x, us', rfl, hx, hp'⟩ := hp
    simp only [fillE] at h
    split at h
    · rename_i hn
      split at h
      · rename_i hi
        obtain ⟨hsz, hcv⟩ := asz_sound hn hx
        obtain ⟨hl, hget⟩ := repE_get hr
        obtain ⟨y, hy, hye, pre, post, hxs, hpre, hset⟩ := hget i _ (List.getElem?_eq_getElem hi)
        have hov : over xs (i * size) x.cells.toList = pre ++ x.cells.toList ++ post := by
          rw [hxs, ← hpre]
          exact over_eq x.cells.toList pre y.cells.toList post (by simp [hye.1, hsz])
        have hr' := hset a x hx ⟨hsz, hcv⟩
        obtain ⟨xs', h2, h3, h4⟩ := fillE_sound h hp' hr'
        refine ⟨xs', ?_, h3, by simpa using h4⟩
        simp only [Instr.fill]
        have e1 : (x.cells.size ≠ size || decide (i * size + x.cells.size > xs.toArray.size)) = false := by
          simp [hsz, hxs, hpre, hye.1]
        simp only [ne_eq] at e1
        simp only [ne_eq, e1, Bool.false_eq_true, if_false]
        have e2 := zip_over x.cells.toList xs.toArray (i * size) 0
        simp only [Nat.add_zero, List.toList_toArray] at e2
        rw [← h2, ← hov, ← e2]
        congr 1
        rw [← Array.foldl_toList]
        simp
      · cases h
    · cases h

theorem aop_buildSlice {P : Program} {N : Nat} {o : POp} {E : Env} {σ : Heap} {K : Env → Heap → Prop} {t e : TypeId} {len : Nat} {parts : Array (Nat × Operand)} {ti te : TI} {es : List AV} (hg : o.g = none) (ho : o.op = .buildSlice t len parts) (ht : tinf P t = some ti) (hk : ti.kind = .sl e) (hte : tinf P e = some te)
    (hlen : len * te.size ≤ 16777216) (hb : fillE te.size (List.replicate len te.zero) (mapP (fun x => (lk E x).a) parts.toList) = some es) (hs : opsC E o.op.operands.toList)
    (hK : putK N o.dst ⟨true, .os σ.length 0 0 len⟩ K E (σ ++ [.row 0 te.size es])) : AOp P N o E σ K := by
  intro a w ρ hst
  rw [gcond_sound hst (gcond_none' hg)]
  have hc := opsC_iff.1 hs
  obtain ⟨d, hd, hu⟩ := run_tinf ht w
  have hd' := tk_sl (hd.symm.trans hk); subst hd'
  obtain ⟨z, hz, hzero, hfit⟩ := tinf_zero hte w
  have hp : RepP w (lm σ ρ) (mapP (fun x => (lk E x).a) parts.toList) (parts.map fun (i, x) => (i, a.eval x)).toList := by
    rw [Array.toList_map]
    exact repP_of fun p hp => hst.val p.2 (hc p.2 (by simp only [ho, Op.operands]; simp; exact ⟨p.1, by simpa using hp⟩))
  have hrz : Rep w (lm σ ρ) te.zero z := by rw [hzero]; exact rep_cav _ _ z
  have hr0 := repE_replicate hrz hfit.2 len
  obtain ⟨xs, h1, h2, h3⟩ := fillE_sound hb hp hr0
  obtain ⟨h4, h5, h6⟩ := hst.heap.newRow te.size es xs [] e (0, 0) (fun off _ => by simp) h2
  have hsz : z.cells.size = te.size := hfit.2.1
  have hrun : (execOp a.eval o.oper).run P w = .ok (.value (.slice (some ⟨w.heap.size, 0, none⟩) len len)) (w.alloc (.cells (xs ++ []).toArray e (0, 0))) := by
    have e0 : ¬ (len * te.size > 2 ^ 24) := by omega
    have e2 : ((Array.range (len * te.size)).map (z.cells[· % z.cells.size]!)) = (List.replicate len z.cells.toList).flatten.toArray := by
      rw [← range_mod, hsz]
      apply Array.ext'
      simp
    by_cases e1 : len * te.size = 0
    · have e3 : (List.replicate len z.cells.toList).flatten.toArray = ((Array.range (len * te.size)).map ((#[] : Array Value)[· % (#[] : Array Value).size]!)) := by
        rw [← e2, e1]; simp
      simp only [execOp, POp.oper, ho, Instr.buildSlice, Sem.run_bind, hu, Result.andThen_ok, tinf_size hte, if_neg e0, if_pos e1, Sem.run_pure]
      rw [← e3, h1]
      simp [newRow]
    · simp only [execOp, POp.oper, ho, Instr.buildSlice, Sem.run_bind, hu, Result.andThen_ok, tinf_size hte, if_neg e0, if_neg e1, hz, Sem.run_pure]
      rw [e2, h1]
      simp [newRow]
  simp only [if_true, Oper.wp, hrun, Oper.upon]
  refine OpQ.of hst (Tr.refl _ _) h5 h4 ?_ hK
  simp only [EV.ok, Rep, if_true]
  rw [h6]
  refine .inl ⟨len, by simp, Nat.le_refl _, ?_⟩
  have := (repE_get h2).1
  have hl : es.length = len := by simpa using h3
  simp [this, hl]
where
  gcond_none' {E : Env} {o : POp} (h : o.g = none) : gcond E o = some true := by simp [gcond, h]

theorem aop_makeSlice {P : Program} {N : Nat} {o : POp} {E : Env} {σ : Heap} {K : Env → Heap → Prop} {t e : TypeId} {x y : Operand} {ti te : TI} {l c : Int} {k k' : IntKind} (hg : gcond E o = some true) (ho : o.op = .makeSlice t x y) (ht : tinf P t = some ti) (hk : ti.kind = .sl e) (hte : tinf P e = some te)
    (hx : (lk E x).a = .v (.int k l)) (hy : (lk E y).a = .v (.int k' c)) (hlen : 0 ≤ l ∧ l ≤ c ∧ c < 4611686018427387904 ∧ te.bytes * c ≤ 140737488355328 ∧ 0 < te.size) (hs : opsC E o.op.operands.toList)
    (hK : putK N o.dst ⟨true, .os σ.length 0 0 l.toNat⟩ K E (σ ++ [.row 0 te.size (List.replicate l.toNat te.zero)])) : AOp P N o E σ K := by
  intro a w ρ hst
  rw [gcond_sound hst hg]
  have hc := opsC_iff.1 hs
  obtain ⟨d, hd, hu⟩ := run_tinf ht w
  have hd' := tk_sl (hd.symm.trans hk); subst hd'
  obtain ⟨z, hz, hzero, hfit⟩ := tinf_zero hte w
  obtain ⟨i, hi, hib, his⟩ := tinf_info hte w
  have hx' := hst.val x (hc x (by simp [ho, Op.operands]))
  have hy' := hst.val y (hc y (by simp [ho, Op.operands]))
  rw [hx] at hx'; rw [hy] at hy'
  simp only [Rep] at hx' hy'
  obtain ⟨h0, h1, h2, h3, h4⟩ := hlen
  have hrz : Rep w (lm σ ρ) te.zero z := by rw [hzero]; exact rep_cav _ _ z
  have hr0 := repE_replicate hrz hfit.2 l.toNat
  have hsz : z.cells.size = te.size := hfit.2.1
  have hsplit : (List.replicate c.toNat z.cells.toList).flatten = (List.replicate l.toNat z.cells.toList).flatten ++ (List.replicate (c.toNat - l.toNat) z.cells.toList).flatten := by
    rw [← List.flatten_append, List.replicate_append_replicate]; congr 2; omega
  obtain ⟨h5, h6, h7⟩ := hst.heap.newRow te.size _ _ (List.replicate (c.toNat - l.toNat) z.cells.toList).flatten e (0, 0) (fun off _ => by simp) hr0
  have hw1 : IntKind.i64.wrap l = l := wrapi l (by omega) (by omega)
  have hw2 : IntKind.i64.wrap c = c := wrapi c (by omega) (by omega)
  have hroom : (askRoom (c.toNat * te.bytes)).run P w = .ok () w := by
    unfold askRoom
    split <;> simp [mark, Sem.run]
  have hrun : (execOp a.eval o.oper).run P w = .ok (.value (.slice (some ⟨w.heap.size, 0, none⟩) l.toNat c.toNat)) (w.alloc (.cells ((List.replicate l.toNat z.cells.toList).flatten ++ (List.replicate (c.toNat - l.toNat) z.cells.toList).flatten).toArray e (0, 0))) := by
    have e3 : ¬ (((c < 0 ∨ 281474976710656 < (te.bytes : Int) * c) ∨ l < 0) ∨ c < l) := by omega
    rw [← hsplit]
    by_cases hn : c.toNat * te.size = 0
    · have hc0 : c.toNat = 0 := by
        rcases Nat.mul_eq_zero.1 hn with h | h
        · exact h
        · omega
      rw [hc0] at hroom
      simp only [Nat.zero_mul] at hroom
      simp [execOp, POp.oper, ho, Instr.makeSlice, hu, hx', hy', asInt, asIntOf, hi, hw1, hw2, hib, newRow, hc0, e3, tinf_size hte, hroom]
      have er : Array.range 0 = #[] := Array.ext' (by simp)
      rw [er, Array.map_empty]
    · have e2 : ((Array.range (c.toNat * te.size)).map (fun x => z.cells[x % z.cells.size]!)) = (List.replicate c.toNat z.cells.toList).flatten.toArray := by
        rw [← range_mod, hsz]
        apply Array.ext'
        simp
      have hn' : ¬ (c.toNat = 0 ∨ te.size = 0) := by simpa [Nat.mul_eq_zero] using hn
      rw [← e2]
      simp [execOp, POp.oper, ho, Instr.makeSlice, hu, hx', hy', asInt, asIntOf, hi, hw1, hw2, hib, newRow, hn, hn', e3, tinf_size hte, hroom, hz]
  simp only [if_true, Oper.wp, hrun, Oper.upon]
  refine OpQ.of hst (Tr.refl _ _) h6 h5 ?_ hK
  simp only [EV.ok, Rep, if_true]
  rw [h7]
  refine .inl ⟨c.toNat, by simp, by omega, ?_⟩
  rw [← hsplit]
  have := (repE_get (repE_replicate hrz hfit.2 c.toNat)).1
  simp at this
  simp [this]
where
  wrapi (n : Int) (h1 : -9223372036854775808 ≤ n) (h2 : n ≤ 9223372036854775807) : IntKind.i64.wrap n = n := by
    simp [IntKind.wrap, IntKind.bits, IntKind.signed]
    split <;> omega

end Go.Ab
set_option linter.unusedVariables false
set_option linter.unusedSimpArgs false
set_option linter.unusedSectionVars false
namespace Go.Ab
open Go
variable [GlobFacts]

/-- An object of which a later generation takes the place. -/
theorem lm_regen {σ : Heap} {ρ : Locs} {i g e : Nat} {es es' : List AV} {r' : Option (Nat × Nat)} (hi : σ[i]? = some (.row g e es)) (hl : ρ.length = σ.length) {j g' : Nat} (hg : lm σ ρ j g' ≠ .bad) :
    lm (σ.set i (.row (g + 1) e es')) (ρ.set i r') j g' = lm σ ρ j g' ∨ lm (σ.set i (.row (g + 1) e es')) (ρ.set i r') j g' = .stale := by
  by_cases hij : i = j
  · subst hij
    right
    have hlt := (List.getElem?_eq_some_iff.1 hi).1
    have hle : g' ≤ g := by
      rcases Nat.lt_or_ge g g' with h | h
      · exfalso; apply hg
        unfold lm
        rw [hi]
        cases ρ[i]? with
        | none => rfl
        | some r => simp [loOf, AObj.gen, h]
      · exact h
    unfold lm
    rw [List.getElem?_set_self hlt, List.getElem?_set_self (by omega)]
    have e1 : ¬ (AObj.row (g + 1) e es').gen < g' := by simp only [AObj.gen]; omega
    have e2 : g' < (AObj.row (g + 1) e es').gen := by simp only [AObj.gen]; omega
    simp only [loOf]
    rw [if_neg e1, if_pos e2]
  · left
    unfold lm
    rw [List.getElem?_set_ne hij, List.getElem?_set_ne hij]

theorem HeapOK.regen {w w' : World} {σ : Heap} {ρ : Locs} (h : HeapOK w σ ρ) {i g e : Nat} {es : List AV} (hi : σ[i]? = some (.row g e es)) (es' : List AV) (r' : Option (Nat × Nat)) (hos : w'.os = w.os) (hout : w'.output = w.output) (hsize : w.heap.size ≤ w'.heap.size)
    (hkeep : ∀ b, b < w.heap.size → (∀ s, ρ[i]? ≠ some (some (b, s))) → w'.heap[b]? = w.heap[b]?) (hr' : ∀ b s, r' = some (b, s) → (∃ s', ρ[i]? = some (some (b, s'))) ∨ w.heap.size ≤ b)
    (hob : Tr w (lm σ ρ) w' (lm (σ.set i (.row (g + 1) e es')) (ρ.set i r')) → ObjOK w' (lm (σ.set i (.row (g + 1) e es')) (ρ.set i r')) (.row (g + 1) e es') r') :
    HeapOK w' (σ.set i (.row (g + 1) e es')) (ρ.set i r') ∧ Tr w (lm σ ρ) w' (lm (σ.set i (.row (g + 1) e es')) (ρ.set i r')) := by
  have hlt := (List.getElem?_eq_some_iff.1 hi).1
  have hlt' : i < ρ.length := by rw [h.len]; exact hlt
  have hloc : ∀ (j : Nat) b s, (ρ.set i r')[j]? = some (some (b, s)) → (j = i ∧ r' = some (b, s)) ∨ (j ≠ i ∧ ρ[j]? = some (some (b, s))) := by
    intro j b s hj
    by_cases hij : i = j
    · subst hij
      rw [List.getElem?_set_self hlt'] at hj
      cases hj
      exact .inl ⟨rfl, rfl⟩
    · rw [List.getElem?_set_ne hij] at hj
      exact .inr ⟨Ne.symm hij, hj⟩
  have htr : Tr w (lm σ ρ) w' (lm (σ.set i (.row (g + 1) e es')) (ρ.set i r')) := by
    refine ⟨hos, hout, hsize, fun b hb ho => hkeep b hb (fun s hs => ho (owned_of_loc h hs)), fun b hb => ?_, fun j g' _ hg => lm_regen hi h.len hg⟩
    obtain ⟨j, s, hj⟩ := owned_lm hb
    rcases hloc j b s hj with ⟨_, he⟩ | ⟨_, he⟩
    · rcases hr' b s he with ⟨s', h1⟩ | h1
      · exact .inl (owned_of_loc h h1)
      · exact .inr h1
    · exact .inl (owned_of_loc h he)
  refine ⟨⟨by simp [h.len], fun j o r ho hr => ?_, fun j k b s s' hj hk => ?_, h.glob.tr htr⟩, htr⟩
  · by_cases hij : i = j
    · subst hij
      rw [List.getElem?_set_self hlt] at ho
      rw [List.getElem?_set_self hlt'] at hr
      cases ho; cases hr
      exact hob htr
    · rw [List.getElem?_set_ne hij] at ho hr
      refine (h.obj j o r ho hr).trV htr ?_ (fun b s e => ?_)
      · cases o with
        | dead g => trivial
        | hole => trivial
        | row g e es => exact AllIL.all (fun _ => trivial) es
        | tro g t e es => exact AllIL.all (fun _ => trivial) es
        | it g s n => trivial
        | map g es => exact fun x _ => AllI.all (fun _ => trivial) x.2
      · exact hkeep b (h.lt (by rw [hr, e])) (fun s' hs' => hij (h.inj i j b s' s hs' (by rw [hr, e])))
  · rcases hloc j b s hj with ⟨e1, e2⟩ | ⟨e1, e2⟩ <;> rcases hloc k b s' hk with ⟨e3, e4⟩ | ⟨e3, e4⟩
    · rw [e1, e3]
    · rcases hr' b s e2 with ⟨s1, h1⟩ | h1
      · exact absurd (h.inj i k b s1 s' h1 e4) (Ne.symm e3)
      · have := h.lt e4; omega
    · rcases hr' b s' e4 with ⟨s1, h1⟩ | h1
      · exact absurd (h.inj i j b s1 s h1 e2) (Ne.symm e1)
      · have := h.lt e2; omega
    · exact h.inj j k b s s' e2 e4

theorem lm_regen_new {σ : Heap} {ρ : Locs} {i g e : Nat} {es es' : List AV} {r' : Option (Nat × Nat)} (hi : σ[i]? = some (.row g e es)) (hl : ρ.length = σ.length) : lm (σ.set i (.row (g + 1) e es')) (ρ.set i r') i (g + 1) = match r' with | some (b, sz) => .here b e sz | none => .nilv := by
  have hlt := (List.getElem?_eq_some_iff.1 hi).1
  unfold lm
  rw [List.getElem?_set_self hlt, List.getElem?_set_self (by omega)]
  simp only [loOf, AObj.gen, Nat.lt_irrefl, if_false]
  cases r' <;> rfl

/-! ### what is appended -/

def asrc (σ : Heap) (size : Nat) : AV → Option (Prop × List AV)
  | .sl e es => if e = size then some (True, es) else none
  | .v (.slice none 0 0) => some (True, [])
  | .os j g k n => match σ[j]? with
    | some (.row g' e es) => if g = g' ∧ e = size then some (k + n ≤ es.length, (es.drop k).take n) else none
    | _ => none
  | .v (.string s) => if size = 1 then some (True, s.data.toList.map fun b => .v (.int .u8 b.toNat)) else none
  | _ => none

theorem repE_cellV {w : World} {L : LM} {e : Nat} : ∀ {es : List AV} {xs : List Value}, RepE w L e es xs → ∀ c ∈ xs, cellV c = true
  | [], xs, h => by simp only [RepE] at h; subst h; simp
  | a :: es, xs, h => by
    obtain ⟨y, zs, rfl, hy, _, hs⟩ := h
    intro c hc
    rcases List.mem_append.1 hc with h1 | h1
    · exact hy.2 c h1
    · exact repE_cellV hs c h1

theorem repE_append {w : World} {L : LM} {e : Nat} : ∀ {es es' : List AV} {xs ys : List Value}, RepE w L e es xs → RepE w L e es' ys → RepE w L e (es ++ es') (xs ++ ys)
  | [], es', xs, ys, h, h' => by simp only [RepE] at h; subst h; exact h'
  | a :: es, es', xs, ys, h, h' => by
    obtain ⟨y, zs, rfl, hy, hr, hs⟩ := h
    exact ⟨y, zs ++ ys, by simp, hy, hr, repE_append hs h'⟩

theorem repE_bytes {w : World} {L : LM} : ∀ l : List UInt8, RepE w L 1 (l.map fun b => .v (.int .u8 b.toNat)) (l.map fun b => .int .u8 b.toNat)
  | [] => rfl
  | b :: l => ⟨.int .u8 b.toNat, _, rfl, ⟨rfl, by simp [Value.cells, cellV]⟩, rfl, repE_bytes l⟩

theorem asrc_sound {P : Program} {w : World} {σ : Heap} {ρ : Locs} (hh : HeapOK w σ ρ) {size : Nat} {x : AV} {s : Prop} {news : List AV} (h : asrc σ size x = some (s, news)) (hs : s) {u : Value} (hx : Rep w (lm σ ρ) x u) :
    ∃ cs : List Value, RepE w (lm σ ρ) size news cs ∧ (Builtin.lenOf u = pure news.length) ∧ ∀ w' : World, w'.heap = w.heap → (Builtin.firstCells size news.length u).run P w' = .ok cs.toArray w' := by
  have cellsEq : ∀ (w' : World), w'.heap = w.heap → ∀ a, w'.cell? a = w.cell? a := fun w' h a => by simp only [World.cell?, h]
  unfold asrc at h
  split at h
  · rename_i e es
    split at h
    · rename_i he; subst he
      cases h
      simp only [Rep] at hx
      rcases hx with ⟨rfl, rfl⟩ | ⟨b, off, cap, rfl, hn, hb, ho, xs, hr, hc⟩
      · exact ⟨[], rfl, rfl, fun w' _ => by simp [Builtin.firstCells]⟩
      · refine ⟨xs, hr, rfl, fun w' hw' => ?_⟩
        exact run_firstCells_some w' e news.length ⟨b, off, none⟩ news.length cap xs (repE_get hr).1 (fun j v hv => by
          rw [addr_add, cellsEq w' hw', hc j (List.getElem?_eq_some_iff.1 hv).1]; exact hv)
    · cases h
  · cases h
    simp only [Rep] at hx; subst hx
    exact ⟨[], rfl, rfl, fun w' _ => by simp [Builtin.firstCells]⟩
  · rename_i j g k n
    split at h
    · rename_i g' e es hj
      split at h
      · rename_i hge
        obtain ⟨rfl, rfl⟩ := hge
        cases h
        simp only [Rep] at hx
        rcases hh.row hj with ⟨hl, rfl, _⟩ | ⟨b, sz, xs, ys, t', fr, hl, _, hblk, hlen, _, hrep⟩
        · rw [hl] at hx
          obtain ⟨rfl, rfl, rfl⟩ := hx
          exact ⟨[], by simp [RepE], by simp [Builtin.lenOf], fun w' _ => by simp [Builtin.firstCells]⟩
        · rw [hl] at hx
          obtain ⟨y1, z1, hxs, hy1, hz1⟩ := repE_drop k (by omega) hrep
          obtain ⟨y2, z2, hz, hy2⟩ := repE_take n hz1
          have hln : ((es.drop k).take n).length = n := by simp; omega
          rcases hx with ⟨cap, rfl, hn, hcap⟩ | ⟨rfl, r, rfl, _⟩
          · refine ⟨y2, hy2, by simp only [Builtin.lenOf, hln], fun w' hw' => ?_⟩
            rw [hln]
            refine run_firstCells_some w' e n ⟨b, k * e, none⟩ n cap y2 (by have := (repE_get hy2).1; rw [hln] at this; exact this) (fun j v hv => ?_)
            have hjl := (List.getElem?_eq_some_iff.1 hv).1
            rw [addr_add, cellsEq w' hw']
            simp only [World.cell?, hblk, Option.isSome_none, Bool.false_eq_true, if_false, List.getElem?_toArray]
            rw [hxs, hz, ← hy1]
            rw [List.append_assoc, List.getElem?_append_right (by omega), Nat.add_sub_cancel_left, List.append_assoc, List.getElem?_append_left hjl]
            exact hv
          · refine ⟨[], by simp [RepE], by simp [Builtin.lenOf], fun w' _ => ?_⟩
            simp only [List.take_zero, List.length_nil]
            cases r with
            | none => simp [Builtin.firstCells]
            | some a => simp [Builtin.firstCells, loadCells, loadCellsFrom]
      · cases h
    · cases h
  · rename_i st
    split at h
    · rename_i he; subst he
      cases h
      simp only [Rep] at hx; subst hx
      refine ⟨_, repE_bytes _, ?_, fun w' _ => ?_⟩
      · simp [Builtin.lenOf]
      · simp only [Builtin.firstCells, List.length_map, Sem.run_pure]
        congr 1
        have : st.extract 0 st.data.toList.length = st := by
          apply ByteArray.ext
          apply Array.ext'
          rw [Lib.extract_data]
          simp only [Nat.sub_zero, List.drop_zero]
          exact List.take_length
        rw [this]
        apply Array.ext'
        simp
    · cases h
  · cases h

/-- append, run: what is appended fits. -/
theorem run_append_fits' {P : Program} {w w' : World} {t t' e ty : TypeId} {d' : TypeDesc} {te : TI} {u : Value} {news : List Value} {m n cap : Nat} {base : Option Addr} (ht : P.underlying t = some (.slice e)) (ht' : P.underlying t' = some d') (hd' : d' = .string ∨ ∃ e2, d' = .slice e2) (hte : tinf P e = some te)
    (hlen : Builtin.lenOf u = pure m) (hsrc : (Builtin.firstCells te.size m u).run P w = .ok news.toArray w) (hroom : n + m ≤ cap)
    (hst : (match base with | some a => storeCells (a.add (n * te.size)) news | none => pure ()).run P w = .ok () w') :
    (Builtin.append_ #[t, t'] ty #[.slice base n cap, u]).run P w = .ok (.slice base (n + m) cap) w' := by
  rcases hd' with rfl | ⟨e2, rfl⟩
  all_goals simp only [Builtin.append_, List.getElem?_toArray, List.getElem?_cons_zero, List.getElem?_cons_succ, Sem.run_bind, run_underlying' ht, run_underlying' ht', Result.andThen_ok, Sem.run_pure, tinf_size hte]
  all_goals simp only [Bool.false_eq_true, if_false, hlen, Sem.run_pure, Result.andThen_ok, if_pos hroom, Sem.run_bind, hsrc, Bool.not_false, if_true]
  all_goals
    cases base with
    | none => simp only [Sem.run_pure] at hst ⊢; cases hst; rfl
    | some a => simp only at hst ⊢; simp only [Sem.run_bind, hst, Result.andThen_ok, Sem.run_pure]

/-- append, run: a new row is made. -/
theorem run_append_grows' {P : Program} {w : World} {t t' e ty : TypeId} {d' : TypeDesc} {te : TI} {u : Value} {news olds : List Value} {m n cap : Nat} {base : Option Addr} (ht : P.underlying t = some (.slice e)) (ht' : P.underlying t' = some d') (hd' : d' = .string ∨ ∃ e2, d' = .slice e2) (hte : tinf P e = some te)
    (hlen : Builtin.lenOf u = pure m) (hsrc : ∀ w' : World, w'.heap = w.heap → (Builtin.firstCells te.size m u).run P w' = .ok news.toArray w') (hold : ∀ w' : World, w'.heap = w.heap → (Builtin.firstCells te.size n (.slice base n cap)).run P w' = .ok olds.toArray w')
    (hroom : cap < n + m) (hb : (n + m) * te.bytes ≤ 140737488355328) (hn : n + m ≤ 9223372036854775807) :
    ∃ (newCap : Nat) (rest : List Value) (w' : World), n + m ≤ newCap ∧ rest.length = (newCap - (n + m)) * te.size ∧ w'.heap = w.heap.push (.cells (olds ++ news ++ rest).toArray e (0, 0)) ∧ w'.os = w.os ∧ w'.output = w.output ∧
      (Builtin.append_ #[t, t'] ty #[.slice base n cap, u]).run P w = .ok (.slice (some ⟨w.heap.size, 0, none⟩) (n + m) newCap) w' := by
  have hge := grownCap_ge' w (n + m) cap e
  obtain ⟨i, _, _, hinf, _, _, _, _, _, _, _, hib, _⟩ := tinf_parts hte
  have hi : ∀ w : World, (typeInfo e).run P w = .ok i w := fun w => by simp [typeInfo, program, Sem.run, hinf]
  obtain ⟨z, hzv, _, hfit⟩ := tinf_zero hte w.drew
  have hfits := growslice_fits hroom hb
  have hask : ∀ (w : World) k, (askRoom k).run P w = .ok () w := fun w k => by unfold askRoom; split <;> simp [mark, Sem.run]
  refine ⟨grownCap w (n + m) cap e, (Builtin.zeroCells z.cells (grownCap w (n + m) cap e - (n + m))).toList, w.drew.alloc (.cells (olds.toArray ++ news.toArray ++ Builtin.zeroCells z.cells (grownCap w (n + m) cap e - (n + m))) e), hge, by simp [size_zeroCells', hfit.2.1], ?_, rfl, rfl, ?_⟩
  rotate_left 1
  · have h1 : ¬ (n + m ≤ cap) := by omega
    have h2 : ¬ (((n + m : Nat) : Int) > IntKind.i64.max) := by have : IntKind.i64.max = 9223372036854775807 := rfl; omega
    have h3 : ¬ (Builtin.nextslicecap (n + m) cap * te.bytes > 2 ^ 48) := by omega
    have h4 : ¬ (((n + m : Nat) : Int) > IntKind.i64.max ∧ (false = true ∨ te.bytes = 0)) := fun h => h2 h.1
    have h5 : ¬ (((n + m : Nat) : Int) > IntKind.i64.max ∧ (False ∨ te.bytes = 0)) := fun h => h2 h.1
    have hch : (choose (.appendCap (n + m) cap e)).run P w = .ok (grownCap w (n + m) cap e) w.drew := rfl
    rcases hd' with rfl | ⟨e2, rfl⟩
    all_goals simp only [Builtin.append_, List.getElem?_toArray, List.getElem?_cons_zero, List.getElem?_cons_succ, Sem.run_bind, run_underlying' ht, run_underlying' ht', Result.andThen_ok, Sem.run_pure, tinf_size hte]
    all_goals simp only [Bool.false_eq_true, if_false, hlen, Sem.run_pure, Result.andThen_ok, if_neg h1, Sem.run_bind, hi, ← hib, Bool.not_false, if_true]
    all_goals simp only [if_neg h5, if_neg h3, Sem.run_bind, Sem.run_pure, Result.andThen_ok]
    all_goals simp only [hi, ← hib, if_neg h3, Sem.run_bind, Result.andThen_ok, hch, hask, hold w.drew rfl, hsrc w.drew rfl, hzv]
    all_goals rfl
  · show w.heap.push _ = _
    congr 2
    apply Array.ext'
    simp
where
  grownCap_ge' (w : World) (need old : Nat) (e : TypeId) : need ≤ grownCap w need old e := by simp [grownCap, Question.cut]
  size_zeroCells' (z : Array Value) (n : Nat) : (Builtin.zeroCells z n).size = n * z.size := by simp [Builtin.zeroCells]

end Go.Ab
set_option linter.unusedVariables false
set_option linter.unusedSimpArgs false
set_option linter.unusedSectionVars false
namespace Go.Ab
open Go
variable [GlobFacts]

section
variable {P : Program} {N : Nat} {o : POp} {E : Env} {σ : Heap} {K : Env → Heap → Prop}

/-- behind a new row: the object has a later generation, and lies there -/
theorem fin_grow {a : Act} {w w' : World} {ρ : Locs} {i g n newCap sz0 : Nat} {es news : List AV} {olds cs rest : List Value} {e : TypeId} (hst : St N a w ρ E σ) (hi : σ[i]? = some (.row g sz0 es)) (hold : RepE w (lm σ ρ) sz0 (es.take n) olds) (hn : n ≤ es.length) (hnew : RepE w (lm σ ρ) sz0 news cs)
    (hcap : n + news.length ≤ newCap) (hrest : rest.length = (newCap - (n + news.length)) * sz0) (hheap : w'.heap = w.heap.push (.cells (olds ++ cs ++ rest).toArray e (0, 0))) (hos : w'.os = w.os) (hout : w'.output = w.output)
    (hK : putK N o.dst ⟨true, .os i (g + 1) 0 (n + news.length)⟩ K E (σ.set i (.row (g + 1) sz0 (es.take n ++ news)))) :
    OpQ N w (lm σ ρ) K (a.put o.dst (.slice (some ⟨w.heap.size, 0, none⟩) (n + news.length) newCap)) w' := by
  have hlen : (olds ++ cs ++ rest).length = newCap * sz0 := by
    have h1 := (repE_get hold).1
    have h2 := (repE_get hnew).1
    rw [List.length_take, Nat.min_eq_left hn] at h1
    simp only [List.length_append, h1, h2, hrest, ← Nat.add_mul]
    congr 1; omega
  obtain ⟨h1, h2⟩ := hst.heap.regen (w' := w') hi (es.take n ++ news) (some (w.heap.size, (olds ++ cs ++ rest).length)) hos hout (by rw [hheap]; simp) (fun b hb _ => by rw [hheap, Array.getElem?_push, if_neg (by omega)])
    (fun b s hb => by cases hb; exact .inr (Nat.le_refl _)) (fun htr => ⟨olds ++ cs, rest, e, (0, 0), by rw [hheap]; simp, rfl, fun off _ => by simp, repE_append (RepE.tr htr hold) (RepE.tr htr hnew)⟩)
  have hl := lm_regen_new (es' := es.take n ++ news) (r' := some (w.heap.size, (olds ++ cs ++ rest).length)) hi hst.heap.len
  refine OpQ.of hst (Tr.refl _ _) h2 h1 ?_ hK
  simp only [EV.ok, Rep, if_true, hl]
  exact .inl ⟨newCap, by simp, hcap, by rw [hlen]; simp⟩

theorem aop_append_os {t t' e : TypeId} {ti ti' te : TI} {x y : Operand} {i g n : Nat} {es news : List AV} {s : Prop} (hg : gcond E o = some true) (ho : o.op = .call { callee := .builtin .append, args := #[x, y], argTypes := #[t, t'] }) (ht : tinf P t = some ti) (hk : ti.kind = .sl e)
    (ht' : tinf P t' = some ti') (hk' : ti'.kind = .str ∨ ∃ e2, ti'.kind = .sl e2) (hte : tinf P e = some te) (hx : (lk E x).a = .os i g 0 n) (hi : σ[i]? = some (.row g te.size es)) (hsrc : asrc σ te.size (lk E y).a = some (s, news))
    (hs : opsC E o.op.operands.toList ∧ s ∧ n ≤ es.length ∧ (n + news.length) * te.bytes ≤ 140737488355328 ∧ n + news.length ≤ 4611686018427387904)
    (hK : putK N o.dst ⟨true, .os i (g + 1) 0 (n + news.length)⟩ K E (σ.set i (.row (g + 1) te.size (es.take n ++ news)))) : AOp P N o E σ K := by
  intro a w ρ hst
  rw [gcond_sound hst hg]
  obtain ⟨hc, hss, hnl, hbytes, hmax⟩ := hs
  have hc := opsC_iff.1 hc
  obtain ⟨d, hd0, hd, hu⟩ := tinf_underlying ht w
  have hdd := tk_sl (hd.symm.trans hk); subst hdd
  obtain ⟨d', hd0', hd', hu'⟩ := tinf_underlying ht' w
  have hdk : d' = .string ∨ ∃ e2, d' = .slice e2 := by
    rcases hk' with hk' | ⟨e2, hk'⟩
    · exact .inl (tk_str (hd'.symm.trans hk'))
    · exact .inr ⟨e2, tk_sl (hd'.symm.trans hk')⟩
  have hx' := hst.val x (hc x (by simp [ho, Op.operands, Call.operands]))
  have hy' := hst.val y (hc y (by simp [ho, Op.operands, Call.operands]))
  obtain ⟨cs, hcs, hlenOf, hfirst⟩ := asrc_sound (P := P) hst.heap hsrc hss hy'
  have hcsl := (repE_get hcs).1
  rw [hx] at hx'
  simp only [Rep] at hx'
  have lift : ∀ {v : Value} {w' : World}, (Builtin.append_ #[t, t'] o.type #[a.eval x, a.eval y]).run P w = .ok v w' → OpQ N w (lm σ ρ) K (a.put o.dst v) w' → o.oper.wp P a w (OpQ N w (lm σ ρ) K) NoExit := by
    intro v w' hr hq
    have hrun : (execOp a.eval o.oper).run P w = .ok (.value v) w' := by
      simp only [execOp, POp.oper, ho, resolve, Sem.run_bind, Sem.run_pure, Result.andThen_ok, invoke, builtin, List.map_toArray, List.map_cons, List.map_nil, hr]
    simp only [Oper.wp, hrun, Oper.upon]
    exact hq
  simp only [if_true]
  have hfirst0 : ∀ (r : Option Addr) (w' : World), (Builtin.firstCells te.size 0 (.slice r 0 0)).run P w' = .ok #[] w' := fun r w' => by
    cases r with
    | none => simp [Builtin.firstCells]
    | some a => simp [Builtin.firstCells, loadCells, loadCellsFrom]
  rcases hst.heap.row hi with ⟨hl, rfl, hr⟩ | ⟨b, sz, xs, ys, t0, fr, hl, hr, hblk, hlen, hfr, hrep⟩
  · rw [hl] at hx'
    obtain ⟨_, rfl, hxv⟩ := hx'
    by_cases hm : news.length = 0
    · have hn0 : news = [] := List.eq_nil_of_length_eq_zero hm
      subst hn0
      have hrun := run_append_fits' (P := P) (ty := o.type) (w' := w) (base := none) (n := 0) (cap := 0) hd0 hd0' hdk hte hlenOf (by simpa [RepE] using hfirst w rfl) (by simp) (by simp)
      rw [← hxv] at hrun
      refine lift hrun ?_
      obtain ⟨h1, h2⟩ := hst.heap.regen (w' := w) hi [] none rfl rfl (Nat.le_refl _) (fun _ _ _ => rfl) (fun b s h => by cases h) (fun _ => rfl)
      have hl' := lm_regen_new (es' := []) (r' := none) hi hst.heap.len
      refine OpQ.of hst (Tr.refl _ _) h2 h1 ?_ (by simpa using hK)
      simp only [EV.ok, Rep, if_true, hl', hxv]
      exact ⟨rfl, rfl, rfl⟩
    · obtain ⟨newCap, rest, w', h1, h2, h3, h4, h5, h6⟩ := run_append_grows' (P := P) (ty := o.type) (base := none) (n := 0) (cap := 0) (olds := []) hd0 hd0' hdk hte hlenOf hfirst (fun w' _ => hfirst0 none w') (by omega) (by omega) (by omega)
      rw [← hxv] at h6
      exact lift h6 (fin_grow hst hi (olds := []) (by simp [RepE]) (by simp) hcs h1 h2 h3 h4 h5 hK)
  · rw [hl] at hx'
    obtain ⟨y1, z1, hxs, hy1⟩ := repE_take n hrep
    have hy1l := (repE_get hy1).1
    rw [List.length_take, Nat.min_eq_left hnl] at hy1l
    rcases hx' with ⟨cap, hxv, hn, hcap⟩ | ⟨rfl, r, hxv, hrb⟩
    · simp only [Nat.zero_mul, Nat.zero_add] at hxv hcap
      by_cases hroom : n + news.length ≤ cap
      · have hle : n * te.size + cs.length ≤ (xs ++ ys).length := by
          rw [hcsl, ← Nat.add_mul, hlen]
          exact Nat.le_trans (Nat.mul_le_mul_right _ hroom) hcap
        have hstore := run_storeCells' (P := P) cs 0 (off := n * te.size) hblk (by simpa using hle) (by rw [hlen]; exact hfr) (repE_cellV hcs)
        have hsplit : xs ++ ys = y1 ++ (z1 ++ ys).take cs.length ++ (z1 ++ ys).drop cs.length := by
          rw [hxs, List.append_assoc, List.append_assoc, List.take_append_drop]
        have hover : over (xs ++ ys) (n * te.size + 0) cs = (y1 ++ cs) ++ (z1 ++ ys).drop cs.length := by
          rw [hsplit, Nat.add_zero, ← hy1l]
          refine over_eq cs y1 _ _ ?_
          rw [List.length_take]
          have : (xs ++ ys).length = y1.length + (z1 ++ ys).length := by rw [hxs]; simp [Nat.add_assoc]
          omega
        rw [hover] at hstore
        have hrun := run_append_fits' (P := P) (ty := o.type) (base := some ⟨b, 0, none⟩) (n := n) (cap := cap) hd0 hd0' hdk hte hlenOf (hfirst w rfl) hroom (by simp only [addr_add, Nat.zero_add]; exact hstore)
        rw [← hxv] at hrun
        refine lift hrun ?_
        have hlen2 : ((y1 ++ cs) ++ (z1 ++ ys).drop cs.length).length = sz := by
          rw [← hlen]
          have h1 : (xs ++ ys).length = y1.length + (z1 ++ ys).length := by rw [hxs]; simp [Nat.add_assoc]
          simp only [List.length_append, List.length_drop] at h1 hle ⊢
          omega
        obtain ⟨h1, h2⟩ := hst.heap.regen (w' := wset w b (.cells ((y1 ++ cs) ++ (z1 ++ ys).drop cs.length).toArray t0 fr)) hi (es.take n ++ news) (some (b, sz)) rfl rfl (by simp) (fun b' hb' hne => wset_other _ (fun e => hne sz (by rw [hr, e])))
          (fun b' s' h => by cases h; exact .inl ⟨_, hr⟩) (fun htr => ⟨y1 ++ cs, (z1 ++ ys).drop cs.length, t0, fr, wset_same _ (hst.heap.lt hr), hlen2, hfr, repE_append (RepE.tr htr hy1) (RepE.tr htr hcs)⟩)
        have hl' := lm_regen_new (es' := es.take n ++ news) (r' := some (b, sz)) hi hst.heap.len
        refine OpQ.of hst (Tr.refl _ _) h2 h1 ?_ hK
        simp only [EV.ok, Rep, if_true, hl']
        exact .inl ⟨cap, by simp, hroom, by simpa using hcap⟩
      · have hold : ∀ w' : World, w'.heap = w.heap → (Builtin.firstCells te.size n (.slice (some ⟨b, 0, none⟩) n cap)).run P w' = .ok y1.toArray w' := fun w' hw' =>
          run_firstCells_some w' te.size n ⟨b, 0, none⟩ n cap y1 hy1l (fun j v hv => by
            have hjl := (List.getElem?_eq_some_iff.1 hv).1
            rw [addr_add]
            simp only [World.cell?, hw', hblk, Option.isSome_none, Bool.false_eq_true, if_false, List.getElem?_toArray, Nat.zero_add]
            rw [hxs, List.append_assoc, List.getElem?_append_left hjl]; exact hv)
        obtain ⟨newCap, rest, w', h1, h2, h3, h4, h5, h6⟩ := run_append_grows' (P := P) (ty := o.type) (base := some ⟨b, 0, none⟩) (n := n) (cap := cap) (olds := y1) hd0 hd0' hdk hte hlenOf hfirst hold (by omega) (by omega) (by omega)
        rw [← hxv] at h6
        exact lift h6 (fin_grow hst hi hy1 hnl hcs h1 h2 h3 h4 h5 hK)
    · by_cases hm : news.length = 0
      · have hn0 : news = [] := List.eq_nil_of_length_eq_zero hm
        subst hn0
        have hcs0 : cs = [] := by simpa [RepE] using hcs
        subst hcs0
        have hrun := run_append_fits' (P := P) (ty := o.type) (w' := w) (base := r) (n := 0) (cap := 0) hd0 hd0' hdk hte hlenOf (hfirst w rfl) (by simp) (by cases r <;> simp [storeCells])
        rw [← hxv] at hrun
        refine lift hrun ?_
        obtain ⟨h1, h2⟩ := hst.heap.regen (w' := w) hi [] (some (b, sz)) rfl rfl (Nat.le_refl _) (fun _ _ _ => rfl) (fun b' s' h => by cases h; exact .inl ⟨_, hr⟩) (fun _ => ⟨[], xs ++ ys, t0, fr, by simpa using hblk, by simpa using hlen, hfr, rfl⟩)
        have hl' := lm_regen_new (es' := []) (r' := some (b, sz)) hi hst.heap.len
        refine OpQ.of hst (Tr.refl _ _) h2 h1 ?_ (by simpa using hK)
        simp only [EV.ok, Rep, if_true, hl']
        exact .inr ⟨rfl, r, by simp, hrb⟩
      · obtain ⟨newCap, rest, w', h1, h2, h3, h4, h5, h6⟩ := run_append_grows' (P := P) (ty := o.type) (base := r) (n := 0) (cap := 0) (olds := []) hd0 hd0' hdk hte hlenOf hfirst (fun w' _ => hfirst0 r w') (by omega) (by omega) (by omega)
        rw [← hxv] at h6
        exact lift h6 (fin_grow hst hi (olds := []) (by simp [RepE]) (by simp) hcs h1 h2 h3 h4 h5 hK)

/-- A nil slice is a row that has nothing in it yet. -/
theorem St.newNil {a : Act} {w : World} {ρ : Locs} (h : St N a w ρ E σ) (e : Nat) : ∃ ρ', St N a w ρ' E (σ ++ [.row 0 e []]) ∧ Tr w (lm σ ρ) w (lm (σ ++ [.row 0 e []]) ρ') ∧ lm (σ ++ [.row 0 e []]) ρ' σ.length 0 = .nilv := by
  obtain ⟨h1, h2, h3⟩ := h.heap.newNil e
  exact ⟨_, h.none h2 h1, h2, h3⟩

theorem aop_append_nil {t t' e : TypeId} {ti ti' te : TI} {x y : Operand} {news : List AV} {s : Prop} (hg : gcond E o = some true) (ho : o.op = .call { callee := .builtin .append, args := #[x, y], argTypes := #[t, t'] }) (ht : tinf P t = some ti) (hk : ti.kind = .sl e)
    (ht' : tinf P t' = some ti') (hk' : ti'.kind = .str ∨ ∃ e2, ti'.kind = .sl e2) (hte : tinf P e = some te) (hx : (lk E x).a = .v (.slice none 0 0)) (hsrc : asrc σ te.size (lk E y).a = some (s, news))
    (hs : opsC E o.op.operands.toList ∧ s ∧ news.length * te.bytes ≤ 140737488355328 ∧ news.length ≤ 4611686018427387904)
    (hK : putK N o.dst ⟨true, .os σ.length 0 0 news.length⟩ K E (σ ++ [.row 0 te.size news])) : AOp P N o E σ K := by
  intro a w ρ hst
  rw [gcond_sound hst hg]
  obtain ⟨hc, hss, hbytes, hmax⟩ := hs
  have hc := opsC_iff.1 hc
  obtain ⟨d, hd0, hd, hu⟩ := tinf_underlying ht w
  have hdd := tk_sl (hd.symm.trans hk); subst hdd
  obtain ⟨d', hd0', hd', hu'⟩ := tinf_underlying ht' w
  have hdk : d' = .string ∨ ∃ e2, d' = .slice e2 := by
    rcases hk' with hk' | ⟨e2, hk'⟩
    · exact .inl (tk_str (hd'.symm.trans hk'))
    · exact .inr ⟨e2, tk_sl (hd'.symm.trans hk')⟩
  have hxv := hst.val x (hc x (by simp [ho, Op.operands, Call.operands]))
  have hy' := hst.val y (hc y (by simp [ho, Op.operands, Call.operands]))
  obtain ⟨cs, hcs, hlenOf, hfirst⟩ := asrc_sound (P := P) hst.heap hsrc hss hy'
  rw [hx] at hxv
  simp only [Rep] at hxv
  have lift : ∀ {v : Value} {w' : World}, (Builtin.append_ #[t, t'] o.type #[a.eval x, a.eval y]).run P w = .ok v w' → OpQ N w (lm σ ρ) K (a.put o.dst v) w' → o.oper.wp P a w (OpQ N w (lm σ ρ) K) NoExit := by
    intro v w' hr hq
    have hrun : (execOp a.eval o.oper).run P w = .ok (.value v) w' := by
      simp only [execOp, POp.oper, ho, resolve, Sem.run_bind, Sem.run_pure, Result.andThen_ok, invoke, builtin, List.map_toArray, List.map_cons, List.map_nil, hr]
    simp only [Oper.wp, hrun, Oper.upon]
    exact hq
  simp only [if_true]
  by_cases hm : news.length = 0
  · have hn0 : news = [] := List.eq_nil_of_length_eq_zero hm
    subst hn0
    have hrun := run_append_fits' (P := P) (ty := o.type) (w' := w) (base := none) (n := 0) (cap := 0) hd0 hd0' hdk hte hlenOf (by simpa [RepE] using hfirst w rfl) (by simp) (by simp)
    rw [← hxv] at hrun
    refine lift hrun ?_
    obtain ⟨h1, h2, h3⟩ := hst.heap.newNil te.size
    refine OpQ.of hst (Tr.refl _ _) h2 h1 ?_ hK
    simp only [EV.ok, Rep, if_true, h3, hxv]
    exact ⟨rfl, rfl, rfl⟩
  · obtain ⟨newCap, rest, w', h1, h2, h3, h4, h5, h6⟩ := run_append_grows' (P := P) (ty := o.type) (base := none) (n := 0) (cap := 0) (olds := []) hd0 hd0' hdk hte hlenOf hfirst (fun w' _ => by simp [Builtin.firstCells]) (by omega) (by rw [Nat.zero_add]; exact hbytes) (by omega)
    rw [← hxv] at h6
    refine lift h6 ?_
    obtain ⟨w1, w2, w3⟩ := hst.heap.newRow te.size news cs rest e (0, 0) (fun off _ => by simp) hcs
    have hw : ∀ b : Nat, w'.heap[b]? = (w.alloc (.cells (cs ++ rest).toArray e (0, 0))).heap[b]? := fun b => by
      rw [h3]; show _ = (w.heap.push (.cells (cs ++ rest).toArray e (0, 0)))[b]?; simp
    have htr : Tr w (lm σ ρ) w' (lm (σ ++ [.row 0 te.size news]) (ρ ++ [some (w.heap.size, (cs ++ rest).length)])) :=
      ⟨h4, h5, by rw [h3]; simp, fun b hb ho => by rw [hw]; exact w2.keep b hb ho, w2.own, w2.loc⟩
    have htr2 : Tr (w.alloc (.cells (cs ++ rest).toArray e (0, 0))) (lm (σ ++ [.row 0 te.size news]) (ρ ++ [some (w.heap.size, (cs ++ rest).length)])) w' (lm (σ ++ [.row 0 te.size news]) (ρ ++ [some (w.heap.size, (cs ++ rest).length)])) :=
      ⟨by rw [h4]; rfl, by rw [h5]; rfl, by rw [h3]; simp, fun b hb ho => hw b, fun _ h => .inl h, fun _ _ _ _ => .inl rfl⟩
    have hh : HeapOK w' (σ ++ [.row 0 te.size news]) (ρ ++ [some (w.heap.size, (cs ++ rest).length)]) :=
      ⟨w1.len, fun i o r ho hr => (w1.obj i o r ho hr).trV htr2 (by
        cases o with
        | dead g => trivial
        | hole => trivial
        | row g e es => exact AllIL.all (fun _ => trivial) es
        | tro g t e es => exact AllIL.all (fun _ => trivial) es
        | it g s n => trivial
        | map g es => exact fun x _ => AllI.all (fun _ => trivial) x.2) (fun b s _ => hw b), w1.inj, w1.glob.tr htr2⟩
    refine OpQ.of hst (Tr.refl _ _) htr hh ?_ hK
    simp only [EV.ok, Rep, if_true, w3]
    refine .inl ⟨newCap, by simp, by omega, ?_⟩
    have h7 := (repE_get hcs).1
    simp only [List.length_append, h7, h2, ← Nat.add_mul, Nat.zero_add]
    exact Nat.mul_le_mul_right _ (by omega)

end
end Go.Ab
