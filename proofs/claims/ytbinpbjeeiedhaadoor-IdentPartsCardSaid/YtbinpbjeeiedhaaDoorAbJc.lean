/-
  append, as an operation of a walk.
-/
import Derived.Test.YtbinpbjeeiedhaaDoorAbJb
set_option linter.unusedVariables false
set_option linter.unusedSimpArgs false
set_option linter.unusedSectionVars false
namespace Go.Ab
open Go
variable [GlobFacts]

section
variable {P : Program} {N : Nat} {o : POp} {E : Env} {σ : Heap} {K : Env → Heap → Prop}

/-- behind a new row: the object has a later generation, and lies there -/
theorem fin_grow {a : Act} {w w' : World} {ρ : Locs} {i g n newCap sz0 : Nat} {es news : List AV} {olds cs rest : List Value} {e : TypeId} (hst : St N a w ρ E σ) (hi : σ[i]? = some (.row g sz0 es)) (hold : RepE w (lm σ ρ) sz0 (es.take n) olds) (hn : n ≤ es.length) (hnew : RepE w (lm σ ρ) sz0 news cs)
    (hcap : n + news.length ≤ newCap) (hrest : rest.length = (newCap - (n + news.length)) * sz0) (hheap : w'.heap = w.heap.push (.cells (olds ++ cs ++ rest).toArray e (0, 0))) (hos : w'.os = w.os) (hout : w'.output = w.output)
    (hK : putK N o.dst ⟨true, .os i (g + 1) 0 (n + news.length)⟩ K E (σ.set i (.row (g + 1) sz0 (es.take n ++ news)))) :
    OpQ N w (lm σ ρ) K (a.put o.dst (.slice (some ⟨w.heap.size, 0, none⟩) (n + news.length) newCap)) w' := by
  have hlen : (olds ++ cs ++ rest).length = newCap * sz0 := by
    have h1 := (repE_get hold).1
    have h2 := (repE_get hnew).1
    rw [List.length_take, Nat.min_eq_left hn] at h1
    simp only [List.length_append, h1, h2, hrest, ← Nat.add_mul]
    congr 1; omega
  obtain ⟨h1, h2⟩ := hst.heap.regen (w' := w') hi (es.take n ++ news) (some (w.heap.size, (olds ++ cs ++ rest).length)) hos hout (by rw [hheap]; simp) (fun b hb _ => by rw [hheap, Array.getElem?_push, if_neg (by omega)])
    (fun b s hb => by cases hb; exact .inr (Nat.le_refl _)) (fun htr => ⟨olds ++ cs, rest, e, (0, 0), by rw [hheap]; simp, rfl, fun off _ => by simp, repE_append (RepE.tr htr hold) (RepE.tr htr hnew)⟩)
  have hl := lm_regen_new (es' := es.take n ++ news) (r' := some (w.heap.size, (olds ++ cs ++ rest).length)) hi hst.heap.len
  refine OpQ.of hst (Tr.refl _ _) h2 h1 ?_ hK
  simp only [EV.ok, Rep, if_true, hl]
  exact .inl ⟨newCap, by simp, hcap, by rw [hlen]; simp⟩

theorem aop_append_os {t t' e : TypeId} {ti ti' te : TI} {x y : Operand} {i g n : Nat} {es news : List AV} {s : Prop} (hg : gcond E o = some true) (ho : o.op = .call { callee := .builtin .append, args := #[x, y], argTypes := #[t, t'] }) (ht : tinf P t = some ti) (hk : ti.kind = .sl e)
    (ht' : tinf P t' = some ti') (hk' : ti'.kind = .str ∨ ∃ e2, ti'.kind = .sl e2) (hte : tinf P e = some te) (hx : (lk E x).a = .os i g 0 n) (hi : σ[i]? = some (.row g te.size es)) (hsrc : asrc σ te.size (lk E y).a = some (s, news))
    (hs : opsC E o.op.operands.toList ∧ s ∧ n ≤ es.length ∧ (n + news.length) * te.bytes ≤ 140737488355328 ∧ n + news.length ≤ 4611686018427387904)
    (hK : putK N o.dst ⟨true, .os i (g + 1) 0 (n + news.length)⟩ K E (σ.set i (.row (g + 1) te.size (es.take n ++ news)))) : AOp P N o E σ K := by
  intro a w ρ hst
  rw [gcond_sound hst hg]
  obtain ⟨hc, hss, hnl, hbytes, hmax⟩ := hs
  have hc := opsC_iff.1 hc
  obtain ⟨d, hd0, hd, hu⟩ := tinf_underlying ht w
  have hdd := tk_sl (hd.symm.trans hk); subst hdd
  obtain ⟨d', hd0', hd', hu'⟩ := tinf_underlying ht' w
  have hdk : d' = .string ∨ ∃ e2, d' = .slice e2 := by
    rcases hk' with hk' | ⟨e2, hk'⟩
    · exact .inl (tk_str (hd'.symm.trans hk'))
    · exact .inr ⟨e2, tk_sl (hd'.symm.trans hk')⟩
  have hx' := hst.val x (hc x (by simp [ho, Op.operands, Call.operands]))
  have hy' := hst.val y (hc y (by simp [ho, Op.operands, Call.operands]))
  obtain ⟨cs, hcs, hlenOf, hfirst⟩ := asrc_sound (P := P) hst.heap hsrc hss hy'
  have hcsl := (repE_get hcs).1
  rw [hx] at hx'
  simp only [Rep] at hx'
  have lift : ∀ {v : Value} {w' : World}, (Builtin.append_ #[t, t'] o.type #[a.eval x, a.eval y]).run P w = .ok v w' → OpQ N w (lm σ ρ) K (a.put o.dst v) w' → o.oper.wp P a w (OpQ N w (lm σ ρ) K) NoExit := by
    intro v w' hr hq
    have hrun : (execOp a.eval o.oper).run P w = .ok (.value v) w' := by
      simp only [execOp, POp.oper, ho, resolve, Sem.run_bind, Sem.run_pure, Result.andThen_ok, invoke, builtin, List.map_toArray, List.map_cons, List.map_nil, hr]
    simp only [Oper.wp, hrun, Oper.upon]
    exact hq
  simp only [if_true]
  have hfirst0 : ∀ (r : Option Addr) (w' : World), (Builtin.firstCells te.size 0 (.slice r 0 0)).run P w' = .ok #[] w' := fun r w' => by
    cases r with
    | none => simp [Builtin.firstCells]
    | some a => simp [Builtin.firstCells, loadCells, loadCellsFrom]
  rcases hst.heap.row hi with ⟨hl, rfl, hr⟩ | ⟨b, sz, xs, ys, t0, fr, hl, hr, hblk, hlen, hfr, hrep⟩
  · rw [hl] at hx'
    obtain ⟨_, rfl, hxv⟩ := hx'
    by_cases hm : news.length = 0
    · have hn0 : news = [] := List.eq_nil_of_length_eq_zero hm
      subst hn0
      have hrun := run_append_fits' (P := P) (ty := o.type) (w' := w) (base := none) (n := 0) (cap := 0) hd0 hd0' hdk hte hlenOf (by simpa [RepE] using hfirst w rfl) (by simp) (by simp)
      rw [← hxv] at hrun
      refine lift hrun ?_
      obtain ⟨h1, h2⟩ := hst.heap.regen (w' := w) hi [] none rfl rfl (Nat.le_refl _) (fun _ _ _ => rfl) (fun b s h => by cases h) (fun _ => rfl)
      have hl' := lm_regen_new (es' := []) (r' := none) hi hst.heap.len
      refine OpQ.of hst (Tr.refl _ _) h2 h1 ?_ (by simpa using hK)
      simp only [EV.ok, Rep, if_true, hl', hxv]
      exact ⟨rfl, rfl, rfl⟩
    · obtain ⟨newCap, rest, w', h1, h2, h3, h4, h5, h6⟩ := run_append_grows' (P := P) (ty := o.type) (base := none) (n := 0) (cap := 0) (olds := []) hd0 hd0' hdk hte hlenOf hfirst (fun w' _ => hfirst0 none w') (by omega) (by omega) (by omega)
      rw [← hxv] at h6
      exact lift h6 (fin_grow hst hi (olds := []) (by simp [RepE]) (by simp) hcs h1 h2 h3 h4 h5 hK)
  · rw [hl] at hx'
    obtain ⟨y1, z1, hxs, hy1⟩ := repE_take n hrep
    have hy1l := (repE_get hy1).1
    rw [List.length_take, Nat.min_eq_left hnl] at hy1l
    rcases hx' with ⟨cap, hxv, hn, hcap⟩ | ⟨rfl, r, hxv, hrb⟩
    · simp only [Nat.zero_mul, Nat.zero_add] at hxv hcap
      by_cases hroom : n + news.length ≤ cap
      · have hle : n * te.size + cs.length ≤ (xs ++ ys).length := by
          rw [hcsl, ← Nat.add_mul, hlen]
          exact Nat.le_trans (Nat.mul_le_mul_right _ hroom) hcap
        have hstore := run_storeCells' (P := P) cs 0 (off := n * te.size) hblk (by simpa using hle) (by rw [hlen]; exact hfr) (repE_cellV hcs)
        have hsplit : xs ++ ys = y1 ++ (z1 ++ ys).take cs.length ++ (z1 ++ ys).drop cs.length := by
          rw [hxs, List.append_assoc, List.append_assoc, List.take_append_drop]
        have hover : over (xs ++ ys) (n * te.size + 0) cs = (y1 ++ cs) ++ (z1 ++ ys).drop cs.length := by
          rw [hsplit, Nat.add_zero, ← hy1l]
          refine over_eq cs y1 _ _ ?_
          rw [List.length_take]
          have : (xs ++ ys).length = y1.length + (z1 ++ ys).length := by rw [hxs]; simp [Nat.add_assoc]
          omega
        rw [hover] at hstore
        have hrun := run_append_fits' (P := P) (ty := o.type) (base := some ⟨b, 0, none⟩) (n := n) (cap := cap) hd0 hd0' hdk hte hlenOf (hfirst w rfl) hroom (by simp only [addr_add, Nat.zero_add]; exact hstore)
        rw [← hxv] at hrun
        refine lift hrun ?_
        have hlen2 : ((y1 ++ cs) ++ (z1 ++ ys).drop cs.length).length = sz := by
          rw [← hlen]
          have h1 : (xs ++ ys).length = y1.length + (z1 ++ ys).length := by rw [hxs]; simp [Nat.add_assoc]
          simp only [List.length_append, List.length_drop] at h1 hle ⊢
          omega
        obtain ⟨h1, h2⟩ := hst.heap.regen (w' := wset w b (.cells ((y1 ++ cs) ++ (z1 ++ ys).drop cs.length).toArray t0 fr)) hi (es.take n ++ news) (some (b, sz)) rfl rfl (by simp) (fun b' hb' hne => wset_other _ (fun e => hne sz (by rw [hr, e])))
          (fun b' s' h => by cases h; exact .inl ⟨_, hr⟩) (fun htr => ⟨y1 ++ cs, (z1 ++ ys).drop cs.length, t0, fr, wset_same _ (hst.heap.lt hr), hlen2, hfr, repE_append (RepE.tr htr hy1) (RepE.tr htr hcs)⟩)
        have hl' := lm_regen_new (es' := es.take n ++ news) (r' := some (b, sz)) hi hst.heap.len
        refine OpQ.of hst (Tr.refl _ _) h2 h1 ?_ hK
        simp only [EV.ok, Rep, if_true, hl']
        exact .inl ⟨cap, by simp, hroom, by simpa using hcap⟩
      · have hold : ∀ w' : World, w'.heap = w.heap → (Builtin.firstCells te.size n (.slice (some ⟨b, 0, none⟩) n cap)).run P w' = .ok y1.toArray w' := fun w' hw' =>
          run_firstCells_some w' te.size n ⟨b, 0, none⟩ n cap y1 hy1l (fun j v hv => by
            have hjl := (List.getElem?_eq_some_iff.1 hv).1
            rw [addr_add]
            simp only [World.cell?, hw', hblk, Option.isSome_none, Bool.false_eq_true, if_false, List.getElem?_toArray, Nat.zero_add]
            rw [hxs, List.append_assoc, List.getElem?_append_left hjl]; exact hv)
        obtain ⟨newCap, rest, w', h1, h2, h3, h4, h5, h6⟩ := run_append_grows' (P := P) (ty := o.type) (base := some ⟨b, 0, none⟩) (n := n) (cap := cap) (olds := y1) hd0 hd0' hdk hte hlenOf hfirst hold (by omega) (by omega) (by omega)
        rw [← hxv] at h6
        exact lift h6 (fin_grow hst hi hy1 hnl hcs h1 h2 h3 h4 h5 hK)
    · by_cases hm : news.length = 0
      · have hn0 : news = [] := List.eq_nil_of_length_eq_zero hm
        subst hn0
        have hcs0 : cs = [] := by simpa [RepE] using hcs
        subst hcs0
        have hrun := run_append_fits' (P := P) (ty := o.type) (w' := w) (base := r) (n := 0) (cap := 0) hd0 hd0' hdk hte hlenOf (hfirst w rfl) (by simp) (by cases r <;> simp [storeCells])
        rw [← hxv] at hrun
        refine lift hrun ?_
        obtain ⟨h1, h2⟩ := hst.heap.regen (w' := w) hi [] (some (b, sz)) rfl rfl (Nat.le_refl _) (fun _ _ _ => rfl) (fun b' s' h => by cases h; exact .inl ⟨_, hr⟩) (fun _ => ⟨[], xs ++ ys, t0, fr, by simpa using hblk, by simpa using hlen, hfr, rfl⟩)
        have hl' := lm_regen_new (es' := []) (r' := some (b, sz)) hi hst.heap.len
        refine OpQ.of hst (Tr.refl _ _) h2 h1 ?_ (by simpa using hK)
        simp only [EV.ok, Rep, if_true, hl']
        exact .inr ⟨rfl, r, by simp, hrb⟩
      · obtain ⟨newCap, rest, w', h1, h2, h3, h4, h5, h6⟩ := run_append_grows' (P := P) (ty := o.type) (base := r) (n := 0) (cap := 0) (olds := []) hd0 hd0' hdk hte hlenOf hfirst (fun w' _ => hfirst0 r w') (by omega) (by omega) (by omega)
        rw [← hxv] at h6
        exact lift h6 (fin_grow hst hi (olds := []) (by simp [RepE]) (by simp) hcs h1 h2 h3 h4 h5 hK)

/-- A nil slice is a row that has nothing in it yet. -/
theorem St.newNil {a : Act} {w : World} {ρ : Locs} (h : St N a w ρ E σ) (e : Nat) : ∃ ρ', St N a w ρ' E (σ ++ [.row 0 e []]) ∧ Tr w (lm σ ρ) w (lm (σ ++ [.row 0 e []]) ρ') ∧ lm (σ ++ [.row 0 e []]) ρ' σ.length 0 = .nilv := by
  obtain ⟨h1, h2, h3⟩ := h.heap.newNil e
  exact ⟨_, h.none h2 h1, h2, h3⟩

theorem aop_append_nil {t t' e : TypeId} {ti ti' te : TI} {x y : Operand} {news : List AV} {s : Prop} (hg : gcond E o = some true) (ho : o.op = .call { callee := .builtin .append, args := #[x, y], argTypes := #[t, t'] }) (ht : tinf P t = some ti) (hk : ti.kind = .sl e)
    (ht' : tinf P t' = some ti') (hk' : ti'.kind = .str ∨ ∃ e2, ti'.kind = .sl e2) (hte : tinf P e = some te) (hx : (lk E x).a = .v (.slice none 0 0)) (hsrc : asrc σ te.size (lk E y).a = some (s, news))
    (hs : opsC E o.op.operands.toList ∧ s ∧ news.length * te.bytes ≤ 140737488355328 ∧ news.length ≤ 4611686018427387904)
    (hK : putK N o.dst ⟨true, .os σ.length 0 0 news.length⟩ K E (σ ++ [.row 0 te.size news])) : AOp P N o E σ K := by
  intro a w ρ hst
  rw [gcond_sound hst hg]
  obtain ⟨hc, hss, hbytes, hmax⟩ := hs
  have hc := opsC_iff.1 hc
  obtain ⟨d, hd0, hd, hu⟩ := tinf_underlying ht w
  have hdd := tk_sl (hd.symm.trans hk); subst hdd
  obtain ⟨d', hd0', hd', hu'⟩ := tinf_underlying ht' w
  have hdk : d' = .string ∨ ∃ e2, d' = .slice e2 := by
    rcases hk' with hk' | ⟨e2, hk'⟩
    · exact .inl (tk_str (hd'.symm.trans hk'))
    · exact .inr ⟨e2, tk_sl (hd'.symm.trans hk')⟩
  have hxv := hst.val x (hc x (by simp [ho, Op.operands, Call.operands]))
  have hy' := hst.val y (hc y (by simp [ho, Op.operands, Call.operands]))
  obtain ⟨cs, hcs, hlenOf, hfirst⟩ := asrc_sound (P := P) hst.heap hsrc hss hy'
  rw [hx] at hxv
  simp only [Rep] at hxv
  have lift : ∀ {v : Value} {w' : World}, (Builtin.append_ #[t, t'] o.type #[a.eval x, a.eval y]).run P w = .ok v w' → OpQ N w (lm σ ρ) K (a.put o.dst v) w' → o.oper.wp P a w (OpQ N w (lm σ ρ) K) NoExit := by
    intro v w' hr hq
    have hrun : (execOp a.eval o.oper).run P w = .ok (.value v) w' := by
      simp only [execOp, POp.oper, ho, resolve, Sem.run_bind, Sem.run_pure, Result.andThen_ok, invoke, builtin, List.map_toArray, List.map_cons, List.map_nil, hr]
    simp only [Oper.wp, hrun, Oper.upon]
    exact hq
  simp only [if_true]
  by_cases hm : news.length = 0
  · have hn0 : news = [] := List.eq_nil_of_length_eq_zero hm
    subst hn0
    have hrun := run_append_fits' (P := P) (ty := o.type) (w' := w) (base := none) (n := 0) (cap := 0) hd0 hd0' hdk hte hlenOf (by simpa [RepE] using hfirst w rfl) (by simp) (by simp)
    rw [← hxv] at hrun
    refine lift hrun ?_
    obtain ⟨h1, h2, h3⟩ := hst.heap.newNil te.size
    refine OpQ.of hst (Tr.refl _ _) h2 h1 ?_ hK
    simp only [EV.ok, Rep, if_true, h3, hxv]
    exact ⟨rfl, rfl, rfl⟩
  · obtain ⟨newCap, rest, w', h1, h2, h3, h4, h5, h6⟩ := run_append_grows' (P := P) (ty := o.type) (base := none) (n := 0) (cap := 0) (olds := []) hd0 hd0' hdk hte hlenOf hfirst (fun w' _ => by simp [Builtin.firstCells]) (by omega) (by rw [Nat.zero_add]; exact hbytes) (by omega)
    rw [← hxv] at h6
    refine lift h6 ?_
    obtain ⟨w1, w2, w3⟩ := hst.heap.newRow te.size news cs rest e (0, 0) (fun off _ => by simp) hcs
    have hw : ∀ b : Nat, w'.heap[b]? = (w.alloc (.cells (cs ++ rest).toArray e (0, 0))).heap[b]? := fun b => by
      rw [h3]; show _ = (w.heap.push (.cells (cs ++ rest).toArray e (0, 0)))[b]?; simp
    have htr : Tr w (lm σ ρ) w' (lm (σ ++ [.row 0 te.size news]) (ρ ++ [some (w.heap.size, (cs ++ rest).length)])) :=
      ⟨h4, h5, by rw [h3]; simp, fun b hb ho => by rw [hw]; exact w2.keep b hb ho, w2.own, w2.loc⟩
    have htr2 : Tr (w.alloc (.cells (cs ++ rest).toArray e (0, 0))) (lm (σ ++ [.row 0 te.size news]) (ρ ++ [some (w.heap.size, (cs ++ rest).length)])) w' (lm (σ ++ [.row 0 te.size news]) (ρ ++ [some (w.heap.size, (cs ++ rest).length)])) :=
      ⟨by rw [h4]; rfl, by rw [h5]; rfl, by rw [h3]; simp, fun b hb ho => hw b, fun _ h => .inl h, fun _ _ _ _ => .inl rfl⟩
    have hh : HeapOK w' (σ ++ [.row 0 te.size news]) (ρ ++ [some (w.heap.size, (cs ++ rest).length)]) :=
      ⟨w1.len, fun i o r ho hr => (w1.obj i o r ho hr).trV htr2 (by
        cases o with
        | dead g => trivial
        | hole => trivial
        | row g e es => exact AllIL.all (fun _ => trivial) es
        | map g es => exact fun x _ => AllI.all (fun _ => trivial) x.2) (fun b s _ => hw b), w1.inj, w1.glob.tr htr2⟩
    refine OpQ.of hst (Tr.refl _ _) htr hh ?_ hK
    simp only [EV.ok, Rep, if_true, w3]
    refine .inl ⟨newCap, by simp, by omega, ?_⟩
    have h7 := (repE_get hcs).1
    simp only [List.length_append, h7, h2, ← Nat.add_mul, Nat.zero_add]
    exact Nat.mul_le_mul_right _ (by omega)

end
end Go.Ab
