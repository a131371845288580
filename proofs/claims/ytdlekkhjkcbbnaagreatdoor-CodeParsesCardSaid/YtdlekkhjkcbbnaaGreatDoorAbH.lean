/-
  Operations that leave memory alone, one by one, and all of them: apure_sound.
  More operations that leave memory alone, and all of them: apure_sound.
-/
import Derived.Test.YtdlekkhjkcbbnaaGreatDoorAbF
import Derived.Lib.Strings
set_option linter.unusedVariables false
set_option linter.unusedSimpArgs false
set_option linter.unusedSectionVars false
namespace Go.Ab
open Go
variable [GlobFacts]

theorem tk_sl {d : TypeDesc} {e : TypeId} (h : TK.of d = .sl e) : d = .slice e := by cases d <;> simp [TK.of] at h <;> simp [h]
theorem tk_arr {d : TypeDesc} {n : Nat} {e : TypeId} (h : TK.of d = .arr n e) : d = .array n e := by cases d <;> simp [TK.of] at h <;> simp [h]
theorem tk_str {d : TypeDesc} (h : TK.of d = .str) : d = .string := by cases d <;> simp [TK.of] at h <;> rfl
theorem tk_int {d : TypeDesc} {k : IntKind} (h : TK.of d = .int k) : d = .int k := by cases d <;> simp [TK.of] at h <;> simp [h]
theorem tk_map {d : TypeDesc} {k e : TypeId} (h : TK.of d = .map k e) : d = .map k e := by cases d <;> simp [TK.of] at h <;> simp [h]
theorem tk_st {d : TypeDesc} {fs : List (Nat × TypeId)} (h : TK.of d = .st fs) : ∃ F, d = .struct F ∧ fs = F.toList.map fun f => (f.offset, f.type) := by
  cases d <;> simp [TK.of] at h
  exact ⟨_, rfl, h.symm⟩

theorem run_tinf {P : Program} {t : TypeId} {ti : TI} (h : tinf P t = some ti) (w : World) : ∃ d, ti.kind = TK.of d ∧ (underlying t).run P w = .ok d w :=
  let ⟨d, _, h2, h3⟩ := tinf_underlying h w
  ⟨d, h2, h3⟩

section
variable {P : Program} {σ : Heap} {w : World} {ρ : Locs}

theorem cells_sub {b base off : Nat} {y z : Value} {ti : TI} (hz : IsSub ti y off z) (hc : Cells w b base y.cells.toList) : Cells w b (base + off) z.cells.toList := by
  cases ha : ti.agg with
  | true =>
    have h1 := hz.agg ha
    have h2 := hz.len.resolve_right (by simp [ha])
    subst h1
    intro j hj
    simp only [cells_agg] at hj ⊢
    simp at hj
    have h3 := hc (off + j) (by simp; omega)
    rw [Nat.add_assoc, h3]
    simp [List.getElem?_take, List.getElem?_drop]
    intro h; omega
  | false =>
    rw [(hz.one ha).2]
    intro j hj
    simp at hj
    subst hj
    have h1 := (hz.one ha).1
    have h2 := (Array.getElem?_eq_some_iff.1 h1).1
    have h3 := hc off (by simpa using h2)
    simp only [Array.getElem?_toList, h1] at h3
    simpa using h3

theorem does_nilCheck (hh : HeapOK w σ ρ) {ec : Operand → Value} {o : Oper} {x : Operand} (ho : o.op = .nilCheck x) {a r : AV} {s : Prop}
    (h : (match a with | .ptr i g k off => if alive σ i g then some (True, AV.ptr i g k off) else none | .rp a => some (True, .rp a) | _ => none) = some (s, r)) (hx : Rep w (lm σ ρ) a (ec x)) :
    ∃ z, (execOp ec o).run P w = .ok (.value z) w ∧ Rep w (lm σ ρ) r z := by
  split at h
  · split at h
    · rename_i hal
      cases h
      obtain ⟨b, e, sz, _, hp⟩ := rep_ptr_alive hh hal hx
      exact ⟨ec x, by simp [execOp, ho, hp], hx⟩
    · cases h
  · cases h
    have h0 := hx
    simp only [Rep] at hx
    obtain ⟨b, off, hp, _⟩ := hx
    exact ⟨ec x, by simp [execOp, ho, hp], h0⟩
  · cases h

theorem does_fieldAddr (hh : HeapOK w σ ρ) {t : TypeId} {x r : AV} {f : Nat} {s : Prop} (h : afieldAddr P σ t x f = some (s, r)) (hs : s) {u : Value} (hx : Rep w (lm σ ρ) x u) :
    Does P w (lm σ ρ) (Instr.fieldAt t u f) r := by
  unfold afieldAddr at h
  split at h
  · rename_i ti ht
    obtain ⟨d, hd, hu⟩ := run_tinf ht w
    split at h
    · rename_i fs hk
      obtain ⟨F, rfl, rfl⟩ := tk_st (hd.symm.trans hk)
      split at h
      · rename_i o ft hf
        have hf' : ∃ fl, F[f]? = some fl ∧ fl.offset = o ∧ fl.type = ft := by
          simp at hf
          obtain ⟨fl, h1, h2, h3⟩ := hf
          exact ⟨fl, h1, h2, h3⟩
        obtain ⟨fl, hfl, rfl, rfl⟩ := hf'
        split at h
        · rename_i tf htf
          split at h
          · cases h
          · rename_i hsz
            have hrun : ∀ a : Addr, u = .pointer (some a) → (Instr.fieldAt t u f).run P w = .ok (.pointer (some (a.add fl.offset))) w := by
              rintro a rfl
              simp [Instr.fieldAt, hu, hfl, Instr.sureAddr, fieldPlace, tinf_size htf, hsz]
            split at h
            · rename_i i g k off
              split at h
              · rename_i hal
                cases h
                obtain ⟨b, e, sz, hl, hp⟩ := rep_ptr_alive hh hal hx
                refine ⟨_, hrun _ hp, ?_⟩
                simp only [Rep, hl, ptrAt, addr_add]
                simp [Nat.add_assoc]
              · cases h
            · rename_i a
              cases hb : asub tf a fl.offset with
              | none => simp [hb] at h
              | some q =>
                obtain ⟨s', r'⟩ := q
                simp only [hb] at h
                cases h
                simp only [Rep] at hx
                obtain ⟨b, off, hp, hb1, hb2, y, hy, hc⟩ := hx
                obtain ⟨z, hz, hr⟩ := asub_sound hb hs hy
                refine ⟨_, hrun _ hp, ?_⟩
                simp only [Rep, addr_add]
                exact ⟨b, off + fl.offset, rfl, hb1, hb2, z, hr, cells_sub hz hc⟩
            · cases h
        · cases h
      · cases h
    · cases h
  · cases h

end
end Go.Ab
set_option linter.unusedVariables false
set_option linter.unusedSimpArgs false
set_option linter.unusedSectionVars false
namespace Go.Ab
open Go
variable [GlobFacts]

section
variable {P : Program} {σ : Heap} {w : World} {ρ : Locs}

theorem repE_getP {w : World} {L : LM} {e : Nat} {es : List AV} {xs : List Value} (h : RepE w L e es xs) {k : Nat} (hk : k < es.length) : ∃ y, Rep w L (es[k]?.getD .any) y ∧ y.cells.size = e ∧ ∃ pre post, xs = pre ++ y.cells.toList ++ post ∧ pre.length = k * e := by
  obtain ⟨_, hg⟩ := repE_get h
  obtain ⟨y, h1, h2, pre, post, h3, h4, _⟩ := hg k _ (List.getElem?_eq_getElem hk)
  exact ⟨y, by rw [List.getElem?_eq_getElem hk]; exact h1, h2.1, pre, post, h3, h4⟩

theorem cells_mid {w : World} {b off n : Nat} {pre mid post : List Value} (h : Cells w b off (pre ++ mid ++ post)) (hn : pre.length = n) : Cells w b (off + n) mid := by
  intro j hj
  have := h (n + j) (by simp; omega)
  rw [Nat.add_assoc, this, List.append_assoc, List.getElem?_append_right (by omega), hn, List.getElem?_append_left (by omega)]
  congr 1; omega

theorem does_indexAddr (hh : HeapOK w σ ρ) {t : TypeId} {x ix r : AV} {s : Prop} (h : aindexAddr P σ t x ix = some (s, r)) (hs : s) {u v : Value} (hx : Rep w (lm σ ρ) x u) (hi : Rep w (lm σ ρ) ix v) :
    Does P w (lm σ ρ) (Instr.indexAt t u v) r := by
  unfold aindexAddr at h
  split at h
  · rename_i k i
    simp only [Rep] at hi; subst hi
    split at h
    · rename_i ti ht
      obtain ⟨d, hd, hu⟩ := run_tinf ht w
      split at h
      · rename_i e hk
        have hd' := tk_sl (hd.symm.trans hk); subst hd'
        split at h
        · rename_i te hte
          split at h
          · rename_i e' es
            split at h
            · rename_i he
              subst he
              cases h
              obtain ⟨h0, h1⟩ := hs
              simp only [Rep] at hx
              rcases hx with ⟨rfl, _⟩ | ⟨b, off, cap, rfl, hn, hb, ho, xs, hr, hc⟩
              · simp at h1; omega
              · have hlt : i.toNat < es.length := by omega
                obtain ⟨y, hy, hye, pre, post, hxs, hpre⟩ := repE_getP hr hlt
                subst hxs
                refine ⟨.pointer (some ⟨b, off + i.toNat * te.size, none⟩), ?_, ?_⟩
                · simp [Instr.indexAt, asIntOf, hu, h0, h1, tinf_size hte, addr_add]
                · simp only [Rep]
                  exact ⟨b, _, rfl, hb, ho, y, hy, cells_mid hc hpre⟩
            · cases h
          · rename_i j g k' n
            split at h
            · rename_i g' e' hj
              split at h
              · rename_i hge
                obtain ⟨rfl, rfl⟩ := hge
                obtain ⟨es, hj⟩ := rowE_some hj
                cases h
                obtain ⟨h0, h1⟩ := hs
                simp only [Rep] at hx
                rcases hh.row hj with ⟨hl, _, _⟩ | ⟨b, sz, xs, ys, t', fr, hl, _⟩
                · rw [hl] at hx
                  obtain ⟨_, rfl, _⟩ := hx
                  omega
                · rw [hl] at hx
                  rcases hx with ⟨cap, rfl, hn, hcap⟩ | ⟨hn, _⟩
                  case inr => omega
                  refine ⟨.pointer (some ⟨b, k' * te.size + i.toNat * te.size, none⟩), ?_, ?_⟩
                  · simp [Instr.indexAt, asIntOf, hu, h0, h1, tinf_size hte, addr_add]
                  · simp [Rep, hl, ptrAt, Nat.add_mul]
              · cases h
            · cases h
          · cases h
        · cases h
      · rename_i n e hk
        have hd' := tk_arr (hd.symm.trans hk); subst hd'
        split at h
        · rename_i te hte
          have hrun : ∀ a : Addr, u = .pointer (some a) → 0 ≤ i ∧ i < n → (Instr.indexAt t u (.int k i)).run P w = .ok (.pointer (some (a.add (i.toNat * te.size)))) w := by
            rintro a rfl ⟨h0, h1⟩
            simp [Instr.indexAt, asIntOf, hu, h0, h1, tinf_size hte, Instr.sureAddr]
          split at h
          · rename_i j g k' off
            split at h
            · rename_i hal
              cases h
              obtain ⟨b, e', sz, hl, hp⟩ := rep_ptr_alive hh hal hx
              refine ⟨_, hrun _ hp hs, ?_⟩
              simp [Rep, hl, ptrAt, addr_add, Nat.add_assoc]
            · cases h
          · rename_i a
            cases hb : asub te a (i.toNat * te.size) with
            | none => simp [hb] at h
            | some q =>
              obtain ⟨s', r'⟩ := q
              simp only [hb] at h
              cases h
              simp only [Rep] at hx
              obtain ⟨b, off, hp, hb1, hb2, y, hy, hc⟩ := hx
              obtain ⟨z, hz, hr⟩ := asub_sound hb hs.2.2 hy
              refine ⟨_, hrun _ hp ⟨hs.1, hs.2.1⟩, ?_⟩
              simp only [Rep, addr_add]
              exact ⟨b, _, rfl, hb1, hb2, z, hr, cells_sub hz hc⟩
          · cases h
        · cases h
      · cases h
    · cases h
  · cases h

theorem run_part {t : TypeId} {ti : TI} (ht : tinf P t = some ti) {y z : Value} {off : Nat} {xs : Array Value} (hy : y = .agg xs) (hz : IsSub ti y off z) : (part t xs off).run P w = .ok z w := by
  subst hy
  simp only [part, Sem.run_bind, tinf_agg ht, Result.andThen_ok]
  cases ha : ti.agg with
  | true =>
    have h1 := hz.agg ha
    simp only [cells_agg] at h1
    simp [tinf_size ht, h1, Nat.add_sub_cancel_left, List.extract_eq_take_drop]
    apply Array.ext'
    simp [List.extract_eq_take_drop, Nat.add_sub_cancel_left]
  | false =>
    have h1 := (hz.one ha).1
    simp only [cells_agg] at h1
    simp [h1]

theorem does_field {L : LM} {t : TypeId} {x r : AV} {f : Nat} {s : Prop} (h : afield P t x f = some (s, r)) (hs : s) {u : Value} (hx : Rep w L x u) : Does P w L (Instr.field t u f) r := by
  unfold afield at h
  split at h
  · rename_i ti ht
    obtain ⟨d, hd, hu⟩ := run_tinf ht w
    split at h
    · rename_i fs hk
      obtain ⟨F, rfl, rfl⟩ := tk_st (hd.symm.trans hk)
      split at h
      · rename_i o ft hf
        have hf' : ∃ fl, F[f]? = some fl ∧ fl.offset = o ∧ fl.type = ft := by
          simp at hf
          obtain ⟨fl, h1, h2, h3⟩ := hf
          exact ⟨fl, h1, h2, h3⟩
        obtain ⟨fl, hfl, rfl, rfl⟩ := hf'
        split at h
        · rename_i tf htf
          split at h
          · rename_i cs
            obtain ⟨z, hz, hr⟩ := asub_sound h hs hx
            simp only [Rep] at hx
            obtain ⟨xs, rfl, _⟩ := hx
            refine ⟨z, ?_, hr⟩
            simp [Instr.field, hu, hfl, asAgg, run_part htf rfl hz]
          · cases h
        · cases h
      · cases h
    · cases h
  · cases h

theorem does_index {L : LM} {t : TypeId} {x ix r : AV} {s : Prop} (h : aindex P t x ix = some (s, r)) (hs : s) {u v : Value} (hx : Rep w L x u) (hi : Rep w L ix v) : Does P w L (Instr.index t u v) r := by
  unfold aindex at h
  split at h
  · rename_i k i
    simp only [Rep] at hi; subst hi
    split at h
    · rename_i ti ht
      obtain ⟨d, hd, hu⟩ := run_tinf ht w
      split at h
      · rename_i hk
        have hd' := tk_str (hd.symm.trans hk); subst hd'
        split at h
        · rename_i s'
          cases h
          simp only [Rep] at hx; subst hx
          obtain ⟨h0, h1⟩ := hs
          have hlt : i.toNat < s'.size := by omega
          have hlt' : i.toNat < s'.data.toList.length := by simpa using hlt
          refine ⟨_, ?_, rfl⟩
          have : s'[i.toNat]? = some s'[i.toNat] := by simp [getElem?_pos, hlt]
          simp only [Instr.index, asIntOf, Sem.run_bind, Sem.run_pure, Result.andThen_ok, hu, if_pos h0, this]
          rw [List.getElem?_eq_getElem hlt']
          rfl
        · cases h
      · rename_i n e hk
        have hd' := tk_arr (hd.symm.trans hk); subst hd'
        split at h
        · rename_i te hte
          split at h
          · rename_i cs
            cases hb : asub te (.agg cs) (i.toNat * te.size) with
            | none => simp [hb] at h
            | some q =>
              obtain ⟨s', r'⟩ := q
              simp only [hb] at h
              cases h
              obtain ⟨z, hz, hr⟩ := asub_sound hb hs.2.2 hx
              simp only [Rep] at hx
              obtain ⟨xs, rfl, _⟩ := hx
              refine ⟨z, ?_, hr⟩
              simp [Instr.index, asIntOf, hu, hs.1, hs.2.1, tinf_size hte, run_part hte rfl hz]
          · cases h
        · cases h
      · cases h
    · cases h
  · cases h

theorem does_unary {L : LM} {op : UnOp} {x r : AV} {s : Prop} (h : aunary op x = some (s, r)) (hs : s) {u : Value} (hx : Rep w L x u) : Does P w L (Op.unary op u) r := by
  unfold aunary at h
  split at h <;> cases h <;> (simp only [Rep] at hx; subst hx; exact ⟨_, rfl, rfl⟩)

theorem run_bound {i : Int} {k : IntKind} {y : Nat} {c : BoundsCode} (h0 : 0 ≤ i) (h1 : i ≤ y) : (Instr.sliceBound (.int k i) y c).run P w = .ok i.toNat w := by
  simp [Instr.sliceBound, asIntOf, h0, h1]

def RepO (w : World) (L : LM) : Option AV → Option Value → Prop
  | none, none => True
  | some a, some x => Rep w L a x
  | _, _ => False

theorem bound_cases {L : LM} {d l : Int} {lo : Option AV} {lo' : Option Value} (hl : abound d lo = some l) (h : RepO w L lo lo') : (lo' = none ∧ l = d) ∨ ∃ k, lo' = some (.int k l) := by
  cases lo with
  | none =>
    cases lo' with
    | none => simp [abound] at hl; exact .inl ⟨rfl, hl.symm⟩
    | some _ => exact h.elim
  | some a =>
    cases lo' with
    | none => exact h.elim
    | some x =>
      unfold abound at hl
      split at hl
      · cases ‹some a = none›
      · rename_i k i e
        cases e; cases hl
        simp only [RepO, Rep] at h; subst h
        exact .inr ⟨_, rfl⟩
      · cases hl

/-- the two bounds, run -/
theorem run_bounds {L : LM} {isS : Bool} {len cap : Nat} {lo hi : Option AV} {lo' hi' : Option Value} {l h : Int} (hl : abound 0 lo = some l) (hh : abound len hi = some h) (hlo : RepO w L lo lo')
    (hhi : RepO w L hi hi') (h0 : 0 ≤ l) (h1 : l ≤ h) (h2 : h ≤ len) (hc : len ≤ cap) :
    (Instr.sliceBounds isS len cap lo' hi' none).run P w = .ok (l.toNat, h.toNat, cap) w := by
  have e1 : ∀ k c, (Instr.sliceBound (.int k h) cap c).run P w = .ok h.toNat w := fun k c => run_bound (by omega) (by omega)
  have e2 : ∀ k c, (Instr.sliceBound (.int k l) h.toNat c).run P w = .ok l.toNat w := fun k c => run_bound (by omega) (by omega)
  rcases bound_cases hl hlo with ⟨rfl, rfl⟩ | ⟨k, rfl⟩ <;> rcases bound_cases hh hhi with ⟨rfl, rfl⟩ | ⟨k', rfl⟩
  · simp [Instr.sliceBounds]
  · simp [Instr.sliceBounds, e1]
  · simp at e2; simp [Instr.sliceBounds, e2]
  · simp [Instr.sliceBounds, e1, e2]

theorem repE_take {L : LM} {e : Nat} : ∀ {es : List AV} {xs : List Value} (n : Nat), RepE w L e es xs → ∃ ys zs, xs = ys ++ zs ∧ RepE w L e (es.take n) ys
  | es, xs, 0, H => ⟨[], xs, rfl, rfl⟩
  | [], xs, n + 1, H => ⟨[], xs, rfl, by simp [RepE]⟩
  | a :: es, xs, n + 1, H => by
    obtain ⟨y, zs, rfl, hy, hr, hs⟩ := H
    obtain ⟨y1, z1, rfl, h2⟩ := repE_take n hs
    exact ⟨y.cells.toList ++ y1, z1, by simp, y, y1, rfl, hy, hr, h2⟩
theorem repE_drop {L : LM} {e : Nat} : ∀ {es : List AV} {xs : List Value} (n : Nat), n ≤ es.length → RepE w L e es xs → ∃ ys zs, xs = ys ++ zs ∧ ys.length = n * e ∧ RepE w L e (es.drop n) zs
  | es, xs, 0, _, H => ⟨[], xs, rfl, by simp, H⟩
  | [], xs, n + 1, h, H => by simp at h
  | a :: es, xs, n + 1, h, H => by
    obtain ⟨y, zs, rfl, hy, hr, hs⟩ := H
    obtain ⟨y1, z1, rfl, h1, h2⟩ := repE_drop n (by simpa using h) hs
    exact ⟨y.cells.toList ++ y1, z1, by simp, by simp [h1, hy.1, Nat.add_mul]; omega, h2⟩

theorem cells_pre {w : World} {b off : Nat} {xs ys : List Value} (h : Cells w b off (xs ++ ys)) : Cells w b off xs := by
  intro j hj
  rw [h j (by simp; omega), List.getElem?_append_left hj]
theorem cells_post {w : World} {b off n : Nat} {xs ys : List Value} (h : Cells w b off (xs ++ ys)) (hn : xs.length = n) : Cells w b (off + n) ys := by
  have := cells_mid (mid := ys) (post := []) (pre := xs) (by simpa using h) hn
  exact this

theorem bytes_rep {L : LM} : ∀ {es : List AV} {xs : List Value} {l : List UInt8}, bytesOf es = some l → RepE w L 1 es xs → xs = l.map fun b => Value.int .u8 b.toNat
  | [], xs, l, h, hr => by
    simp only [bytesOf] at h; cases h
    simp only [RepE] at hr; subst hr; rfl
  | a :: es, xs, l, h, hr => by
    unfold bytesOf at h
    split at h
    · rename_i heq; cases heq
    · rename_i n r heq
      cases heq
      split at h
      · rename_i l' hl'
        split at h
        · rename_i hn
          cases h
          simp only [RepE] at hr
          obtain ⟨y, zs, rfl, _, hy, hz⟩ := hr
          simp only [Rep] at hy; subst hy
          have := bytes_rep hl' hz
          subst this
          have e : (((UInt8.ofNat n.toNat).toNat : Nat) : Int) = n := by
            rw [UInt8.toNat_ofNat']; omega
          simp only [List.map_cons, e]
          rfl
        · cases h
      · cases h
    · cases h

theorem run_bytes {w : World} {b off cap : Nat} {l : List UInt8} (hc : Cells w b off (l.map fun b => Value.int .u8 b.toNat)) : (Conv.bytesToString (.slice (some ⟨b, off, none⟩) l.length cap)).run P w = .ok (.string (strOf l)) w := by
  have h1 := run_loadCells_list (P := P) (w := w) ⟨b, off, none⟩ (l.map fun b => Value.int .u8 b.toNat) (fun j v hv => by rw [addr_add, hc j (List.getElem?_eq_some_iff.1 hv).1]; exact hv)
  have h2 := Go.run_bytesToString (P := P) w ⟨b, off, none⟩ l.length cap (l.map fun b => (b.toNat : Int)) (by
    rw [List.length_map] at h1
    rw [h1]; simp [Function.comp_def])
  rw [h2]
  have h3 : ∀ (l : List UInt8) (s : ByteArray), (l.map fun b => (b.toNat : Int)).foldl (fun r n => r.push (UInt8.ofNat n.toNat)) s = ⟨s.data ++ l.toArray⟩ := by
    intro l
    induction l with
    | nil => intro s; simp
    | cons x l ih =>
      intro s
      simp only [List.map_cons, List.foldl_cons]
      rw [ih]
      simp [ByteArray.push]
  rw [h3]
  simp [strOf, ByteArray.empty, ByteArray.emptyWithCapacity]
  rfl

theorem does_convert (hh : HeapOK w σ ρ) {a b : TypeId} {x r : AV} {s : Prop} (h : aconvert P σ a b x = some (s, r)) (hs : s) {u : Value} (hx : Rep w (lm σ ρ) x u) : Does P w (lm σ ρ) (convert a b u) r := by
  unfold aconvert at h
  split at h
  · rename_i ta tb ha hb
    obtain ⟨da, hda, hua⟩ := run_tinf ha w
    obtain ⟨db, hdb, hub⟩ := run_tinf hb w
    split at h
    · rename_i k k' n hk
      have hd' := tk_int (hdb.symm.trans hk); subst hd'
      cases h
      simp only [Rep] at hx; subst hx
      exact ⟨_, by simp [convert, hua, hub, Conv.intToInt], rfl⟩
    · rename_i s' hk
      have hd' := tk_str (hdb.symm.trans hk); subst hd'
      cases h
      simp only [Rep] at hx; subst hx
      exact ⟨_, by simp [convert, hua, hub], rfl⟩
    · rename_i hk hns
      have hd' := tk_str (hdb.symm.trans hk); subst hd'
      split at h
      · rename_i e he
        have hd2 := tk_sl (hda.symm.trans he); subst hd2
        split at h
        · rename_i te hte
          obtain ⟨de, hde, hue⟩ := run_tinf hte w
          split at h
          · rename_i hu8
            have hd3 := tk_int (hde.symm.trans hu8); subst hd3
            have run : ∀ {a' : Option Addr} {n c : Nat} {z : Value}, (Conv.bytesToString (.slice a' n c)).run P w = .ok z w → (convert a b (.slice a' n c)).run P w = .ok z w := by
              intro a' n c z hv
              rw [← hv]
              simp [convert, hua, hub, hue]
            split at h
            · cases h
              simp only [Rep] at hx; subst hx
              exact ⟨_, run (by simp [Conv.bytesToString, strOf]; rfl), rfl⟩
            · rename_i es
              split at h
              · rename_i l hl
                cases h
                simp only [Rep] at hx
                rcases hx with ⟨rfl, rfl⟩ | ⟨b', off, cap, rfl, _, _, _, xs, hr, hc⟩
                · simp only [bytesOf] at hl; cases hl
                  exact ⟨_, run (by simp [Conv.bytesToString, strOf]; rfl), rfl⟩
                · have := bytes_rep hl hr
                  subst this
                  have hlen := (repE_get hr).1
                  simp only [List.length_map, Nat.mul_one] at hlen
                  refine ⟨_, run (by rw [← hlen]; exact run_bytes hc), rfl⟩
              · cases h
            · rename_i j g k n
              split at h
              · rename_i g' es hσ
                split at h
                · rename_i hgg
                  subst hgg
                  split at h
                  · rename_i l hl
                    cases h
                    simp only [Rep] at hx
                    have hln : ((es.drop k).take n).length = n := by simp; omega
                    rcases hh.row hσ with ⟨hlo, rfl, _⟩ | ⟨b', sz, xs, ys, t', fr, hlo, _, hblk, hlen, _, hrep⟩
                    · rw [hlo] at hx
                      obtain ⟨rfl, rfl, rfl⟩ := hx
                      simp only [List.drop_nil, List.take_nil, bytesOf] at hl; cases hl
                      exact ⟨_, run (by simp [Conv.bytesToString, strOf]; rfl), rfl⟩
                    · rw [hlo] at hx
                      obtain ⟨y1, z1, hxs, hy1, hz1⟩ := repE_drop k (by omega) hrep
                      obtain ⟨y2, z2, hz, hy2⟩ := repE_take n hz1
                      have hby := bytes_rep hl hy2
                      have hll : l.length = n := by
                        have := (repE_get hy2).1
                        rw [hln, hby, List.length_map, Nat.mul_one] at this; exact this
                      rcases hx with ⟨cap, rfl, hn, hcap⟩ | ⟨rfl, r', rfl, hr'⟩
                      · refine ⟨_, run (by
                          rw [← hll]
                          refine run_bytes fun j hj => ?_
                          rw [← hby] at hj ⊢
                          simp only [World.cell?, hblk, Option.isSome_none, Bool.false_eq_true, if_false, List.getElem?_toArray]
                          rw [hxs, hz, ← hy1]
                          rw [List.append_assoc, List.getElem?_append_right (by omega), Nat.add_sub_cancel_left, List.append_assoc, List.getElem?_append_left hj]), rfl⟩
                      · have : l = [] := List.eq_nil_of_length_eq_zero hll
                        subst this
                        refine ⟨_, run (z := .string (strOf [])) ?_, rfl⟩
                        cases r' with
                        | none => simp [Conv.bytesToString, strOf]; rfl
                        | some a' =>
                          obtain ⟨rfl, h0⟩ := hr' a' rfl
                          obtain ⟨bb, oo, ss⟩ := a'
                          simp only at h0; subst h0
                          exact run_bytes (l := []) (fun j hj => by simp at hj)
                  · cases h
                · cases h
              · cases h
            · cases h
          · cases h
        · cases h
      · cases h
    · cases h
  · cases h

theorem chunks_length (e : Nat) : ∀ (n : Nat) (cs : List AV), (chunks e n cs).length = n
  | 0, _ => rfl
  | n + 1, cs => by simp [chunks, chunks_length e n]

theorem repE_chunks {L : LM} {e : Nat} : ∀ (n : Nat) {cs : List AV} {xs : List Value}, cs.length = n * e → RepL w L cs xs → (∀ y ∈ xs, cellV y = true) → RepE w L e (chunks e n cs) xs
  | 0, cs, xs, h, hr, _ => by
    have : cs = [] := List.eq_nil_of_length_eq_zero (by simpa using h)
    subst this
    simp only [RepL] at hr
    simp [chunks, RepE, hr]
  | n + 1, cs, xs, h, hr, hq => by
    have hl := (repL_get hr).1
    have h1 : e ≤ cs.length := by rw [h, Nat.add_mul]; omega
    refine ⟨.agg (xs.take e).toArray, xs.drop e, by simp [cells_agg], ⟨by simp [cells_agg]; omega, fun c hc => hq c (List.mem_of_mem_take (by simpa [cells_agg] using hc))⟩,
      ⟨xs.take e, rfl, repL_take _ hr, fun y hy => hq y (List.mem_of_mem_take hy)⟩, repE_chunks n (by rw [List.length_drop, h, Nat.add_mul]; omega) (repL_drop _ hr) fun y hy => hq y (List.mem_of_mem_drop hy)⟩

theorem does_slice (hh : HeapOK w σ ρ) {t : TypeId} {x r : AV} {lo hi mx : Option AV} {s : Prop} (h : aslice P σ t x lo hi mx = some (s, r)) (hs : s) {u : Value} {lo' hi' mx' : Option Value} (hx : Rep w (lm σ ρ) x u)
    (hlo : RepO w (lm σ ρ) lo lo') (hhi : RepO w (lm σ ρ) hi hi') (hmx : RepO w (lm σ ρ) mx mx') : Does P w (lm σ ρ) (Instr.sliceAt t u lo' hi' mx') r := by
  unfold aslice at h
  split at h
  · cases h
  · have hm : mx' = none := by cases mx' with | none => rfl | some _ => exact hmx.elim
    subst hm
    split at h
    · rename_i ti ht
      obtain ⟨d, hd, hu⟩ := run_tinf ht w
      split at h
      · rename_i s' hk
        have hd' := tk_str (hd.symm.trans hk); subst hd'
        split at h
        · rename_i l hl' hl hh'
          cases h
          simp only [Rep] at hx; subst hx
          obtain ⟨h0, h1, h2⟩ := hs
          exact ⟨_, by simp [Instr.sliceAt, Instr.slice, hu, run_bounds hl hh' hlo hhi h0 h1 h2 (Nat.le_refl _)], rfl⟩
        · cases h
      · rename_i e e' es hk
        have hd' := tk_sl (hd.symm.trans hk); subst hd'
        split at h
        · rename_i te hte
          split at h
          · rename_i he
            subst he
            split at h
            · rename_i l hl' hl hh'
              cases h
              obtain ⟨h0, h1, h2⟩ := hs
              simp only [Rep] at hx
              rcases hx with ⟨rfl, rfl⟩ | ⟨b, off, cap, rfl, hn, hb, ho, xs, hr, hc⟩
              · simp at h2
                have e0 : l = 0 := by omega
                have e1 : hl' = 0 := by omega
                subst e0; subst e1
                refine ⟨.slice none 0 0, ?_, .inl ⟨by simp, rfl⟩⟩
                simp [Instr.sliceAt, Instr.slice, hu, run_bounds (len := 0) (cap := 0) hl (by simpa using hh') hlo hhi (by omega) (by omega) (by omega) (Nat.le_refl _), tinf_size hte]
              · have hb1 := run_bounds (P := P) (isS := true) hl hh' hlo hhi h0 h1 h2 hn
                obtain ⟨y1, z1, hxs, h3⟩ := repE_take hl'.toNat hr
                obtain ⟨y2, z2, hy, h4, h5⟩ := repE_drop l.toNat (by simp; omega) h3
                have hlen : ((es.take hl'.toNat).drop l.toNat).length = hl'.toNat - l.toNat := by simp; omega
                by_cases hml : cap = l.toNat
                · refine ⟨.slice (some ⟨b, off, none⟩) (hl'.toNat - l.toNat) (cap - l.toNat), ?_, ?_⟩
                  · simp only [Instr.sliceAt, Instr.slice, Sem.run_bind, hu, Result.andThen_ok, hb1, tinf_size hte, Sem.run_pure, if_pos hml]
                  · simp only [Rep]
                    have he : (es.take hl'.toNat).drop l.toNat = [] := List.eq_nil_of_length_eq_zero (by rw [hlen]; omega)
                    rw [he]
                    refine .inr ⟨b, off, _, by rw [show hl'.toNat - l.toNat = 0 from by omega]; rfl, by simp, hb, ho, [], rfl, fun j hj => by simp at hj⟩
                · refine ⟨.slice (some ⟨b, off + l.toNat * te.size, none⟩) (hl'.toNat - l.toNat) (cap - l.toNat), ?_, ?_⟩
                  · simp only [Instr.sliceAt, Instr.slice, Sem.run_bind, hu, Result.andThen_ok, hb1, tinf_size hte, Sem.run_pure, if_neg hml, Option.map_some, addr_add]
                  · simp only [Rep]
                    refine .inr ⟨b, _, _, by rw [hlen], by rw [hlen]; omega, hb, ho, z2, h5, ?_⟩
                    subst hxs; subst hy
                    exact cells_post (cells_pre hc) h4
            · cases h
          · cases h
        · cases h
      · rename_i e j g k n hk
        have hd' := tk_sl (hd.symm.trans hk); subst hd'
        split at h
        · rename_i te g' e' hte hj
          split at h
          · rename_i hge
            obtain ⟨rfl, rfl⟩ := hge
            obtain ⟨es, hj⟩ := rowE_some hj
            split at h
            · rename_i l hl' hl hh'
              cases h
              obtain ⟨h0, h1, h2⟩ := hs
              simp only [Rep] at hx ⊢
              have fin0 : ∀ r, u = .slice r 0 0 → n = 0 → Does P w (lm σ ρ) (Instr.sliceAt t u lo' hi' none) (.os j g (k + l.toNat) (hl' - l).toNat) ∨ True := fun _ _ _ => .inr trivial
              rcases hh.row hj with ⟨hlm, _, _⟩ | ⟨b, sz, xs, ys, t', fr, hlm, _⟩
              · rw [hlm] at hx
                obtain ⟨rfl, rfl, rfl⟩ := hx
                have e0 : l = 0 := by omega
                have e1 : hl' = 0 := by omega
                subst e0; subst e1
                refine ⟨.slice none 0 0, ?_, ?_⟩
                · simp [Instr.sliceAt, Instr.slice, hu, run_bounds (len := 0) (cap := 0) hl (by simpa using hh') hlo hhi (by omega) (by omega) (by omega) (Nat.le_refl _), tinf_size hte]
                · simp [Rep, hlm, osAt]
              · rw [hlm] at hx
                rcases hx with ⟨cap, rfl, hn, hcap⟩ | ⟨rfl, r, rfl, hrb⟩
                · have hb1 := run_bounds (P := P) (isS := true) hl hh' hlo hhi h0 h1 h2 hn
                  by_cases hml : cap = l.toNat
                  · refine ⟨.slice (some ⟨b, k * te.size, none⟩) (hl'.toNat - l.toNat) (cap - l.toNat), ?_, ?_⟩
                    · simp only [Instr.sliceAt, Instr.slice, Sem.run_bind, hu, Result.andThen_ok, hb1, tinf_size hte, Sem.run_pure, if_pos hml]
                    · simp only [Rep, hlm, osAt]
                      exact .inr ⟨by omega, _, by rw [show hl'.toNat - l.toNat = 0 from by omega, show cap - l.toNat = 0 from by omega], fun a ha => by cases ha; exact ⟨rfl, rfl⟩⟩
                  · refine ⟨.slice (some ⟨b, k * te.size + l.toNat * te.size, none⟩) (hl'.toNat - l.toNat) (cap - l.toNat), ?_, ?_⟩
                    · simp only [Instr.sliceAt, Instr.slice, Sem.run_bind, hu, Result.andThen_ok, hb1, tinf_size hte, Sem.run_pure, if_neg hml, Option.map_some, addr_add]
                    · simp only [Rep, hlm, osAt]
                      refine .inl ⟨cap - l.toNat, by rw [Nat.add_mul, show (hl' - l).toNat = hl'.toNat - l.toNat from by omega], by omega, ?_⟩
                      rw [show k + l.toNat + (cap - l.toNat) = k + cap from by omega]; exact hcap
                · have e0 : l = 0 := by omega
                  have e1 : hl' = 0 := by omega
                  subst e0; subst e1
                  refine ⟨.slice r 0 0, ?_, ?_⟩
                  · simp [Instr.sliceAt, Instr.slice, hu, run_bounds (len := 0) (cap := 0) hl (by simpa using hh') hlo hhi (by omega) (by omega) (by omega) (Nat.le_refl _), tinf_size hte]
                  · simp only [Rep, hlm, osAt]
                    exact .inr ⟨by simp, r, rfl, hrb⟩
            · cases h
          · cases h
        · cases h
      · rename_i n e cs hk
        have hd' := tk_arr (hd.symm.trans hk); subst hd'
        split at h
        · rename_i te hte
          split at h
          · rename_i hag
            cases h
            have hl' : lo' = none := by cases lo' with | none => rfl | some _ => exact hlo.elim
            have hh' : hi' = none := by cases hi' with | none => rfl | some _ => exact hhi.elim
            subst hl'; subst hh'
            simp only [Rep] at hx ⊢
            obtain ⟨b, off, rfl, hb, ho, y, ⟨xs, rfl, hr, hq⟩, hc⟩ := hx
            have hcl := chunks_length te.size n cs
            refine ⟨.slice (some ⟨b, off, none⟩) n n, ?_, .inr ⟨b, off, n, by rw [hcl], by rw [hcl]; exact Nat.le_refl _, hb, ho, xs, repE_chunks n hs hr hq, hc⟩⟩
            have hz : (Addr.mk b off none).add 0 = ⟨b, off, none⟩ := by rw [addr_add]; rfl
            simp [Instr.sliceAt, hu, Instr.sliceBounds, Instr.sureAddr, tinf_size hte, hz]
          · cases h
        · cases h
      · cases h
    · cases h

end
end Go.Ab
