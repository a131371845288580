/-
  append: to a nil slice, and to a row of one's own.
-/
import Derived.Test.YtbinpbjeeiedhaaDoorAbJa
import Derived.Laws.Append
set_option linter.unusedVariables false
set_option linter.unusedSimpArgs false
set_option linter.unusedSectionVars false
namespace Go.Ab
open Go
variable [GlobFacts]

/-- An object of which a later generation takes the place. -/
theorem lm_regen {σ : Heap} {ρ : Locs} {i g e : Nat} {es es' : List AV} {r' : Option (Nat × Nat)} (hi : σ[i]? = some (.row g e es)) (hl : ρ.length = σ.length) {j g' : Nat} (hg : lm σ ρ j g' ≠ .bad) :
    lm (σ.set i (.row (g + 1) e es')) (ρ.set i r') j g' = lm σ ρ j g' ∨ lm (σ.set i (.row (g + 1) e es')) (ρ.set i r') j g' = .stale := by
  by_cases hij : i = j
  · subst hij
    right
    have hlt := (List.getElem?_eq_some_iff.1 hi).1
    have hle : g' ≤ g := by
      rcases Nat.lt_or_ge g g' with h | h
      · exfalso; apply hg
        unfold lm
        rw [hi]
        cases ρ[i]? with
        | none => rfl
        | some r => simp [loOf, AObj.gen, h]
      · exact h
    unfold lm
    rw [List.getElem?_set_self hlt, List.getElem?_set_self (by omega)]
    have e1 : ¬ (AObj.row (g + 1) e es').gen < g' := by simp only [AObj.gen]; omega
    have e2 : g' < (AObj.row (g + 1) e es').gen := by simp only [AObj.gen]; omega
    simp only [loOf]
    rw [if_neg e1, if_pos e2]
  · left
    unfold lm
    rw [List.getElem?_set_ne hij, List.getElem?_set_ne hij]

theorem HeapOK.regen {w w' : World} {σ : Heap} {ρ : Locs} (h : HeapOK w σ ρ) {i g e : Nat} {es : List AV} (hi : σ[i]? = some (.row g e es)) (es' : List AV) (r' : Option (Nat × Nat)) (hos : w'.os = w.os) (hout : w'.output = w.output) (hsize : w.heap.size ≤ w'.heap.size)
    (hkeep : ∀ b, b < w.heap.size → (∀ s, ρ[i]? ≠ some (some (b, s))) → w'.heap[b]? = w.heap[b]?) (hr' : ∀ b s, r' = some (b, s) → (∃ s', ρ[i]? = some (some (b, s'))) ∨ w.heap.size ≤ b)
    (hob : Tr w (lm σ ρ) w' (lm (σ.set i (.row (g + 1) e es')) (ρ.set i r')) → ObjOK w' (lm (σ.set i (.row (g + 1) e es')) (ρ.set i r')) (.row (g + 1) e es') r') :
    HeapOK w' (σ.set i (.row (g + 1) e es')) (ρ.set i r') ∧ Tr w (lm σ ρ) w' (lm (σ.set i (.row (g + 1) e es')) (ρ.set i r')) := by
  have hlt := (List.getElem?_eq_some_iff.1 hi).1
  have hlt' : i < ρ.length := by rw [h.len]; exact hlt
  have hloc : ∀ (j : Nat) b s, (ρ.set i r')[j]? = some (some (b, s)) → (j = i ∧ r' = some (b, s)) ∨ (j ≠ i ∧ ρ[j]? = some (some (b, s))) := by
    intro j b s hj
    by_cases hij : i = j
    · subst hij
      rw [List.getElem?_set_self hlt'] at hj
      cases hj
      exact .inl ⟨rfl, rfl⟩
    · rw [List.getElem?_set_ne hij] at hj
      exact .inr ⟨Ne.symm hij, hj⟩
  have htr : Tr w (lm σ ρ) w' (lm (σ.set i (.row (g + 1) e es')) (ρ.set i r')) := by
    refine ⟨hos, hout, hsize, fun b hb ho => hkeep b hb (fun s hs => ho (owned_of_loc h hs)), fun b hb => ?_, fun j g' _ hg => lm_regen hi h.len hg⟩
    obtain ⟨j, s, hj⟩ := owned_lm hb
    rcases hloc j b s hj with ⟨_, he⟩ | ⟨_, he⟩
    · rcases hr' b s he with ⟨s', h1⟩ | h1
      · exact .inl (owned_of_loc h h1)
      · exact .inr h1
    · exact .inl (owned_of_loc h he)
  refine ⟨⟨by simp [h.len], fun j o r ho hr => ?_, fun j k b s s' hj hk => ?_, h.glob.tr htr⟩, htr⟩
  · by_cases hij : i = j
    · subst hij
      rw [List.getElem?_set_self hlt] at ho
      rw [List.getElem?_set_self hlt'] at hr
      cases ho; cases hr
      exact hob htr
    · rw [List.getElem?_set_ne hij] at ho hr
      refine (h.obj j o r ho hr).trV htr ?_ (fun b s e => ?_)
      · cases o with
        | dead g => trivial
        | hole => trivial
        | row g e es => exact AllIL.all (fun _ => trivial) es
        | map g es => exact fun x _ => AllI.all (fun _ => trivial) x.2
      · exact hkeep b (h.lt (by rw [hr, e])) (fun s' hs' => hij (h.inj i j b s' s hs' (by rw [hr, e])))
  · rcases hloc j b s hj with ⟨e1, e2⟩ | ⟨e1, e2⟩ <;> rcases hloc k b s' hk with ⟨e3, e4⟩ | ⟨e3, e4⟩
    · rw [e1, e3]
    · rcases hr' b s e2 with ⟨s1, h1⟩ | h1
      · exact absurd (h.inj i k b s1 s' h1 e4) (Ne.symm e3)
      · have := h.lt e4; omega
    · rcases hr' b s' e4 with ⟨s1, h1⟩ | h1
      · exact absurd (h.inj i j b s1 s h1 e2) (Ne.symm e1)
      · have := h.lt e2; omega
    · exact h.inj j k b s s' e2 e4

theorem lm_regen_new {σ : Heap} {ρ : Locs} {i g e : Nat} {es es' : List AV} {r' : Option (Nat × Nat)} (hi : σ[i]? = some (.row g e es)) (hl : ρ.length = σ.length) : lm (σ.set i (.row (g + 1) e es')) (ρ.set i r') i (g + 1) = match r' with | some (b, sz) => .here b e sz | none => .nilv := by
  have hlt := (List.getElem?_eq_some_iff.1 hi).1
  unfold lm
  rw [List.getElem?_set_self hlt, List.getElem?_set_self (by omega)]
  simp only [loOf, AObj.gen, Nat.lt_irrefl, if_false]
  cases r' <;> rfl

/-! ### what is appended -/

def asrc (σ : Heap) (size : Nat) : AV → Option (Prop × List AV)
  | .sl e es => if e = size then some (True, es) else none
  | .v (.slice none 0 0) => some (True, [])
  | .os j g k n => match σ[j]? with
    | some (.row g' e es) => if g = g' ∧ e = size then some (k + n ≤ es.length, (es.drop k).take n) else none
    | _ => none
  | .v (.string s) => if size = 1 then some (True, s.data.toList.map fun b => .v (.int .u8 b.toNat)) else none
  | _ => none

theorem repE_cellV {w : World} {L : LM} {e : Nat} : ∀ {es : List AV} {xs : List Value}, RepE w L e es xs → ∀ c ∈ xs, cellV c = true
  | [], xs, h => by simp only [RepE] at h; subst h; simp
  | a :: es, xs, h => by
    obtain ⟨y, zs, rfl, hy, _, hs⟩ := h
    intro c hc
    rcases List.mem_append.1 hc with h1 | h1
    · exact hy.2 c h1
    · exact repE_cellV hs c h1

theorem repE_append {w : World} {L : LM} {e : Nat} : ∀ {es es' : List AV} {xs ys : List Value}, RepE w L e es xs → RepE w L e es' ys → RepE w L e (es ++ es') (xs ++ ys)
  | [], es', xs, ys, h, h' => by simp only [RepE] at h; subst h; exact h'
  | a :: es, es', xs, ys, h, h' => by
    obtain ⟨y, zs, rfl, hy, hr, hs⟩ := h
    exact ⟨y, zs ++ ys, by simp, hy, hr, repE_append hs h'⟩

theorem repE_bytes {w : World} {L : LM} : ∀ l : List UInt8, RepE w L 1 (l.map fun b => .v (.int .u8 b.toNat)) (l.map fun b => .int .u8 b.toNat)
  | [] => rfl
  | b :: l => ⟨.int .u8 b.toNat, _, rfl, ⟨rfl, by simp [Value.cells, cellV]⟩, rfl, repE_bytes l⟩

theorem asrc_sound {P : Program} {w : World} {σ : Heap} {ρ : Locs} (hh : HeapOK w σ ρ) {size : Nat} {x : AV} {s : Prop} {news : List AV} (h : asrc σ size x = some (s, news)) (hs : s) {u : Value} (hx : Rep w (lm σ ρ) x u) :
    ∃ cs : List Value, RepE w (lm σ ρ) size news cs ∧ (Builtin.lenOf u = pure news.length) ∧ ∀ w' : World, w'.heap = w.heap → (Builtin.firstCells size news.length u).run P w' = .ok cs.toArray w' := by
  have cellsEq : ∀ (w' : World), w'.heap = w.heap → ∀ a, w'.cell? a = w.cell? a := fun w' h a => by simp only [World.cell?, h]
  unfold asrc at h
  split at h
  · rename_i e es
    split at h
    · rename_i he; subst he
      cases h
      simp only [Rep] at hx
      rcases hx with ⟨rfl, rfl⟩ | ⟨b, off, cap, rfl, hn, hb, ho, xs, hr, hc⟩
      · exact ⟨[], rfl, rfl, fun w' _ => by simp [Builtin.firstCells]⟩
      · refine ⟨xs, hr, rfl, fun w' hw' => ?_⟩
        exact run_firstCells_some w' e news.length ⟨b, off, none⟩ news.length cap xs (repE_get hr).1 (fun j v hv => by
          rw [addr_add, cellsEq w' hw', hc j (List.getElem?_eq_some_iff.1 hv).1]; exact hv)
    · cases h
  · cases h
    simp only [Rep] at hx; subst hx
    exact ⟨[], rfl, rfl, fun w' _ => by simp [Builtin.firstCells]⟩
  · rename_i j g k n
    split at h
    · rename_i g' e es hj
      split at h
      · rename_i hge
        obtain ⟨rfl, rfl⟩ := hge
        cases h
        simp only [Rep] at hx
        rcases hh.row hj with ⟨hl, rfl, _⟩ | ⟨b, sz, xs, ys, t', fr, hl, _, hblk, hlen, _, hrep⟩
        · rw [hl] at hx
          obtain ⟨rfl, rfl, rfl⟩ := hx
          exact ⟨[], by simp [RepE], by simp [Builtin.lenOf], fun w' _ => by simp [Builtin.firstCells]⟩
        · rw [hl] at hx
          obtain ⟨y1, z1, hxs, hy1, hz1⟩ := repE_drop k (by omega) hrep
          obtain ⟨y2, z2, hz, hy2⟩ := repE_take n hz1
          have hln : ((es.drop k).take n).length = n := by simp; omega
          rcases hx with ⟨cap, rfl, hn, hcap⟩ | ⟨rfl, r, rfl, _⟩
          · refine ⟨y2, hy2, by simp only [Builtin.lenOf, hln], fun w' hw' => ?_⟩
            rw [hln]
            refine run_firstCells_some w' e n ⟨b, k * e, none⟩ n cap y2 (by have := (repE_get hy2).1; rw [hln] at this; exact this) (fun j v hv => ?_)
            have hjl := (List.getElem?_eq_some_iff.1 hv).1
            rw [addr_add, cellsEq w' hw']
            simp only [World.cell?, hblk, Option.isSome_none, Bool.false_eq_true, if_false, List.getElem?_toArray]
            rw [hxs, hz, ← hy1]
            rw [List.append_assoc, List.getElem?_append_right (by omega), Nat.add_sub_cancel_left, List.append_assoc, List.getElem?_append_left hjl]
            exact hv
          · refine ⟨[], by simp [RepE], by simp [Builtin.lenOf], fun w' _ => ?_⟩
            simp only [List.take_zero, List.length_nil]
            cases r with
            | none => simp [Builtin.firstCells]
            | some a => simp [Builtin.firstCells, loadCells, loadCellsFrom]
      · cases h
    · cases h
  · rename_i st
    split at h
    · rename_i he; subst he
      cases h
      simp only [Rep] at hx; subst hx
      refine ⟨_, repE_bytes _, ?_, fun w' _ => ?_⟩
      · simp [Builtin.lenOf]
      · simp only [Builtin.firstCells, List.length_map, Sem.run_pure]
        congr 1
        have : st.extract 0 st.data.toList.length = st := by
          apply ByteArray.ext
          apply Array.ext'
          rw [Lib.extract_data]
          simp only [Nat.sub_zero, List.drop_zero]
          exact List.take_length
        rw [this]
        apply Array.ext'
        simp
    · cases h
  · cases h

/-- append, run: what is appended fits. -/
theorem run_append_fits' {P : Program} {w w' : World} {t t' e ty : TypeId} {d' : TypeDesc} {te : TI} {u : Value} {news : List Value} {m n cap : Nat} {base : Option Addr} (ht : P.underlying t = some (.slice e)) (ht' : P.underlying t' = some d') (hd' : d' = .string ∨ ∃ e2, d' = .slice e2) (hte : tinf P e = some te)
    (hlen : Builtin.lenOf u = pure m) (hsrc : (Builtin.firstCells te.size m u).run P w = .ok news.toArray w) (hroom : n + m ≤ cap)
    (hst : (match base with | some a => storeCells (a.add (n * te.size)) news | none => pure ()).run P w = .ok () w') :
    (Builtin.append_ #[t, t'] ty #[.slice base n cap, u]).run P w = .ok (.slice base (n + m) cap) w' := by
  rcases hd' with rfl | ⟨e2, rfl⟩
  all_goals simp only [Builtin.append_, List.getElem?_toArray, List.getElem?_cons_zero, List.getElem?_cons_succ, Sem.run_bind, run_underlying' ht, run_underlying' ht', Result.andThen_ok, Sem.run_pure, tinf_size hte]
  all_goals simp only [Bool.false_eq_true, if_false, hlen, Sem.run_pure, Result.andThen_ok, if_pos hroom, Sem.run_bind, hsrc, Bool.not_false, if_true]
  all_goals
    cases base with
    | none => simp only [Sem.run_pure] at hst ⊢; cases hst; rfl
    | some a => simp only at hst ⊢; simp only [Sem.run_bind, hst, Result.andThen_ok, Sem.run_pure]

/-- append, run: a new row is made. -/
theorem run_append_grows' {P : Program} {w : World} {t t' e ty : TypeId} {d' : TypeDesc} {te : TI} {u : Value} {news olds : List Value} {m n cap : Nat} {base : Option Addr} (ht : P.underlying t = some (.slice e)) (ht' : P.underlying t' = some d') (hd' : d' = .string ∨ ∃ e2, d' = .slice e2) (hte : tinf P e = some te)
    (hlen : Builtin.lenOf u = pure m) (hsrc : ∀ w' : World, w'.heap = w.heap → (Builtin.firstCells te.size m u).run P w' = .ok news.toArray w') (hold : ∀ w' : World, w'.heap = w.heap → (Builtin.firstCells te.size n (.slice base n cap)).run P w' = .ok olds.toArray w')
    (hroom : cap < n + m) (hb : (n + m) * te.bytes ≤ 140737488355328) (hn : n + m ≤ 9223372036854775807) :
    ∃ (newCap : Nat) (rest : List Value) (w' : World), n + m ≤ newCap ∧ rest.length = (newCap - (n + m)) * te.size ∧ w'.heap = w.heap.push (.cells (olds ++ news ++ rest).toArray e (0, 0)) ∧ w'.os = w.os ∧ w'.output = w.output ∧
      (Builtin.append_ #[t, t'] ty #[.slice base n cap, u]).run P w = .ok (.slice (some ⟨w.heap.size, 0, none⟩) (n + m) newCap) w' := by
  have hge := grownCap_ge' w (n + m) cap e
  obtain ⟨i, _, _, hinf, _, _, _, _, _, _, _, hib, _⟩ := tinf_parts hte
  have hi : ∀ w : World, (typeInfo e).run P w = .ok i w := fun w => by simp [typeInfo, program, Sem.run, hinf]
  obtain ⟨z, hzv, _, hfit⟩ := tinf_zero hte w.drew
  have hfits := growslice_fits hroom hb
  have hask : ∀ (w : World) k, (askRoom k).run P w = .ok () w := fun w k => by unfold askRoom; split <;> simp [mark, Sem.run]
  refine ⟨grownCap w (n + m) cap e, (Builtin.zeroCells z.cells (grownCap w (n + m) cap e - (n + m))).toList, w.drew.alloc (.cells (olds.toArray ++ news.toArray ++ Builtin.zeroCells z.cells (grownCap w (n + m) cap e - (n + m))) e), hge, by simp [size_zeroCells', hfit.2.1], ?_, rfl, rfl, ?_⟩
  rotate_left 1
  · have h1 : ¬ (n + m ≤ cap) := by omega
    have h2 : ¬ (((n + m : Nat) : Int) > IntKind.i64.max) := by have : IntKind.i64.max = 9223372036854775807 := rfl; omega
    have h3 : ¬ (Builtin.nextslicecap (n + m) cap * te.bytes > 2 ^ 48) := by omega
    have h4 : ¬ (((n + m : Nat) : Int) > IntKind.i64.max ∧ (false = true ∨ te.bytes = 0)) := fun h => h2 h.1
    have h5 : ¬ (((n + m : Nat) : Int) > IntKind.i64.max ∧ (False ∨ te.bytes = 0)) := fun h => h2 h.1
    have hch : (choose (.appendCap (n + m) cap e)).run P w = .ok (grownCap w (n + m) cap e) w.drew := rfl
    rcases hd' with rfl | ⟨e2, rfl⟩
    all_goals simp only [Builtin.append_, List.getElem?_toArray, List.getElem?_cons_zero, List.getElem?_cons_succ, Sem.run_bind, run_underlying' ht, run_underlying' ht', Result.andThen_ok, Sem.run_pure, tinf_size hte]
    all_goals simp only [Bool.false_eq_true, if_false, hlen, Sem.run_pure, Result.andThen_ok, if_neg h1, Sem.run_bind, hi, ← hib, Bool.not_false, if_true]
    all_goals simp only [if_neg h5, if_neg h3, Sem.run_bind, Sem.run_pure, Result.andThen_ok]
    all_goals simp only [hi, ← hib, if_neg h3, Sem.run_bind, Result.andThen_ok, hch, hask, hold w.drew rfl, hsrc w.drew rfl, hzv]
    all_goals rfl
  · show w.heap.push _ = _
    congr 2
    apply Array.ext'
    simp
where
  grownCap_ge' (w : World) (need old : Nat) (e : TypeId) : need ≤ grownCap w need old e := by simp [grownCap, Question.cut]
  size_zeroCells' (z : Array Value) (n : Nat) : (Builtin.zeroCells z n).size = n * z.size := by simp [Builtin.zeroCells]

end Go.Ab
