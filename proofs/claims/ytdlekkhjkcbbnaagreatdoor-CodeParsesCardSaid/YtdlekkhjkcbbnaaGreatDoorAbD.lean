/-
  The abstract heap grows, is written, is read.
-/
import Derived.Test.YtdlekkhjkcbbnaaGreatDoorAbC
import Derived.Laws.World
set_option linter.unusedVariables false
set_option linter.unusedSimpArgs false
set_option linter.unusedSectionVars false
namespace Go.Ab
open Go
variable [GlobFacts]

theorem lm_push_old {σ : Heap} {ρ : Locs} {o : AObj} {r : Option (Nat × Nat)} {i g : Nat} (hl : ρ.length = σ.length) (hi : i < σ.length) : lm (σ ++ [o]) (ρ ++ [r]) i g = lm σ ρ i g := by
  unfold lm
  rw [List.getElem?_append_left hi, List.getElem?_append_left (by omega)]

theorem lm_push_new {σ : Heap} {ρ : Locs} {o : AObj} {r : Option (Nat × Nat)} {g : Nat} (hl : ρ.length = σ.length) : lm (σ ++ [o]) (ρ ++ [r]) σ.length g = loOf o r g := by
  unfold lm
  rw [List.getElem?_append_right (Nat.le_refl _), List.getElem?_append_right (by omega), hl]
  simp

theorem lm_push_bad {σ : Heap} {ρ : Locs} {i g : Nat} (hi : σ.length ≤ i) : lm σ ρ i g = .bad := by
  unfold lm
  rw [List.getElem?_eq_none hi]

/-- A new block, a new object. -/
theorem tr_push {w : World} {σ : Heap} {ρ : Locs} (h : HeapOK w σ ρ) (obj : Obj) (o : AObj) (sz : Nat) : Tr w (lm σ ρ) (w.alloc obj) (lm (σ ++ [o]) (ρ ++ [some (w.heap.size, sz)])) := by
  refine ⟨rfl, rfl, by simp, fun b hb _ => Below.heap_alloc w obj b hb, fun b hb => ?_, fun i g _ hg => .inl (lm_push_old h.len (lm_lt hg))⟩
  obtain ⟨i, s, hi⟩ := owned_lm hb
  rw [List.getElem?_append] at hi
  split at hi
  · exact .inl (owned_of_loc h hi)
  · right
    have := List.mem_of_getElem? hi
    simp at this
    omega
where
  Below.heap_alloc (w : World) (o : Obj) (k : Nat) (h : k < w.heap.size) : (w.alloc o).heap[k]? = w.heap[k]? := RowKit.Below.heap_alloc w o k h

theorem lm_push_none {σ : Heap} {ρ : Locs} {o : AObj} (hl : ρ.length = σ.length) {b : Nat} (h : Owned (lm (σ ++ [o]) (ρ ++ [none])) b) : ∃ (i s : Nat), ρ[i]? = some (some (b, s)) := by
  obtain ⟨i, s, hi⟩ := owned_lm h
  rw [List.getElem?_append] at hi
  split at hi
  · exact ⟨i, s, hi⟩
  · have := List.mem_of_getElem? hi
    simp at this

/-- A new object that lies nowhere yet. -/
theorem tr_pushNil {w : World} {σ : Heap} {ρ : Locs} (h : HeapOK w σ ρ) (o : AObj) : Tr w (lm σ ρ) w (lm (σ ++ [o]) (ρ ++ [none])) := by
  refine ⟨rfl, rfl, Nat.le_refl _, fun b hb _ => rfl, fun b hb => ?_, fun i g _ hg => .inl (lm_push_old h.len (lm_lt hg))⟩
  obtain ⟨i, s, hi⟩ := lm_push_none h.len hb
  exact .inl (owned_of_loc h hi)

theorem HeapOK.add {w w' : World} {σ : Heap} {ρ : Locs} {o : AObj} {r : Option (Nat × Nat)} (h : HeapOK w σ ρ) (htr : Tr w (lm σ ρ) w' (lm (σ ++ [o]) (ρ ++ [r])))
    (hold : ∀ b, b < w.heap.size → w'.heap[b]? = w.heap[b]?) (hlt : ∀ (i b s : Nat), ρ[i]? = some (some (b, s)) → b < w.heap.size) (hnew : ∀ b s, r = some (b, s) → w.heap.size ≤ b)
    (hob : ObjOK w' (lm (σ ++ [o]) (ρ ++ [r])) o r) : HeapOK w' (σ ++ [o]) (ρ ++ [r]) := by
  refine ⟨by simp [h.len], fun i o' r' ho hr => ?_, fun i j b s s' hi hj => ?_, h.glob.tr htr⟩
  · rw [List.getElem?_append] at ho hr
    split at ho
    · rename_i hi
      rw [if_pos (by rw [h.len]; exact hi)] at hr
      refine (h.obj i o' r' ho hr).trV htr ?_ (fun b s e => hold b (hlt i b s (by rw [hr, e])))
      cases o' with
      | dead g => trivial
      | hole => trivial
      | row g e es => exact AllIL.all (fun _ => trivial) es
      | tro g t e es => exact AllIL.all (fun _ => trivial) es
      | it g s n => trivial
      | map g es => exact fun x _ => AllI.all (fun _ => trivial) x.2
    · rename_i hi
      rw [if_neg (by rw [h.len]; exact hi)] at hr
      have h1 := List.mem_of_getElem? ho
      have h2 := List.mem_of_getElem? hr
      simp at h1 h2
      subst h1; subst h2
      exact hob
  · rw [List.getElem?_append] at hi hj
    split at hi
    · split at hj
      · exact h.inj i j b s s' hi hj
      · have h2 := List.mem_of_getElem? hj
        simp at h2
        have h3 := hlt i b s hi
        have h4 := hnew b s' h2.symm
        omega
    · split at hj
      · have h2 := List.mem_of_getElem? hi
        simp at h2
        have h3 := hlt j b s' hj
        have h4 := hnew b s h2.symm
        omega
      · rename_i h1 h2
        have h3 := (List.getElem?_eq_some_iff.1 hi).1
        have h4 := (List.getElem?_eq_some_iff.1 hj).1
        simp at h3 h4
        omega

theorem HeapOK.lt {w : World} {σ : Heap} {ρ : Locs} (h : HeapOK w σ ρ) {i b s : Nat} (hr : ρ[i]? = some (some (b, s))) : b < w.heap.size := by
  have hlt : i < σ.length := by rw [← h.len]; exact (List.getElem?_eq_some_iff.1 hr).1
  have hob := h.obj i σ[i] _ (List.getElem?_eq_getElem hlt) hr
  cases hc : σ[i] with
  | dead g => rw [hc] at hob; cases hob
  | hole => rw [hc] at hob; cases hob
  | row g e es => rw [hc] at hob; obtain ⟨xs, ys, t, fr, h1, _⟩ := hob; exact (Array.getElem?_eq_some_iff.1 h1).1
  | map g es => rw [hc] at hob; obtain ⟨_, ms, cl, h1, _⟩ := hob; exact (Array.getElem?_eq_some_iff.1 h1).1
  | tro g t e es => rw [hc] at hob; obtain ⟨xs, ys, h1, _⟩ := hob; exact (Array.getElem?_eq_some_iff.1 h1).1
  | it g s' n => rw [hc] at hob; exact (Array.getElem?_eq_some_iff.1 hob.2).1

/-- A new row of cells. -/
theorem HeapOK.newRow {w : World} {σ : Heap} {ρ : Locs} (h : HeapOK w σ ρ) (e : Nat) (es : List AV) (xs ys : List Value) (t : TypeId) (fr : Nat × Nat) (hfr : Free fr (xs ++ ys).length) (hr : RepE w (lm σ ρ) e es xs) :
    let ρ' := ρ ++ [some (w.heap.size, (xs ++ ys).length)]
    HeapOK (w.alloc (.cells (xs ++ ys).toArray t fr)) (σ ++ [.row 0 e es]) ρ' ∧ Tr w (lm σ ρ) (w.alloc (.cells (xs ++ ys).toArray t fr)) (lm (σ ++ [.row 0 e es]) ρ') ∧
    lm (σ ++ [.row 0 e es]) ρ' σ.length 0 = .here w.heap.size e (xs ++ ys).length := by
  intro ρ'
  have htr := tr_push h (.cells (xs ++ ys).toArray t fr) (.row 0 e es) (xs ++ ys).length
  refine ⟨h.add htr (fun b hb => RowKit.Below.heap_alloc w _ b hb) (fun i b s hi => h.lt hi) (fun b s hb => by cases hb; exact Nat.le_refl _) ?_, htr, ?_⟩
  · exact ⟨xs, ys, t, fr, by show (w.heap.push _)[w.heap.size]? = _; simp, rfl, hfr, RepE.tr htr hr⟩
  · rw [lm_push_new h.len]; simp [loOf, AObj.gen]

theorem HeapOK.newNil {w : World} {σ : Heap} {ρ : Locs} (h : HeapOK w σ ρ) (e : Nat) :
    HeapOK w (σ ++ [.row 0 e []]) (ρ ++ [none]) ∧ Tr w (lm σ ρ) w (lm (σ ++ [.row 0 e []]) (ρ ++ [none])) ∧ lm (σ ++ [.row 0 e []]) (ρ ++ [none]) σ.length 0 = .nilv := by
  have htr := tr_pushNil h (.row 0 e [])
  refine ⟨h.add htr (fun _ _ => rfl) (fun i b s hi => h.lt hi) (fun b s hb => by cases hb) rfl, htr, ?_⟩
  rw [lm_push_new h.len]; simp [loOf, AObj.gen]

theorem lm_setRow {σ : Heap} {ρ : Locs} {i g e : Nat} {es es' : List AV} (hi : σ[i]? = some (.row g e es)) : lm (σ.set i (.row g e es')) ρ = lm σ ρ := by
  funext j g'
  unfold lm
  by_cases hj : i = j
  · subst hj
    have hlt := (List.getElem?_eq_some_iff.1 hi).1
    rw [List.getElem?_set_self hlt, hi]
    cases ρ[i]? with
    | none => rfl
    | some r => cases r <;> rfl
  · rw [List.getElem?_set_ne hj]

theorem ne_of_inj {w : World} {σ : Heap} {ρ : Locs} (h : HeapOK w σ ρ) {i j b b' s s' : Nat} (hij : i ≠ j) (hi : ρ[i]? = some (some (b, s))) (hj : ρ[j]? = some (some (b', s'))) : b' ≠ b :=
  fun e => hij (h.inj i j b s s' hi (by rw [hj, e]))

/-- A row is written. -/
theorem HeapOK.setRow {w : World} {σ : Heap} {ρ : Locs} (h : HeapOK w σ ρ) {i g e : Nat} {es : List AV} (hi : σ[i]? = some (.row g e es)) {b sz : Nat} (hr : ρ[i]? = some (some (b, sz)))
    (es' : List AV) (xs ys : List Value) (t : TypeId) (fr : Nat × Nat) (hl : (xs ++ ys).length = sz) (hfr : Free fr sz) (hrep : RepE w (lm σ ρ) e es' xs) :
    HeapOK (wset w b (.cells (xs ++ ys).toArray t fr)) (σ.set i (.row g e es')) ρ ∧ Tr w (lm σ ρ) (wset w b (.cells (xs ++ ys).toArray t fr)) (lm (σ.set i (.row g e es')) ρ) := by
  have hlm := lm_setRow (ρ := ρ) (es' := es') hi
  have hb := h.lt hr
  have hown : Owned (lm σ ρ) b := owned_of_loc h hr
  have htr : Tr w (lm σ ρ) (wset w b (.cells (xs ++ ys).toArray t fr)) (lm σ ρ) :=
    ⟨rfl, rfl, by simp, fun k _ ho => wset_other _ (fun e => ho (e ▸ hown)), fun _ h => .inl h, fun _ _ _ _ => .inl rfl⟩
  rw [hlm]
  refine ⟨⟨by simp [h.len], fun j o r ho hrj => ?_, h.inj, by rw [hlm]; exact h.glob.tr htr⟩, htr⟩
  rw [hlm]
  by_cases hj : i = j
  · subst hj
    rw [List.getElem?_set_self (List.getElem?_eq_some_iff.1 hi).1] at ho
    cases ho
    rw [hr] at hrj
    cases hrj
    exact ⟨xs, ys, t, fr, wset_same _ hb, hl, hfr, RepE.tr htr hrep⟩
  · rw [List.getElem?_set_ne hj] at ho
    refine (h.obj j o r ho hrj).trV htr ?_ (fun b' s e => ?_)
    · cases o with
      | dead g => trivial
      | hole => trivial
      | row g e es => exact AllIL.all (fun _ => trivial) es
      | tro g t e es => exact AllIL.all (fun _ => trivial) es
      | it g s n => trivial
      | map g es => exact fun x _ => AllI.all (fun _ => trivial) x.2
    · exact wset_other _ (ne_of_inj h hj hr (by rw [hrj, e]))

theorem lm_fill {σ : Heap} {ρ : Locs} {k : Nat} {o : AObj} {r : Option (Nat × Nat)} (hk : σ[k]? = some .hole) {i g : Nat} (hg : lm σ ρ i g ≠ .bad) : lm (σ.set k o) (ρ.set k r) i g = lm σ ρ i g := by
  have : k ≠ i := by
    intro e
    subst e
    apply hg
    unfold lm
    rw [hk]
    cases ρ[k]? with
    | none => rfl
    | some r => simp only [loOf, AObj.gen]; by_cases h0 : 0 < g <;> simp [h0]
  unfold lm
  rw [List.getElem?_set_ne this, List.getElem?_set_ne this]

/-- A hole is filled by a new row. -/
theorem HeapOK.fill {w : World} {σ : Heap} {ρ : Locs} (h : HeapOK w σ ρ) {k : Nat} (hk : σ[k]? = some .hole) (e : Nat) (es : List AV) (xs ys : List Value) (t : TypeId) (fr : Nat × Nat) (hfr : Free fr (xs ++ ys).length) (hr : RepE w (lm σ ρ) e es xs) :
    let ρ' := ρ.set k (some (w.heap.size, (xs ++ ys).length))
    HeapOK (w.alloc (.cells (xs ++ ys).toArray t fr)) (σ.set k (.row 0 e es)) ρ' ∧ Tr w (lm σ ρ) (w.alloc (.cells (xs ++ ys).toArray t fr)) (lm (σ.set k (.row 0 e es)) ρ') ∧
    lm (σ.set k (.row 0 e es)) ρ' k 0 = .here w.heap.size e (xs ++ ys).length := by
  intro ρ'
  have hlt := (List.getElem?_eq_some_iff.1 hk).1
  have hlt' : k < ρ.length := by rw [h.len]; exact hlt
  have hobj : ∀ (i : Nat) b s, ρ'[i]? = some (some (b, s)) → (i = k ∧ b = w.heap.size) ∨ (i ≠ k ∧ ρ[i]? = some (some (b, s))) := by
    intro i b s hi
    by_cases hik : k = i
    · subst hik
      rw [List.getElem?_set_self hlt'] at hi
      cases hi
      exact .inl ⟨rfl, rfl⟩
    · rw [List.getElem?_set_ne hik] at hi
      exact .inr ⟨Ne.symm hik, hi⟩
  have htr : Tr w (lm σ ρ) (w.alloc (.cells (xs ++ ys).toArray t fr)) (lm (σ.set k (.row 0 e es)) ρ') := by
    refine ⟨rfl, rfl, by simp, fun b hb _ => RowKit.Below.heap_alloc w _ b hb, fun b hb => ?_, fun i g _ hg => .inl (lm_fill hk hg)⟩
    obtain ⟨i, s, hi⟩ := owned_lm hb
    rcases hobj i b s hi with ⟨_, rfl⟩ | ⟨_, hi⟩
    · exact .inr (Nat.le_refl _)
    · exact .inl (owned_of_loc h hi)
  refine ⟨⟨by simp [ρ', h.len], fun i o r ho hr' => ?_, fun i j b s s' hi hj => ?_, h.glob.tr htr⟩, htr, ?_⟩
  · by_cases hik : k = i
    · subst hik
      rw [List.getElem?_set_self hlt] at ho
      rw [List.getElem?_set_self hlt'] at hr'
      cases ho; cases hr'
      exact ⟨xs, ys, t, fr, by show (w.heap.push _)[w.heap.size]? = _; simp, rfl, hfr, RepE.tr htr hr⟩
    · rw [List.getElem?_set_ne hik] at ho hr'
      refine (h.obj i o r ho hr').trV htr ?_ (fun b s e => RowKit.Below.heap_alloc w _ b (h.lt (by rw [hr', e])))
      cases o with
      | dead g => trivial
      | hole => trivial
      | row g e es => exact AllIL.all (fun _ => trivial) es
      | tro g t e es => exact AllIL.all (fun _ => trivial) es
      | it g s n => trivial
      | map g es => exact fun x _ => AllI.all (fun _ => trivial) x.2
  · rcases hobj i b s hi with ⟨e1, e2⟩ | ⟨e1, e2⟩ <;> rcases hobj j b s' hj with ⟨e3, e4⟩ | ⟨e3, e4⟩
    · rw [e1, e3]
    · have := h.lt e4; omega
    · have := h.lt e2; omega
    · exact h.inj i j b s s' e2 e4
  · unfold lm
    rw [List.getElem?_set_self hlt, List.getElem?_set_self hlt']
    simp [loOf, AObj.gen]

theorem repE_get {w : World} {L : LM} {e : Nat} : ∀ {es : List AV} {xs : List Value}, RepE w L e es xs → xs.length = es.length * e ∧
    ∀ (k : Nat) a, es[k]? = some a → ∃ y, Rep w L a y ∧ (y.cells.size = e ∧ ∀ c ∈ y.cells.toList, cellV c = true) ∧ ∃ pre post, xs = pre ++ y.cells.toList ++ post ∧ pre.length = k * e ∧
      ∀ a' y', Rep w L a' y' → (y'.cells.size = e ∧ ∀ c ∈ y'.cells.toList, cellV c = true) → RepE w L e (es.set k a') (pre ++ y'.cells.toList ++ post)
  | [], xs, H => by simp only [RepE] at H; subst H; simp
  | a :: es, xs, H => by
    obtain ⟨y, zs, rfl, hy, hr, hs⟩ := H
    obtain ⟨h1, h2⟩ := repE_get hs
    refine ⟨by simp [h1, hy.1, Nat.add_mul]; omega, fun k b hb => ?_⟩
    cases k with
    | zero =>
      simp at hb; subst hb
      exact ⟨y, hr, hy, [], zs, by simp, by simp, fun a' y' ha' hy' => ⟨y', zs, by simp, hy', ha', hs⟩⟩
    | succ k =>
      obtain ⟨y1, h3, h4, pre, post, h5, h6, h7⟩ := h2 k b (by simpa using hb)
      refine ⟨y1, h3, h4, y.cells.toList ++ pre, post, by simp [h5], by simp [h6, hy.1, Nat.add_mul]; omega, fun a' y' ha' hy' => ?_⟩
      exact ⟨y, pre ++ y'.cells.toList ++ post, by simp, hy, hr, h7 a' y' ha' hy'⟩

/-- What is known of an object's block. -/
theorem HeapOK.row {w : World} {σ : Heap} {ρ : Locs} (h : HeapOK w σ ρ) {i g e : Nat} {es : List AV} (hi : σ[i]? = some (.row g e es)) :
    (lm σ ρ i g = .nilv ∧ es = [] ∧ ρ[i]? = some none) ∨ ∃ b sz xs ys t fr, lm σ ρ i g = .here b e sz ∧ ρ[i]? = some (some (b, sz)) ∧ w.heap[b]? = some (.cells (xs ++ ys).toArray t fr) ∧ (xs ++ ys).length = sz ∧ Free fr sz ∧ RepE w (lm σ ρ) e es xs := by
  have hlt := (List.getElem?_eq_some_iff.1 hi).1
  have hr : ρ[i]? = some (ρ[i]'(by rw [h.len]; exact hlt)) := List.getElem?_eq_getElem _
  have hob := h.obj i _ _ hi hr
  cases hc : ρ[i]'(by rw [h.len]; exact hlt) with
  | none =>
    rw [hc] at hob hr
    exact .inl ⟨by simp [lm, hi, hr, loOf, AObj.gen], hob, hr⟩
  | some p =>
    obtain ⟨b, sz⟩ := p
    rw [hc] at hob hr
    obtain ⟨xs, ys, t, fr, h1, h2, h3, h4⟩ := hob
    exact .inr ⟨b, sz, xs, ys, t, fr, by simp [lm, hi, hr, loOf, AObj.gen], hr, h1, h2, h3, h4⟩

end Go.Ab
