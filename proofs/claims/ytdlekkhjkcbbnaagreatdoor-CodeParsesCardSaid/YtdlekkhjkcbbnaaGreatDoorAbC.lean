/-
  Types as a walk needs them; reading, writing, making memory.
-/
import Derived.Test.YtdlekkhjkcbbnaaGreatDoorAbB
import Derived.Laws.Sem
import Derived.Laws.Cells
set_option linter.unusedVariables false
set_option linter.unusedSimpArgs false
set_option linter.unusedSectionVars false
namespace Go.Ab
open Go
variable [GlobFacts]

inductive TK where
  | bool | int (k : IntKind) | str | sl (e : TypeId) | arr (n : Nat) (e : TypeId) | st (fs : List (Nat × TypeId)) | map (k e : TypeId) | ptr (e : TypeId) | fn | ifc | other
  deriving DecidableEq

def TK.of : TypeDesc → TK
  | .bool => .bool
  | .int k => .int k
  | .string => .str
  | .slice e => .sl e
  | .array n e => .arr n e
  | .struct fs => .st (fs.toList.map fun f => (f.offset, f.type))
  | .map k e => .map k e
  | .pointer e => .ptr e
  | .func _ _ _ => .fn
  | .interface _ => .ifc
  | _ => .other

def dagg : TypeDesc → Bool
  | .struct _ => true
  | .array _ _ => true
  | _ => false
def vagg : Value → Bool
  | .agg _ => true
  | _ => false

structure TI where
  kind : TK
  agg : Bool
  size : Nat
  bytes : Nat
  zero : AV

def tinf (P : Program) (t : TypeId) : Option TI :=
  match P.info? t, P.underlying t with
  | some i, some d => match i.zero with
    | some z => if z.cells.size = i.size ∧ z.cells.toList.all cellV = true then if vagg z = dagg d then
        some ⟨TK.of d, dagg d, i.size, i.bytes, cav z⟩ else none else none
    | none => none
  | _, _ => none

section
variable {P : Program} {t : TypeId} {ti : TI}

theorem tinf_parts (h : tinf P t = some ti) : ∃ i d z, P.info? t = some i ∧ P.underlying t = some d ∧ i.zero = some z ∧ (z.cells.size = i.size ∧ z.cells.toList.all cellV = true) ∧ ti.kind = TK.of d ∧
    ti.agg = dagg d ∧ ti.agg = vagg z ∧ ti.size = i.size ∧ ti.bytes = i.bytes ∧ ti.zero = cav z := by
  unfold tinf at h
  split at h
  · rename_i i d hi hd
    split at h
    · rename_i z hz
      split at h
      · rename_i hc
        split at h
        · rename_i hc2
          cases h
          exact ⟨i, d, z, hi, hd, hz, hc, rfl, rfl, hc2.symm, rfl, rfl, rfl⟩
        · cases h
      · cases h
    · cases h
  · cases h

theorem run_underlying' {d : TypeDesc} (h : P.underlying t = some d) (w : World) : (underlying t).run P w = .ok d w := by
  simp [underlying, program, Sem.run, h]

theorem tinf_underlying (h : tinf P t = some ti) (w : World) : ∃ d, P.underlying t = some d ∧ ti.kind = TK.of d ∧ (underlying t).run P w = .ok d w := by
  obtain ⟨i, d, z, h1, h2, h3, h4, h5, _⟩ := tinf_parts h
  exact ⟨d, h2, h5, run_underlying' h2 w⟩

theorem tinf_info (h : tinf P t = some ti) (w : World) : ∃ i, (typeInfo t).run P w = .ok i w ∧ i.bytes = ti.bytes ∧ i.size = ti.size := by
  obtain ⟨i, d, z, h1, h2, h3, h4, h5, h6, h7, h8, h9, _⟩ := tinf_parts h
  exact ⟨i, by simp [typeInfo, program, Sem.run, h1], h9.symm, h8.symm⟩

theorem tinf_size (h : tinf P t = some ti) (w : World) : (sizeOf t).run P w = .ok ti.size w := by
  obtain ⟨i, h1, _, h2⟩ := tinf_info h w
  simp [sizeOf, h1, h2]

theorem tinf_agg (h : tinf P t = some ti) (w : World) : (isAgg t).run P w = .ok ti.agg w := by
  obtain ⟨i, d, z, h1, h2, h3, h4, h5, h6, h7, h8, h9, h10⟩ := tinf_parts h
  have hu := run_underlying' h2 w
  simp only [isAgg, Sem.run_bind, hu, Result.andThen_ok]
  rw [h6]
  cases d <;> rfl

/-- A value as a variable of the type holds it. -/
def fits (ti : TI) (z : Value) : Prop := vagg z = ti.agg ∧ z.cells.size = ti.size ∧ ∀ c ∈ z.cells.toList, cellV c = true

theorem tinf_zero (h : tinf P t = some ti) (w : World) : ∃ z, (zeroValue t).run P w = .ok z w ∧ ti.zero = cav z ∧ fits ti z := by
  obtain ⟨i, d, z, h1, h2, h3, h4, h5, h6, h7, h8, h9, h10⟩ := tinf_parts h
  exact ⟨z, by simp [zeroValue, typeInfo, program, Sem.run, h1, h3], h10, h7.symm, by rw [h4.1, h8], List.all_eq_true.1 h4.2⟩

end

theorem addr_add (b o n : Nat) : (Addr.mk b o none).add n = ⟨b, o + n, none⟩ := by
  unfold Addr.add
  split
  · rename_i h; subst h; rfl
  · rfl

theorem cells_agg (xs : Array Value) : (Value.agg xs).cells = xs := rfl
theorem cells_of_not_agg {z : Value} (h : vagg z = false) : z.cells = #[z] := by
  cases z <;> first | rfl | cases h

/-- Reading a variable. -/
theorem run_loadVar' {P : Program} {t : TypeId} {ti : TI} (h : tinf P t = some ti) {w : World} {b off : Nat} {z : Value} (hf : fits ti z) (hc : Cells w b off z.cells.toList) (hz : ti.agg = false → True) :
    (loadVar t ⟨b, off, none⟩).run P w = .ok z w := by
  unfold loadVar
  simp only [Sem.run_bind, tinf_agg h, Result.andThen_ok]
  cases ha : ti.agg with
  | false =>
    have hz := cells_of_not_agg (hf.1.trans ha)
    rw [hz] at hc
    have := hc 0 (by simp)
    simp at this
    simp [this]
  | true =>
    cases z with
    | agg xs =>
      have hs : xs.size = ti.size := hf.2.1
      have := run_loadCells_list (P := P) (w := w) ⟨b, off, none⟩ xs.toList (fun j v hv => by
        rw [addr_add, hc j (by rw [cells_agg]; exact (List.getElem?_eq_some_iff.1 hv).1)]; exact hv)
      simp only [Array.length_toList] at this
      simp [tinf_size h, ← hs, this]
    | _ => simp [fits, ha, vagg] at hf

/-- An object is put in another's place. -/
def wset (w : World) (b : Nat) (o : Obj) : World := { w with heap := w.heap.setIfInBounds b o }

@[simp] theorem wset_size (w : World) (b : Nat) (o : Obj) : (wset w b o).heap.size = w.heap.size := by simp [wset]
theorem wset_same {w : World} {b : Nat} (o : Obj) (h : b < w.heap.size) : (wset w b o).heap[b]? = some o := by simp [wset, h]
theorem wset_other {w : World} {b k : Nat} (o : Obj) (h : k ≠ b) : (wset w b o).heap[k]? = w.heap[k]? := by simp [wset, Array.getElem?_setIfInBounds_ne (Ne.symm h)]

/-- Put a list over another from a place on. -/
def over {α : Type} : List α → Nat → List α → List α
  | l, _, [] => l
  | l, i, x :: xs => over (l.set i x) (i + 1) xs

theorem over_length {α : Type} : ∀ (xs : List α) (l : List α) (i : Nat), (over l i xs).length = l.length
  | [], _, _ => rfl
  | x :: xs, l, i => by rw [over, over_length xs]; simp

theorem over_eq {α : Type} : ∀ (xs a b c : List α), b.length = xs.length → over (a ++ b ++ c) a.length xs = a ++ xs ++ c
  | [], a, b, c, h => by simp at h; subst h; simp [over]
  | x :: xs, a, [], c, h => by simp at h
  | x :: xs, a, y :: b, c, h => by
    have h1 : (a ++ y :: b ++ c).set a.length x = (a ++ [x]) ++ b ++ c := by simp
    rw [over, h1]
    have h2 := over_eq xs (a ++ [x]) b c (by simpa using h)
    simp only [List.length_append, List.length_singleton] at h2
    rw [h2]; simp

theorem setCell_wset {w : World} {b off : Nat} {cs : List Value} {t : TypeId} {fr : Nat × Nat} (h : w.heap[b]? = some (.cells cs.toArray t fr)) (v : Value) :
    w.setCell ⟨b, off, none⟩ v = wset w b (.cells (cs.set off v).toArray t fr) := by
  have hb := (Array.getElem?_eq_some_iff.1 h).1
  have he := (Array.getElem?_eq_some_iff.1 h).2
  unfold World.setCell wset
  congr 1
  apply Array.ext
  · simp
  · intro i h1 h2
    simp only [Array.getElem_modify, Array.getElem_setIfInBounds]
    by_cases hi : b = i
    · subst hi; simp [he]
    · simp only [hi, if_false]
      rw [Array.getElem_setIfInBounds_ne _ hi]

theorem run_store' {P : Program} {w : World} {b off : Nat} {cs : List Value} {t : TypeId} {fr : Nat × Nat} (h : w.heap[b]? = some (.cells cs.toArray t fr)) (hlt : off < cs.length) (hfr : ¬ (fr.1 ≤ off ∧ off < fr.2)) {v : Value} (hv : cellV v = true) :
    (store ⟨b, off, none⟩ v).run P w = .ok () (wset w b (.cells (cs.set off v).toArray t fr)) := by
  have hc : w.cell? ⟨b, off, none⟩ = some cs[off] := by simp [World.cell?, h, hlt]
  have hz : w.frozen? ⟨b, off, none⟩ = false := by
    simp only [World.frozen?, h]
    obtain ⟨lo, hi⟩ := fr
    simp only [Bool.and_eq_false_iff, decide_eq_false_iff_not]
    simp only at hfr
    omega
  have hs := setCell_wset (off := off) h v
  unfold store
  cases v <;> first | (simp [cellV] at hv; done) | simp [Sem.run, hc, hz, hs]

theorem wset_wset (w : World) (b : Nat) (o o' : Obj) : wset (wset w b o) b o' = wset w b o' := by simp [wset]

/-- Writing cells one behind the other. -/
theorem run_storeCells' {P : Program} : ∀ (vs : List Value) {w : World} {b off : Nat} {cs : List Value} {t : TypeId} {fr : Nat × Nat} (i : Nat), w.heap[b]? = some (.cells cs.toArray t fr) → off + i + vs.length ≤ cs.length → Free fr cs.length → (∀ v ∈ vs, cellV v = true) →
    (storeCells ⟨b, off, none⟩ vs i).run P w = .ok () (wset w b (.cells (over cs (off + i) vs).toArray t fr))
  | [], w, b, off, cs, t, fr, i, h, _, _, _ => by
    have hb := (Array.getElem?_eq_some_iff.1 h).1
    have he := (Array.getElem?_eq_some_iff.1 h).2
    have : wset w b (.cells cs.toArray t fr) = w := by
      unfold wset
      rw [← he]
      simp only [Array.setIfInBounds, hb, dite_true, Array.set_getElem_self]
    simp [storeCells, over, this]
  | v :: vs, w, b, off, cs, t, fr, i, h, hl, hf, hv => by
    simp only [List.length_cons] at hl
    have hlt : off + i < cs.length := by omega
    have h1 := run_store' (P := P) h hlt (hf _ hlt) (hv v List.mem_cons_self)
    have hb := (Array.getElem?_eq_some_iff.1 h).1
    have h2 := run_storeCells' (P := P) vs (i + 1) (w := wset w b (.cells (cs.set (off + i) v).toArray t fr)) (b := b) (off := off) (wset_same _ hb) (by simp; omega) (by simpa using hf) (fun v hv' => hv v (List.mem_cons_of_mem _ hv'))
    simp only [storeCells, Sem.run_bind, addr_add, h1, Result.andThen_ok, h2, wset_wset, over]
    rfl

theorem run_storeVar' {P : Program} {t : TypeId} {ti : TI} (ht : tinf P t = some ti) {w : World} {b off : Nat} {cs : List Value} {e : TypeId} {fr : Nat × Nat} (h : w.heap[b]? = some (.cells cs.toArray e fr)) {v : Value} (hs : v.cells.size = ti.size)
    (hl : off + v.cells.size ≤ cs.length) (hf : Free fr cs.length) (hv : ∀ x ∈ v.cells.toList, cellV x = true) :
    (storeVar t ⟨b, off, none⟩ v).run P w = .ok () (wset w b (.cells (over cs off v.cells.toList).toArray e fr)) := by
  have := run_storeCells' (P := P) v.cells.toList 0 (off := off) h (by simpa using hl) hf hv
  unfold storeVar
  simp [tinf_size ht, hs, this]

end Go.Ab
