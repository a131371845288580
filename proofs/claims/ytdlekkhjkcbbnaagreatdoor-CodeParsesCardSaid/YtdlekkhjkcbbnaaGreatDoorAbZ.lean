/-
  A builder of strings: a row of two cells whose type is known (its own address, its buffer), and a row of bytes whose type is known. How a world that was written by its methods is read again (HeapOK.bld), and the append of a string to a buffer (append_buf).
  A row becomes data, also where other objects name it.
-/
import Derived.Test.YtdlekkhjkcbbnaaGreatDoorAbY
import Derived.Lib.AppendStr
import Derived.Lib.Builder
import Derived.Lib.UnsafeStr
import Derived.WalkKit
import Derived.OwnWalk
import Derived.Lib.OthersKept
set_option linter.unusedVariables false
set_option linter.unusedSimpArgs false
set_option linter.unusedSectionVars false
namespace Go.Ab
open Go
variable [GlobFacts]

theorem repE_vs {w : World} {L : LM} : ∀ (vs : List Value), (∀ v ∈ vs, cellV v = true) → RepE w L 1 (vs.map .v) vs
  | [], _ => rfl
  | v :: vs, h => by
    have h1 := cellV_cells (h v List.mem_cons_self)
    exact ⟨v, vs, by rw [h1]; rfl, ⟨by rw [h1]; rfl, by rw [h1]; simpa using h v List.mem_cons_self⟩, rfl, repE_vs vs fun x hx => h x (List.mem_cons_of_mem _ hx)⟩

/-- the two objects of a builder -/
def bldO (i j gi T n gj : Nat) : AObj := .tro gi T 2 [.agg [.ptr i gi 0 0, .os j gj 0 n]]

section
variable {w w' : World} {σ : Heap} {ρ : Locs} {i j gi gj b T U : Nat} {esi : List AV} {oj : AObj} {rj : Option (Nat × Nat)}

theorem HeapOK.bld (h : HeapOK w σ ρ) (hij : i ≠ j) (hi : σ[i]? = some (.tro gi T 2 esi)) (hesi : esi.length = 1) {sz : Nat} (hri : ρ[i]? = some (some (b, sz))) (hj : σ[j]? = some oj) (hgj : oj.gen = gj) (hrj : ρ[j]? = some rj)
    (hos : w'.os = w.os) (hout : w'.output = w.output) (hsize : w.heap.size ≤ w'.heap.size) (hkeep : ∀ k, k < w.heap.size → k ≠ b → (∀ s, rj ≠ some (k, s)) → w'.heap[k]? = w.heap[k]?)
    {g' : Nat} (hg' : (∃ s, rj = some (g', s)) ∨ w.heap.size ≤ g') {n' cap' : Nat} (hb' : w'.heap[b]? = some (.cells #[.pointer (some ⟨b, 0, none⟩), .slice (some ⟨g', 0, none⟩) n' cap'] T (0, 0)))
    {cur : List Value} (hc : w'.heap[g']? = some (.cells cur.toArray U (0, 0))) (hn : n' ≤ cap') (hcap : cap' ≤ cur.length) (vs : List Value) (hv1 : ∀ v ∈ vs, cellV v = true) (hvs : cur.take n' = vs) :
    let σ' := (σ.set j (.tro (gj + 1) U 1 (vs.map .v))).set i (bldO i j gi T n' (gj + 1))
    let ρ' := (ρ.set j (some (g', cur.length))).set i (some (b, 2))
    HeapOK w' σ' ρ' ∧ Tr w (lm σ ρ) w' (lm σ' ρ') := by
  intro σ' ρ'
  have hil := (List.getElem?_eq_some_iff.1 hi).1
  have hjl := (List.getElem?_eq_some_iff.1 hj).1
  have hil' : i < ρ.length := by rw [h.len]; exact hil
  have hjl' : j < ρ.length := by rw [h.len]; exact hjl
  have si : σ'[i]? = some (bldO i j gi T n' (gj + 1)) := List.getElem?_set_self (by simpa using hil)
  have sj : σ'[j]? = some (.tro (gj + 1) U 1 (vs.map .v)) := by
    rw [List.getElem?_set_ne hij, List.getElem?_set_self hjl]
  have so : ∀ k, k ≠ i → k ≠ j → σ'[k]? = σ[k]? := fun k h1 h2 => by rw [List.getElem?_set_ne (Ne.symm h1), List.getElem?_set_ne (Ne.symm h2)]
  have ri : ρ'[i]? = some (some (b, 2)) := List.getElem?_set_self (by simpa using hil')
  have rj' : ρ'[j]? = some (some (g', cur.length)) := by rw [List.getElem?_set_ne hij, List.getElem?_set_self hjl']
  have ro : ∀ k, k ≠ i → k ≠ j → ρ'[k]? = ρ[k]? := fun k h1 h2 => by rw [List.getElem?_set_ne (Ne.symm h1), List.getElem?_set_ne (Ne.symm h2)]
  -- the block of the builder is as large as it was
  have hsz : sz = 2 := by
    obtain ⟨xs, ys, h1, ⟨h2, h3⟩, h4⟩ := h.obj i _ _ hi hri
    have h5 := (repE_get h4).1
    rcases h3 with h3 | h3
    · cases h3
    · subst h3; simp [hesi] at h5; simpa [h5] using h2.symm
  subst hsz
  have Li : ∀ g, lm σ' ρ' i g = lm σ ρ i g := fun g => by
    unfold lm; rw [si, ri, hi, hri]; rfl
  have Lx : ∀ k, k ≠ i → k ≠ j → ∀ g, lm σ' ρ' k g = lm σ ρ k g := fun k h1 h2 g => by
    unfold lm; rw [so k h1 h2, ro k h1 h2]
  have Lj : lm σ' ρ' j (gj + 1) = .here g' 1 cur.length := by
    unfold lm; rw [sj, rj']; simp [loOf, AObj.gen]
  have Lii : lm σ' ρ' i gi = .here b 2 2 := by
    unfold lm; rw [si, ri]; simp [loOf, AObj.gen, bldO]
  have Ls : ∀ g, lm σ ρ j g ≠ .bad → lm σ' ρ' j g = .stale := fun g hg => by
    have : g ≤ gj := by
      rcases Nat.lt_or_ge gj g with h1 | h1
      · exfalso; apply hg; unfold lm; rw [hj, hrj]; simp only [loOf, hgj, if_pos h1]
      · exact h1
    unfold lm; rw [sj, rj']; simp only [loOf, AObj.gen]
    simp [show ¬ gj + 1 < g from by omega, show g < gj + 1 from by omega]
  have hown : ∀ k, (∃ s, rj = some (k, s)) → Owned (lm σ ρ) k := fun k ⟨s, e⟩ => owned_of_loc h (hrj.trans (congrArg some e))
  have hloc : ∀ (k : Nat) x s, ρ'[k]? = some (some (x, s)) → (k = j ∧ x = g') ∨ (k ≠ j ∧ ∃ s', ρ[k]? = some (some (x, s'))) := fun k x s hk => by
    by_cases h1 : k = j
    · subst h1; rw [rj'] at hk; cases hk; exact .inl ⟨rfl, rfl⟩
    · refine .inr ⟨h1, ?_⟩
      by_cases h2 : k = i
      · subst h2; rw [ri] at hk; cases hk; exact ⟨_, hri⟩
      · rw [ro k h2 h1] at hk; exact ⟨_, hk⟩
  have htr : Tr w (lm σ ρ) w' (lm σ' ρ') := by
    refine ⟨hos, hout, hsize, fun k hk ho => hkeep k hk (fun e => ho (e ▸ owned_of_loc h hri)) (fun s e => ho (hown k ⟨s, e⟩)), fun x hx => ?_, fun k g _ hg => ?_⟩
    · obtain ⟨k, s, hk⟩ := owned_lm hx
      rcases hloc k x s hk with ⟨_, rfl⟩ | ⟨_, s', hk'⟩
      · exact hg'.imp (hown _) id
      · exact .inl (owned_of_loc h hk')
    · by_cases h1 : k = j
      · subst h1; exact .inr (Ls g hg)
      · by_cases h2 : k = i
        · subst h2; exact .inl (Li g)
        · exact .inl (Lx k h2 h1 g)
  refine ⟨⟨by simp [σ', ρ', h.len], fun k o r ho hr => ?_, fun k l x s s' hk hl => ?_, h.glob.tr htr⟩, htr⟩
  · by_cases h2 : k = i
    · subst h2
      rw [si] at ho; rw [ri] at hr; cases ho; cases hr
      refine ⟨[_, _], [], hb', ⟨rfl, .inr rfl⟩, .agg #[.pointer (some ⟨b, 0, none⟩), .slice (some ⟨g', 0, none⟩) n' cap'], [], rfl, ⟨rfl, by simp [Value.cells, cellV]⟩, ⟨_, rfl, ⟨_, _, rfl, ?_, _, _, rfl, ?_, rfl⟩, by simp [cellV]⟩, rfl⟩
      · simp only [Rep, Lii, ptrAt]
      · simp only [Rep, Lj, osAt]; exact .inl ⟨cap', by simp, hn, by simpa using hcap⟩
    · by_cases h1 : k = j
      · subst h1
        rw [sj] at ho; rw [rj'] at hr; cases ho; cases hr
        refine ⟨cur.take n', cur.drop n', by rw [List.take_append_drop]; exact hc, ⟨by rw [List.take_append_drop], .inl rfl⟩, ?_⟩
        rw [hvs]
        exact repE_vs vs hv1
      · rw [so k h2 h1] at ho; rw [ro k h2 h1] at hr
        refine (h.obj k o r ho hr).trV htr ?_ (fun x s e => ?_)
        · cases o with
          | dead g => trivial
          | hole => trivial
          | row g e es => exact AllIL.all (fun _ => trivial) es
          | tro g t e es => exact AllIL.all (fun _ => trivial) es
          | it g s n => trivial
          | map g es => exact fun x _ => AllI.all (fun _ => trivial) x.2
        · subst e
          exact hkeep x (h.lt hr) (fun e => h2 (h.inj k i x s 2 hr (e ▸ hri))) (fun s' e => h1 (h.inj k j x s s' hr (hrj.trans (congrArg some e))))
  · rcases hloc k x s hk with ⟨e1, e2⟩ | ⟨e1, s1, e2⟩ <;> rcases hloc l x s' hl with ⟨e3, e4⟩ | ⟨e3, s2, e4⟩
    · rw [e1, e3]
    · rcases hg' with ⟨s3, e⟩ | hle
      · exact absurd (h.inj l j x s2 s3 e4 (by rw [hrj, e, e2])) e3
      · have := h.lt e4; omega
    · rcases hg' with ⟨s3, e⟩ | hle
      · exact absurd (h.inj k j x s1 s3 e2 (by rw [hrj, e, e4])) e1
      · have := h.lt e2; omega
    · exact h.inj k l x s1 s2 e2 e4
/-- An object is forgotten whose block alone was written. -/
theorem HeapOK.killW (h : HeapOK w σ ρ) {g : Nat} {o : AObj} (hi : σ[i]? = some o) (hg : o.gen = g) (ho : o ≠ .hole) {x sz : Nat} (hri : ρ[i]? = some (some (x, sz)))
    (hos : w'.os = w.os) (hout : w'.output = w.output) (hsize : w.heap.size ≤ w'.heap.size) (hkeep : ∀ k, k < w.heap.size → k ≠ x → w'.heap[k]? = w.heap[k]?) :
    HeapOK w' (σ.set i (.dead g)) (ρ.set i none) ∧ Tr w (lm σ ρ) w' (lm (σ.set i (.dead g)) (ρ.set i none)) := by
  have hlt := (List.getElem?_eq_some_iff.1 hi).1
  have hlt' : i < ρ.length := by rw [h.len]; exact hlt
  have hloc : ∀ (j b s : Nat), (ρ.set i none)[j]? = some (some (b, s)) → j ≠ i ∧ ρ[j]? = some (some (b, s)) := by
    intro j b s hj
    by_cases hij : i = j
    · subst hij; rw [List.getElem?_set_self hlt'] at hj; cases hj
    · rw [List.getElem?_set_ne hij] at hj; exact ⟨Ne.symm hij, hj⟩
  have htr : Tr w (lm σ ρ) w' (lm (σ.set i (.dead g)) (ρ.set i none)) := by
    refine ⟨hos, hout, hsize, fun k hk hno => hkeep k hk (fun e => hno (e ▸ owned_of_loc h hri)), fun b hb => ?_, fun j g' _ hbad => ?_⟩
    · obtain ⟨j, s, hj⟩ := owned_lm hb
      exact .inl (owned_of_loc h (hloc j b s hj).2)
    · by_cases hij : j = i
      · exact .inr ((lm_dead hi hg h.len ho hbad).2 hij)
      · exact .inl ((lm_dead hi hg h.len ho hbad).1 hij)
  refine ⟨⟨by simp [h.len], fun j o' r ho' hr => ?_, fun j k b s s' hj hk => ?_, h.glob.tr htr⟩, htr⟩
  · by_cases hij : i = j
    · subst hij
      rw [List.getElem?_set_self hlt] at ho'
      rw [List.getElem?_set_self hlt'] at hr
      cases ho'; cases hr; rfl
    · rw [List.getElem?_set_ne hij] at ho' hr
      refine (h.obj j o' r ho' hr).trV htr ?_ (fun b s e => ?_)
      · cases o' with
        | dead g => trivial
        | hole => trivial
        | row g e es => exact AllIL.all (fun _ => trivial) es
        | tro g t e es => exact AllIL.all (fun _ => trivial) es
        | it g s n => trivial
        | map g es => exact fun x _ => AllI.all (fun _ => trivial) x.2
      · subst e
        exact hkeep b (h.lt hr) (fun e => hij (h.inj i j x sz s hri (e ▸ hr)))
  · exact h.inj j k b s s' (hloc j b s hj).2 (hloc k b s' hk).2

/-- A new object that is dead. -/
theorem HeapOK.newDead (h : HeapOK w σ ρ) (g : Nat) : HeapOK w (σ ++ [.dead g]) (ρ ++ [none]) ∧ Tr w (lm σ ρ) w (lm (σ ++ [.dead g]) (ρ ++ [none])) := by
  have htr := tr_pushNil h (.dead g)
  exact ⟨h.add htr (fun _ _ => rfl) (fun i b s hi => h.lt hi) (fun b s hb => by cases hb) rfl, htr⟩

/-- What is known of a typed row's block. -/
theorem HeapOK.tro (h : HeapOK w σ ρ) {g t e : Nat} {es : List AV} (hi : σ[i]? = some (.tro g t e es)) :
    ∃ b sz xs ys, lm σ ρ i g = .here b e sz ∧ ρ[i]? = some (some (b, sz)) ∧ w.heap[b]? = some (.cells (xs ++ ys).toArray t (0, 0)) ∧ ((xs ++ ys).length = sz ∧ (e = 1 ∨ ys = [])) ∧ RepE w (lm σ ρ) e es xs := by
  have hlt := (List.getElem?_eq_some_iff.1 hi).1
  have hr : ρ[i]? = some (ρ[i]'(by rw [h.len]; exact hlt)) := List.getElem?_eq_getElem _
  have hob := h.obj i _ _ hi hr
  cases hc : ρ[i]'(by rw [h.len]; exact hlt) with
  | none => rw [hc] at hob; exact hob.elim
  | some p =>
    obtain ⟨b, sz⟩ := p
    rw [hc] at hob hr
    obtain ⟨xs, ys, h1, h2, h4⟩ := hob
    exact ⟨b, sz, xs, ys, by simp [lm, hi, hr, loOf, AObj.gen], hr, h1, h2, h4⟩

theorem aop_alloc_tro {P : Program} {N : Nat} {o : POp} {E : Env} {σ : Heap} {K : Env → Heap → Prop} {t : TypeId} {ti : TI} (hg : gcond E o = some true) (ho : o.op = .alloc t) (ht : tinf P t = some ti)
    (hk : putK N o.dst ⟨true, .ptr σ.length 0 0 0⟩ K E (σ ++ [.tro 0 t ti.size [ti.zero]])) : AOp P N o E σ K := by
  intro a w ρ hs
  rw [gcond_sound hs hg]
  obtain ⟨z, hz, hzero, hfit⟩ := tinf_zero ht w
  have htr := tr_push hs.heap (.cells z.cells.toList.toArray t (0, 0)) (.tro 0 t ti.size [ti.zero]) z.cells.toList.length
  have hh := hs.heap.add (o := .tro 0 t ti.size [ti.zero]) (r := some (w.heap.size, z.cells.toList.length)) htr (fun b hb => RowKit.Below.heap_alloc w _ b hb) (fun i b s hi => hs.heap.lt hi) (fun b s hb => by cases hb; exact Nat.le_refl _)
    ⟨z.cells.toList, [], by show (w.heap.push _)[w.heap.size]? = _; simp, ⟨by simp, .inr rfl⟩, z, [], by simp, hfit.2, by rw [hzero]; exact rep_cav _ _ z, rfl⟩
  have h3 : lm (σ ++ [.tro 0 t ti.size [ti.zero]]) (ρ ++ [some (w.heap.size, z.cells.toList.length)]) σ.length 0 = .here w.heap.size ti.size z.cells.toList.length := by
    rw [lm_push_new hs.heap.len]; simp [loOf, AObj.gen]
  have hrun : (execOp a.eval o.oper).run P w = .ok (.value (.pointer (some ⟨w.heap.size, 0, none⟩))) (w.alloc (.cells z.cells.toList.toArray t (0, 0))) := by
    simp [execOp, POp.oper, ho, Instr.alloc, hz, newVar, newRow]
  simp only [if_true, Oper.wp, hrun, Oper.upon]
  exact OpQ.of hs (Tr.refl _ _) htr hh (by simp only [EV.ok, Rep, if_true]; rw [h3]; simp [ptrAt]) hk

/-- A region of one operation that makes a variable whose type is to be known. -/
theorem awp_alloc_tro {P : Program} {N : Nat} {id : Nat} {op : Oper} {Q : Post} {E : Env} {σ : Heap} {t : TypeId} {ti : TI} {d : Nat} (hg : op.guard = none) (ho : op.op = .alloc t) (hd : op.dst = some d) (hdN : d < N) (ht : tinf P t = some ti)
    (hk : Q .normal (E.put d ⟨true, .ptr σ.length 0 0 0⟩) (σ ++ [.tro 0 t ti.size [ti.zero]])) : AWP P N (.region id #[op] false) Q E σ := by
  refine awp_region ?_
  show AOp P N (prep1 #[op] op) E σ _
  have h1 : (prep1 #[op] op).g = none := by simp [prep1, prepG, hg]
  refine aop_alloc_tro (gcond_none h1) (by simp [prep1, ho]) ht ?_
  have h2 : (prep1 #[op] op).dst = some d := by simp [prep1, hd]
  rw [h2]
  exact ⟨hdN, hk⟩

end

/-- A buffer: nil, or a row of bytes of which the first n are these. -/
def BufAt (e : TypeId) (n : Nat) (xs : List Value) (v : Value) (w : World) : Prop :=
  (v = .slice none 0 0 ∧ n = 0 ∧ xs = []) ∨ ∃ g cap cur, v = .slice (some ⟨g, 0, none⟩) n cap ∧ w.heap[g]? = some (.cells cur e (0, 0)) ∧ n ≤ cap ∧ cap ≤ cur.size ∧ cur.toList.take n = xs

/-- behind an append -/
structure Appended (e : TypeId) (v : Value) (n m : Nat) (zs : List Value) (w : World) (v' : Value) (w' : World) : Prop where
  os : w'.os = w.os
  output : w'.output = w.output
  size : w.heap.size ≤ w'.heap.size
  keep : ∀ k, k < w.heap.size → v.ownBlock ≠ some k → w'.heap[k]? = w.heap[k]?
  new : ∃ g cap cur, v' = .slice (some ⟨g, 0, none⟩) m cap ∧ w'.heap[g]? = some (.cells cur e (0, 0)) ∧ m ≤ cap ∧ cap ≤ cur.size ∧ cur.toList.take m = zs ∧ (v.ownBlock = some g ∨ w.heap.size ≤ g)

/-- A string is appended to a buffer. -/
theorem append_buf {P : Program} (w : World) (t u ty e : TypeId) (i : TypeInfo) (ht : P.underlying t = some (.slice e)) (hu : P.underlying u = some .string) (hi : P.info? e = some i) (hz : i.zero = some (.int .u8 0))
    (hsize : i.size = 1) (hby : i.bytes = 1) {v : Value} {n : Nat} {xs : List Value} (hb : BufAt e n xs v w) (s : ByteArray) (hs : s.size ≠ 0) (hbytes : n + s.size ≤ 140737488355328) :
    ∃ v' w', (Builtin.append_ #[t, u] ty #[v, .string s]).run P w = .ok v' w' ∧ Appended e v n (n + s.size) (xs ++ Lib.strCells s) w v' w' := by
  have grown : ∀ (old : Nat) (xs : List Value), old < n + s.size → xs.length = n → ∀ v : Value,
      Appended e v n (n + s.size) (xs ++ Lib.strCells s) w (.slice (some ⟨w.heap.size, 0, none⟩) (n + s.size) (grownCap w (n + s.size) old e))
        (w.drew.alloc (.cells (xs.toArray ++ (Lib.strCells s).toArray ++ Builtin.zeroCells (Value.int .u8 0).cells (grownCap w (n + s.size) old e - (n + s.size))) e)) := by
    intro old xs ho hxl v
    have hge := grownCap_ge w (n + s.size) old e
    refine ⟨rfl, rfl, by simp, fun k hk _ => RowKit.Below.heap_alloc w.drew _ k hk, _, _, _, rfl, heap_alloc_new w.drew _, hge, ?_, ?_, .inr (Nat.le_refl _)⟩
    · have hz1 : (Value.int IntKind.u8 0).cells.size = 1 := rfl
      simp only [Array.size_append, List.size_toArray, size_zeroCells, hz1, hxl, Lib.strCells_length]
      omega
    · have hlen : (xs ++ Lib.strCells s).length = n + s.size := by rw [List.length_append, hxl, Lib.strCells_length]
      simp only [Array.toList_append, List.append_assoc]
      rw [← List.append_assoc, ← hlen]
      exact List.take_left
  rcases hb with ⟨rfl, rfl, rfl⟩ | ⟨g, cap, cur, rfl, hg, hnc, hcs, htake⟩
  · have hr := run_append_nil_string (P := P) w t u ty e i (.int .u8 0) ht hu hi hz s (by omega) (by omega) (by rw [hby]; omega)
    have hgr := grown 0 [] (by omega) rfl (.slice none 0 0)
    simp only [Nat.zero_add, List.nil_append, Array.empty_append] at hgr ⊢
    have e1 : (s.data.map fun b => Value.int .u8 b.toNat) = (Lib.strCells s).toArray := by
      apply Array.ext'
      simp [Lib.strCells]
    rw [e1] at hr
    exact ⟨_, _, hr, hgr⟩
  · have hxl : xs.length = n := by rw [← htake]; simp; omega
    have hgl := (Array.getElem?_eq_some_iff.1 hg).1
    by_cases hroom : n + s.size ≤ cap
    · have hr := Lib.run_append_room_string (P := P) w t u ty e i ht hu hi hsize g n cap cur hg s hroom (by omega)
      refine ⟨_, _, hr, rfl, rfl, by simp, fun k _ hk => setRow_other w g k _ (fun e => hk (by simp [Value.ownBlock, e])), g, cap, _, rfl, setRow_heap w g cur _ e _ hg, hroom, ?_, ?_, .inl rfl⟩
      · simp only [List.size_toArray, List.length_append, List.length_take, List.length_drop, Array.length_toList, Lib.strCells_length]
        omega
      · rw [htake]
        have hlen : (xs ++ Lib.strCells s).length = n + s.size := by rw [List.length_append, hxl, Lib.strCells_length]
        rw [← hlen]
        exact List.take_left
    · have holds : ∀ j u, xs[j]? = some u → w.cell? ((⟨g, 0, none⟩ : Addr).add j) = some u := by
        intro j u hj
        rw [addr_add, Nat.zero_add, Lib.cell_of_heap hg]
        rw [← htake, List.getElem?_take] at hj
        split at hj
        · simpa using hj
        · cases hj
      have hr := Lib.run_append_grow_string (P := P) w t u ty e i (.int .u8 0) ht hu hi hz ⟨g, 0, none⟩ n cap xs (by rw [hsize]; simpa using hxl) holds s (by omega) (by omega) (by rw [hby]; exact growslice_fits (by omega) (by omega))
      exact ⟨_, _, hr, grown cap xs (by omega) hxl _⟩

/-- The operation, for a walk through the world. -/
theorem wpList_append_buf {P : Program} {w : World} {ops : Array Oper} {rest : List Oper} {o : Oper} {a : Act} {Q : Exit → Act → World → Prop} (hgd : o.guard = none) (sl x : Operand) (t u : TypeId)
    (ho : o.op = .call { callee := .builtin .append, args := #[sl, x], argTypes := #[t, u] }) (e : TypeId) (i : TypeInfo) (ht : P.underlying t = some (.slice e)) (hu : P.underlying u = some .string) (hi : P.info? e = some i) (hz : i.zero = some (.int .u8 0))
    (hsize : i.size = 1) (hby : i.bytes = 1) {v : Value} {n : Nat} {xs : List Value} (hs : a.eval sl = v) (hb : BufAt e n xs v w) (s : ByteArray) (hx : a.eval x = .string s) (h0 : s.size ≠ 0) (hbytes : n + s.size ≤ 140737488355328)
    (h : ∀ v' w', Appended e v n (n + s.size) (xs ++ Lib.strCells s) w v' w' → wpList P ops Q rest (a.put o.dst v') w') : wpList P ops Q (o :: rest) a w := by
  refine wpList_plain hgd fun K hK => ?_
  obtain ⟨v', w', hr, h2⟩ := append_buf (P := P) w t u o.type e i ht hu hi hz hsize hby hb s h0 hbytes
  unfold Oper.wp execOp
  simp only [ho, resolve, invoke, builtin, Sem.run_bind, Sem.run_pure, Result.andThen_ok, List.map_toArray, List.map_cons, List.map_nil, hs, hx, hr]
  exact hK _ _ (h v' w' h2)

end Go.Ab
set_option linter.unusedVariables false
set_option linter.unusedSimpArgs false
set_option linter.unusedSectionVars false
namespace Go.Ab
open Go
variable [GlobFacts]

def frzO (i g e : Nat) (es : List AV) : AObj → AObj
  | .row g' e' l => .row g' e' (frzL i g e es l)
  | .tro g' t e' l => .tro g' t e' (frzL i g e es l)
  | .it g' s n => .it g' s n
  | .map g' l => .map g' (l.map fun p => (p.1, frz i g e es p.2))
  | .dead g' => .dead g'
  | .hole => .hole

theorem loOf_frzO {i g e : Nat} {es : List AV} (o : AObj) (r : Option (Nat × Nat)) (g' : Nat) : loOf (frzO i g e es o) r g' = loOf o r g' := by
  cases o <;> cases r <;> rfl
theorem lm_frzO {i g e : Nat} {es : List AV} {σ : Heap} {ρ : Locs} : lm (σ.map (frzO i g e es)) ρ = lm σ ρ := by
  funext j g'
  simp only [lm, List.getElem?_map]
  cases σ[j]? with
  | none => rfl
  | some o => cases ρ[j]? with
    | none => rfl
    | some r => exact loOf_frzO o r g'

section
variable {w : World} {σ : Heap} {ρ : Locs}
theorem mapRep_frz (h : HeapOK w σ ρ) {i g e : Nat} {es : List AV} (hi : σ[i]? = some (.row g e es)) : ∀ (l : List (Value × AV)) (ms : List MapEntry), mapRep w (lm σ ρ) l ms → mapRep w (lm (σ.set i (.dead g)) (ρ.set i none)) (l.map fun p => (p.1, frz i g e es p.2)) ms
  | [], ms, H => H
  | (k, a) :: l, ms, H => by
    obtain ⟨m, rest, rfl, h1, h2, h3⟩ := H
    exact ⟨m, rest, rfl, h1, Rep.frz h hi _ _ h2, mapRep_frz h hi l rest h3⟩

theorem HeapOK.killF (h : HeapOK w σ ρ) {i g e : Nat} {es : List AV} (hi : σ[i]? = some (.row g e es)) :
    HeapOK w ((σ.set i (.dead g)).map (frzO i g e es)) (ρ.set i none) ∧ Tr w (lm σ ρ) w (lm ((σ.set i (.dead g)).map (frzO i g e es)) (ρ.set i none)) := by
  have hlt := (List.getElem?_eq_some_iff.1 hi).1
  have hlt' : i < ρ.length := by rw [h.len]; exact hlt
  obtain ⟨h1, h2, _⟩ := h.kill hi rfl (by simp)
  rw [lm_frzO]
  refine ⟨⟨by simp [h.len], fun j o' r ho' hr => ?_, h1.inj, by rw [lm_frzO]; exact h1.glob⟩, h2⟩
  rw [lm_frzO]
  rw [List.getElem?_map] at ho'
  obtain ⟨o, ho, rfl⟩ := Option.map_eq_some_iff.1 ho'
  by_cases hij : i = j
  · subst hij
    rw [List.getElem?_set_self hlt] at ho
    rw [List.getElem?_set_self hlt'] at hr
    cases ho; cases hr; rfl
  · rw [List.getElem?_set_ne hij] at ho hr
    have H := h.obj j o r ho hr
    cases o with
    | dead g => exact H
    | hole => exact H
    | row g' e' l =>
      cases r with
      | none =>
        simp only [ObjOK] at H
        subst H
        rfl
      | some p =>
        obtain ⟨b, sz⟩ := p
        obtain ⟨xs, ys, t, fr, k1, k2, k3, k4⟩ := H
        exact ⟨xs, ys, t, fr, k1, k2, k3, RepE.frz h hi e' l xs k4⟩
    | map g' l =>
      cases r with
      | none => exact H
      | some p =>
        obtain ⟨b, sz⟩ := p
        obtain ⟨k0, ms, clock, k1, k2⟩ := H
        exact ⟨k0, ms, clock, k1, mapRep_frz h hi l _ k2⟩
    | tro g' t e' l =>
      cases r with
      | none => exact H
      | some p =>
        obtain ⟨b, sz⟩ := p
        obtain ⟨xs, ys, k1, k2, k4⟩ := H
        exact ⟨xs, ys, k1, k2, RepE.frz h hi e' l xs k4⟩
    | it g' s n =>
      cases r with
      | none => exact H
      | some p =>
        obtain ⟨b, sz⟩ := p
        exact H

theorem frzO_id {i g e : Nat} {es : List AV} {n : Nat} (hn : n ≤ i) : ∀ (o : AObj), o.allI (· < n) → frzO i g e es o = o := by
  have hne : ∀ j, j < n → j ≠ i := fun j hj => by omega
  intro o ho
  cases o with
  | dead g => rfl
  | hole => rfl
  | row g' e' l => simp only [frzO]; rw [frzL_id i g e es l (AllIL.mono hne l ho)]
  | tro g' t e' l => simp only [frzO]; rw [frzL_id i g e es l (AllIL.mono hne l ho)]
  | it g' s n => rfl
  | map g' l =>
    simp only [frzO]
    congr 1
    have : ∀ x ∈ l, (fun p : Value × AV => (p.1, frz i g e es p.2)) x = id x := fun x hx => by
      simp only [id]
      rw [frz_id i g e es x.2 (AllI.mono hne x.2 (ho x hx))]
    rw [List.map_congr_left this, List.map_id]
theorem frzO_map {i g e : Nat} {es : List AV} {n : Nat} (hn : n ≤ i) {σ : Heap} (hw : WfH n σ) : σ.map (frzO i g e es) = σ := by
  have : ∀ o ∈ σ, frzO i g e es o = id o := fun o ho => frzO_id hn o (hw o ho)
  rw [List.map_congr_left this, List.map_id]

variable {P : Program} {N : Nat} {E : Env}
/-- **A row is data from here on**, also where other objects name it. -/
theorem awp_frzH {c : Code} {Q : Post} {τ : Heap} {k g e : Nat} {es : List AV} (hw : WfH σ.length σ) (hi : τ[k]? = some (.row g e es))
    (h : AWP P N c Q (frzE (σ.length + k) g e es E) (σ ++ (τ.set k (.dead g)).map (frzO (σ.length + k) g e es))) : AWP P N c Q E (σ ++ τ) := by
  have hi' : (σ ++ τ)[σ.length + k]? = some (.row g e es) := by rw [List.getElem?_append_right (by omega)]; simpa using hi
  have hs : (σ ++ τ).set (σ.length + k) (.dead g) = σ ++ τ.set k (.dead g) := by rw [List.set_append_right _ _ (by omega)]; simp
  have hm : ((σ ++ τ).set (σ.length + k) (.dead g)).map (frzO (σ.length + k) g e es) = σ ++ (τ.set k (.dead g)).map (frzO (σ.length + k) g e es) := by
    rw [hs, List.map_append, frzO_map (by omega) hw]
  intro a w ρ hst
  obtain ⟨h1, h2⟩ := hst.heap.killF hi'
  rw [hm] at h1 h2
  have hst' : St N a w (ρ.set (σ.length + k) none) (frzE (σ.length + k) g e es E) (σ ++ (τ.set k (.dead g)).map (frzO (σ.length + k) g e es)) := by
    refine ⟨hst.tmps, hst.defers, fun t x ht => ?_, h1⟩
    obtain ⟨y, hy, rfl⟩ := frzE_get ht
    obtain ⟨v, hv, hok⟩ := hst.env t y hy
    refine ⟨v, hv, ?_⟩
    have hl : lm (σ ++ (τ.set k (.dead g)).map (frzO (σ.length + k) g e es)) (ρ.set (σ.length + k) none) = lm ((σ ++ τ).set (σ.length + k) (.dead g)) (ρ.set (σ.length + k) none) := by rw [← hm, lm_frzO]
    rw [hl]
    unfold EV.ok at *
    split
    · rename_i hc; rw [if_pos hc] at hok; exact Rep.frz hst.heap hi' _ _ hok
    · rename_i hc; rw [if_neg hc] at hok; exact hok
  exact wp_mono (h a w _ hst') fun _ _ _ ⟨E', σ', ρ', k1, k2, k3⟩ => ⟨E', σ', ρ', k1, h2.trans k2, k3⟩
end
end Go.Ab
namespace Go.Ab
open Go Go.Lib
variable [GlobFacts]

theorem aop_range_str {P : Program} {N : Nat} {o : POp} {E : Env} {σ : Heap} {K : Env → Heap → Prop} {t : TypeId} {ti : TI} {x : Operand} {s : ByteArray} (hg : gcond E o = some true) (ho : o.op = .range t x) (ht : tinf P t = some ti) (hk : ti.kind = .str)
    (hx : (lk E x).a = .v (.string s)) (hs : opsC E o.op.operands.toList) (hK : putK N o.dst ⟨true, .ptr σ.length 0 0 0⟩ K E (σ ++ [.it 0 s 0])) : AOp P N o E σ K := by
  intro a w ρ hst
  rw [gcond_sound hst hg]
  have hc := opsC_iff.1 hs
  have hx' := hst.val x (hc x (by simp [ho, Op.operands]))
  rw [hx] at hx'
  simp only [Rep] at hx'
  obtain ⟨d, hd1, hd2, hd3⟩ := tinf_underlying ht w
  have htr := tr_push hst.heap (.stringIter s 0) (.it 0 s 0) 0
  have hh := hst.heap.add (o := .it 0 s 0) (r := some (w.heap.size, 0)) htr (fun b hb => RowKit.Below.heap_alloc w _ b hb) (fun i b s hi => hst.heap.lt hi) (fun b s hb => by cases hb; exact Nat.le_refl _)
    ⟨rfl, by show (w.heap.push _)[w.heap.size]? = _; simp⟩
  have h3 : lm (σ ++ [.it 0 s 0]) (ρ ++ [some (w.heap.size, 0)]) σ.length 0 = .here w.heap.size 0 0 := by
    rw [lm_push_new hst.heap.len]; simp [loOf, AObj.gen]
  have hstr : d = .string := by
    rw [hk] at hd2
    cases d <;> simp [TK.of] at hd2
    rfl
  subst hstr
  have hrun : (execOp a.eval o.oper).run P w = .ok (.value (.pointer (some ⟨w.heap.size, 0, none⟩))) (w.alloc (.stringIter s 0)) := by
    simp [execOp, POp.oper, ho, Instr.range, hx', hd3, newObj]
    rfl
  simp only [if_true, Oper.wp, hrun, Oper.upon]
  exact OpQ.of hst (Tr.refl _ _) htr hh (by simp only [EV.ok, Rep, if_true]; rw [h3]; simp [ptrAt]) hK

theorem HeapOK.iter {w : World} {σ : Heap} {ρ : Locs} (h : HeapOK w σ ρ) {i g pos : Nat} {s : ByteArray} (hi : σ[i]? = some (.it g s pos)) :
    ∃ b, lm σ ρ i g = .here b 0 0 ∧ ρ[i]? = some (some (b, 0)) ∧ w.heap[b]? = some (.stringIter s pos) := by
  have hlt := (List.getElem?_eq_some_iff.1 hi).1
  have hr : ρ[i]? = some (ρ[i]'(by rw [h.len]; exact hlt)) := List.getElem?_eq_getElem _
  have hob := h.obj i _ _ hi hr
  cases hc : ρ[i]'(by rw [h.len]; exact hlt) with
  | none => rw [hc] at hob; exact hob.elim
  | some p =>
    obtain ⟨b, sz⟩ := p
    rw [hc] at hob hr
    obtain ⟨h1, h2⟩ := hob
    subst h1
    exact ⟨b, by simp [lm, hi, hr, loOf, AObj.gen], hr, h2⟩

theorem aop_next_end {P : Program} {N : Nat} {o : POp} {E : Env} {σ : Heap} {K : Env → Heap → Prop} {ty : TypeId} {x : Operand} {s : ByteArray} {i g pos : Nat} (hg : gcond E o = some true) (ho : o.op = .next x true) 
    (hx : (lk E x).a = .ptr i g 0 0) (hi : σ[i]? = some (.it g s pos)) (hp : ¬ pos < s.size) (hs : opsC E o.op.operands.toList) (hK : putK N o.dst ⟨true, .tup [.v (.bool false)]⟩ K E σ) : AOp P N o E σ K := by
  refine aop_value hg (fun hG a w ρ hst => ?_) hK
  have hc := opsC_iff.1 hs
  have hx' := hst.val x (hc x (by simp [ho, Op.operands]))
  rw [hx] at hx'
  obtain ⟨b, h1, _, h2⟩ := hst.heap.iter hi
  simp only [Rep, h1, ptrAt, Nat.zero_mul, Nat.add_zero] at hx'
  refine ⟨.tuple #[.bool false], ?_, [.bool false], rfl, ?_⟩
  · simp [execOp, POp.oper, ho, hx', run_next_end_at w b s pos _ h2 hp]
  · exact ⟨_, _, rfl, rfl, rfl⟩

theorem aop_next_ascii {P : Program} {N : Nat} {o : POp} {E : Env} {σ : Heap} {K : Env → Heap → Prop} {ty : TypeId} {x : Operand} {s : ByteArray} {i g pos : Nat} (hg : gcond E o = some true) (ho : o.op = .next x true) 
    (hx : (lk E x).a = .ptr i g 0 0) (hi : σ[i]? = some (.it g s pos)) (hp : pos < s.size) (ha : (s[pos]'hp).toNat < 128) (hs : opsC E o.op.operands.toList)
    (hK : putK N o.dst ⟨true, .tup [.v (.bool true), .v (.int .i64 pos), .v (.int .i32 (s[pos]'hp).toNat)]⟩ K E (σ.set i (.it g s (pos + 1)))) : AOp P N o E σ K := by
  intro a w ρ hst
  rw [gcond_sound hst hg]
  have hc := opsC_iff.1 hs
  have hx' := hst.val x (hc x (by simp [ho, Op.operands]))
  rw [hx] at hx'
  obtain ⟨b, hl, hr, hb⟩ := hst.heap.iter hi
  simp only [Rep, hl, ptrAt, Nat.zero_mul, Nat.add_zero] at hx'
  have hlt := hst.heap.lt hr
  have hlm : lm (σ.set i (.it g s (pos + 1))) ρ = lm σ ρ := by
    funext j g'
    unfold lm
    by_cases hj : i = j
    · subst hj
      rw [List.getElem?_set_self (List.getElem?_eq_some_iff.1 hi).1, hi]
      cases ρ[i]? with
      | none => rfl
      | some r => cases r <;> rfl
    · rw [List.getElem?_set_ne hj]
  have hown : Owned (lm σ ρ) b := owned_of_loc hst.heap hr
  have htr : Tr w (lm σ ρ) (wset w b (.stringIter s (pos + 1))) (lm σ ρ) :=
    ⟨rfl, rfl, by simp, fun k _ ho => wset_other _ (fun e => ho (e ▸ hown)), fun _ h => .inl h, fun _ _ _ _ => .inl rfl⟩
  have htr' : Tr w (lm σ ρ) (wset w b (.stringIter s (pos + 1))) (lm (σ.set i (.it g s (pos + 1))) ρ) := by rw [hlm]; exact htr
  have hh : HeapOK (wset w b (.stringIter s (pos + 1))) (σ.set i (.it g s (pos + 1))) ρ := by
    refine ⟨by simp [hst.heap.len], fun j ob r ho hrj => ?_, hst.heap.inj, hst.heap.glob.tr htr'⟩
    rw [hlm]
    by_cases hj : i = j
    · subst hj
      rw [List.getElem?_set_self (List.getElem?_eq_some_iff.1 hi).1] at ho
      cases ho
      rw [hr] at hrj
      cases hrj
      exact ⟨rfl, wset_same _ hlt⟩
    · rw [List.getElem?_set_ne hj] at ho
      refine (hst.heap.obj j ob r ho hrj).trV htr ?_ (fun b' s e => ?_)
      · cases ob with
        | dead g => trivial
        | hole => trivial
        | row g e es => exact AllIL.all (fun _ => trivial) es
        | tro g t e es => exact AllIL.all (fun _ => trivial) es
        | it g s n => trivial
        | map g es => exact fun x _ => AllI.all (fun _ => trivial) x.2
      · exact wset_other _ (ne_of_inj hst.heap hj hr (by rw [hrj, e]))
  have hrun : (execOp a.eval o.oper).run P w = .ok (.value (.tuple #[.bool true, .int .i64 pos, .int .i32 (s[pos]'hp).toNat])) (wset w b (.stringIter s (pos + 1))) := by
    simp [execOp, POp.oper, ho, hx', run_next_ascii_at w b s pos _ hb hp ha]
    rfl
  simp only [if_true, Oper.wp, hrun, Oper.upon]
  refine OpQ.of hst (Tr.refl _ _) htr' hh ?_ hK
  simp only [EV.ok, if_true]
  exact ⟨_, rfl, _, _, rfl, rfl, _, _, rfl, rfl, _, _, rfl, rfl, rfl⟩
end Go.Ab
