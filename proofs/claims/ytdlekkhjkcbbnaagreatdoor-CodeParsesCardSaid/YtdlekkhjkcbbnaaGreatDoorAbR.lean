/-
  A row that nobody writes any more is data (freeze); a row lent to a callee that only reads (lend).
-/
import Derived.Test.YtdlekkhjkcbbnaaGreatDoorAbQ
set_option linter.unusedVariables false
set_option linter.unusedSimpArgs false
set_option linter.unusedSectionVars false
namespace Go.Ab
open Go
variable [GlobFacts]

mutual
/-- Object i, generation g, is the row es, of e cells an element: slices of it become their elements. -/
def frz (i g e : Nat) (es : List AV) : AV → AV
  | .os j g' k n => if j = i then (if g' = g ∧ k + n ≤ es.length then .sl e ((es.drop k).take n) else .any) else .os j g' k n
  | .ptr j g' k off => if j = i then .any else .ptr j g' k off
  | .mp j g' => if j = i then .any else .mp j g'
  | .any => .any
  | .v x => .v x
  | .sl e' l => .sl e' (frzL i g e es l)
  | .rp a => .rp (frz i g e es a)
  | .agg l => .agg (frzL i g e es l)
  | .tup l => .tup (frzL i g e es l)
  | .fn f x y => .fn f (frzL i g e es x) (frzL i g e es y)
  | .ifc t a => .ifc t (frz i g e es a)
def frzL (i g e : Nat) (es : List AV) : List AV → List AV
  | [] => []
  | a :: l => frz i g e es a :: frzL i g e es l
end

mutual
theorem frz_id (i g e : Nat) (es : List AV) : ∀ a, AllI (· ≠ i) a → frz i g e es a = a
  | .any, _ => rfl
  | .v _, _ => rfl
  | .sl e' l, h => by simp only [frz, AllI] at *; rw [frzL_id i g e es l h]
  | .rp a, h => by simp only [frz, AllI] at *; rw [frz_id i g e es a h]
  | .ptr j g' k off, h => by simp only [frz, AllI] at *; rw [if_neg h]
  | .os j g' k n, h => by simp only [frz, AllI] at *; rw [if_neg h]
  | .mp j g', h => by simp only [frz, AllI] at *; rw [if_neg h]
  | .agg l, h => by simp only [frz, AllI] at *; rw [frzL_id i g e es l h]
  | .tup l, h => by simp only [frz, AllI] at *; rw [frzL_id i g e es l h]
  | .fn f x y, h => by simp only [frz, AllI] at *; rw [frzL_id i g e es x h.1, frzL_id i g e es y h.2]
  | .ifc t a, h => by simp only [frz, AllI] at *; rw [frz_id i g e es a h]
theorem frzL_id (i g e : Nat) (es : List AV) : ∀ l, AllIL (· ≠ i) l → frzL i g e es l = l
  | [], _ => rfl
  | a :: l, h => by simp only [frzL, AllIL] at *; rw [frz_id i g e es a h.1, frzL_id i g e es l h.2]
end

theorem frz_pure (i g e : Nat) (es : List AV) {a : AV} (h : Pure a) : frz i g e es a = a := frz_id i g e es a (AllI.mono (fun _ h => h.elim) a h)
theorem frzL_pure (i g e : Nat) (es : List AV) {l : List AV} (h : PureL l) : frzL i g e es l = l := frzL_id i g e es l (AllIL.mono (fun _ h => h.elim) l h)

theorem frzL_length (i g e : Nat) (es : List AV) : ∀ l, (frzL i g e es l).length = l.length
  | [] => rfl
  | a :: l => by simp [frzL, frzL_length i g e es l]

section
variable {w : World} {σ : Heap} {ρ : Locs}

theorem lm_dead {i g : Nat} {o : AObj} (hi : σ[i]? = some o) (hg : o.gen = g) (hl : ρ.length = σ.length) (ho : o ≠ .hole) {j g' : Nat} (h : lm σ ρ j g' ≠ .bad) : (j ≠ i → lm (σ.set i (.dead g)) (ρ.set i none) j g' = lm σ ρ j g') ∧ (j = i → lm (σ.set i (.dead g)) (ρ.set i none) j g' = .stale) := by
  refine ⟨fun hij => ?_, fun hij => ?_⟩
  · unfold lm
    rw [List.getElem?_set_ne (Ne.symm hij), List.getElem?_set_ne (Ne.symm hij)]
  · subst hij
    have hlt := (List.getElem?_eq_some_iff.1 hi).1
    have hle : g' ≤ g := by
      rcases Nat.lt_or_ge g g' with h1 | h1
      · exfalso; apply h
        unfold lm
        rw [hi]
        cases ρ[j]? with
        | none => rfl
        | some r => simp [loOf, hg, h1]
      · exact h1
    unfold lm
    rw [List.getElem?_set_self hlt, List.getElem?_set_self (by omega)]
    have e1 : ¬ (AObj.dead g).gen < g' := by simp only [AObj.gen]; omega
    simp only [loOf]
    rw [if_neg e1]
    split <;> rfl

/-- Forget that an object can be written. -/
theorem HeapOK.kill (h : HeapOK w σ ρ) {i g : Nat} {o : AObj} (hi : σ[i]? = some o) (hg : o.gen = g) (ho : o ≠ .hole) :
    HeapOK w (σ.set i (.dead g)) (ρ.set i none) ∧ Tr w (lm σ ρ) w (lm (σ.set i (.dead g)) (ρ.set i none)) ∧ (∀ b s, ρ[i]? = some (some (b, s)) → ¬ Owned (lm (σ.set i (.dead g)) (ρ.set i none)) b) := by
  have hlt := (List.getElem?_eq_some_iff.1 hi).1
  have hlt' : i < ρ.length := by rw [h.len]; exact hlt
  have hloc : ∀ (j b s : Nat), (ρ.set i none)[j]? = some (some (b, s)) → j ≠ i ∧ ρ[j]? = some (some (b, s)) := by
    intro j b s hj
    by_cases hij : i = j
    · subst hij; rw [List.getElem?_set_self hlt'] at hj; cases hj
    · rw [List.getElem?_set_ne hij] at hj; exact ⟨Ne.symm hij, hj⟩
  have htr : Tr w (lm σ ρ) w (lm (σ.set i (.dead g)) (ρ.set i none)) := by
    refine ⟨rfl, rfl, Nat.le_refl _, fun _ _ _ => rfl, fun b hb => ?_, fun j g' _ hbad => ?_⟩
    · obtain ⟨j, s, hj⟩ := owned_lm hb
      exact .inl (owned_of_loc h (hloc j b s hj).2)
    · by_cases hij : j = i
      · exact .inr ((lm_dead hi hg h.len ho hbad).2 hij)
      · exact .inl ((lm_dead hi hg h.len ho hbad).1 hij)
  refine ⟨⟨by simp [h.len], fun j o' r ho' hr => ?_, fun j k b s s' hj hk => ?_, h.glob.tr htr⟩, htr, fun b s hb hown => ?_⟩
  · by_cases hij : i = j
    · subst hij
      rw [List.getElem?_set_self hlt] at ho'
      rw [List.getElem?_set_self hlt'] at hr
      cases ho'; cases hr; rfl
    · rw [List.getElem?_set_ne hij] at ho' hr
      refine (h.obj j o' r ho' hr).trV htr ?_ (fun _ _ _ => rfl)
      cases o' with
      | dead g => trivial
      | hole => trivial
      | row g e es => exact AllIL.all (fun _ => trivial) es
      | tro g t e es => exact AllIL.all (fun _ => trivial) es
      | it g s n => trivial
      | map g es => exact fun x _ => AllI.all (fun _ => trivial) x.2
  · exact h.inj j k b s s' (hloc j b s hj).2 (hloc k b s' hk).2
  · obtain ⟨j, s', hj⟩ := owned_lm hown
    obtain ⟨hji, hj'⟩ := hloc j b s' hj
    exact hji (h.inj j i b s' s hj' hb)

/-- A slice of a row that is dead now reads as its elements. -/
theorem os_frz (h : HeapOK w σ ρ) {i g e : Nat} {es : List AV} (hi : σ[i]? = some (.row g e es)) {k n : Nat} (hkn : k + n ≤ es.length) {x : Value} (hx : Rep w (lm σ ρ) (.os i g k n) x) :
    Rep w (lm (σ.set i (.dead g)) (ρ.set i none)) (.sl e ((es.drop k).take n)) x := by
  obtain ⟨h1, h2, h3⟩ := h.kill hi rfl (by simp)
  simp only [Rep] at hx
  have hln : ((es.drop k).take n).length = n := by simp; omega
  rcases h.row hi with ⟨hl, rfl, _⟩ | ⟨b, sz, xs, ys, t', fr, hl, hr, hblk, hlen, _, hrep⟩
  · rw [hl] at hx
    obtain ⟨rfl, rfl, rfl⟩ := hx
    simp [Rep]
  · rw [hl] at hx
    rcases hx with ⟨cap, rfl, hn, hcap⟩ | ⟨rfl, r, rfl, hrb⟩
    · obtain ⟨y1, z1, hxs, hy1, hz1⟩ := repE_drop k (by omega) hrep
      obtain ⟨y2, z2, hz, hy2⟩ := repE_take n hz1
      simp only [Rep]
      refine .inr ⟨b, k * e, cap, by rw [hln], by rw [hln]; exact hn, h.lt hr, h3 b sz hr, y2, RepE.tr h2 hy2, fun j hj => ?_⟩
      simp only [World.cell?, hblk, Option.isSome_none, Bool.false_eq_true, if_false, List.getElem?_toArray]
      rw [hxs, hz, ← hy1, List.append_assoc, List.getElem?_append_right (by omega), Nat.add_sub_cancel_left, List.append_assoc, List.getElem?_append_left hj]
    · simp only [Rep, List.take_zero]
      cases r with
      | none => exact .inl ⟨trivial, rfl⟩
      | some a =>
        obtain ⟨ha, hs⟩ := hrb a rfl
        obtain ⟨ab, ao, asp⟩ := a
        simp only at ha hs
        subst ha; subst hs
        exact .inr ⟨ab, ao, 0, rfl, Nat.le_refl _, h.lt hr, h3 ab sz hr, [], rfl, fun j hj => by simp at hj⟩

mutual
theorem Rep.frz (h : HeapOK w σ ρ) {i g e : Nat} {es : List AV} (hi : σ[i]? = some (.row g e es)) : ∀ a x, Rep w (lm σ ρ) a x → Rep w (lm (σ.set i (.dead g)) (ρ.set i none)) (Ab.frz i g e es a) x
  | .any, _, _ => trivial
  | .v _, _, H => H
  | .sl e' l, x, H => by
    obtain ⟨h1, h2, h3⟩ := h.kill hi rfl (by simp)
    simp only [Rep, Ab.frz] at *
    rcases H with ⟨rfl, H⟩ | ⟨b, off, cap, hx, hn, hb, ho, xs, hr, hc⟩
    · exact .inl ⟨rfl, H⟩
    · exact .inr ⟨b, off, cap, by rw [frzL_length]; exact hx, by rw [frzL_length]; exact hn, hb, Owned.tr h2 hb ho, xs, RepE.frz h hi e' l xs hr, hc⟩
  | .rp a, x, H => by
    obtain ⟨h1, h2, h3⟩ := h.kill hi rfl (by simp)
    simp only [Rep, Ab.frz] at *
    obtain ⟨b, off, hx, hb, ho, y, hr, hc⟩ := H
    exact ⟨b, off, hx, hb, Owned.tr h2 hb ho, y, Rep.frz h hi a y hr, hc⟩
  | .ptr j g' k off, x, H => by
    obtain ⟨h1, h2, h3⟩ := h.kill hi rfl (by simp)
    simp only [Ab.frz]
    split
    · trivial
    · exact Rep.tr h2 H
  | .os j g' k n, x, H => by
    obtain ⟨h1, h2, h3⟩ := h.kill hi rfl (by simp)
    simp only [Ab.frz]
    split
    · rename_i hj
      split
      · rename_i hg
        subst hj
        rw [hg.1] at H
        exact os_frz h hi hg.2 H
      · trivial
    · exact Rep.tr h2 H
  | .mp j g', x, H => by
    obtain ⟨h1, h2, h3⟩ := h.kill hi rfl (by simp)
    simp only [Ab.frz]
    split
    · trivial
    · exact Rep.tr h2 H
  | .agg l, x, H => by
    simp only [Rep, Ab.frz] at *
    obtain ⟨xs, hx, hr, hq⟩ := H
    exact ⟨xs, hx, RepL.frz h hi l xs hr, hq⟩
  | .tup l, x, H => by
    simp only [Rep, Ab.frz] at *
    obtain ⟨xs, hx, hr⟩ := H
    exact ⟨xs, hx, RepL.frz h hi l xs hr⟩
  | .fn f c d, x, H => by
    simp only [Rep, Ab.frz] at *
    obtain ⟨xs, ys, hx, hr, hs⟩ := H
    exact ⟨xs, ys, hx, RepL.frz h hi c xs hr, RepL.frz h hi d ys hs⟩
  | .ifc t a, x, H => by
    simp only [Rep, Ab.frz] at *
    obtain ⟨y, hx, hr⟩ := H
    exact ⟨y, hx, Rep.frz h hi a y hr⟩
theorem RepL.frz (h : HeapOK w σ ρ) {i g e : Nat} {es : List AV} (hi : σ[i]? = some (.row g e es)) : ∀ l xs, RepL w (lm σ ρ) l xs → RepL w (lm (σ.set i (.dead g)) (ρ.set i none)) (frzL i g e es l) xs
  | [], _, H => H
  | a :: l, xs, H => by
    simp only [RepL, frzL] at *
    obtain ⟨y, ys, hx, hr, hs⟩ := H
    exact ⟨y, ys, hx, Rep.frz h hi a y hr, RepL.frz h hi l ys hs⟩
theorem RepE.frz (h : HeapOK w σ ρ) {i g e : Nat} {es : List AV} (hi : σ[i]? = some (.row g e es)) (e' : Nat) : ∀ l xs, RepE w (lm σ ρ) e' l xs → RepE w (lm (σ.set i (.dead g)) (ρ.set i none)) e' (frzL i g e es l) xs
  | [], _, H => H
  | a :: l, xs, H => by
    simp only [RepE, frzL] at *
    obtain ⟨y, ys, hx, hl, hr, hs⟩ := H
    exact ⟨y, ys, hx, hl, Rep.frz h hi a y hr, RepE.frz h hi e' l ys hs⟩
end

end

/-- **At a return:** a row of the result's is data from here on. -/
theorem retOK_frz {n i g e : Nat} {es : List AV} {r : AV} {σ : Heap} {R : AV → Heap → Prop} (hi : σ[i]? = some (.row g e es)) (h : RetOK n (frz i g e es r) (σ.set i (.dead g)) R) : RetOK n r σ R := by
  intro w ρ v hh hrep
  obtain ⟨h1, h2, h3⟩ := hh.kill hi rfl (by simp)
  obtain ⟨r', σ', ρ', k1, k2, k3, k4⟩ := h w _ v h1 (Rep.frz hh hi r v hrep)
  exact ⟨r', σ', ρ', k1, (h2.mono (fun _ _ => trivial)).trans k2, k3, k4⟩

/-- **At a call:** a row of an argument's is data from here on. -/
theorem acalls_frz {P : Program} {f : FuncId} {args : List AV} {σ : Heap} {R : AV → Heap → Prop} {i g e : Nat} {es : List AV} (hi : σ[i]? = some (.row g e es)) (h : ACalls P f (frzL i g e es args) (σ.set i (.dead g)) R) : ACalls P f args σ R := by
  refine ⟨h.1, fun vs w ρ hh hrep => ?_⟩
  obtain ⟨h1, h2, h3⟩ := hh.kill hi rfl (by simp)
  exact (h.2 vs w _ h1 (RepL.frz hh hi args vs hrep)).mono fun e w' ⟨v, r, σ', ρ', k1, k2, k3, k4, k5⟩ => ⟨v, r, σ', ρ', k1, k2, h2.trans k3, k4, k5⟩

/-- A value without any reference. -/
def flat : AV → Bool
  | .v _ => true
  | .tup l => l.all fun | .v _ => true | _ => false
  | _ => false

theorem flatL_rep {w w' : World} {L L' : LM} : ∀ {l : List AV} {xs : List Value}, (l.all fun | .v _ => true | _ => false) = true → RepL w L l xs → RepL w' L' l xs
  | [], _, _, H => H
  | a :: l, xs, h, H => by
    simp only [List.all_cons, Bool.and_eq_true] at h
    obtain ⟨y, ys, hx, hr, hs⟩ := H
    refine ⟨y, ys, hx, ?_, flatL_rep h.2 hs⟩
    cases a <;> first | exact hr | (simp at h)

theorem flat_rep {w w' : World} {L L' : LM} {a : AV} {x : Value} (h : flat a = true) (H : Rep w L a x) : Rep w' L' a x := by
  cases a with
  | v y => exact H
  | tup l =>
    simp only [Rep] at *
    obtain ⟨xs, hx, hr⟩ := H
    exact ⟨xs, hx, flatL_rep h hr⟩
  | _ => cases h

/-- What arguments read as, for a callee that is told of no object. -/
def Lend (σ : Heap) (args args' : List AV) : Prop := ∀ w ρ vs, HeapOK w σ ρ → RepL w (lm σ ρ) args vs → RepL w (lm [] []) args' vs

theorem lend_pure {σ : Heap} {args : List AV} (h : PureL args) : Lend σ args args := by
  intro w ρ vs hh hr
  refine RepL.trV (V := fun _ => False) ⟨rfl, rfl, Nat.le_refl _, fun _ _ _ => rfl, fun b hb => ?_, fun _ _ h => h.elim⟩ args vs h hr
  obtain ⟨i, g, e, sz, hb⟩ := hb
  simp [lm] at hb

theorem lend_frz {σ : Heap} {args args' : List AV} {i g e : Nat} {es : List AV} (hi : σ[i]? = some (.row g e es)) (h : Lend (σ.set i (.dead g)) (frzL i g e es args) args') : Lend σ args args' := by
  intro w ρ vs hh hr
  exact h w _ vs (hh.kill hi rfl (by simp)).1 (RepL.frz hh hi args vs hr)

/-- **Rows are lent to a callee that only reads them, and come back as they were.** -/
theorem acalls_lend {P : Program} {f : FuncId} {args args' : List AV} {σ : Heap} {R : AV → Heap → Prop} (hl : Lend σ args args') (h : ACalls P f args' [] (fun r _ => flat r = true ∧ R r σ)) : ACalls P f args σ R := by
  refine ⟨h.1, fun vs w ρ hh hrep => ?_⟩
  have h0 : HeapOK w [] [] := ⟨rfl, fun i o r ho => by simp at ho, fun i j b s s' hi => by simp at hi, hh.glob.tr (V := fun _ => False) ⟨rfl, rfl, Nat.le_refl _, fun _ _ _ => rfl, fun b ⟨i, g, e, sz, hb⟩ => by simp [lm] at hb, fun _ _ h => h.elim⟩⟩
  refine (h.2 vs w [] h0 (hl w ρ vs hh hrep)).mono fun en w' ⟨v, r, σ', ρ1, k1, k2, k3, k4, k5, k6⟩ => ?_
  have hkeep : ∀ b, b < w.heap.size → w'.heap[b]? = w.heap[b]? := fun b hb => k3.keep b hb (fun ⟨i, g, e, sz, hx⟩ => by simp [lm] at hx)
  have htr : Tr w (lm σ ρ) w' (lm σ ρ) := ⟨k3.os, k3.output, k3.size, fun b hb _ => hkeep b hb, fun _ h => .inl h, fun _ _ _ _ => .inl rfl⟩
  refine ⟨v, r, σ, ρ, k1, ⟨hh.len, fun i o r ho hr => (hh.obj i o r ho hr).trV htr ?_ (fun b s e => hkeep b (hh.lt (s := s) (hr.trans (congrArg some e)))), hh.inj, hh.glob.tr htr⟩, htr, flat_rep k5 k4, k6⟩
  cases o with
  | dead g => trivial
  | hole => trivial
  | row g e es => exact AllIL.all (fun _ => trivial) es
  | tro g t e es => exact AllIL.all (fun _ => trivial) es
  | it g s n => trivial
  | map g es => exact fun x _ => AllI.all (fun _ => trivial) x.2

end Go.Ab
