/-
  Plain: what the layer judge computes of a record is what its reference computes; what is found explains, and what explains is found.
-/
import Derived.Test.YtkpdjbklnjjedaaJuW
set_option linter.unusedVariables false
set_option linter.unusedSimpArgs false
namespace Go.Ju
open Go.Ab Go

theorem w64_eq (n : Int) : w64 n = if n % 18446744073709551616 ≥ 9223372036854775808 then n % 18446744073709551616 - 18446744073709551616 else n % 18446744073709551616 := by
  simp [w64, IntKind.wrap, IntKind.bits, IntKind.signed]

abbrev i64 (n : Int) : Prop := -9223372036854775808 ≤ n ∧ n < 9223372036854775808
structure Fits (a : Acc) : Prop where
  s : i64 a.s
  m : i64 a.m
abbrev FitsL (l : List Acc) : Prop := ∀ a ∈ l, Fits a

theorem i64_w64 (n : Int) : i64 (w64 n) := by rw [w64_eq]; split <;> constructor <;> omega
theorem w64_id {n : Int} (h : i64 n) : w64 n = n := by rw [w64_eq]; obtain ⟨h1, h2⟩ := h; split <;> omega
theorem w64_succ {m s : Int} (hm : i64 m) (hs : i64 s) : w64 (m - 1) = s ↔ m = w64 (s + 1) := by
  rw [w64_eq, w64_eq]; obtain ⟨h1, h2⟩ := hm; obtain ⟨h3, h4⟩ := hs; split <;> split <;> omega
theorem w64_back {s : Int} (hs : i64 s) : w64 (w64 (s + 1) - 1) = s := (w64_succ (i64_w64 _) hs).2 rfl
theorem w64_ne {s : Int} (hs : i64 s) : w64 (s + 1) ≠ s := by
  rw [w64_eq]; obtain ⟨h3, h4⟩ := hs; split <;> omega

theorem allTo_and {n : Nat} {p q : Nat → Bool} : (allTo n p && allTo n q) = allTo n (fun i => p i && q i) := by
  rw [Bool.eq_iff_iff]; simp only [Bool.and_eq_true, allTo_true]
  exact ⟨fun h i hi => ⟨h.1 i hi, h.2 i hi⟩, fun h => ⟨fun i hi => (h i hi).1, fun i hi => (h i hi).2⟩⟩
theorem allTo_congr {n : Nat} {p q : Nat → Bool} (h : ∀ i < n, p i = q i) : allTo n p = allTo n q := by
  rw [Bool.eq_iff_iff]; simp only [allTo_true]
  exact ⟨fun H i hi => (h i hi) ▸ H i hi, fun H i hi => (h i hi).symm ▸ H i hi⟩

theorem jValid_eq {l : List Acc} (h : FitsL l) : jValid l = rValid l := by
  unfold jValid rValid
  congr 1
  rw [allTo_and]
  refine allTo_congr fun i hi => ?_
  have hg := List.getElem?_eq_getElem hi
  have hf := h _ (List.getElem_mem hi)
  simp only [jUniq, jOk, rOk, hg]
  have e1 : decide (l[i].m = w64 (l[i].s + 1)) = decide (w64 (l[i].m - 1) = l[i].s) := decide_eq_decide.2 (w64_succ hf.m hf.s).symm
  have e2 : (decide (1 < l[i].s) && !(jfind l l[i].o l[i].s).isSome) = (decide (l[i].s > 1) && !rMade l l[i].o l[i].s) := by
    by_cases h1 : 1 < l[i].s
    · rw [jfind_isSome (by omega)]
    · simp [h1]
  rw [e1, e2, Bool.and_comm]
  congr 1
  cases decide (l[i].m = 0) <;> cases rMade (l.take i) l[i].o l[i].m <;> rfl

/-- what a valid record is -/
structure Val (l : List Acc) : Prop where
  len : l.length ≤ 512
  fits : FitsL l
  s1 : ∀ (i : Nat) (a : Acc), l[i]? = some a → 1 ≤ a.s
  step : ∀ (i : Nat) (a : Acc), l[i]? = some a → a.m ≠ 0 → a.m = w64 (a.s + 1)
  src : ∀ (i : Nat) (a : Acc), l[i]? = some a → 1 < a.s → ∃ (j : Nat) (b : Acc), l[j]? = some b ∧ b.o = a.o ∧ b.m = a.s
  uniq : ∀ (i j : Nat) (a b : Acc), l[i]? = some a → l[j]? = some b → a.o = b.o → a.m = b.m → a.m ≠ 0 → i = j

theorem rMade_iff {l : List Acc} {o v : Int} : rMade l o v = true ↔ ∃ (j : Nat) (b : Acc), l[j]? = some b ∧ b.o = o ∧ b.m = v := by
  simp only [rMade, List.any_eq_true, Bool.and_eq_true, decide_eq_true_eq]
  constructor
  · rintro ⟨b, hb, h⟩
    obtain ⟨j, hj⟩ := List.getElem?_of_mem hb
    exact ⟨j, b, hj, h⟩
  · rintro ⟨j, b, hj, h⟩
    exact ⟨b, List.mem_of_getElem? hj, h⟩

theorem val_of {l : List Acc} (hf : FitsL l) (h : rValid l = true) : Val l := by
  simp only [rValid, Bool.and_eq_true, decide_eq_true_eq, allTo_true] at h
  obtain ⟨hlen, hok⟩ := h
  have key : ∀ (i : Nat) (a : Acc), l[i]? = some a → 1 ≤ a.s ∧ (a.m ≠ 0 → w64 (a.m - 1) = a.s) ∧ (1 < a.s → rMade l a.o a.s = true) ∧ (a.m ≠ 0 → rMade (l.take i) a.o a.m = false) := by
    intro i a ha
    have hi : i < l.length := (List.getElem?_eq_some_iff.1 ha).1
    have := hok i hi
    simp only [rOk, ha] at this
    simp only [Bool.and_eq_true, Bool.not_eq_true', Bool.or_eq_false_iff, Bool.and_eq_false_iff, decide_eq_false_iff_not, Bool.not_eq_false', decide_eq_true_eq] at this
    obtain ⟨⟨⟨⟨⟨h1, h2⟩, h3⟩, h4⟩, h5⟩, h6⟩ := this
    refine ⟨by omega, fun hm => ?_, fun hs => ?_, fun hm => ?_⟩
    · exact h4.resolve_left hm
    · exact h5.resolve_left (fun hn => hn hs)
    · exact h6.resolve_left hm
  refine ⟨hlen, hf, fun i a ha => (key i a ha).1, fun i a ha hm => ?_, fun i a ha hs => ?_, ?_⟩
  · have hfa := hf a (List.mem_of_getElem? ha)
    exact (w64_succ hfa.m hfa.s).1 ((key i a ha).2.1 hm)
  · obtain ⟨j, b, h1, h2, h3⟩ := rMade_iff.1 ((key i a ha).2.2.1 hs)
    exact ⟨j, b, h1, h2, h3⟩
  · have lt : ∀ (i j : Nat) (a b : Acc), l[i]? = some a → l[j]? = some b → a.o = b.o → a.m = b.m → a.m ≠ 0 → i < j → False := by
      intro i j a b hi hj ho hm h0 hlt
      have := (key j b hj).2.2.2 (by rw [← hm]; exact h0)
      have h' : rMade (l.take j) b.o b.m = true := rMade_iff.2 ⟨i, a, by rw [List.getElem?_take_of_lt hlt]; exact hi, ho, hm⟩
      rw [this] at h'; cases h'
    intro i j a b hi hj ho hm h0
    rcases Nat.lt_trichotomy i j with h | h | h
    · exact (lt i j a b hi hj ho hm h0 h).elim
    · exact h
    · exact (lt j i b a hj hi ho.symm hm.symm (by rw [← hm]; exact h0) h).elim

section
variable {l : List Acc}

theorem jfind_iff (V : Val l) {o n : Int} {j : Nat} : jfind l o n = some j ↔ n ≠ 0 ∧ ∃ b, l[j]? = some b ∧ b.o = o ∧ b.m = n := by
  unfold jfind
  by_cases h0 : n = 0
  · simp [h0]
  simp only [h0, if_false]
  constructor
  · intro h
    obtain ⟨hj, hp, _⟩ := List.findIdx?_eq_some_iff_getElem.1 h
    simp only [Bool.and_eq_true, decide_eq_true_eq] at hp
    exact ⟨h0, l[j], List.getElem?_eq_getElem hj, hp⟩
  · rintro ⟨_, b, hb, ho, hm⟩
    cases hf : l.findIdx? (fun a => decide (a.o = o) && decide (a.m = n)) with
    | none =>
      have := List.findIdx?_eq_none_iff.1 hf b (List.mem_of_getElem? hb)
      simp [ho, hm] at this
    | some i =>
      obtain ⟨hi, hp, _⟩ := List.findIdx?_eq_some_iff_getElem.1 hf
      simp only [Bool.and_eq_true, decide_eq_true_eq] at hp
      rw [V.uniq i j l[i] b (List.getElem?_eq_getElem hi) hb (by rw [hp.1, ho]) (by rw [hp.2, hm]) (by rw [hp.2]; exact h0)]

theorem jlast_some {p : Int} : ∀ {k j : Nat}, jlast l k p = some j → j < k ∧ ∃ b, l[j]? = some b ∧ b.p = p
  | 0, _, h => by simp [jlast] at h
  | k + 1, j, h => by
    unfold jlast at h
    split at h
    · rename_i a ha
      split at h
      · rename_i hp
        cases h; exact ⟨by omega, a, ha, hp⟩
      · obtain ⟨h1, h2⟩ := jlast_some h; exact ⟨by omega, h2⟩
    · obtain ⟨h1, h2⟩ := jlast_some h; exact ⟨by omega, h2⟩
theorem jlast_of {p : Int} : ∀ {k i : Nat} {b : Acc}, i < k → l[i]? = some b → b.p = p → ∃ j, jlast l k p = some j ∧ i ≤ j
  | 0, i, b, h, _, _ => by omega
  | k + 1, i, b, h, hb, hp => by
    unfold jlast
    by_cases e : i = k
    · subst e
      simp only [hb, hp, if_true]
      exact ⟨i, rfl, Nat.le_refl _⟩
    · obtain ⟨j, h1, h2⟩ := jlast_of (k := k) (by omega) hb hp
      split
      · split
        · exact ⟨k, rfl, by omega⟩
        · exact ⟨j, h1, h2⟩
      · exact ⟨j, h1, h2⟩

/-- x comes directly before i -/
def Dir (l : List Acc) (x i : Nat) : Prop :=
  (∃ a, l[i]? = some a ∧ (jlast l i a.p = some x ∨ jfind l a.o a.s = some x)) ∨ (∃ b, l[x]? = some b ∧ jfind l b.o (w64 (b.s + 1)) = some i ∧ i ≠ x)

theorem rBef_iff {i k : Nat} : rBef l i k = true ↔ ∃ a b, l[i]? = some a ∧ l[k]? = some b ∧ ((a.p = b.p ∧ i < k) ∨ (a.o = b.o ∧ i ≠ k ∧ ((a.m ≠ 0 ∧ a.m = b.s) ∨ (b.m ≠ 0 ∧ a.s = w64 (b.m - 1) ∧ a.m ≠ b.m)))) := by
  unfold rBef
  cases ha : l[i]? with
  | none => simp
  | some a =>
    cases hb : l[k]? with
    | none => simp
    | some b =>
      refine Iff.trans ?_ (⟨fun h => ⟨a, b, rfl, rfl, h⟩, fun ⟨_, _, h1, h2, h⟩ => by cases h1; cases h2; exact h⟩ : ((a.p = b.p ∧ i < k) ∨ (a.o = b.o ∧ i ≠ k ∧ ((a.m ≠ 0 ∧ a.m = b.s) ∨ (b.m ≠ 0 ∧ a.s = w64 (b.m - 1) ∧ a.m ≠ b.m)))) ↔ _)
      simp only
      unfold rBefore
      by_cases h1 : a.p = b.p ∧ i < k
      · have h1' : a.p = b.p ∧ (i : Int) < k := ⟨h1.1, by omega⟩
        rw [if_pos h1']; simp [h1]
      · have h1' : ¬ (a.p = b.p ∧ (i : Int) < k) := fun h => h1 ⟨h.1, by omega⟩
        rw [if_neg h1']
        by_cases h2 : a.o ≠ b.o ∨ i = k
        · have h2' : a.o ≠ b.o ∨ (i : Int) = k := h2.imp id (by omega)
          rw [if_pos h2']
          simp only [Bool.false_eq_true, false_iff, not_or, not_and]
          exact ⟨fun hp hlt => h1 ⟨hp, hlt⟩, fun ho hne => (h2.elim (fun h => (h ho).elim) (fun h => (hne h).elim))⟩
        · have h2' : ¬ (a.o ≠ b.o ∨ (i : Int) = k) := fun h => h2 (h.imp id (by omega))
          rw [if_neg h2']
          have h3 : a.o = b.o ∧ i ≠ k := ⟨Classical.not_not.1 fun h => h2 (.inl h), fun h => h2 (.inr h)⟩
          simp only [Bool.or_eq_true, Bool.and_eq_true, Bool.not_eq_true', decide_eq_false_iff_not, decide_eq_true_eq, and_assoc]
          constructor
          · intro h; exact .inr ⟨h3.1, h3.2, h⟩
          · rintro (h | ⟨_, _, h⟩)
            · exact (h1 h).elim
            · exact h

theorem rBef_lt {i k : Nat} (h : rBef l i k = true) : i < l.length ∧ k < l.length := by
  obtain ⟨a, b, ha, hb, _⟩ := rBef_iff.1 h
  exact ⟨(List.getElem?_eq_some_iff.1 ha).1, (List.getElem?_eq_some_iff.1 hb).1⟩

theorem dir_bef (V : Val l) {x i : Nat} (h : Dir l x i) : rBef l x i = true := by
  rw [rBef_iff]
  rcases h with ⟨a, ha, h | h⟩ | ⟨b, hb, h, hne⟩
  · obtain ⟨hlt, b, hb, hp⟩ := jlast_some h
    exact ⟨b, a, hb, ha, .inl ⟨hp, hlt⟩⟩
  · obtain ⟨h0, b, hb, ho, hm⟩ := (jfind_iff V).1 h
    refine ⟨b, a, hb, ha, .inr ⟨ho, ?_, .inl ⟨by rw [hm]; exact h0, hm⟩⟩⟩
    rintro rfl
    rw [ha] at hb; cases hb
    have := V.step _ _ ha (by rw [hm]; exact h0)
    rw [hm] at this
    exact w64_ne (V.fits a (List.mem_of_getElem? ha)).s this.symm
  · obtain ⟨h0, a, ha, ho, hm⟩ := (jfind_iff V).1 h
    refine ⟨b, a, hb, ha, .inr ⟨ho.symm, hne.symm, .inr ⟨by rw [hm]; exact h0, ?_, ?_⟩⟩⟩
    · rw [hm, w64_back (V.fits b (List.mem_of_getElem? hb)).s]
    · intro e
      exact hne (V.uniq i x a b ha hb ho e.symm (by rw [hm]; exact h0))

theorem bef_dir (V : Val l) {i k : Nat} (h : rBef l i k = true) : Dir l i k ∨ ∃ x, Dir l x k ∧ rBef l i x = true ∧ x < k := by
  obtain ⟨a, b, ha, hb, h | ⟨ho, hne, h | h⟩⟩ := rBef_iff.1 h
  · obtain ⟨x, hx, hle⟩ := jlast_of h.2 ha h.1
    obtain ⟨hlt, c, hc, hcp⟩ := jlast_some hx
    by_cases e : i = x
    · subst e; exact .inl (.inl ⟨b, hb, .inl hx⟩)
    · exact .inr ⟨x, .inl ⟨b, hb, .inl hx⟩, rBef_iff.2 ⟨a, c, ha, hc, .inl ⟨by rw [h.1, hcp], by omega⟩⟩, hlt⟩
  · exact .inl (.inl ⟨b, hb, .inr ((jfind_iff V).2 ⟨by rw [← h.2]; exact h.1, a, ha, ho, h.2⟩)⟩)
  · refine .inl (.inr ⟨a, ha, (jfind_iff V).2 ⟨?_, b, hb, ho.symm, ?_⟩, hne.symm⟩)
    · have fb := V.fits b (List.mem_of_getElem? hb)
      have fa := V.fits a (List.mem_of_getElem? ha)
      rw [← (w64_succ fb.m fa.s).1 h.2.1.symm]; exact h.1
    · have fb := V.fits b (List.mem_of_getElem? hb)
      have fa := V.fits a (List.mem_of_getElem? ha)
      exact (w64_succ fb.m fa.s).1 h.2.1.symm

theorem dir_lt (V : Val l) {x i : Nat} (h : Dir l x i) : x < l.length ∧ i < l.length := rBef_lt (dir_bef V h)

/-! ### the sets -/

/-- sets that hold P -/
def Has (out : List (List Int)) (n : Nat) (P : Nat → Nat → Prop) : Prop := out.length = n ∧ ∀ i < n, GoodS (out.getD i []) ∧ ∀ x < 512, hasS (out.getD i []) x = true ↔ P x i

theorem getD_set {out : List (List Int)} {i j : Nat} {v : List Int} (hi : i < out.length) : (out.set i v).getD j [] = if j = i then v else out.getD j [] := by
  simp only [List.getD_eq_getElem?_getD, List.getElem?_set]
  by_cases e : i = j
  · subst e; simp [hi]
  · rw [if_neg e, if_neg (Ne.symm e)]

theorem has_jAdd {out : List (List Int)} {n k y : Nat} {P : Nat → Nat → Prop} (h : Has out n P) (hk : k < n) (hy : y < 512) : Has (jAdd out k y) n (fun x i => P x i ∨ (i = k ∧ x = y)) := by
  refine ⟨by rw [jAdd, List.length_set, h.1], fun i hi => ?_⟩
  unfold jAdd
  rw [getD_set (by rw [h.1]; exact hk)]
  by_cases e : i = k
  · subst e
    rw [if_pos rfl]
    obtain ⟨h1, h2⟩ := h.2 i hi
    refine ⟨add_good h1 hy, fun x hx => ?_⟩
    rw [has_add h1 hx hy, Bool.or_eq_true, h2 x hx, decide_eq_true_eq]; simp
  · rw [if_neg e]
    obtain ⟨h1, h2⟩ := h.2 i hi
    exact ⟨h1, fun x hx => by rw [h2 x hx]; simp [e]⟩

theorem has_optAdd {out : List (List Int)} {n k : Nat} {o : Option Nat} {P : Nat → Nat → Prop} (h : Has out n P) (hk : k < n) (ho : ∀ y, o = some y → y < 512) : Has (optAdd out k o) n (fun x i => P x i ∨ (i = k ∧ o = some x)) := by
  cases o with
  | none => exact ⟨h.1, fun i hi => ⟨(h.2 i hi).1, fun x hx => by rw [show optAdd out k none = out from rfl, (h.2 i hi).2 x hx]; simp⟩⟩
  | some y =>
    have := has_jAdd h hk (ho y rfl)
    refine ⟨this.1, fun i hi => ⟨(this.2 i hi).1, fun x hx => ?_⟩⟩
    rw [show optAdd out k (some y) = jAdd out k y from rfl, (this.2 i hi).2 x hx]
    simp only [Option.some.injEq]
    exact or_congr Iff.rfl (and_congr Iff.rfl eq_comm)

theorem has_congr {out : List (List Int)} {n : Nat} {P Q : Nat → Nat → Prop} (h : Has out n P) (hpq : ∀ x i, i < n → (P x i ↔ Q x i)) : Has out n Q :=
  ⟨h.1, fun i hi => ⟨(h.2 i hi).1, fun x hx => ((h.2 i hi).2 x hx).trans (hpq x i hi)⟩⟩

def DirK (l : List Acc) (K x i : Nat) : Prop :=
  (i < K ∧ ∃ a, l[i]? = some a ∧ (jlast l i a.p = some x ∨ jfind l a.o a.s = some x)) ∨ (x < K ∧ ∃ b, l[x]? = some b ∧ jfind l b.o (w64 (b.s + 1)) = some i ∧ i ≠ x)

theorem has_bef (hlen : l.length ≤ 512) : ∀ K ≤ l.length, Has (jBef l K) l.length (DirK l K)
  | 0, _ => by
    refine ⟨by simp [jBef], fun i hi => ?_⟩
    have : (jBef l 0).getD i [] = zset := by simp [jBef, List.getD_eq_getElem?_getD, hi]
    rw [this]
    exact ⟨good_zero, fun x hx => by rw [has_zero]; simp [DirK]⟩
  | K + 1, hK => by
    have ih := has_bef hlen K (by omega)
    have hlt : K < l.length := by omega
    have hg := List.getElem?_eq_getElem hlt
    have b1 : ∀ y, jlast l K l[K].p = some y → y < 512 := fun y hy => by have := jlast_lt hy; omega
    have b2 : ∀ y, jfind l l[K].o l[K].s = some y → y < 512 := fun y hy => by have := jfind_lt hy; omega
    have h2 := has_optAdd (has_optAdd ih hlt b1) hlt b2
    simp only [jBef, jRound, hg]
    cases hj : jfind l l[K].o (w64 (l[K].s + 1)) with
    | none =>
      refine has_congr h2 fun x i hi => ?_
      unfold DirK
      constructor
      · rintro ((h | ⟨rfl, h⟩) | ⟨rfl, h⟩)
        · rcases h with ⟨h1, h⟩ | ⟨h1, h⟩
          · exact .inl ⟨by omega, h⟩
          · exact .inr ⟨by omega, h⟩
        · exact .inl ⟨by omega, _, hg, .inl h⟩
        · exact .inl ⟨by omega, _, hg, .inr h⟩
      · rintro (⟨h1, a, ha, h⟩ | ⟨h1, b, hb, h⟩)
        · by_cases e : i = K
          · subst e
            rw [hg] at ha; cases ha
            rcases h with h | h
            · exact .inl (.inr ⟨rfl, h⟩)
            · exact .inr ⟨rfl, h⟩
          · exact .inl (.inl (.inl ⟨by omega, a, ha, h⟩))
        · by_cases e : x = K
          · subst e
            rw [hg] at hb; cases hb
            rw [hj] at h; cases h.1
          · exact .inl (.inl (.inr ⟨by omega, b, hb, h⟩))
    | some j =>
      simp only
      have hjl := jfind_lt hj
      have h3 : Has (if j = K then optAdd (optAdd (jBef l K) K (jlast l K l[K].p)) K (jfind l l[K].o l[K].s) else jAdd (optAdd (optAdd (jBef l K) K (jlast l K l[K].p)) K (jfind l l[K].o l[K].s)) j K) l.length
          (fun x i => (((DirK l K x i ∨ (i = K ∧ jlast l K l[K].p = some x)) ∨ (i = K ∧ jfind l l[K].o l[K].s = some x)) ∨ (i = j ∧ x = K ∧ j ≠ K))) := by
        by_cases e : j = K
        · rw [if_pos e]
          exact has_congr h2 fun x i hi => by simp [e]
        · rw [if_neg e]
          exact has_congr (has_jAdd h2 hjl (by omega)) fun x i hi => by simp [e]
      refine has_congr h3 fun x i hi => ?_
      unfold DirK
      constructor
      · rintro (((h | ⟨rfl, h⟩) | ⟨rfl, h⟩) | ⟨rfl, rfl, h⟩)
        · rcases h with ⟨h1, h⟩ | ⟨h1, h⟩
          · exact .inl ⟨by omega, h⟩
          · exact .inr ⟨by omega, h⟩
        · exact .inl ⟨by omega, _, hg, .inl h⟩
        · exact .inl ⟨by omega, _, hg, .inr h⟩
        · exact .inr ⟨by omega, _, hg, hj, h⟩
      · rintro (⟨h1, a, ha, h⟩ | ⟨h1, b, hb, h⟩)
        · by_cases e : i = K
          · subst e
            rw [hg] at ha; cases ha
            rcases h with h | h
            · exact .inl (.inl (.inr ⟨rfl, h⟩))
            · exact .inl (.inr ⟨rfl, h⟩)
          · exact .inl (.inl (.inl (.inl ⟨by omega, a, ha, h⟩)))
        · by_cases e : x = K
          · subst e
            rw [hg] at hb; cases hb
            rw [hj] at h; obtain ⟨h1, h2⟩ := h; cases h1
            exact .inr ⟨rfl, rfl, h2⟩
          · exact .inl (.inl (.inl (.inr ⟨by omega, b, hb, h⟩)))

theorem has_dir (V : Val l) : Has (jBef l l.length) l.length (Dir l) :=
  has_congr (has_bef V.len l.length (Nat.le_refl _)) fun x i hi => by
    unfold DirK Dir
    constructor
    · rintro (⟨_, h⟩ | ⟨_, h⟩)
      · exact .inl h
      · exact .inr h
    · rintro (h | ⟨b, hb, h⟩)
      · exact .inl ⟨hi, h⟩
      · exact .inr ⟨(List.getElem?_eq_some_iff.1 hb).1, b, hb, h⟩

/-- a set that holds what is in a list -/
def Holds (d : List Int) (o : List Int) : Prop := GoodS d ∧ ∀ x < 512, hasS d x = true ↔ (x : Int) ∈ o
theorem holds_nil : Holds zset [] := ⟨good_zero, fun x hx => by rw [has_zero]; simp⟩
theorem holds_add {d o : List Int} {i : Nat} (h : Holds d o) (hi : i < 512) : Holds (addS d i) (o ++ [(i : Int)]) := by
  refine ⟨add_good h.1 hi, fun x hx => ?_⟩
  rw [has_add h.1 hx hi, Bool.or_eq_true, h.2 x hx, decide_eq_true_eq, List.mem_append, List.mem_singleton]
  exact or_congr Iff.rfl (by omega)

theorem jFree_iff (V : Val l) {d o : List Int} {i : Nat} (h : Holds d o) (hi : i < l.length) : jFree (jBef l l.length) d i = true ↔ (i : Int) ∉ o ∧ ∀ x, Dir l x i → (x : Int) ∈ o := by
  have hl := V.len
  obtain ⟨h1, h2⟩ := (has_dir V).2 i hi
  unfold jFree
  rw [Bool.and_eq_true, inside_iff h1 h.1, Bool.not_eq_true']
  refine and_congr ?_ ⟨fun H x hx => ?_, fun H x hx hh => ?_⟩
  · rw [← Bool.not_eq_true, h.2 i (by omega)]
  · have hxl := (dir_lt V hx).1
    exact (h.2 x (by omega)).1 (H x (by omega) ((h2 x (by omega)).2 hx))
  · exact (h.2 x hx).2 (H x ((h2 x hx).1 hh))

/-- an order, as far as it goes: each number is one of the record's, new, and behind those directly before it -/
def OkO (l : List Acc) (pre order : List Int) : Prop := ∀ (A : List Int) (x : Int) (B : List Int), order = A ++ x :: B → (0 ≤ x ∧ x < l.length) ∧ x ∉ pre ++ A ∧ ∀ y, Dir l y x.toNat → (y : Int) ∈ pre ++ A

theorem okO_cons {pre r : List Int} {i : Int} : OkO l pre (i :: r) ↔ ((0 ≤ i ∧ i < l.length) ∧ i ∉ pre ∧ ∀ y, Dir l y i.toNat → (y : Int) ∈ pre) ∧ OkO l (pre ++ [i]) r := by
  constructor
  · intro h
    refine ⟨?_, fun A x B e => ?_⟩
    · have := h [] i r rfl
      rwa [List.append_nil] at this
    · have := h (i :: A) x B (by rw [e]; rfl)
      rwa [show pre ++ i :: A = pre ++ [i] ++ A from by simp] at this
  · rintro ⟨h1, h2⟩ A x B e
    cases A with
    | nil =>
      rw [List.nil_append] at e
      injection e with e1 e2
      subst e1
      rwa [List.append_nil]
    | cons a A =>
      rw [List.cons_append] at e
      injection e with e1 e2
      subst e1
      have := h2 A x B e2
      rwa [show pre ++ i :: A = pre ++ [i] ++ A from by simp]

theorem goE_iff (V : Val l) : ∀ (rest pre d : List Int), Holds d pre → (jGoE (jBef l l.length) l.length rest d = true ↔ OkO l pre rest)
  | [], pre, d, h => by
    simp only [jGoE, true_iff]
    intro A x B e
    cases A <;> cases e
  | i :: r, pre, d, h => by
    rw [okO_cons]
    unfold jGoE
    by_cases hr : i < 0 ∨ (l.length : Int) ≤ i
    · rw [if_pos hr]
      simp only [Bool.false_eq_true, false_iff, not_and]
      intro h1; omega
    · rw [if_neg hr]
      have hi : i.toNat < l.length := by omega
      have e : ((i.toNat : Nat) : Int) = i := by omega
      have hl := V.len
      have hf := jFree_iff V h hi
      rw [e] at hf
      have ih := goE_iff V r (pre ++ [i]) (addS d i.toNat) (by have := holds_add h (i := i.toNat) (by omega); rwa [e] at this)
      by_cases hfree : jFree (jBef l l.length) d i.toNat = true
      · rw [if_pos hfree, ih]
        have := hf.1 hfree
        exact ⟨fun H => ⟨⟨by omega, this⟩, H⟩, fun H => H.2⟩
      · rw [if_neg hfree]
        simp only [Bool.false_eq_true, false_iff]
        exact fun H => hfree (hf.2 H.1.2)

/-! ### lists of numbers -/

theorem nodup_le : ∀ (n : Nat) (q : List Int), q.Nodup → (∀ x ∈ q, 0 ≤ x ∧ x < n) → q.length ≤ n
  | 0, q, _, h => by
    cases q with
    | nil => simp
    | cons a q => have := h a (by simp); omega
  | n + 1, q, hd, h => by
    have := nodup_le n (q.erase (n : Int)) (hd.erase _) (fun x hx => by
      have hm := List.mem_of_mem_erase hx
      have hb := h x hm
      have hne : x ≠ (n : Int) := by rintro rfl; exact hd.not_mem_erase hx
      omega)
    rw [List.length_erase] at this
    split at this <;> omega
theorem mem_all {n : Nat} {q : List Int} (hd : q.Nodup) (h : ∀ x ∈ q, 0 ≤ x ∧ x < n) (hn : q.length = n) {i : Nat} (hi : i < n) : (i : Int) ∈ q := by
  refine Classical.byContradiction fun hni => ?_
  have := nodup_le n ((i : Int) :: q) (List.nodup_cons.2 ⟨hni, hd⟩) (fun x hx => by
    rcases List.mem_cons.1 hx with rfl | hx
    · omega
    · exact h x hx)
  simp only [List.length_cons] at this; omega
theorem all_le : ∀ (n : Nat) (q : List Int), (∀ i : Nat, i < n → (i : Int) ∈ q) → n ≤ q.length
  | 0, _, _ => Nat.zero_le _
  | n + 1, q, h => by
    have hm : (n : Int) ∈ q := h n (by omega)
    have := all_le n (q.erase (n : Int)) (fun i hi => (List.mem_erase_of_ne (by omega)).2 (h i (by omega)))
    rw [List.length_erase_of_mem hm] at this
    have := List.length_pos_of_mem hm
    omega
theorem all_nodup : ∀ (n : Nat) (q : List Int), (∀ i : Nat, i < n → (i : Int) ∈ q) → q.length = n → q.Nodup ∧ ∀ x ∈ q, 0 ≤ x ∧ x < n
  | 0, q, _, hn => by
    have : q = [] := List.eq_nil_of_length_eq_zero hn
    subst this; simp
  | n + 1, q, h, hn => by
    have hm : (n : Int) ∈ q := h n (by omega)
    obtain ⟨h1, h2⟩ := all_nodup n (q.erase (n : Int)) (fun i hi => (List.mem_erase_of_ne (by omega)).2 (h i (by omega))) (by rw [List.length_erase_of_mem hm]; omega)
    have hp := List.perm_cons_erase hm
    refine ⟨hp.nodup_iff.2 (List.nodup_cons.2 ⟨fun hc => ?_, h1⟩), fun x hx => ?_⟩
    · have := h2 _ hc; omega
    · rcases List.mem_cons.1 (hp.mem_iff.1 hx) with rfl | hx
      · omega
      · have := h2 x hx; omega

theorem place_split {A B : List Int} {x : Int} (h : x ∉ A) : rPlace (A ++ x :: B) x = A.length :=
  rPlace_some (k := A.length) (by simp) (by simp) (by simpa using h)
theorem place_mem {q : List Int} {x : Int} (h : x ∈ q) : ∃ A B, q = A ++ x :: B ∧ x ∉ A ∧ rPlace q x = A.length := by
  obtain ⟨A, B, rfl, hA⟩ := List.eq_append_cons_of_mem h
  exact ⟨A, B, rfl, hA, place_split hA⟩
theorem place_lt0 {q : List Int} {x : Int} : rPlace q x < 0 ↔ x ∉ q := by
  constructor
  · intro h hm
    obtain ⟨A, B, _, _, e⟩ := place_mem hm
    omega
  · intro h; rw [rPlace_none h]; omega
theorem place_before {A B : List Int} {x y : Int} (hx : x ∉ A) (hy : y ∈ A ++ x :: B) : rPlace (A ++ x :: B) y < A.length ↔ y ∈ A := by
  constructor
  · intro h
    refine Classical.byContradiction fun hn => ?_
    by_cases e : y = x
    · subst e; rw [place_split hn] at h; omega
    · have hB : y ∈ B := by
        rcases List.mem_append.1 hy with h1 | h1
        · exact (hn h1).elim
        · rcases List.mem_cons.1 h1 with h1 | h1
          · exact (e h1).elim
          · exact h1
      obtain ⟨C, D, rfl, hC⟩ := List.eq_append_cons_of_mem hB
      have := place_split (A := A ++ x :: C) (B := D) (x := y) (by simp [hn, e, hC])
      rw [show A ++ x :: (C ++ y :: D) = A ++ x :: C ++ y :: D from by simp] at h
      rw [this] at h
      simp at h; omega
  · intro h
    obtain ⟨C, D, rfl, hC⟩ := List.eq_append_cons_of_mem h
    rw [show C ++ y :: D ++ x :: B = C ++ y :: (D ++ x :: B) from by simp, place_split hC]
    simp; omega

theorem okO_nodup {pre order : List Int} (h : OkO l pre order) : order.Nodup := by
  induction order generalizing pre with
  | nil => exact List.nodup_nil
  | cons i r ih =>
    have h2 := (okO_cons.1 h).2
    refine List.nodup_cons.2 ⟨fun hm => ?_, ih h2⟩
    obtain ⟨A, B, e⟩ := List.append_of_mem hm
    exact (h2 A i B e).2.1 (by simp)
theorem okO_range {pre order : List Int} (h : OkO l pre order) : ∀ x ∈ order, 0 ≤ x ∧ x < l.length := fun x hx => by
  obtain ⟨A, B, e⟩ := List.append_of_mem hx
  exact (h A x B e).1

/-- what an explanation is -/
def Expl (l : List Acc) (order : List Int) : Prop := order.length = l.length ∧ (∀ i < l.length, (i : Int) ∈ order) ∧ ∀ i k, rBef l i k = true → rPlace order i < rPlace order k

theorem rExplains_iff {order : List Int} : rExplains l order = true ↔ rValid l = true ∧ Expl l order := by
  unfold rExplains Expl
  simp only [Bool.and_eq_true, decide_eq_true_eq, allTo_true, Bool.not_eq_true', decide_eq_false_iff_not, Bool.and_eq_false_iff, and_assoc]
  refine and_congr Iff.rfl (and_congr Iff.rfl ⟨fun H => ⟨fun i hi => ?_, fun i k hb => ?_⟩, fun H i hi => ⟨?_, fun k hk => ?_⟩⟩)
  · exact Classical.not_not.1 fun hn => (H i hi).1 (place_lt0.2 hn)
  · obtain ⟨hi, hk⟩ := rBef_lt hb
    rcases (H i hi).2 k hk with h | h
    · rw [hb] at h; cases h
    · omega
  · exact fun h => place_lt0.1 h (H.1 i hi)
  · cases hb : rBef l i k with
    | false => exact .inl rfl
    | true => have := H.2 i k hb; exact .inr (by omega)

theorem expl_iff (V : Val l) {order : List Int} : Expl l order ↔ order.length = l.length ∧ OkO l [] order := by
  refine and_congr_right fun hn => ⟨fun ⟨h1, h2⟩ => ?_, fun h => ?_⟩
  · obtain ⟨hd, hr⟩ := all_nodup l.length order h1 hn
    intro A x B e
    have hxr := hr x (by rw [e]; simp)
    have hxA : x ∉ A := by
      rw [e] at hd
      exact fun hm => (List.nodup_append.1 hd).2.2 x hm x (by simp) rfl
    refine ⟨hxr, by simpa using hxA, fun y hy => ?_⟩
    have hyl := dir_lt V hy
    have hb := h2 y x.toNat (dir_bef V hy)
    have ex : ((x.toNat : Nat) : Int) = x := by omega
    rw [ex, e, place_split hxA] at hb
    have hym := h1 y hyl.1
    rw [e] at hym
    rw [List.nil_append]
    exact (place_before hxA hym).1 hb
  · have hd := okO_nodup h
    have hall : ∀ i < l.length, (i : Int) ∈ order := fun i hi => mem_all hd (okO_range h) hn hi
    have hdir : ∀ i k, Dir l i k → rPlace order i < rPlace order k := by
      intro i k hik
      obtain ⟨hil, hkl⟩ := dir_lt V hik
      obtain ⟨A, B, e, hA, hp⟩ := place_mem (hall k hkl)
      have := (h A k B e).2.2 i (by simpa using hik)
      rw [List.nil_append] at this
      rw [hp]
      rw [e]
      exact (place_before hA (by rw [← e]; exact hall i hil)).2 this
    refine ⟨hall, fun i k => ?_⟩
    induction k using Nat.strongRecOn with
    | _ k ih =>
      intro hb
      rcases bef_dir V hb with h1 | ⟨x, h1, h2, h3⟩
      · exact hdir i k h1
      · have := ih x h3 h2
        have := hdir x k h1
        omega

theorem jExplains_iff {order : List Int} (hf : FitsL l) : jExplains l order = true ↔ rValid l = true ∧ Expl l order := by
  unfold jExplains
  simp only [Bool.and_eq_true, decide_eq_true_eq, jValid_eq hf, and_assoc]
  refine and_congr_right fun hv => ?_
  have V := val_of hf hv
  rw [expl_iff V]
  exact and_congr_right fun _ => goE_iff V order [] zset holds_nil
/-- **The same orders explain.** -/
theorem jExplains_eq (hf : FitsL l) (order : List Int) : jExplains l order = rExplains l order := by
  rw [Bool.eq_iff_iff, jExplains_iff hf, rExplains_iff]

/-! ### what is found -/

/-- what holds of an order that is being built -/
structure Part (l : List Acc) (d out : List Int) : Prop where
  holds : Holds d out
  ok : OkO l [] out

theorem part_closed (V : Val l) {d out : List Int} (h : Part l d out) : ∀ k i : Nat, (k : Int) ∈ out → rBef l i k = true → (i : Int) ∈ out := by
  have hdir : ∀ k i : Nat, (k : Int) ∈ out → Dir l i k → (i : Int) ∈ out := by
    intro k i hk hd
    obtain ⟨A, B, e⟩ := List.append_of_mem hk
    have := (h.ok A k B e).2.2 i (by simpa using hd)
    rw [e]; rw [List.nil_append] at this
    exact List.mem_append_left _ this
  intro k
  induction k using Nat.strongRecOn with
  | _ k ih =>
    intro i hk hb
    rcases bef_dir V hb with h1 | ⟨x, h1, h2, h3⟩
    · exact hdir k i hk h1
    · exact ih x h3 i (hdir k x hk h1) h2

theorem free_eq (V : Val l) {d out : List Int} (h : Part l d out) {i : Nat} (hi : i < l.length) : jFree (jBef l l.length) d i = rFree l out i l.length := by
  rw [Bool.eq_iff_iff, jFree_iff V h.holds hi]
  unfold rFree
  simp only [Bool.and_eq_true, decide_eq_true_eq, allTo_true, place_lt0, Bool.or_eq_true, Bool.not_eq_true']
  refine and_congr Iff.rfl ⟨fun H k hk => ?_, fun H x hx => ?_⟩
  · cases hb : rBef l k i with
    | false => exact .inl rfl
    | true =>
      right
      have : (k : Int) ∈ out := by
        rcases bef_dir V hb with h1 | ⟨x, h1, h2, h3⟩
        · exact H k h1
        · exact part_closed V h x k (H x h1) h2
      have := fun hh : rPlace out (k : Int) < 0 => place_lt0.1 hh this
      exact Int.not_lt.1 this
  · have hxl := dir_lt V hx
    rcases H x hxl.1 with h1 | h1
    · rw [dir_bef V hx] at h1; cases h1
    · exact Classical.not_not.1 fun hn => by have := place_lt0.2 hn; omega

theorem find_congr {α : Type} {p q : α → Bool} : ∀ {L : List α}, (∀ x ∈ L, p x = q x) → L.find? p = L.find? q
  | [], _ => rfl
  | a :: L, h => by
    simp only [List.find?_cons, h a (by simp)]
    rw [find_congr fun x hx => h x (by simp [hx])]

theorem next_eq (V : Val l) {d out : List Int} (h : Part l d out) : jNext (jBef l l.length) l.length d = rNext l out := by
  unfold jNext rNext
  exact find_congr fun x hx => free_eq V h (by simpa using hx)

theorem part_add (V : Val l) {d out : List Int} {i : Nat} (h : Part l d out) (hi : i < l.length) (hf : jFree (jBef l l.length) d i = true) : Part l (addS d i) (out ++ [(i : Int)]) := by
  have hl := V.len
  obtain ⟨h1, h2⟩ := (jFree_iff V h.holds hi).1 hf
  refine ⟨holds_add h.holds (by omega), fun A x B e => ?_⟩
  rw [List.nil_append]
  rcases List.append_eq_append_iff.1 e with ⟨C, h3, h4⟩ | ⟨C, h3, h4⟩
  · -- A = out ++ C
    cases C with
    | nil =>
      rw [List.nil_append] at h4
      injection h4 with h5 h6
      subst h5
      rw [List.append_nil] at h3; subst h3
      exact ⟨by omega, h1, fun y hy => h2 y (by simpa using hy)⟩
    | cons c C =>
      rw [List.cons_append] at h4
      injection h4 with h5 h6
      cases C <;> cases h6
  · -- out = A ++ C
    cases C with
    | nil =>
      rw [List.nil_append] at h4
      injection h4 with h5 h6
      subst h5
      rw [List.append_nil] at h3; subst h3
      exact ⟨by omega, h1, fun y hy => h2 y (by simpa using hy)⟩
    | cons c C =>
      rw [List.cons_append] at h4
      injection h4 with h5 h6
      subst h5
      have := h.ok A x C h3
      rwa [List.nil_append] at this

theorem go_eq (V : Val l) : ∀ (m : Nat) (out d : List Int), Part l d out → jGoO (jBef l l.length) l.length m out d = rGo l m out
  | 0, out, d, h => rfl
  | m + 1, out, d, h => by
    unfold jGoO rGo
    rw [next_eq V h]
    cases hn : rNext l out with
    | none => rfl
    | some i =>
      simp only
      rw [← next_eq V h] at hn
      have hp := List.find?_some hn
      have hi : i < l.length := by simpa using List.mem_of_find?_eq_some hn
      exact go_eq V m _ _ (part_add V h hi hp)

theorem part_nil : Part l zset [] := ⟨holds_nil, fun A x B e => by cases A <;> cases e⟩

/-- **The same explanation is found.** -/
theorem jOrder_eq (hf : FitsL l) : jOrder l = rOrder l := by
  unfold jOrder rOrder
  rw [jValid_eq hf]
  by_cases hv : rValid l = true
  · rw [if_pos hv, if_pos hv]
    exact go_eq (val_of hf hv) _ _ _ part_nil
  · rw [if_neg hv, if_neg hv]

theorem go_sound (V : Val l) : ∀ (m : Nat) (out d o : List Int), Part l d out → rGo l m out = some o → o.length = out.length + m ∧ OkO l [] o
  | 0, out, d, o, h, e => by
    cases e; exact ⟨rfl, h.ok⟩
  | m + 1, out, d, o, h, e => by
    unfold rGo at e
    cases hn : rNext l out with
    | none => rw [hn] at e; cases e
    | some i =>
      rw [hn] at e
      simp only at e
      rw [← next_eq V h] at hn
      have hp := List.find?_some hn
      have hi : i < l.length := by simpa using List.mem_of_find?_eq_some hn
      obtain ⟨h1, h2⟩ := go_sound V m _ _ o (part_add V h hi hp) e
      refine ⟨?_, h2⟩
      simp only [List.length_append, List.length_singleton] at h1; omega

/-- **What is found explains.** -/
theorem order_sound (hf : FitsL l) {o : List Int} (h : rOrder l = some o) : rValid l = true ∧ Expl l o := by
  unfold rOrder at h
  split at h
  · rename_i hv
    have V := val_of hf hv
    obtain ⟨h1, h2⟩ := go_sound V _ _ _ o part_nil h
    exact ⟨hv, (expl_iff V).2 ⟨by simpa using h1, h2⟩⟩
  · cases h

theorem first_not {q out : List Int} {i : Int} (h : i ∈ q) (hn : i ∉ out) : ∃ A x B, q = A ++ x :: B ∧ x ∉ out ∧ ∀ y ∈ A, y ∈ out := by
  induction q with
  | nil => cases h
  | cons a q ih =>
    by_cases ha : a ∈ out
    · have : i ∈ q := by
        rcases List.mem_cons.1 h with rfl | h
        · exact (hn ha).elim
        · exact h
      obtain ⟨A, x, B, e, h1, h2⟩ := ih this
      refine ⟨a :: A, x, B, by rw [e]; rfl, h1, fun y hy => ?_⟩
      rcases List.mem_cons.1 hy with rfl | hy
      · exact ha
      · exact h2 y hy
    · exact ⟨[], a, q, rfl, ha, fun y hy => by cases hy⟩

theorem go_complete (V : Val l) {q : List Int} (hq : Expl l q) : ∀ (m : Nat) (out d : List Int), Part l d out → out.length + m = l.length → ∃ o, rGo l m out = some o
  | 0, out, d, h, e => ⟨out, rfl⟩
  | m + 1, out, d, h, e => by
    unfold rGo
    cases hn : rNext l out with
    | some i =>
      simp only
      have hn' := hn
      rw [← next_eq V h] at hn'
      have hp := List.find?_some hn'
      have hi : i < l.length := by simpa using List.mem_of_find?_eq_some hn'
      exact go_complete V hq m _ _ (part_add V h hi hp) (by simp; omega)
    | none =>
      exfalso
      have hmiss : ∃ i : Nat, i < l.length ∧ (i : Int) ∉ out := by
        refine Classical.byContradiction fun hc => ?_
        have := all_le l.length out fun i hi => Classical.not_not.1 fun hn => hc ⟨i, hi, hn⟩
        omega
      obtain ⟨i, hi, hio⟩ := hmiss
      obtain ⟨A, x, B, eq, hx, hA⟩ := first_not (hq.2.1 i hi) hio
      have hok := ((expl_iff V).1 hq).2 A x B eq
      have ex : ((x.toNat : Nat) : Int) = x := by omega
      have hfree : jFree (jBef l l.length) d x.toNat = true := (jFree_iff V h.holds (by omega)).2 ⟨by rw [ex]; exact hx, fun y hy => hA _ (by have := hok.2.2 y hy; rwa [List.nil_append] at this)⟩
      rw [← next_eq V h] at hn
      have := List.find?_eq_none.1 hn x.toNat (by simp; omega)
      exact this hfree

/-- **What explains is found.** -/
theorem order_complete (hf : FitsL l) {q : List Int} (hv : rValid l = true) (hq : Expl l q) : ∃ o, rOrder l = some o := by
  unfold rOrder
  rw [if_pos hv]
  exact go_complete (val_of hf hv) hq _ _ _ part_nil (by simp)
end
end Go.Ju
