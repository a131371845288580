/-
  Lines, in plain Lean: of the program and of the reference they are one; together they are the text.
-/
import Derived.Test.YtdlekkhjkcbbnaaGreatDoorWoD
import Derived.Test.YtdlekkhjkcbbnaaGreatDoorWoT
import Derived.Lib.SplitLaws
set_option linter.unusedVariables false
set_option linter.unusedSimpArgs false
namespace Go.Wo
open Go

def consH (c : UInt8) : List Bytes → List Bytes
  | [] => [[c]]
  | x :: r => (c :: x) :: r
/-- a text cut at its line feeds -/
def cutL : Bytes → List Bytes
  | [] => [[]]
  | c :: l => if c = 10 then [] :: cutL l else consH c (cutL l)
theorem cutL_ne : ∀ l, cutL l ≠ []
  | [] => by simp [cutL]
  | c :: l => by
    unfold cutL
    split
    · simp
    · cases h : cutL l with
      | nil => exact absurd h (cutL_ne l)
      | cons x r => simp [consH]

theorem index_one (l : Bytes) : Lib.index l [10] = match l with | [] => -1 | c :: r => if c = 10 then 0 else if Lib.index r [10] = -1 then -1 else Lib.index r [10] + 1 := by
  cases l with
  | nil => rfl
  | cons c r =>
    rw [Lib.index]
    by_cases h : c = 10
    · subst h; simp [List.isPrefixOf]
    · have h' : ¬ (10 : UInt8) = c := fun e => h e.symm
      simp [List.isPrefixOf, h, h']
theorem index_ge : ∀ l : Bytes, -1 ≤ Lib.index l [10]
  | [] => by rw [index_one]; exact Int.le_refl _
  | c :: r => by
    have := index_ge r
    rw [index_one]
    simp only
    split
    · omega
    · split <;> omega
theorem splitK_cut : ∀ l : Bytes, Lib.splitK [10] 0 (Lib.count l [10]) l = cutL l
  | [] => rfl
  | c :: l => by
    have ih := splitK_cut l
    by_cases hc : c = 10
    · subst hc
      rw [Lib.count_cons_eq, Nat.add_comm, Lib.splitK, cutL, if_pos rfl]
      have : Lib.index (10 :: l) [10] = 0 := by rw [index_one]; rfl
      rw [this]
      simp only [List.length_singleton]
      rw [if_neg (by decide)]
      show [] :: Lib.splitK [10] 0 (Lib.count l [10]) l = _
      rw [ih]
    · rw [Lib.count_cons_ne c 10 l hc, cutL, if_neg hc, ← ih]
      have hg := index_ge l
      cases hk : Lib.count l [10] with
      | zero => rfl
      | succ k =>
        rw [Lib.splitK, Lib.splitK]
        have hi : Lib.index (c :: l) [10] = if Lib.index l [10] = -1 then -1 else Lib.index l [10] + 1 := by rw [index_one]; simp only; rw [if_neg hc]
        by_cases h1 : Lib.index l [10] = -1
        · rw [hi, if_pos h1, h1]; rfl
        · rw [hi, if_neg h1]
          rw [if_neg (by rw [beq_iff_eq]; omega), if_neg (by rw [beq_iff_eq]; exact h1)]
          simp only [List.length_singleton, Nat.add_zero, consH]
          have e : (Lib.index l [10] + 1).toNat = (Lib.index l [10]).toNat + 1 := by omega
          rw [e]
          rfl

theorem cutL_snoc_nl : ∀ l : Bytes, cutL (l ++ [10]) = cutL l ++ [[]]
  | [] => rfl
  | c :: l => by
    rw [List.cons_append, cutL, cutL, cutL_snoc_nl l]
    split
    · rfl
    · cases h : cutL l with
      | nil => exact absurd h (cutL_ne l)
      | cons x r => rfl
theorem cutL_snoc (c : UInt8) (hc : c ≠ 10) : ∀ (l : Bytes) (a : List Bytes) (x : Bytes), cutL l = a ++ [x] → cutL (l ++ [c]) = a ++ [x ++ [c]]
  | [], a, x, h => by
    have : a = [] ∧ x = [] := by
      cases a with
      | nil => simp [cutL] at h; exact ⟨rfl, h⟩
      | cons y a => simp [cutL] at h
    obtain ⟨rfl, rfl⟩ := this
    simp [cutL, hc, consH]
  | d :: l, a, x, h => by
    rw [cutL] at h
    rw [List.cons_append, cutL]
    by_cases hd : d = 10
    · rw [if_pos hd] at h ⊢
      cases a with
      | nil =>
        simp at h
        exact absurd h.2 (cutL_ne l)
      | cons y a =>
        simp at h
        rw [cutL_snoc c hc l a x h.2, h.1]
        rfl
    · rw [if_neg hd] at h ⊢
      cases hl : cutL l with
      | nil => exact absurd hl (cutL_ne l)
      | cons y r =>
        rw [hl] at h
        simp only [consH] at h
        cases a with
        | nil =>
          simp at h
          obtain ⟨h1, h2⟩ := h
          subst h2
          have := cutL_snoc c hc l [] y (by rw [hl]; rfl)
          rw [this, ← h1]
          rfl
        | cons z a =>
          simp at h
          obtain ⟨h1, h2⟩ := h
          have := cutL_snoc c hc l (y :: a) x (by rw [hl, h2]; rfl)
          rw [this, ← h1]
          rfl

/-- The lines of a cut text: without the last if it is empty. -/
def linesL (l : Bytes) : List Bytes := if (cutL l).getLast?.getD [] = [] then (cutL l).dropLast else cutL l
theorem cutL_split (l : Bytes) : ∃ a x, cutL l = a ++ [x] := ⟨_, _, (List.dropLast_concat_getLast (cutL_ne l)).symm⟩
theorem linesL_of {l : Bytes} {a : List Bytes} {x : Bytes} (h : cutL l = a ++ [x]) : linesL l = if x = [] then a else a ++ [x] := by
  unfold linesL
  rw [h]
  simp

def toB (b : Bytes) : ByteArray := ⟨b.toArray⟩
theorem toB_data (s : ByteArray) : toB s.data.toList = s := by cases s; rfl
theorem toB_inj {a b : Bytes} (h : toB a = toB b) : a = b := by
  have := congrArg (fun x => x.data.toList) h
  simpa [toB] using this
theorem of_data {l : List ByteArray} {m : List Bytes} (h : l.map (·.data.toList) = m) : l = m.map toB := by
  rw [← h, List.map_map]
  conv => lhs; rw [← List.map_id l]
  apply List.map_congr_left
  intro s _
  exact (toB_data s).symm

open Go.Proofs.YtdlekkhjkcbbnaaGreatDoor in
theorem linesW_L (s : ByteArray) : linesW s = (linesL s.data.toList).map toB := by
  have hsp : splitN s = (cutL s.data.toList).map toB := by
    apply of_data
    unfold splitN
    rw [Lib.splitB_data, ← splitK_cut]
    have : Lib.countB s nl = Lib.count s.data.toList [10] := rfl
    rw [this]
    rfl
  obtain ⟨a, x, h⟩ := cutL_split s.data.toList
  unfold linesW
  rw [hsp, linesL_of h, h]
  simp only [List.map_append, List.map_cons, List.map_nil, List.getLast?_append, List.getLast?_singleton, Option.some_or, Option.getD_some, List.dropLast_concat]
  by_cases hx : x = []
  · subst hx; rw [if_pos (show toB [] = ⟨#[]⟩ from rfl), if_pos rfl]
  · rw [if_neg (show ¬ toB x = ⟨#[]⟩ from fun h => hx (toB_inj (b := []) h)), if_neg hx]
    simp

theorem ext_data (s : ByteArray) (a b : Nat) : (s.extract a b).data.toList = (s.data.toList.drop a).take (b - a) := Lib.extract_data s a b

theorem linesS_cut (s : ByteArray) : ∀ i, i ≤ s.size → cutL (s.data.toList.take i) = (linesS s i).1.map (·.data.toList) ++ [(s.data.toList.take i).drop (linesS s i).2]
  | 0, _ => by simp [linesS, cutL]
  | i + 1, hi => by
    have ih := linesS_cut s i (by omega)
    have hle := (linesS_le s i).1
    have hlt : i < s.data.toList.length := by rw [Array.length_toList]; exact hi
    have htk : s.data.toList.take (i + 1) = s.data.toList.take i ++ [s.data.toList[i]?.getD 0] := by rw [List.take_add_one, List.getElem?_eq_getElem hlt]; rfl
    rw [linesS, htk]
    by_cases hc : (s.data.toList[i]?.getD 0).toNat = 10
    · rw [if_pos hc]
      have : s.data.toList[i]?.getD 0 = 10 := UInt8.toNat_inj.1 hc
      rw [this, cutL_snoc_nl, ih]
      simp only [List.map_append, List.map_cons, List.map_nil, ext_data]
      congr 1
      · congr 1
        rw [List.drop_take]
      · rw [List.drop_of_length_le (by rw [List.length_append, List.length_take, List.length_singleton]; omega)]
    · rw [if_neg hc]
      rw [cutL_snoc _ (fun h => hc (by rw [h]; rfl)) _ _ _ ih]
      congr 2
      rw [List.drop_append_of_le_length (by rw [List.length_take]; omega)]

theorem rLines_L (s : ByteArray) : rLines s = (linesL s.data.toList).map toB := by
  have hsz : s.data.toList.length = s.size := by rw [Array.length_toList]; rfl
  have h := linesS_cut s s.size (Nat.le_refl _)
  have hle := (linesS_le s s.size).1
  rw [← hsz, List.take_length, hsz] at h
  rw [linesL_of h]
  apply of_data
  unfold rLines
  by_cases hlt : (linesS s s.size).2 < s.size
  · rw [if_pos hlt, if_neg (fun he => by have := congrArg List.length he; rw [List.length_drop, List.length_nil] at this; omega)]
    rw [List.map_append, List.map_cons, List.map_nil, ext_data]
    congr 2
    rw [List.take_of_length_le (by rw [List.length_drop]; omega)]
  · rw [if_neg hlt, if_pos (List.drop_of_length_le (by omega))]

open Go.Proofs.YtdlekkhjkcbbnaaGreatDoor in
theorem lines_same (s : ByteArray) : linesW s = rLines s := by rw [linesW_L, rLines_L]

/-! ### lines together are the text -/

theorem cutL_join : ∀ (l : Bytes) (a : List Bytes) (x : Bytes), cutL l = a ++ [x] → a.flatMap (· ++ [10]) ++ x = l
  | [], a, x, h => by
    cases a with
    | nil => simp [cutL] at h; simp [h]
    | cons y a => simp [cutL] at h
  | d :: l, a, x, h => by
    rw [cutL] at h
    by_cases hd : d = 10
    · rw [if_pos hd] at h
      cases a with
      | nil => simp at h; exact absurd h.2 (cutL_ne l)
      | cons y a =>
        simp at h
        obtain ⟨h1, h2⟩ := h
        have := cutL_join l a x h2
        rw [h1, List.flatMap_cons, List.nil_append, List.append_assoc, this, hd]
        rfl
    · rw [if_neg hd] at h
      cases hl : cutL l with
      | nil => exact absurd hl (cutL_ne l)
      | cons y r =>
        rw [hl] at h
        simp only [consH] at h
        cases a with
        | nil =>
          simp at h
          obtain ⟨h1, h2⟩ := h
          have := cutL_join l [] y (by rw [hl, h2]; rfl)
          rw [← h1]
          simp at this ⊢
          exact this
        | cons z a =>
          simp at h
          obtain ⟨h1, h2⟩ := h
          have := cutL_join l (y :: a) x (by rw [hl, h2]; rfl)
          rw [← h1]
          simp only [List.flatMap_cons, List.cons_append, List.append_assoc] at this ⊢
          rw [this]
theorem cutL_free : ∀ (l : Bytes) (x : Bytes), x ∈ cutL l → ∀ c ∈ x, c ≠ 10
  | [], x, h, c, hc => by simp [cutL] at h; subst h; cases hc
  | d :: l, x, h, c, hc => by
    rw [cutL] at h
    by_cases hd : d = 10
    · rw [if_pos hd] at h
      rcases List.mem_cons.1 h with rfl | h
      · cases hc
      · exact cutL_free l x h c hc
    · rw [if_neg hd] at h
      cases hl : cutL l with
      | nil => exact absurd hl (cutL_ne l)
      | cons y r =>
        rw [hl] at h
        simp only [consH] at h
        rcases List.mem_cons.1 h with rfl | h
        · rcases List.mem_cons.1 hc with rfl | hc
          · exact hd
          · exact cutL_free l y (by rw [hl]; simp) c hc
        · exact cutL_free l x (by rw [hl]; simp [h]) c hc
theorem cutL_app : ∀ (x y : Bytes), (∀ c ∈ x, c ≠ 10) → cutL (x ++ 10 :: y) = x :: cutL y
  | [], y, _ => by rw [List.nil_append, cutL, if_pos rfl]
  | c :: x, y, h => by
    rw [List.cons_append, cutL, if_neg (h c (by simp)), cutL_app x y (fun d hd => h d (List.mem_cons_of_mem _ hd))]
    rfl
def textL (l : List Bytes) : Bytes := l.flatMap (· ++ [10])
theorem text_lines (l : Bytes) : textL (linesL l) = l ∨ (textL (linesL l) = l ++ [10] ∧ ∃ c, l.getLast? = some c ∧ c ≠ 10) := by
  obtain ⟨a, x, h⟩ := cutL_split l
  have hj := cutL_join l a x h
  rw [linesL_of h]
  by_cases hx : x = []
  · left
    subst hx
    rw [if_pos rfl]
    rw [List.append_nil] at hj
    exact hj
  · right
    rw [if_neg hx]
    refine ⟨?_, x.getLast hx, ?_, cutL_free l x (by rw [h]; simp) _ (List.getLast_mem hx)⟩
    · unfold textL
      rw [List.flatMap_append, List.flatMap_cons, List.flatMap_nil, List.append_nil, ← List.append_assoc, hj]
    · rw [← hj, List.getLast?_append, List.getLast?_eq_some_getLast hx]; rfl
theorem lines_two (x : Bytes) (h : ∀ c ∈ x, c ≠ 10) : linesL (x ++ 10 :: (x ++ [10])) = [x, x] := by
  have h2 : cutL (x ++ [10]) = [x, []] := by rw [cutL_app x [] h]; rfl
  have : cutL (x ++ 10 :: (x ++ [10])) = [x, x] ++ [[]] := by rw [cutL_app x _ h, h2]; rfl
  rw [linesL_of this, if_pos rfl]
end Go.Wo
