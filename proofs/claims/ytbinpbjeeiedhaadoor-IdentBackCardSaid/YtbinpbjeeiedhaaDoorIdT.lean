/-
  Texts of identifiers, in plain Lean: their parts, which of them are read.
-/
import Derived.Test.YtbinpbjeeiedhaaDoorWoU
set_option linter.unusedVariables false
set_option linter.unusedSimpArgs false
namespace Go.Wo
open Go

/-- a text cut at its dots -/
def cutD : Bytes → List Bytes
  | [] => [[]]
  | c :: l => if c = 46 then [] :: cutD l else consH c (cutD l)
theorem cutD_ne : ∀ l, cutD l ≠ []
  | [] => by simp [cutD]
  | c :: l => by
    unfold cutD
    split
    · simp
    · cases h : cutD l with
      | nil => exact absurd h (cutD_ne l)
      | cons x r => simp [consH]

theorem index_dot (l : Bytes) : Lib.index l [46] = match l with | [] => -1 | c :: r => if c = 46 then 0 else if Lib.index r [46] = -1 then -1 else Lib.index r [46] + 1 := by
  cases l with
  | nil => rfl
  | cons c r =>
    rw [Lib.index]
    by_cases h : c = 46
    · subst h; simp [List.isPrefixOf]
    · have h' : ¬ (46 : UInt8) = c := fun e => h e.symm
      simp [List.isPrefixOf, h, h']
theorem index_dge : ∀ l : Bytes, -1 ≤ Lib.index l [46]
  | [] => by rw [index_dot]; exact Int.le_refl _
  | c :: r => by
    have := index_dge r
    rw [index_dot]
    simp only
    split
    · omega
    · split <;> omega
theorem splitK_dot : ∀ l : Bytes, Lib.splitK [46] 0 (Lib.count l [46]) l = cutD l
  | [] => rfl
  | c :: l => by
    have ih := splitK_dot l
    by_cases hc : c = 46
    · subst hc
      rw [Lib.count_cons_eq, Nat.add_comm, Lib.splitK, cutD, if_pos rfl]
      have : Lib.index (46 :: l) [46] = 0 := by rw [index_dot]; rfl
      rw [this]
      simp only [List.length_singleton]
      rw [if_neg (by decide)]
      show [] :: Lib.splitK [46] 0 (Lib.count l [46]) l = _
      rw [ih]
    · rw [Lib.count_cons_ne c 46 l hc, cutD, if_neg hc, ← ih]
      have hg := index_dge l
      cases hk : Lib.count l [46] with
      | zero => rfl
      | succ k =>
        rw [Lib.splitK, Lib.splitK]
        have hi : Lib.index (c :: l) [46] = if Lib.index l [46] = -1 then -1 else Lib.index l [46] + 1 := by rw [index_dot]; simp only; rw [if_neg hc]
        by_cases h1 : Lib.index l [46] = -1
        · rw [hi, if_pos h1, h1]; rfl
        · rw [hi, if_neg h1]
          rw [if_neg (by rw [beq_iff_eq]; omega), if_neg (by rw [beq_iff_eq]; exact h1)]
          simp only [List.length_singleton, Nat.add_zero, consH]
          have e : (Lib.index l [46] + 1).toNat = (Lib.index l [46]).toNat + 1 := by omega
          rw [e]
          rfl

theorem cutD_snoc_dot : ∀ l : Bytes, cutD (l ++ [46]) = cutD l ++ [[]]
  | [] => rfl
  | c :: l => by
    rw [List.cons_append, cutD, cutD, cutD_snoc_dot l]
    split
    · rfl
    · cases h : cutD l with
      | nil => exact absurd h (cutD_ne l)
      | cons x r => rfl
theorem cutD_snoc (c : UInt8) (hc : c ≠ 46) : ∀ (l : Bytes) (a : List Bytes) (x : Bytes), cutD l = a ++ [x] → cutD (l ++ [c]) = a ++ [x ++ [c]]
  | [], a, x, h => by
    have : a = [] ∧ x = [] := by
      cases a with
      | nil => simp [cutD] at h; exact ⟨rfl, h⟩
      | cons y a => simp [cutD] at h
    obtain ⟨rfl, rfl⟩ := this
    simp [cutD, hc, consH]
  | d :: l, a, x, h => by
    rw [cutD] at h
    rw [List.cons_append, cutD]
    by_cases hd : d = 46
    · rw [if_pos hd] at h ⊢
      cases a with
      | nil =>
        simp at h
        exact absurd h.2 (cutD_ne l)
      | cons y a =>
        simp at h
        rw [cutD_snoc c hc l a x h.2, h.1]
        rfl
    · rw [if_neg hd] at h ⊢
      cases hl : cutD l with
      | nil => exact absurd hl (cutD_ne l)
      | cons y r =>
        rw [hl] at h
        simp only [consH] at h
        cases a with
        | nil =>
          simp at h
          obtain ⟨h1, h2⟩ := h
          subst h2
          have := cutD_snoc c hc l [] y (by rw [hl]; rfl)
          rw [this, ← h1]
          rfl
        | cons z a =>
          simp at h
          obtain ⟨h1, h2⟩ := h
          have := cutD_snoc c hc l (y :: a) x (by rw [hl, h2]; rfl)
          rw [this, ← h1]
          rfl

theorem cutD_app : ∀ (x y : Bytes), (∀ c ∈ x, c ≠ 46) → cutD (x ++ 46 :: y) = x :: cutD y
  | [], y, _ => by rw [List.nil_append, cutD, if_pos rfl]
  | c :: x, y, h => by
    rw [List.cons_append, cutD, if_neg (h c (by simp)), cutD_app x y (fun d hd => h d (List.mem_cons_of_mem _ hd))]
    rfl

theorem cutD_free : ∀ (x : Bytes), (∀ c ∈ x, c ≠ 46) → cutD x = [x]
  | [], _ => rfl
  | c :: x, h => by
    rw [cutD, if_neg (h c (by simp)), cutD_free x (fun d hd => h d (List.mem_cons_of_mem _ hd))]
    rfl
open Go.Proofs.YtbinpbjeeiedhaaDoor in
theorem splitDot (s : ByteArray) : Lib.splitB ⟨#[46]⟩ 0 (Lib.countB s ⟨#[46]⟩) s = (cutD s.data.toList).map toB := by
  apply of_data
  rw [Lib.splitB_data, ← splitK_dot]
/-- what the parts of a text read as -/
def partBad (x : Bytes) : Bool := decide ((numS x).2 = 5) || negS x
def readParts (ps : List Bytes) : Option (List Int) ⊕ Unit := if ps.any partBad then .inr () else if ps.all (fun x => decide ((numS x).2 = 0)) then .inl (some (ps.map fun x => (numS x).1)) else .inl none
def parseS (l : Bytes) : Int × Int := match cutD l with
  | [a, b, c] => if partBad a || partBad b || partBad c then (0, 5) else if (numS a).2 = 0 ∧ (numS b).2 = 0 ∧ (numS c).2 = 0 then Go.Id.makeS (numS a).1 (numS b).1 (numS c).1 else (0, 2)
  | _ => (0, 5)
theorem numS_err (x : Bytes) : (numS x).2 = 0 ∨ (numS x).2 = 2 ∨ (numS x).2 = 5 := by
  unfold numS
  repeat' split
  all_goals simp
theorem numS_range (x : Bytes) : -9223372036854775808 ≤ (numS x).1 ∧ (numS x).1 ≤ 9223372036854775807 := by
  unfold numS
  repeat' split
  all_goals simp
  all_goals omega
theorem numS_nil : numS [] = (0, 5) := by rfl
end Go.Wo
