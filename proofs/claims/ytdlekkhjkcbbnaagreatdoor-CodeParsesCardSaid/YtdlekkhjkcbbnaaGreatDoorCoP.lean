/-
  Plain law: what a right instruction holds, and how long texts are.
-/
import Derived.Test.YtdlekkhjkcbbnaaGreatDoorCoS
import Derived.Lib.ItoaLen
set_option linter.unusedVariables false
set_option linter.unusedSimpArgs false
set_option maxRecDepth 8000
namespace Go.Proofs.YtdlekkhjkcbbnaaGreatDoor
open Go.Ab Go.Id Go.Wo Go

/-- a number that a text can hold -/
def okN (n : Int) : Prop := -9007199254740992 ≤ n ∧ n ≤ 9007199254740992
theorem fitsS_okN {l : Nat} {n len : Int} (hl : len ≤ 256) (h : fitsS l n len = true) : okN n := by
  unfold fitsS at h
  unfold okN
  repeat' split at h
  all_goals
    simp only [Bool.and_eq_true, decide_eq_true_eq] at h
    omega
theorem opsOK_okN {len : Int} (hl : len ≤ 256) : ∀ (ls : Bytes) (ns : List Int), ns.length ≤ 3 → opsOK len ls ns = true → ∀ n ∈ ns, okN n
  | [], ns, _, h => by
    intro n hn
    simp only [opsOK, List.all_eq_true, decide_eq_true_eq] at h
    rw [h n hn]; unfold okN; omega
  | l :: ls, [], _, h => by intro n hn; cases hn
  | l :: ls, n :: ns, h3, h => by
    simp only [opsOK, Bool.and_eq_true] at h
    intro m hm
    rcases List.mem_cons.1 hm with rfl | hm
    · exact fitsS_okN hl h.1
    · exact opsOK_okN hl ls ns (by simp only [List.length_cons] at h3; omega) h.2 m hm
theorem right_okN {x : Ins} {len : Int} (hl : len ≤ 256) (h : rightS x len = true) : (0 ≤ x.op ∧ x.op < 13) ∧ ∀ n ∈ x.nums, okN n := by
  simp only [rightS, Bool.and_eq_true, decide_eq_true_eq] at h
  exact ⟨⟨h.1.1, h.1.2⟩, opsOK_okN hl _ _ (by simp [Ins.nums]) h.2⟩

theorem badS_none {len : Int} : ∀ (l : List Ins) (i : Nat), badS len i l = none → ∀ x ∈ l, rightS x len = true
  | [], _, _ => fun x hx => by cases hx
  | y :: l, i, h => by
    rw [badS] at h
    split at h
    · rename_i hy
      intro x hx
      rcases List.mem_cons.1 hx with rfl | hx
      · exact hy
      · exact badS_none l _ h x hx
    · cases h
theorem badS_none_of {len : Int} : ∀ (l : List Ins) (i : Nat), (∀ x ∈ l, rightS x len = true) → badS len i l = none
  | [], _, _ => rfl
  | y :: l, i, h => by
    rw [badS, if_pos (h y List.mem_cons_self)]
    exact badS_none_of l _ fun x hx => h x (List.mem_cons_of_mem _ hx)

/-- a program that passes -/
structure OkP (p : Prg) : Prop where
  code : p.code.length ≤ 256
  strs : p.strs.length ≤ 32
  short : ∀ s ∈ p.strs, s.length ≤ 128
  pages : 0 ≤ p.pages ∧ p.pages ≤ 16
  right : ∀ x ∈ p.code, rightS x p.code.length = true
theorem okP_iff {p : Prg} : (checkS p).2 = 0 ↔ OkP p := by
  unfold checkS
  constructor
  · intro h
    split at h
    · cases h
    · rename_i h1
      split at h
      · cases h
      · rename_i h2
        split at h
        · cases h
        · rename_i h3
          refine ⟨by omega, by omega, fun s hs => ?_, by omega, badS_none _ _ h3⟩
          by_cases hl : 128 < s.length
          · exact absurd (.inr (.inr (List.any_eq_true.2 ⟨s, hs, by simpa using hl⟩))) h1
          · omega
  · rintro ⟨h1, h2, h3, h4, h5⟩
    rw [if_neg, if_neg (by omega), badS_none_of _ _ h5]
    rintro (h | h | h)
    · omega
    · omega
    · obtain ⟨s, hs, h⟩ := List.any_eq_true.1 h
      have := h3 s hs
      simp only [decide_eq_true_eq] at h
      omega
theorem checkS_ok {p : Prg} (h : OkP p) : checkS p = (0, 0) := by
  have h2 := okP_iff.2 h
  unfold checkS at h2 ⊢
  split at h2
  · cases h2
  · split at h2
    · cases h2
    · split at h2
      · cases h2
      · rename_i a b _ c; rw [if_neg a, if_neg b]

theorem okN_64 {n : Int} (h : okN n) : -9223372036854775808 ≤ n ∧ n ≤ 9223372036854775807 := by unfold okN at h; omega
theorem itoa_okN {n : Int} (h : okN n) : (Lib.itoa n).length ≤ 21 := Lib.itoa_length_le n (okN_64 h).1 (okN_64 h).2

theorem opsT_len : ∀ (ls : Bytes) (ns : List Int), (∀ n ∈ ns, okN n) → ((opsT ls ns).flatMap fun w => 32 :: w).length ≤ 23 * ns.length
  | [], ns, _ => by simp [opsT]
  | _ :: _, [], _ => by simp [opsT]
  | l :: ls, n :: ns, h => by
    have h1 := itoa_okN (h n List.mem_cons_self)
    have h2 := opsT_len ls ns fun m hm => h m (List.mem_cons_of_mem _ hm)
    have h3 : (opT l n).length ≤ 22 := by
      unfold opT
      split
      · simp only [List.length_cons]; omega
      · omega
    simp only [opsT, List.flatMap_cons, List.length_append, List.length_cons]
    omega
theorem nameS_len (k : Nat) : (nameS k).length ≤ 5 := by
  unfold nameS
  by_cases h : k < 13
  · match k, h with
    | 0, _ | 1, _ | 2, _ | 3, _ | 4, _ | 5, _ | 6, _ | 7, _ | 8, _ | 9, _ | 10, _ | 11, _ | 12, _ => decide
  · rw [List.getElem?_eq_none (by show 13 ≤ k; omega)]; decide
theorem nums_len (x : Ins) : x.nums.length = 3 := rfl
theorem lineS_len {x : Ins} (h : ∀ n ∈ x.nums, okN n) : (lineS x).length ≤ 75 := by
  have h1 := nameS_len x.op.toNat
  have h2 := opsT_len (letsS x.op.toNat) x.nums h
  rw [nums_len] at h2
  simp only [lineS, List.length_append, List.length_singleton]
  omega
theorem joinS_len (l : List Bytes) : (joinS l).1.length ≤ 4096 := by
  unfold joinS
  repeat' split
  all_goals simp
  omega
theorem strS_len {s : Bytes} (h : s.length ≤ 128) : (strS s).length ≤ 400 := by
  have h1 := (writeS_len s).2
  have h2 := (writeS_len [115, 116, 114, 105, 110, 103]).2
  have h3 : (joinS [[115, 116, 114, 105, 110, 103], s]).1.length ≤ 399 := by
    unfold joinS
    have : (joinB [[115, 116, 114, 105, 110, 103], s]).length ≤ 399 := by
      simp only [joinB, List.flatMap_cons, List.flatMap_nil, List.length_append, List.length_cons, List.length_nil] at h2 ⊢
      omega
    repeat' split
    all_goals simp
    omega
  simp only [strS, List.length_append, List.length_singleton]
  omega
theorem flatMap_len {α : Type} {f : α → Bytes} {m : Nat} : ∀ (l : List α), (∀ x ∈ l, (f x).length ≤ m) → (l.flatMap f).length ≤ m * l.length
  | [], _ => by simp
  | x :: l, h => by
    have h1 := h x List.mem_cons_self
    have h2 := flatMap_len l fun y hy => h y (List.mem_cons_of_mem _ hy)
    simp only [List.flatMap_cons, List.length_append, List.length_cons, Nat.mul_succ]
    omega
theorem headS_len {n : Int} (h : okN n) : (headS n).length ≤ 28 := by
  have := itoa_okN h
  simp only [headS, List.length_append, List.length_cons, List.length_nil]
  omega
theorem pages_okN {p : Prg} (h : OkP p) : okN p.pages := by have := h.pages; unfold okN; omega
theorem textS_len {p : Prg} (h : OkP p) : (textS p).length ≤ 33000 := by
  have h1 := headS_len (pages_okN h)
  have h2 := flatMap_len (f := strS) p.strs fun s hs => strS_len (h.short s hs)
  have h3 := flatMap_len (f := lineS) p.code fun x hx => lineS_len (right_okN (by have := h.code; omega) (h.right x hx)).2
  have h4 := h.code
  have h5 := h.strs
  simp only [textS, List.length_append]
  omega
theorem take_flatMap {α : Type} (f : α → Bytes) (l : List α) (k : Nat) (x : α) (h : l[k]? = some x) : (l.take (k + 1)).flatMap f = (l.take k).flatMap f ++ f x := by
  rw [List.take_add_one, h, List.flatMap_append]
  simp
end Go.Proofs.YtdlekkhjkcbbnaaGreatDoor
