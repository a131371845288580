/-
  words: its contracts over lists of bytes.
-/
import Derived.Test.YtdlekkhjkcbbnaaGreatDoorWoM
import Derived.Test.YtdlekkhjkcbbnaaGreatDoorWoU
set_option linter.unusedVariables false
set_option linter.unusedSimpArgs false
set_option maxRecDepth 8000
set_option maxHeartbeats 2000000
namespace Go.Proofs.YtdlekkhjkcbbnaaGreatDoor
open Go.Ab Go.Id Go.Wo Go

theorem strsB_strs (l : List Bytes) : strsB l = strs (l.map toB) := by simp [strsB, strs, toB, List.map_map, Function.comp_def]

theorem toB_map_inj {l m : List Bytes} : (l.map toB = m.map toB) = (l = m) := by
  apply propext
  refine ⟨fun h => ?_, fun h => by rw [h]⟩
  have := congrArg (List.map fun s : ByteArray => s.data.toList) h
  simpa [List.map_map, Function.comp_def, toB] using this

theorem same_B (l m : List Bytes) (σ : Heap) (hl : l.length < 2^62) (hm : m.length < 2^62) : ACalls Tryz.prog 35 [strsB l, strsB m] σ (fun r σ' => r = bv (decide (l = m)) ∧ σ' = σ) := by
  have := wsame_c (l.map toB) (m.map toB) σ (by simpa using hl) (by simpa using hm)
  rw [← strsB_strs, ← strsB_strs] at this
  simp only [toB_map_inj] at this
  exact this

theorem linesL_len (l : Bytes) : (linesL l).length ≤ l.length + 1 := by
  have h : ∀ l : Bytes, (cutL l).length ≤ l.length + 1 := by
    intro l
    induction l with
    | nil => simp [cutL]
    | cons c l ih =>
      rw [cutL]
      split
      · simp only [List.length_cons]; omega
      · cases h : cutL l with
        | nil => simp [consH]
        | cons x r => rw [h] at ih; simp only [consH, List.length_cons] at ih ⊢; omega
  unfold linesL
  split
  · rw [List.length_dropLast]; have := h l; omega
  · exact h l

theorem size_len (s : ByteArray) : s.data.toList.length = s.size := by rw [Array.length_toList]; rfl

theorem lines_B (s : ByteArray) (σ : Heap) (hs : s.size < 4294967281) : ACalls Tryz.prog 36 [sw s] σ (fun r σ' => r = strsB (linesL s.data.toList) ∧ σ' = σ) := by
  have hN : (splitN s).length < 2^62 := by
    have h1 := splitN_length s
    have h2 := Lib.countB_le nl (by decide) s.size s (Nat.le_refl _)
    omega
  rw [strsB_strs, ← linesW_L]
  exact lines_c s σ hs hN

theorem rlines_B (s : ByteArray) (σ : Heap) (hs : s.size < 2^40) : ACalls Tryz.prog 39 [sw s] σ (fun r σ' => r = strsB (linesL s.data.toList) ∧ σ' = σ) := by
  rw [strsB_strs, ← rLines_L]
  exact rlines_c s σ hs

theorem number_A (s : ByteArray) (σ : Heap) (hs : s.size ≤ 281474976710656) : ACalls Tryz.prog 70 [sw s] σ (fun r σ' => r = .tup [iv (numS s.data.toList).1, iv (numS s.data.toList).2] ∧ σ' = σ) :=
  number_c s.data.toList σ (by rw [size_len]; exact hs)

theorem rnumber_A (s : ByteArray) (σ : Heap) (hs : s.size ≤ 281474976710656) : ACalls Tryz.prog 61 [sw s] σ (fun r σ' => r = .tup [iv (numS s.data.toList).1, iv (numS s.data.toList).2] ∧ σ' = σ) :=
  rnumber_c s.data.toList σ (by rw [size_len]; exact hs)


theorem split_ws_len {l : Bytes} (h : l.length ≤ 4096) : (splitS l).1.length ≤ 64 := by
  unfold splitS
  repeat' split
  all_goals simp
  all_goals omega

theorem split_ws_len' (l : Bytes) : (splitS l).1.length ≤ 64 := by
  unfold splitS
  repeat' split
  all_goals simp
  all_goals omega


end Go.Proofs.YtdlekkhjkcbbnaaGreatDoor
