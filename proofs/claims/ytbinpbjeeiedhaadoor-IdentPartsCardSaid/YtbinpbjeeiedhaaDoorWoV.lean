/-
  Contracts: the law's examples (sane), and its statements of splitting, joining, lines, numbers, and back.
-/
import Derived.Test.YtbinpbjeeiedhaaDoorWoM
import Derived.Test.YtbinpbjeeiedhaaDoorWoU
set_option linter.unusedVariables false
set_option linter.unusedSimpArgs false
set_option maxRecDepth 8000
set_option maxHeartbeats 2000000
namespace Go.Proofs.YtbinpbjeeiedhaaDoor
open Go.Ab Go.Id Go.Wo Go

theorem strsB_strs (l : List Bytes) : strsB l = strs (l.map toB) := by simp [strsB, strs, toB, List.map_map, Function.comp_def]
theorem toB_map_inj {l m : List Bytes} : (l.map toB = m.map toB) = (l = m) := by
  apply propext
  refine ⟨fun h => ?_, fun h => by rw [h]⟩
  have := congrArg (List.map fun s : ByteArray => s.data.toList) h
  simpa [List.map_map, Function.comp_def, toB] using this
theorem same_B (l m : List Bytes) (σ : Heap) (hl : l.length < 2^62) (hm : m.length < 2^62) : ACalls Tryd.prog 25 [strsB l, strsB m] σ (fun r σ' => r = bv (decide (l = m)) ∧ σ' = σ) := by
  have := wsame_c (l.map toB) (m.map toB) σ (by simpa using hl) (by simpa using hm)
  rw [← strsB_strs, ← strsB_strs] at this
  simp only [toB_map_inj] at this
  exact this
theorem kept_B (l : List Bytes) (σ : Heap) (hl : l.length < 2^62) : ACalls Tryd.prog 28 [strsB l] σ (fun r σ' => r = bv (keptS (l.map toB)) ∧ σ' = σ) := by
  rw [strsB_strs]
  exact kept_c _ σ (by simpa using hl)
theorem linesL_len (l : Bytes) : (linesL l).length ≤ l.length + 1 := by
  have h : ∀ l : Bytes, (cutL l).length ≤ l.length + 1 := by
    intro l
    induction l with
    | nil => simp [cutL]
    | cons c l ih =>
      rw [cutL]
      split
      · simp only [List.length_cons]; omega
      · cases h : cutL l with
        | nil => simp [consH]
        | cons x r => rw [h] at ih; simp only [consH, List.length_cons] at ih ⊢; omega
  unfold linesL
  split
  · rw [List.length_dropLast]; have := h l; omega
  · exact h l
theorem size_len (s : ByteArray) : s.data.toList.length = s.size := by rw [Array.length_toList]; rfl
theorem lines_B (s : ByteArray) (σ : Heap) (hs : s.size < 4294967281) : ACalls Tryd.prog 26 [sw s] σ (fun r σ' => r = strsB (linesL s.data.toList) ∧ σ' = σ) := by
  have hN : (splitN s).length < 2^62 := by
    have h1 := splitN_length s
    have h2 := Lib.countB_le nl (by decide) s.size s (Nat.le_refl _)
    omega
  rw [strsB_strs, ← linesW_L]
  exact lines_c s σ hs hN
theorem rlines_B (s : ByteArray) (σ : Heap) (hs : s.size < 2^40) : ACalls Tryd.prog 27 [sw s] σ (fun r σ' => r = strsB (linesL s.data.toList) ∧ σ' = σ) := by
  rw [strsB_strs, ← rLines_L]
  exact rlines_c s σ hs
theorem number_A (s : ByteArray) (σ : Heap) (hs : s.size ≤ 281474976710656) : ACalls Tryd.prog 31 [sw s] σ (fun r σ' => r = .tup [iv (numS s.data.toList).1, iv (numS s.data.toList).2] ∧ σ' = σ) :=
  number_c s.data.toList σ (by rw [size_len]; exact hs)
theorem rnumber_A (s : ByteArray) (σ : Heap) (hs : s.size ≤ 281474976710656) : ACalls Tryd.prog 32 [sw s] σ (fun r σ' => r = .tup [iv (numS s.data.toList).1, iv (numS s.data.toList).2] ∧ σ' = σ) :=
  rnumber_c s.data.toList σ (by rw [size_len]; exact hs)

theorem ex_split : splitS [114, 117, 110, 32, 34, 97, 32, 98, 34, 32, 51] = ([[114, 117, 110], [97, 32, 98], [51]], 0) := by kernel_rfl
theorem ex_join : joinS [[97], []] = ([97, 32, 34, 34], 0) := by kernel_rfl
theorem ex_num : numS [45, 49, 55] = (-17, 0) := by kernel_rfl
theorem ex_lines : linesL [97, 10, 10, 98] = [[97], [], [98]] := by kernel_rfl

theorem wsane_c (σ : Heap) : ACalls Tryd.prog 22 [] σ (fun r σ' => r = bv true ∧ σ' = σ) := by
  refine acalls_awp Tryd.func22 rfl Tryd.call22 Tryd.ntmps22 Tryd.results22 (Nat.le_of_ble_eq_true rfl) fun hw => ?_
  refine awp_then ?_
  simp only [go_sem]
  refine awp_then ?_
  simp only [go_sem]
  refine callN_of (wsplit_c ⟨#[114, 117, 110, 32, 34, 97, 32, 98, 34, 32, 51]⟩ _ (by decide)) ?_
  rw [show (ByteArray.mk #[114, 117, 110, 32, 34, 97, 32, 98, 34, 32, 51]).data.toList = [114, 117, 110, 32, 34, 97, 32, 98, 34, 32, 51] from rfl, ex_split]
  rintro r τ ⟨rfl, rfl⟩
  simp only [go_sem]
  refine awp_then ?_
  simp only [go_sem]
  have hj := wjoin_c [[97], []] (τ ++ [.dead 0]) (by simp)
  rw [ex_join] at hj
  refine callN_of (acalls_frz (i := τ.length) (g := 0) (e := 1) (es := [sv [97], sv []]) (by simp only [go_sem]) (by simp only [frzL, frz, go_sem]; exact hj)) ?_
  rintro r τ' ⟨rfl, rfl⟩
  simp only [go_sem]
  refine awp_then ?_
  simp only [go_sem]
  refine callN_of (number_c [45, 49, 55] _ (by decide)) ?_
  rw [ex_num]
  rintro r τ' ⟨rfl, rfl⟩
  simp only [go_sem, strsB]
  refine vcode_sound _ ?_
  have hl := lines_B ⟨#[97, 10, 10, 98]⟩ (τ ++ [.dead 0]) (by decide)
  rw [show (ByteArray.mk #[97, 10, 10, 98]).data.toList = [97, 10, 10, 98] from rfl, ex_lines] at hl
  simp only [go_sem, Int.cast_ofNat_Int, Int.reduceEq, Int.reduceLT, show Int.toNat 1 = 1 from rfl]
  refine callG_of (strsB [[97], [], [98]]) (fun _ => hl) ?_
  simp only [go_sem, strsB, Int.cast_ofNat_Int, Int.reduceEq]
  exact retOK_app hw (by simp only [go_sem]) ⟨rfl, rfl⟩

theorem split_ws_len {l : Bytes} (h : l.length ≤ 4096) : (splitS l).1.length ≤ 64 := by
  unfold splitS
  repeat' split
  all_goals simp
  all_goals omega
theorem split_ws_len' (l : Bytes) : (splitS l).1.length ≤ 64 := by
  unfold splitS
  repeat' split
  all_goals simp
  all_goals omega

theorem wordsSplit_c (s : ByteArray) (σ : Heap) (hs : s.size < 4294967281) : ACalls Tryd.prog 6 [sw s] σ (fun r σ' => r = bv true ∧ σ' = σ) := by
  refine acalls_awp Tryd.func6 rfl Tryd.call6 Tryd.ntmps6 Tryd.results6 (Nat.le_of_ble_eq_true rfl) fun hw => ?_
  refine awp_then ?_
  simp only [go_sem]
  refine awp_then ?_
  simp only [go_sem]
  refine callN_of (wsane_c _) ?_
  rintro r τ ⟨rfl, rfl⟩
  simp only [go_sem]
  have hlen := split_ws_len' s.data.toList
  have hll := linesL_len s.data.toList
  rw [size_len] at hll
  refine awp_meet (T := Unit) (fun _ => [(0, ⟨true, sw s⟩)]) (fun _ => τ) (fun _ => True) ?_ ?_
  · by_cases h1 : (1500 : Int) < (s.size : Int)
    · by_cases h2 : (s.size : Int) ≤ 4096
      · simp only [go_sem, eq_true h1, eq_true h2]
        exact retOK_same hw (by simp only [go_sem]) ⟨rfl, rfl⟩
      · simp only [go_sem, eq_true h1, h2]
        exact ⟨(), trivial⟩
    · simp only [go_sem, h1]
      exact ⟨(), trivial⟩
  rintro - -
  refine awp_then ?_
  simp only [go_sem]
  refine callN_of (wsplit_c s _ (by omega)) ?_
  rintro r τ' ⟨rfl, rfl⟩
  simp only [go_sem]
  refine awp_then ?_
  simp only [go_sem]
  refine callN_of (rsplit_c s _ (by omega)) ?_
  rw [← split_same]
  rintro r τ ⟨rfl, rfl⟩
  simp only [go_sem]
  refine vcode_sound _ ?_
  simp only [go_sem]
  refine callG_of (bv true) (fun _ => by have := same_B (splitS s.data.toList).1 (splitS s.data.toList).1 τ (by omega) (by omega); simpa using this) ?_
  simp only [go_sem]
  refine callG_of (strsB (linesL s.data.toList)) (fun _ => lines_B s τ hs) ?_
  simp only [go_sem]
  refine callG_of (strsB (linesL s.data.toList)) (fun _ => rlines_B s τ (by omega)) ?_
  simp only [go_sem]
  refine callG_of (bv true) (fun _ => by have := same_B (linesL s.data.toList) (linesL s.data.toList) τ (by omega) (by omega); simpa using this) ?_
  simp only [go_sem]
  exact retOK_same hw (by simp only [go_sem]) ⟨rfl, rfl⟩

theorem kept_sizes {l : List Bytes} (h : keptS (l.map toB) = true) : l.length ≤ 70 ∧ ∀ w ∈ l, w.length ≤ 200 := by
  unfold keptS at h
  simp only [Bool.and_eq_true, decide_eq_true_eq, List.all_eq_true, List.length_map, List.mem_map, forall_exists_index, and_imp, forall_apply_eq_imp_iff₂] at h
  refine ⟨h.1, fun w hw => ?_⟩
  have := h.2 w hw
  simpa [toB, strlen] using this

theorem wordsJoin_c (l : List Bytes) (σ : Heap) (hl : l.length < 2^62) : ACalls Tryd.prog 7 [strsB l] σ (fun r σ' => r = bv true ∧ σ' = σ) := by
  refine acalls_awp Tryd.func7 rfl Tryd.call7 Tryd.ntmps7 Tryd.results7 (Nat.le_of_ble_eq_true rfl) fun hw => ?_
  refine awp_then ?_
  simp only [go_sem]
  refine awp_then ?_
  simp only [go_sem]
  refine callN_of (wsane_c _) ?_
  rintro r τ ⟨rfl, rfl⟩
  simp only [go_sem]
  refine awp_then ?_
  simp only [go_sem]
  refine callN_of (kept_B l _ hl) ?_
  rintro r τ' ⟨rfl, rfl⟩
  cases hk : keptS (l.map toB) with
  | false =>
    simp only [go_sem]
    exact retOK_same hw (by simp only [go_sem]) ⟨rfl, rfl⟩
  | true =>
    obtain ⟨k1, k2⟩ := kept_sizes hk
    simp only [go_sem]
    refine awp_then ?_
    simp only [go_sem]
    refine callN_of (wjoin_c l _ hl) ?_
    rintro r τ ⟨rfl, rfl⟩
    simp only [go_sem]
    refine awp_then ?_
    simp only [go_sem]
    refine callN_of (rjoin_c l _ hl (fun w hw => by have := k2 w hw; omega)) ?_
    rintro r τ' ⟨rfl, rfl⟩
    simp only [go_sem]
    refine vcode_sound _ ?_
    simp only [go_sem]
    exact retOK_same hw (by simp only [go_sem]) ⟨rfl, rfl⟩

theorem wordsNumbers_c (s : ByteArray) (n : Int) (σ : Heap) (h0 : -9223372036854775808 ≤ n) (h1 : n ≤ 9223372036854775807) (hs : s.size < 2^62) : ACalls Tryd.prog 10 [sw s, iv n] σ (fun r σ' => r = bv true ∧ σ' = σ) := by
  refine acalls_awp Tryd.func10 rfl Tryd.call10 Tryd.ntmps10 Tryd.results10 (Nat.le_of_ble_eq_true rfl) fun hw => ?_
  refine awp_then ?_
  simp only [go_sem]
  refine awp_then ?_
  simp only [go_sem]
  refine callN_of (wsane_c _) ?_
  rintro r τ ⟨rfl, rfl⟩
  simp only [go_sem]
  refine awp_then ?_
  by_cases hlong : (200 : Int) < (s.size : Int)
  · simp only [go_sem, eq_true hlong]
    exact retOK_same hw (by simp only [go_sem]) ⟨rfl, rfl⟩
  · simp only [go_sem, hlong]
    refine awp_then ?_
    simp only [go_sem]
    refine callN_of (number_A s _ (by omega)) ?_
    rintro r τ' ⟨rfl, rfl⟩
    simp only [go_sem]
    refine awp_then ?_
    simp only [go_sem]
    refine callN_of (rnumber_A s _ (by omega)) ?_
    rintro r τ ⟨rfl, rfl⟩
    simp only [go_sem]
    refine vcode_sound _ ?_
    simp only [go_sem]
    refine callG_of (sv (Lib.itoa n)) (fun _ => wformat_c n _ ⟨h0, h1⟩) ?_
    simp only [go_sem]
    refine callG_of (sv (Lib.itoa n)) (fun _ => rformat_c n _ h0 h1) ?_
    simp only [go_sem]
    exact retOK_same hw (by simp only [go_sem]) ⟨rfl, rfl⟩
end Go.Proofs.YtbinpbjeeiedhaaDoor
