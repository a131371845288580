/-
  Contracts: code.Format.
-/
import Derived.Test.YtdlekkhjkcbbnaaGreatDoorCoA
import Derived.Test.YtdlekkhjkcbbnaaGreatDoorCoD
set_option linter.unusedVariables false
set_option linter.unusedSimpArgs false
set_option maxRecDepth 8000
set_option maxHeartbeats 2000000
namespace Go.Proofs.YtdlekkhjkcbbnaaGreatDoor
open Go.Ab Go.Id Go.Wo Go

/-- the buffer of a builder -/
def bufO (g : Nat) (out : Bytes) : AObj := .tro g TU 1 ((Lib.byteCells out).map .v)
theorem byte_app (a b : Bytes) : Lib.byteCells a ++ Lib.strCells ⟨b.toArray⟩ = Lib.byteCells (a ++ b) := by
  rw [show Lib.strCells ⟨b.toArray⟩ = Lib.byteCells b from rfl]; simp [Lib.byteCells]
theorem byte_cell (l : Bytes) : ∀ v ∈ Lib.byteCells l, cellV v = true := by
  intro v hv
  obtain ⟨b, _, rfl⟩ := List.mem_map.1 hv
  rfl
theorem write_new {i : Nat} {σ : Heap} {s : Bytes} (hi : σ[i]? = some (.tro 0 TB 2 [.agg [.v (.pointer none), .v (.slice none 0 0)]])) (hs : s ≠ []) (hl : s.length ≤ 140737488355328) :
    ACalls Tryz.prog 24 [.ptr i 0 0 0, sv s] σ (fun r σ' => r = .tup [iv s.length, .v .nilIface] ∧ σ' = σ.set i (bldO i σ.length 0 TB s.length 1) ++ [bufO 1 s]) := by
  have := writeString_new (s := ⟨s.toArray⟩) hi (by show s.toArray.size ≠ 0; simpa using hs) (by show s.toArray.size ≤ _; simpa using hl)
  rw [strlen, show Lib.strCells ⟨s.toArray⟩ = Lib.byteCells s from rfl] at this
  exact this
theorem write_more {i j g : Nat} {σ : Heap} {out s : Bytes} (hij : i ≠ j) (hi : σ[i]? = some (bldO i j 0 TB out.length g)) (hj : σ[j]? = some (bufO g out)) (h0 : out ≠ []) (hs : s ≠ []) (hl : out.length + s.length ≤ 140737488355328) :
    ACalls Tryz.prog 24 [.ptr i 0 0 0, sv s] σ (fun r σ' => r = .tup [iv s.length, .v .nilIface] ∧ σ' = (σ.set j (bufO (g + 1) (out ++ s))).set i (bldO i j 0 TB (out ++ s).length (g + 1))) := by
  have := writeString_more (s := ⟨s.toArray⟩) hij hi hj (byte_cell out) (by rw [Lib.byteCells_length]) (by simpa using h0) (by show s.toArray.size ≠ 0; simpa using hs) (by show out.length + s.toArray.size ≤ _; simpa using hl)
  rw [strlen, byte_app] at this
  rw [List.length_append]
  exact this
theorem builder_done {i j g : Nat} {σ : Heap} {out : Bytes} (hij : i ≠ j) (hi : σ[i]? = some (bldO i j 0 TB out.length g)) (hj : σ[j]? = some (bufO g out)) (h0 : out ≠ []) (hl : out.length ≤ 140737488355328) :
    ACalls Tryz.prog 28 [.ptr i 0 0 0] σ (fun r σ' => r = sv out ∧ σ' = σ.set j (.dead g)) :=
  string_done hij hi hj rfl h0 hl

theorem format_c (p : Prg) (σ : Heap) (hc : p.code.length < 2^62) (hs : p.strs.length < 2^62) : ACalls Tryz.prog 10 [p.av] σ (fun r σ' => r = .tup [sv (formatP p).1, iv (formatP p).2] ∧ σ' = σ) := by
  refine acalls_awp Tryz.func10 rfl Tryz.call10 Tryz.ntmps10 Tryz.results10 (Nat.le_of_ble_eq_true rfl) fun hw => ?_
  generalize hres : formatP p = res
  unfold formatP at hres
  refine awp_then ?_
  simp only [go_sem, Prg.av]
  refine awp_then ?_
  simp only [go_sem]
  refine callN_of (check_c p _ hc hs) ?_
  rintro r τ ⟨rfl, rfl⟩
  by_cases hok : (checkS p).2 = 0
  · rw [if_pos hok] at hres
    subst hres
    have hP := okP_iff.1 hok
    have hlen := textS_len hP
    have hpg := pages_okN hP
    simp only [go_sem, eq_true hok]
    refine awp_seq (awp_alloc_tro rfl rfl rfl (by decide) Tryz.ty55 ?_)
    simp only [go_sem]
    refine awp_then ?_
    simp only [go_sem]
    refine callN_of (wformat_c p.pages _ (okN_64 hpg)) ?_
    rintro r τ ⟨rfl, rfl⟩
    have hit := itoa_okN hpg
    have e1 : ∀ s : Bytes, ({ data := #[112, 97, 103, 101, 115, 32] } : ByteArray) ++ { data := s.toArray } = ⟨([112, 97, 103, 101, 115, 32] ++ s).toArray⟩ := fun s => bytes_app [112, 97, 103, 101, 115, 32] s
    have e2 : ∀ s : Bytes, ({ data := s.toArray } : ByteArray) ++ { data := #[10] } = ⟨(s ++ [10]).toArray⟩ := fun s => bytes_app s [10]
    simp only [go_sem, e1, e2, List.size_toArray]
    have hh : (112 :: 97 :: 103 :: 101 :: 115 :: 32 :: (Lib.itoa p.pages ++ [10]) : Bytes) = headS p.pages := rfl
    have hl1 := headS_len hpg
    have hne : headS p.pages ≠ [] := by simp [headS]
    rw [hh]
    refine ⟨by omega, by omega, callN_of (write_new (by simp only [go_sem]) hne (by omega)) ?_⟩
    rintro r τ ⟨rfl, rfl⟩
    simp only [go_sem]
    refine awp_then ?_
    simp only [go_sem, strsB]
    have hwk : ∀ (n g : Nat) (out : Bytes), WfH (σ.length + 3) (σ ++ [.row 0 3 [p.av], bldO (σ.length + 1) (σ.length + 2) 0 TB n g, bufO g out]) := fun n g out o ho => by
      simp only [List.mem_append, List.mem_cons, List.not_mem_nil, or_false] at ho
      rcases ho with ho | rfl | rfl | rfl
      · exact AObj.allI_mono (fun i (hi : i < σ.length) => by show i < σ.length + 3; omega) (hw o ho)
      · exact ⟨⟨AllIL.mono (fun _ h => h.elim) _ (pure_codeL _), AllIL.mono (fun _ h => h.elim) _ (pure_strL _), trivial, trivial⟩, trivial⟩
      · exact ⟨⟨by show σ.length + 1 < _; omega, by show σ.length + 2 < _; omega, trivial⟩, trivial⟩
      · exact AllIL.mono (fun _ h => h.elim) _ (pureL_v _)
    refine loop_junk (X := Nat × Nat × Bytes) (fun x => [(1, ⟨true, .ptr σ.length 0 0 0⟩), (6, ⟨true, .ptr (σ.length + 1) 0 0 0⟩), (28, ⟨true, strsB p.strs⟩), (29, ⟨true, iv p.strs.length⟩), (30, ⟨true, iv x.1⟩)])
      (fun x => σ ++ [.row 0 3 [p.av], bldO (σ.length + 1) (σ.length + 2) 0 TB x.2.2.length x.2.1, bufO x.2.1 x.2.2])
      (fun x => x.1 ≤ p.strs.length ∧ (x.2.2 = headS p.pages ++ (p.strs.take x.1).flatMap strS ∧ x.2.2.length ≤ 28 + 400 * x.1)) (fun x => p.strs.length - x.1) (0, 1, headS p.pages) ⟨by simp, by simp, by simpa using hl1⟩ (by simp only [go_sem, strsB]; simp) (by simp [Prg.av, strsB]) ?_
    rintro ⟨k, g, out⟩ ⟨hk, ho, hol⟩
    simp only at hk ho hol
    have hstr := hP.strs
    have hcode := hP.code
    have hone : out ≠ [] := by rw [ho]; simp [headS]
    by_cases hlt : k < p.strs.length
    · obtain ⟨s, hg⟩ : ∃ s, p.strs[k]? = some s := ⟨_, List.getElem?_eq_getElem hlt⟩
      have hsl := strS_len (hP.short s (List.mem_of_getElem? hg))
      simp only [go_sem, strsB, hlt, hg]
      have hj := wjoin_c [[115, 116, 114, 105, 110, 103], s] (σ ++ [.row 0 3 [p.av], bldO (σ.length + 1) (σ.length + 2) 0 TB out.length g, bufO g out, .dead 0]) (by simp)
      refine callN_of (acalls_frz (i := σ.length + 3) (g := 0) (e := 1) (es := [sv [115, 116, 114, 105, 110, 103], sv s]) (by simp only [go_sem]) (by simp only [frzL, frz, go_sem]; exact hj)) ?_
      rintro r τ ⟨rfl, rfl⟩
      have hss : (joinS [[115, 116, 114, 105, 110, 103], s]).1 ++ [10] = strS s := rfl
      have hss2 : (joinS [[115, 116, 114, 105, 110, 103], s]).1.length + 1 = (strS s).length := by rw [← hss]; simp
      simp only [go_sem, e2, List.size_toArray, hss]
      have hsne : strS s ≠ [] := by simp [strS]
      refine ⟨by omega, callN_of (write_more (i := σ.length + 1) (j := σ.length + 2) (g := g) (out := out) (by omega) (by simp only [go_sem]) (by simp only [go_sem]) hone hsne (by omega)) ?_⟩
      rintro r τ ⟨rfl, rfl⟩
      simp only [go_sem]
      refine ⟨(k + 1, g + 1, out ++ strS s), by simp only; omega, ⟨by simp only; omega, ?_, ?_⟩, inc k (by omega), take_app3, by omega, hwk _ _ _⟩
      · simp only
        rw [take_flatMap _ _ _ _ hg, ← List.append_assoc, ← ho]
      · simp only [List.length_append]; omega
    · obtain rfl : k = p.strs.length := by omega
      rw [List.take_length] at ho
      simp only [go_sem, strsB, hlt]
      refine awp_then ?_
      simp only [go_sem, Prg.av, codeAV]
      refine loop_junk (X := Nat × Nat × Bytes) (fun x => [(1, ⟨true, .ptr σ.length 0 0 0⟩), (6, ⟨true, .ptr (σ.length + 1) 0 0 0⟩), (45, ⟨true, codeAV p.code⟩), (46, ⟨true, iv p.code.length⟩), (47, ⟨true, iv x.1⟩)])
        (fun x => σ ++ [.row 0 3 [p.av], bldO (σ.length + 1) (σ.length + 2) 0 TB x.2.2.length x.2.1, bufO x.2.1 x.2.2])
        (fun x => x.1 ≤ p.code.length ∧ (x.2.2 = headS p.pages ++ p.strs.flatMap strS ++ (p.code.take x.1).flatMap lineS ∧ x.2.2.length ≤ 28 + 400 * 32 + 75 * x.1)) (fun x => p.code.length - x.1) (0, g, out)
        ⟨by simp, by simp only [List.take_zero, List.flatMap_nil, List.append_nil]; exact ho, by simp only; omega⟩ (by simp only [go_sem, codeAV]; simp) (by simp [Prg.av, codeAV]) ?_
      clear hol hone ho
      rintro ⟨k, g, out⟩ ⟨hk, ho, hol⟩
      simp only at hk ho hol
      have hone : out ≠ [] := by rw [ho]; simp [headS]
      by_cases hlt : k < p.code.length
      · obtain ⟨⟨xo, xa, xb, xc⟩, hg⟩ : ∃ x, p.code[k]? = some x := ⟨_, List.getElem?_eq_getElem hlt⟩
        have hright := hP.right _ (List.mem_of_getElem? hg)
        have hlx := lineS_len (right_okN (by omega) hright).2
        simp only [go_sem, codeAV, hlt, hg, insAV]
        refine callN_of (line_c ⟨xo, xa, xb, xc⟩ p.code.length (by omega) hright _) ?_
        rintro r τ ⟨rfl, rfl⟩
        have hsne : lineS ⟨xo, xa, xb, xc⟩ ≠ [] := by simp [lineS]
        simp only [go_sem]
        refine callN_of (write_more (i := σ.length + 1) (j := σ.length + 2) (g := g) (out := out) (by omega) (by simp only [go_sem]) (by simp only [go_sem]) hone hsne (by omega)) ?_
        rintro r τ ⟨rfl, rfl⟩
        simp only [go_sem, codeAV]
        refine ⟨(k + 1, g + 1, out ++ lineS ⟨xo, xa, xb, xc⟩), by simp only; omega, ⟨by simp only; omega, ?_, ?_⟩, inc k (by omega), take_app3, by omega, hwk _ _ _⟩
        · simp only
          rw [take_flatMap _ _ _ _ hg, ← List.append_assoc, ← ho]
        · simp only [List.length_append]; omega
      · obtain rfl : k = p.code.length := by omega
        rw [List.take_length] at ho
        have ht : textS p = out := by rw [ho]; rfl
        simp only [go_sem, codeAV, hlt]
        refine vcode_sound _ ?_
        simp only [go_sem]
        refine callN_of (builder_done (i := σ.length + 1) (j := σ.length + 2) (g := g) (out := out) (by omega) (by simp only [go_sem]) (by simp only [go_sem]) hone (by omega)) ?_
        rintro r τ ⟨rfl, rfl⟩
        simp only [go_sem]
        exact retOK_app hw (by simp only [go_sem]) ⟨by rw [ht], rfl⟩
  · rw [if_neg hok] at hres
    subst hres
    simp only [go_sem, hok]
    exact retOK_app hw (by simp only [go_sem]) ⟨rfl, rfl⟩
end Go.Proofs.YtdlekkhjkcbbnaaGreatDoor
