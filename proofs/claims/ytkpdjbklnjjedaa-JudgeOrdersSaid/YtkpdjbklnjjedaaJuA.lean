/-
  Contracts: the deck; the reference's Last, made, place, before.
-/
import Derived.Test.YtkpdjbklnjjedaaTy
import Derived.Test.YtkpdjbklnjjedaaJuS
set_option linter.unusedVariables false
set_option linter.unusedSimpArgs false
namespace Go.Proofs.Ytkpdjbklnjjedaa
open Go.Ab Go.Ju

theorem mod_c (a b : Int) (σ : Heap) (hb : b ≠ 0) : ACalls Try.prog 21 [iv a, iv b] σ (fun r σ' => r = iv (modS a b) ∧ σ' = σ) := by
  refine acalls_go Try.func21 rfl Try.call21 Try.ntmps21 Try.results21 (Nat.le_of_ble_eq_true rfl) fun hw => ?_
  simp only [go_sem]
  refine ⟨hb, ?_⟩
  split
  · rename_i h; exact retOK_same hw trivial ⟨by simp only [modS, h, if_true], rfl⟩
  · rename_i h; exact retOK_same hw trivial ⟨by simp only [modS, h, if_false], rfl⟩

theorem place_c (l : List Int) (n : Int) (σ : Heap) (hl : l.length < 2^62) : ACalls Try.prog 30 [ints l, iv n] σ (fun r σ' => r = iv (rPlace l n) ∧ σ' = σ) := by
  refine acalls_go Try.func30 rfl Try.call30 Try.ntmps30 Try.results30 (Nat.le_of_ble_eq_true rfl) fun hw => ?_
  simp only [go_sem, ints]
  refine loop_go (X := Nat) (fun k => [(0, ⟨true, ints l⟩), (1, ⟨true, iv n⟩), (5, ⟨true, iv k⟩)]) (fun _ => σ) (fun k => k ≤ l.length ∧ n ∉ l.take k) (fun k => l.length - k) 0 (by simp) (by simp only [go_sem, ints]; simp) rfl ?_
  rintro k ⟨hk, hn⟩
  by_cases hlt : k < l.length
  · have hg := List.getElem?_eq_getElem hlt
    simp only [go_sem, ints, hlt, hg]
    split
    · rename_i h; exact retOK_same hw trivial ⟨by rw [rPlace_some hlt h hn], rfl⟩
    · rename_i h; refine ⟨k + 1, by omega, ⟨by omega, ?_⟩, ?_⟩
      · rw [take_snoc hlt, List.mem_append]; rintro (h' | h')
        · exact hn h'
        · rw [List.mem_singleton] at h'; exact h h'.symm
      · rw [wrap_i64 (by omega) (by omega)]; omega
  · simp only [go_sem, ints, hlt]
    refine retOK_same hw trivial ⟨?_, rfl⟩
    rw [rPlace_none (by rwa [List.take_of_length_le (by omega)] at hn)]

theorem last_c (l : List Acc) (o : Int) (σ : Heap) (hl : l.length < 2^62) : ACalls Try.prog 18 [accs l, .v (.int .u64 o)] σ (fun r σ' => r = iv (rLast l o) ∧ σ' = σ) := by
  refine acalls_go Try.func18 rfl Try.call18 Try.ntmps18 Try.results18 (Nat.le_of_ble_eq_true rfl) fun hw => ?_
  simp only [go_sem, accs]
  refine loop_go (X := Nat) (fun k => [(0, ⟨true, accs l⟩), (1, ⟨true, .v (.int .u64 o)⟩), (5, ⟨true, iv (rLast (l.take k) o)⟩), (6, ⟨true, iv k⟩)]) (fun _ => σ) (fun k => k ≤ l.length) (fun k => l.length - k) 0 (by simp) (by simp only [go_sem, accs]; simp [rLast]) rfl ?_
  rintro k hk
  by_cases hlt : k < l.length
  · have hg := List.getElem?_eq_getElem hlt
    simp only [go_sem, accs, hlt, hg, Acc.av]
    have hwr : w64 (k + 1) = ((k + 1 : Nat) : Int) := by rw [w64, wrap_i64 (by omega) (by omega)]; omega
    split
    · rename_i h; refine ⟨k + 1, by omega, by omega, ?_, hwr⟩
      rw [take_snoc hlt, rLast_snoc, if_pos h]
    · rename_i h; refine ⟨k + 1, by omega, by omega, ?_, hwr⟩
      rw [take_snoc hlt, rLast_snoc, if_neg h]
  · simp only [go_sem, accs, hlt]
    exact retOK_same hw trivial ⟨by rw [List.take_of_length_le (by omega)], rfl⟩

theorem rmade_c (l : List Acc) (o v : Int) (σ : Heap) (hl : l.length < 2^62) : ACalls Try.prog 29 [accs l, .v (.int .u64 o), iv v] σ (fun r σ' => r = bv (rMade l o v) ∧ σ' = σ) := by
  refine acalls_go Try.func29 rfl Try.call29 Try.ntmps29 Try.results29 (Nat.le_of_ble_eq_true rfl) fun hw => ?_
  simp only [go_sem, accs]
  refine loop_go (X := Nat) (fun k => [(0, ⟨true, accs l⟩), (1, ⟨true, .v (.int .u64 o)⟩), (2, ⟨true, iv v⟩), (7, ⟨true, iv k⟩)]) (fun _ => σ) (fun k => k ≤ l.length ∧ rMade (l.take k) o v = false) (fun k => l.length - k) 0 (by simp [rMade]) (by simp only [go_sem, accs]; simp) rfl ?_
  rintro k ⟨hk, hm⟩
  by_cases hlt : k < l.length
  · have hg := List.getElem?_eq_getElem hlt
    simp only [go_sem, accs, hlt, hg, Acc.av]
    have hwr : w64 (k + 1) = ((k + 1 : Nat) : Int) := by rw [w64, wrap_i64 (by omega) (by omega)]; omega
    split
    · rename_i h; refine retOK_same hw trivial ⟨?_, rfl⟩
      rw [rMade, List.any_eq_true.2 ⟨l[k], List.getElem_mem hlt, by simpa using h⟩]
    · rename_i h; refine ⟨k + 1, by omega, ⟨by omega, ?_⟩, hwr⟩
      rw [take_snoc hlt, rMade_snoc, hm]; simpa using h
  · simp only [go_sem, accs, hlt]
    exact retOK_same hw trivial ⟨by rw [← hm, List.take_of_length_le (by omega)], rfl⟩

theorem rbefore_c (l : List Acc) (i k : Nat) (σ : Heap) (hi : i < l.length) (hk : k < l.length) (hl : l.length < 2^62) : ACalls Try.prog 31 [accs l, iv i, iv k] σ (fun r σ' => r = bv (rBefore l[i] l[k] i k) ∧ σ' = σ) := by
  refine acalls_go Try.func31 rfl Try.call31 Try.ntmps31 Try.results31 (Nat.le_of_ble_eq_true rfl) fun hw => ?_
  simp only [go_sem, accs]
  have hgi := List.getElem?_eq_getElem hi
  have hgk := List.getElem?_eq_getElem hk
  refine awp_draw Try.mixed (by kernel_rfl) ?_
  set_option maxRecDepth 4000 in
  simp only [go_sem, accs, hgi, hgk, hi, hk, Acc.av]
  split
  · rename_i h; exact retOK_app hw trivial ⟨by simp [rBefore, h], rfl⟩
  · rename_i h
    split
    · rename_i h'; exact retOK_app hw trivial ⟨by simp only [rBefore]; rw [if_neg (by simpa using h), if_pos (by simpa [Int.natCast_inj] using h')], rfl⟩
    · rename_i h'
      refine retOK_app hw trivial ⟨?_, rfl⟩
      simp only [rBefore]; rw [if_neg (by simpa using h), if_neg (by simpa [Int.natCast_inj] using h')]

end Go.Proofs.Ytkpdjbklnjjedaa
