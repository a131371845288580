/-
  Contracts: the reference's Same, Lines; .
  Contracts: which bytes are simple, what pairs mean, which words are bare, of the program and of the reference.
-/
import Derived.Test.YtdlekkhjkcbbnaaDoorCoGl
import Derived.Test.YtdlekkhjkcbbnaaDoorIdS
set_option linter.unusedVariables false
set_option linter.unusedSimpArgs false
set_option maxRecDepth 8000
set_option maxHeartbeats 1000000
namespace Go.Proofs.YtdlekkhjkcbbnaaDoor
open Go.Ab Go.Id Go.Wo Go

end Go.Proofs.YtdlekkhjkcbbnaaDoor
set_option linter.unusedVariables false
set_option linter.unusedSimpArgs false
set_option maxRecDepth 8000
set_option maxHeartbeats 1000000
namespace Go.Proofs.YtdlekkhjkcbbnaaDoor
open Go.Ab Go.Id Go.Wo Go

def simpleB (c : Int) : Bool := decide (32 < c) && decide (c < 127) && !decide (c = 34) && !decide (c = 92)
def meaningS (c : Int) : Int × Bool := if c = 34 ∨ c = 92 then (c, true) else if c = 110 then (10, true) else if c = 114 then (13, true) else (0, false)
abbrev cv (n : Int) : AV := .v (.int .u8 n)

theorem simple_c (c : Int) (σ : Heap) : ACalls Tryd.prog 49 [cv c] σ (fun r σ' => r = bv (simpleB c) ∧ σ' = σ) := by
  refine acalls_go Tryd.func49 rfl Tryd.call49 Tryd.ntmps49 Tryd.results49 (Nat.le_of_ble_eq_true rfl) fun hw => ?_
  simp only [go_sem]
  exact retOK_same hw trivial ⟨rfl, rfl⟩
theorem meaning_c (c : Int) (σ : Heap) : ACalls Tryd.prog 50 [cv c] σ (fun r σ' => r = .tup [cv (meaningS c).1, bv (meaningS c).2] ∧ σ' = σ) := by
  refine acalls_go Tryd.func50 rfl Tryd.call50 Tryd.ntmps50 Tryd.results50 (Nat.le_of_ble_eq_true rfl) fun hw => ?_
  unfold meaningS
  by_cases h1 : c = 34
  · subst h1; simp only [go_sem]; exact retOK_same hw (by simp only [go_sem]) ⟨by simp, rfl⟩
  · by_cases h2 : c = 92
    · subst h2; simp only [go_sem, h1]; exact retOK_same hw (by simp only [go_sem]) ⟨by simp, rfl⟩
    · rw [if_neg (by omega)]
      by_cases h3 : c = 110
      · subst h3; simp only [go_sem, h1, h2]; exact retOK_same hw (by simp only [go_sem]) ⟨by simp, rfl⟩
      · by_cases h4 : c = 114
        · subst h4; simp only [go_sem, h1, h2, h3]; exact retOK_same hw (by simp only [go_sem]) ⟨by simp, rfl⟩
        · simp only [go_sem, h1, h2, h3, h4]; exact retOK_same hw (by simp only [go_sem]) ⟨by simp, rfl⟩
def bareTo (s : ByteArray) (k : Nat) : Bool := (s.data.toList.take k).all fun b => simpleB b.toNat
def bareS (s : ByteArray) : Bool := bareTo s s.size && !decide (s = ⟨#[]⟩)
theorem bareTo_succ (s : ByteArray) (k : Nat) (h : k < s.size) : bareTo s (k + 1) = (bareTo s k && simpleB (s.data.toList[k]?.getD 0).toNat) := by
  have hk : k < s.data.toList.length := by rw [Array.length_toList]; exact h
  unfold bareTo
  rw [List.take_add_one, List.getElem?_eq_getElem hk, List.all_append]
  simp
theorem bareTo_false {s : ByteArray} {k : Nat} (h : k < s.size) (hb : simpleB (s.data.toList[k]?.getD 0).toNat = false) : bareTo s s.size = false := by
  have hk : k < s.data.toList.length := by rw [Array.length_toList]; exact h
  unfold bareTo
  rw [List.take_of_length_le (by rw [Array.length_toList]; exact Nat.le_refl _), List.all_eq_false]
  refine ⟨s.data.toList[k], List.getElem_mem hk, ?_⟩
  rw [List.getElem?_eq_getElem hk] at hb
  simpa using hb

theorem bare_c (s : ByteArray) (σ : Heap) (hs : s.size < 2^62) : ACalls Tryd.prog 46 [sw s] σ (fun r σ' => r = bv (bareS s) ∧ σ' = σ) := by
  refine acalls_go Tryd.func46 rfl Tryd.call46 Tryd.ntmps46 Tryd.results46 (Nat.le_of_ble_eq_true rfl) fun hw => ?_
  simp only [go_sem]
  refine loop_go (X := Nat) (fun k => [(0, ⟨true, sw s⟩), (5, ⟨true, iv s.size⟩), (6, ⟨true, iv k⟩)]) (fun _ => σ) (fun k => k ≤ s.size ∧ bareTo s k = true) (fun k => s.size - k) 0 ⟨by omega, by simp [bareTo]⟩ (by simp only [go_sem]; simp) rfl ?_
  rintro k ⟨hk, hn⟩
  by_cases hlt : k < s.size
  · simp only [go_sem, hlt]
    refine callN_of (simple_c _ _) ?_
    rintro r τ ⟨rfl, rfl⟩
    cases hb : simpleB (s.data.toList[k]?.getD 0).toNat with
    | true =>
      simp only [go_sem]
      exact ⟨k + 1, by omega, ⟨by omega, by rw [bareTo_succ s k hlt, hn, hb]; rfl⟩, inc k (by omega)⟩
    | false =>
      simp only [go_sem]
      exact retOK_same hw trivial ⟨by rw [bareS, bareTo_false hlt hb]; rfl, rfl⟩
  · obtain rfl : k = s.size := by omega
    simp only [go_sem, hlt]
    exact retOK_same hw trivial ⟨by rw [bareS, hn, Bool.true_and], rfl⟩

end Go.Proofs.YtdlekkhjkcbbnaaDoor
