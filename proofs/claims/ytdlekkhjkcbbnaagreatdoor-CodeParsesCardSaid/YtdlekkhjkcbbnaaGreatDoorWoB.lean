/-
  Contracts: the reference's Same, Lines; .
  Contracts: which bytes are simple, what pairs mean, which words are bare, of the program and of the reference.
-/
import Derived.Test.YtdlekkhjkcbbnaaGreatDoorCoGl
import Derived.Test.YtdlekkhjkcbbnaaGreatDoorIdS
set_option linter.unusedVariables false
set_option linter.unusedSimpArgs false
set_option maxRecDepth 8000
set_option maxHeartbeats 1000000
namespace Go.Proofs.YtdlekkhjkcbbnaaGreatDoor
open Go.Ab Go.Id Go.Wo Go

theorem wsame_c (l m : List ByteArray) (σ : Heap) (hl : l.length < 2^62) (hm : m.length < 2^62) : ACalls Tryz.prog 35 [strs l, strs m] σ (fun r σ' => r = bv (decide (l = m)) ∧ σ' = σ) := by
  refine acalls_go Tryz.func35 rfl Tryz.call35 Tryz.ntmps35 Tryz.results35 (Nat.le_of_ble_eq_true rfl) fun hw => ?_
  simp only [go_sem, strs]
  by_cases hlm : l.length = m.length
  · have hlen' := eq_true hlm
    simp only [go_sem, strs, hlen']
    refine loop_go (X := Nat) (fun k => [(0, ⟨true, strs l⟩), (1, ⟨true, strs m⟩), (12, ⟨true, iv l.length⟩), (13, ⟨true, iv k⟩)]) (fun _ => σ) (fun k => k ≤ l.length ∧ l.take k = m.take k) (fun k => l.length - k) 0 (by simp) (by simp only [go_sem, strs]; simp) rfl ?_
    rintro k ⟨hk, hn⟩
    by_cases hlt : k < l.length
    · have hltm : k < m.length := by omega
      have hg := List.getElem?_eq_getElem hlt
      have hgm := List.getElem?_eq_getElem hltm
      simp only [go_sem, strs, hlt]
      refine awp_draw Tryz.mixed (by kernel_rfl) ?_
      simp only [go_sem, strs, hlt, hltm, hg, hgm]
      by_cases he : l[k] = m[k]
      · simp only [he, not_true_eq_false, if_false]
        refine ⟨k + 1, by omega, ⟨by omega, ?_⟩, inc k (by omega)⟩
        rw [List.take_add_one, List.take_add_one, hn, hg, hgm, he]
      · simp only [he, not_false_eq_true, if_true]
        refine retOK_same hw trivial ⟨?_, rfl⟩
        rw [decide_eq_false]
        rintro rfl
        exact he rfl
    · simp only [go_sem, strs, hlt]
      refine retOK_same hw trivial ⟨?_, rfl⟩
      rw [List.take_of_length_le (by omega), List.take_of_length_le (by omega)] at hn
      simp [hn]
  · simp only [go_sem, strs, hlm]
    refine retOK_same hw trivial ⟨?_, rfl⟩
    rw [decide_eq_false]; intro e; apply hlm; rw [e]

theorem rlines_c (s : ByteArray) (σ : Heap) (hs : s.size < 2^40) : ACalls Tryz.prog 39 [sw s] σ (fun r σ' => r = strs (rLines s) ∧ σ' = σ) := by
  refine acalls_awp Tryz.func39 rfl Tryz.call39 Tryz.ntmps39 Tryz.results39 (Nat.le_of_ble_eq_true rfl) fun hw => ?_
  refine awp_then ?_
  simp only [go_sem]
  refine awp_then ?_
  simp only [go_sem]
  refine awp_nil 3 1 (by simp only [go_sem]) ?_
  refine awp_then ?_
  simp only [go_sem]
  refine awp_then ?_
  simp only [go_sem]
  refine loop_junk (X := Nat) (fun k => [(0, ⟨true, sw s⟩), (3, ⟨true, .os σ.length (linesS s k).1.length 0 (linesS s k).1.length⟩), (4, ⟨true, iv (linesS s k).2⟩), (5, ⟨true, iv k⟩)]) (fun k => σ ++ [.row (linesS s k).1.length 1 ((linesS s k).1.map sw)]) (fun k => k ≤ s.size) (fun k => s.size - k) 0 (by omega) (by simp only [go_sem]; exact ⟨rfl, rfl, rfl⟩) (by simp [linesS]) ?_
  intro k hk
  have hle := linesS_le s k
  by_cases hlt : k < s.size
  · by_cases h10 : ((s.data.toList[k]?.getD 0).toNat : Int) = 10
    · have e1 : linesS s (k + 1) = ((linesS s k).1 ++ [s.extract (linesS s k).2 k], k + 1) := by rw [linesS, if_pos (by omega)]
      have hrow : ∀ (l : List ByteArray) (x : ByteArray), List.take l.length (l.map sw) ++ [sw x] = (l ++ [x]).map sw := fun l x => by rw [List.take_of_length_le (by simp), List.map_append]; rfl
      simp only [go_sem, hlt, h10]
      refine ⟨by omega, ⟨by omega, by omega⟩, k + 1, by omega, by omega, ⟨by rw [e1]; simp, by rw [e1]; exact inc k (by omega), inc k (by omega)⟩, ?_, by omega, by rw [e1]; exact wfH_row1 hw (pureL_map (f := sw) (fun _ => trivial) _)⟩
      rw [e1, hrow]
      simp only [List.length_append, List.length_singleton]
      exact take_app1
    · have e1 : linesS s (k + 1) = linesS s k := by rw [linesS, if_neg (by omega)]
      simp only [go_sem, hlt, h10]
      exact ⟨k + 1, by omega, by omega, ⟨by rw [e1], by rw [e1], inc k (by omega)⟩, by rw [e1]; exact take_app1, by omega, by rw [e1]; exact wfH_row1 hw (pureL_map (f := sw) (fun _ => trivial) _)⟩
  · obtain rfl : k = s.size := by omega
    have hrl : rLines s = if (linesS s s.size).2 < s.size then (linesS s s.size).1 ++ [s.extract (linesS s s.size).2 s.size] else (linesS s s.size).1 := rfl
    generalize linesS s s.size = p at hle hrl
    simp only [go_sem, hlt]
    refine awp_then ?_
    by_cases hp : p.2 < s.size
    · rw [if_pos hp] at hrl
      simp only [go_sem, hp]
      refine ⟨by omega, ⟨by omega, by omega⟩, ?_⟩
      have hrow : List.take p.1.length (p.1.map sw) ++ [sw (s.extract p.2 s.size)] = (p.1 ++ [s.extract p.2 s.size]).map sw := by rw [List.take_of_length_le (by simp), List.map_append]; rfl
      rw [hrow, ← hrl]
      have hlen : (rLines s).length = p.1.length + 1 := by rw [hrl]; simp
      refine awp_frz (i := σ.length) (g := p.1.length + 1) (e := 1) (es := (rLines s).map sw) (by simp only [go_sem]) ?_
      refine vcode_sound _ ?_
      simp only [go_sem, frzE, frz, frzL, hlen]
      rw [List.take_of_length_le (by simp [hlen])]
      exact retOK_app hw (by simp only [go_sem]) ⟨rfl, rfl⟩
    · rw [if_neg hp] at hrl
      simp only [go_sem, hp]
      refine awp_frz (i := σ.length) (g := p.1.length) (e := 1) (es := p.1.map sw) (by simp only [go_sem]) ?_
      refine vcode_sound _ ?_
      simp only [go_sem, frzE, frz, frzL]
      rw [List.take_of_length_le (by simp)]
      exact retOK_app hw (by simp only [go_sem]) ⟨by rw [hrl]; rfl, rfl⟩
end Go.Proofs.YtdlekkhjkcbbnaaGreatDoor
set_option linter.unusedVariables false
set_option linter.unusedSimpArgs false
set_option maxRecDepth 8000
set_option maxHeartbeats 1000000
namespace Go.Proofs.YtdlekkhjkcbbnaaGreatDoor
open Go.Ab Go.Id Go.Wo Go

def simpleB (c : Int) : Bool := decide (32 < c) && decide (c < 127) && !decide (c = 34) && !decide (c = 92)
def meaningS (c : Int) : Int × Bool := if c = 34 ∨ c = 92 then (c, true) else if c = 110 then (10, true) else if c = 114 then (13, true) else (0, false)
abbrev cv (n : Int) : AV := .v (.int .u8 n)

theorem simple_c (c : Int) (σ : Heap) : ACalls Tryz.prog 68 [cv c] σ (fun r σ' => r = bv (simpleB c) ∧ σ' = σ) := by
  refine acalls_go Tryz.func68 rfl Tryz.call68 Tryz.ntmps68 Tryz.results68 (Nat.le_of_ble_eq_true rfl) fun hw => ?_
  simp only [go_sem]
  exact retOK_same hw trivial ⟨rfl, rfl⟩
theorem plainByte_c (c : Int) (σ : Heap) : ACalls Tryz.prog 74 [cv c] σ (fun r σ' => r = bv (simpleB c) ∧ σ' = σ) := by
  refine acalls_go Tryz.func74 rfl Tryz.call74 Tryz.ntmps74 Tryz.results74 (Nat.le_of_ble_eq_true rfl) fun hw => ?_
  simp only [go_sem]
  refine retOK_same hw trivial ⟨?_, rfl⟩
  have e1 : decide (33 ≤ c) = decide (32 < c) := by rw [decide_eq_decide]; omega
  have e2 : decide (c ≤ 126) = decide (c < 127) := by rw [decide_eq_decide]; omega
  rw [simpleB, e1, e2]
theorem meaning_c (c : Int) (σ : Heap) : ACalls Tryz.prog 69 [cv c] σ (fun r σ' => r = .tup [cv (meaningS c).1, bv (meaningS c).2] ∧ σ' = σ) := by
  refine acalls_go Tryz.func69 rfl Tryz.call69 Tryz.ntmps69 Tryz.results69 (Nat.le_of_ble_eq_true rfl) fun hw => ?_
  unfold meaningS
  by_cases h1 : c = 34
  · subst h1; simp only [go_sem]; exact retOK_same hw (by simp only [go_sem]) ⟨by simp, rfl⟩
  · by_cases h2 : c = 92
    · subst h2; simp only [go_sem, h1]; exact retOK_same hw (by simp only [go_sem]) ⟨by simp, rfl⟩
    · rw [if_neg (by omega)]
      by_cases h3 : c = 110
      · subst h3; simp only [go_sem, h1, h2]; exact retOK_same hw (by simp only [go_sem]) ⟨by simp, rfl⟩
      · by_cases h4 : c = 114
        · subst h4; simp only [go_sem, h1, h2, h3]; exact retOK_same hw (by simp only [go_sem]) ⟨by simp, rfl⟩
        · simp only [go_sem, h1, h2, h3, h4]; exact retOK_same hw (by simp only [go_sem]) ⟨by simp, rfl⟩
theorem pair_c (c : Int) (σ : Heap) : ACalls Tryz.prog 75 [cv c] σ (fun r σ' => r = .tup [cv (meaningS c).1, bv (meaningS c).2] ∧ σ' = σ) := by
  refine acalls_go Tryz.func75 rfl Tryz.call75 Tryz.ntmps75 Tryz.results75 (Nat.le_of_ble_eq_true rfl) fun hw => ?_
  unfold meaningS
  by_cases h1 : c = 34
  · subst h1; simp only [go_sem]; exact retOK_same hw (by simp only [go_sem]) ⟨by simp, rfl⟩
  · by_cases h2 : c = 92
    · subst h2; simp only [go_sem, h1]; exact retOK_same hw (by simp only [go_sem]) ⟨by simp, rfl⟩
    · rw [if_neg (by omega)]
      by_cases h3 : c = 110
      · subst h3; simp only [go_sem, h1, h2]; exact retOK_same hw (by simp only [go_sem]) ⟨by simp, rfl⟩
      · by_cases h4 : c = 114
        · subst h4; simp only [go_sem, h1, h2, h3]; exact retOK_same hw (by simp only [go_sem]) ⟨by simp, rfl⟩
        · simp only [go_sem, h1, h2, h3, h4]; exact retOK_same hw (by simp only [go_sem]) ⟨by simp, rfl⟩
def bareTo (s : ByteArray) (k : Nat) : Bool := (s.data.toList.take k).all fun b => simpleB b.toNat
def bareS (s : ByteArray) : Bool := bareTo s s.size && !decide (s = ⟨#[]⟩)
theorem bareTo_succ (s : ByteArray) (k : Nat) (h : k < s.size) : bareTo s (k + 1) = (bareTo s k && simpleB (s.data.toList[k]?.getD 0).toNat) := by
  have hk : k < s.data.toList.length := by rw [Array.length_toList]; exact h
  unfold bareTo
  rw [List.take_add_one, List.getElem?_eq_getElem hk, List.all_append]
  simp
theorem bareTo_false {s : ByteArray} {k : Nat} (h : k < s.size) (hb : simpleB (s.data.toList[k]?.getD 0).toNat = false) : bareTo s s.size = false := by
  have hk : k < s.data.toList.length := by rw [Array.length_toList]; exact h
  unfold bareTo
  rw [List.take_of_length_le (by rw [Array.length_toList]; exact Nat.le_refl _), List.all_eq_false]
  refine ⟨s.data.toList[k], List.getElem_mem hk, ?_⟩
  rw [List.getElem?_eq_getElem hk] at hb
  simpa using hb

theorem bare_c (s : ByteArray) (σ : Heap) (hs : s.size < 2^62) : ACalls Tryz.prog 64 [sw s] σ (fun r σ' => r = bv (bareS s) ∧ σ' = σ) := by
  refine acalls_go Tryz.func64 rfl Tryz.call64 Tryz.ntmps64 Tryz.results64 (Nat.le_of_ble_eq_true rfl) fun hw => ?_
  simp only [go_sem]
  refine loop_go (X := Nat) (fun k => [(0, ⟨true, sw s⟩), (5, ⟨true, iv s.size⟩), (6, ⟨true, iv k⟩)]) (fun _ => σ) (fun k => k ≤ s.size ∧ bareTo s k = true) (fun k => s.size - k) 0 ⟨by omega, by simp [bareTo]⟩ (by simp only [go_sem]; simp) rfl ?_
  rintro k ⟨hk, hn⟩
  by_cases hlt : k < s.size
  · simp only [go_sem, hlt]
    refine callN_of (simple_c _ _) ?_
    rintro r τ ⟨rfl, rfl⟩
    cases hb : simpleB (s.data.toList[k]?.getD 0).toNat with
    | true =>
      simp only [go_sem]
      exact ⟨k + 1, by omega, ⟨by omega, by rw [bareTo_succ s k hlt, hn, hb]; rfl⟩, inc k (by omega)⟩
    | false =>
      simp only [go_sem]
      exact retOK_same hw trivial ⟨by rw [bareS, bareTo_false hlt hb]; rfl, rfl⟩
  · obtain rfl : k = s.size := by omega
    simp only [go_sem, hlt]
    exact retOK_same hw trivial ⟨by rw [bareS, hn, Bool.true_and], rfl⟩

theorem plain_c (s : ByteArray) (σ : Heap) (hs : s.size < 2^62) : ACalls Tryz.prog 66 [sw s] σ (fun r σ' => r = bv (bareS s) ∧ σ' = σ) := by
  refine acalls_go Tryz.func66 rfl Tryz.call66 Tryz.ntmps66 Tryz.results66 (Nat.le_of_ble_eq_true rfl) fun hw => ?_
  simp only [go_sem]
  refine loop_go (X := Nat) (fun k => [(0, ⟨true, sw s⟩), (3, ⟨true, iv k⟩)]) (fun _ => σ) (fun k => k ≤ s.size ∧ bareTo s k = true) (fun k => s.size - k) 0 ⟨by omega, by simp [bareTo]⟩ (by simp only [go_sem]; simp) rfl ?_
  rintro k ⟨hk, hn⟩
  by_cases hlt : k < s.size
  · simp only [go_sem, hlt]
    refine callN_of (plainByte_c _ _) ?_
    rintro r τ ⟨rfl, rfl⟩
    cases hb : simpleB (s.data.toList[k]?.getD 0).toNat with
    | true =>
      simp only [go_sem]
      exact ⟨k + 1, by omega, ⟨by omega, by rw [bareTo_succ s k hlt, hn, hb]; rfl⟩, inc k (by omega)⟩
    | false =>
      simp only [go_sem]
      exact retOK_same hw trivial ⟨by rw [bareS, bareTo_false hlt hb]; rfl, rfl⟩
  · obtain rfl : k = s.size := by omega
    simp only [go_sem, hlt]
    exact retOK_same hw trivial ⟨by rw [bareS, hn, Bool.true_and], rfl⟩
end Go.Proofs.YtdlekkhjkcbbnaaGreatDoor
