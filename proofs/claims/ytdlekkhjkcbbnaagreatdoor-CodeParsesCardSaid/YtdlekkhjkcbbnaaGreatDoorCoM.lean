/-
  Contracts: Equal of slices, Same of the program and of the reference.
  Contracts: Same of the reference; the bounds (keep).
-/
import Derived.Test.YtdlekkhjkcbbnaaGreatDoorCoS
set_option linter.unusedVariables false
set_option linter.unusedSimpArgs false
set_option maxRecDepth 8000
set_option maxHeartbeats 2000000
namespace Go.Proofs.YtdlekkhjkcbbnaaGreatDoor
open Go.Ab Go.Id Go.Wo Go

theorem svk_inj (a b : Bytes) : (ByteArray.mk a.toArray = ByteArray.mk b.toArray) = (a = b) := by
  apply propext
  refine ⟨fun h => ?_, fun h => by rw [h]⟩
  have := congrArg (fun b : ByteArray => b.data.toList) h
  simpa using this
theorem equalStr_c (l m : List Bytes) (σ : Heap) (hl : l.length < 2^62) (hm : m.length < 2^62) : ACalls Tryz.prog 34 [strsB l, strsB m] σ (fun r σ' => r = bv (decide (l = m)) ∧ σ' = σ) := by
  refine acalls_go Tryz.func34 rfl Tryz.call34 Tryz.ntmps34 Tryz.results34 (Nat.le_of_ble_eq_true rfl) fun hw => ?_
  simp only [go_sem, strsB]
  by_cases hlm : l.length = m.length
  · have hlen' := eq_true hlm
    simp only [go_sem, strsB, hlen']
    refine loop_go (X := Nat) (fun k => [(0, ⟨true, strsB l⟩), (1, ⟨true, strsB m⟩), (12, ⟨true, iv l.length⟩), (13, ⟨true, iv k⟩)]) (fun _ => σ) (fun k => k ≤ l.length ∧ l.take k = m.take k) (fun k => l.length - k) 0 (by simp) (by simp only [go_sem, strsB]; simp) rfl ?_
    rintro k ⟨hk, hn⟩
    by_cases hlt : k < l.length
    · have hltm : k < m.length := by omega
      have hg := List.getElem?_eq_getElem hlt
      have hgm := List.getElem?_eq_getElem hltm
      simp only [go_sem, strsB, hlt]
      refine awp_draw Tryz.mixed (by kernel_rfl) ?_
      simp only [go_sem, strsB, hlt, hltm, hg, hgm, svk_inj]
      by_cases he : l[k] = m[k]
      · simp only [he, not_true_eq_false, if_false]
        refine ⟨k + 1, by omega, ⟨by omega, ?_⟩, inc k (by omega)⟩
        rw [List.take_add_one, List.take_add_one, hn, hg, hgm, he]
      · simp only [he, not_false_eq_true, if_true]
        refine retOK_same hw trivial ⟨?_, rfl⟩
        rw [decide_eq_false]
        rintro rfl
        exact he rfl
    · simp only [go_sem, strsB, hlt]
      refine retOK_same hw trivial ⟨?_, rfl⟩
      rw [List.take_of_length_le (by omega), List.take_of_length_le (by omega)] at hn
      simp [hn]
  · simp only [go_sem, strsB, hlm]
    refine retOK_same hw trivial ⟨?_, rfl⟩
    rw [decide_eq_false]; intro e; apply hlm; rw [e]

theorem eqN_ins : eqN Tryz.prog 32 = some 4 := by kernel_rfl
theorem ins_list (a b c d a' b' c' d' : Int) : ([a, b, c, d] = [a', b', c', d']) = ((⟨a, b, c, d⟩ : Ins) = ⟨a', b', c', d'⟩) := by
  apply propext; simp
theorem equalIns_c (l m : List Ins) (σ : Heap) (hl : l.length < 2^62) (hm : m.length < 2^62) : ACalls Tryz.prog 33 [codeAV l, codeAV m] σ (fun r σ' => r = bv (decide (l = m)) ∧ σ' = σ) := by
  refine acalls_go Tryz.func33 rfl Tryz.call33 Tryz.ntmps33 Tryz.results33 (Nat.le_of_ble_eq_true rfl) fun hw => ?_
  simp only [go_sem, codeAV]
  by_cases hlm : l.length = m.length
  · have hlen' := eq_true hlm
    simp only [go_sem, codeAV, hlen']
    refine loop_go (X := Nat) (fun k => [(0, ⟨true, codeAV l⟩), (1, ⟨true, codeAV m⟩), (12, ⟨true, iv l.length⟩), (13, ⟨true, iv k⟩)]) (fun _ => σ) (fun k => k ≤ l.length ∧ l.take k = m.take k) (fun k => l.length - k) 0 (by simp) (by simp only [go_sem, codeAV]; simp) rfl ?_
    rintro k ⟨hk, hn⟩
    by_cases hlt : k < l.length
    · have hltm : k < m.length := by omega
      have hg := List.getElem?_eq_getElem hlt
      have hgm := List.getElem?_eq_getElem hltm
      obtain ⟨⟨a, b, c, d⟩, hx⟩ : ∃ x, l[k] = x := ⟨_, rfl⟩
      obtain ⟨⟨a', b', c', d'⟩, hy⟩ : ∃ x, m[k] = x := ⟨_, rfl⟩
      rw [hx] at hg
      rw [hy] at hgm
      simp only [go_sem, codeAV, hlt]
      refine awp_draw Tryz.mixed (by kernel_rfl) ?_
      by_cases he : (⟨a, b, c, d⟩ : Ins) = ⟨a', b', c', d'⟩
      · simp only [go_sem, codeAV, hlt, hltm, hg, hgm, insAV, abinT, eqN_ins, aints, ins_list, eq_true he]
        refine ⟨k + 1, by omega, ⟨by omega, ?_⟩, inc k (by omega)⟩
        rw [List.take_add_one, List.take_add_one, hn, hg, hgm, he]
      · simp only [go_sem, codeAV, hlt, hltm, hg, hgm, insAV, abinT, eqN_ins, aints, ins_list, he]
        refine retOK_same hw trivial ⟨?_, rfl⟩
        rw [decide_eq_false]
        rintro rfl
        rw [hx] at hy
        exact he hy
    · simp only [go_sem, codeAV, hlt]
      refine retOK_same hw trivial ⟨?_, rfl⟩
      rw [List.take_of_length_le (by omega), List.take_of_length_le (by omega)] at hn
      simp [hn]
  · simp only [go_sem, codeAV, hlm]
    refine retOK_same hw trivial ⟨?_, rfl⟩
    rw [decide_eq_false]; intro e; apply hlm; rw [e]

theorem prg_eq (p q : Prg) : (p = q) = (p.pages = q.pages ∧ p.code = q.code ∧ p.strs = q.strs) := by
  obtain ⟨a, b, c⟩ := p
  obtain ⟨a', b', c'⟩ := q
  apply propext
  simp only [Prg.mk.injEq]
  constructor
  · rintro ⟨h1, h2, h3⟩; exact ⟨h3, h1, h2⟩
  · rintro ⟨h3, h1, h2⟩; exact ⟨h1, h2, h3⟩
/-- a program whose lists can be counted -/
def Cnt (p : Prg) : Prop := p.code.length < 2^62 ∧ p.strs.length < 2^62
theorem sameC_c (p q : Prg) (σ : Heap) (hp : Cnt p) (hq : Cnt q) : ACalls Tryz.prog 12 [p.av, q.av] σ (fun r σ' => r = bv (decide (p = q)) ∧ σ' = σ) := by
  refine acalls_go Tryz.func12 rfl Tryz.call12 Tryz.ntmps12 Tryz.results12 (Nat.le_of_ble_eq_true rfl) fun hw => ?_
  simp only [go_sem, Prg.av, codeAV, strsB]
  refine callG_of (bv (decide (p.code = q.code))) (fun _ => equalIns_c _ _ _ hp.1 hq.1) ?_
  by_cases h1 : p.pages = q.pages
  · by_cases h2 : p.code = q.code
    · simp only [go_sem, eq_true h1, eq_true h2, codeAV, strsB]
      refine callG_of (bv (decide (p.strs = q.strs))) (fun _ => equalStr_c _ _ _ hp.2 hq.2) ?_
      simp only [go_sem]
      exact retOK_app hw trivial ⟨by simp only [prg_eq, h1, h2, true_and], rfl⟩
    · simp only [go_sem, eq_true h1, h2, codeAV, strsB]
      refine callG_of (bv false) (fun h => by cases h) ?_
      simp only [go_sem]
      exact retOK_app hw trivial ⟨by simp only [prg_eq, h1, h2]; simp, rfl⟩
  · simp only [go_sem, h1, codeAV, strsB]
    refine callG_of (bv false) (fun h => by cases h) ?_
    simp only [go_sem]
    exact retOK_app hw trivial ⟨by simp only [prg_eq, h1]; simp, rfl⟩
end Go.Proofs.YtdlekkhjkcbbnaaGreatDoor
set_option linter.unusedVariables false
set_option linter.unusedSimpArgs false
set_option maxRecDepth 8000
set_option maxHeartbeats 4000000
namespace Go.Proofs.YtdlekkhjkcbbnaaGreatDoor
open Go.Ab Go.Id Go.Wo Go

theorem rsameC_c (p q : Prg) (σ : Heap) (hp : Cnt p) (hq : Cnt q) : ACalls Tryz.prog 13 [p.av, q.av] σ (fun r σ' => r = bv (decide (p = q)) ∧ σ' = σ) := by
  obtain ⟨hpc, hps⟩ := hp
  obtain ⟨hqc, hqs⟩ := hq
  obtain ⟨l, ss, pg⟩ := p
  obtain ⟨m, ts, qg⟩ := q
  simp only at hpc hps hqc hqs
  refine acalls_awp Tryz.func13 rfl Tryz.call13 Tryz.ntmps13 Tryz.results13 (Nat.le_of_ble_eq_true rfl) fun hw => ?_
  have bad : ¬ (pg = qg ∧ l = m ∧ ss = ts) → decide ((⟨l, ss, pg⟩ : Prg) = ⟨m, ts, qg⟩) = false := fun h => by
    rw [decide_eq_false]; simp only [prg_eq]; exact h
  refine awp_then ?_
  simp only [go_sem, Prg.av, codeAV, strsB]
  refine awp_then ?_
  simp only [go_sem]
  by_cases h1 : pg = qg
  · by_cases h2 : l.length = m.length
    · by_cases h3 : ss = ts
      · simp only [go_sem, eq_true h1, eq_true h2]
        refine callG_of (bv (decide (ss = ts))) (fun _ => same_B _ _ _ hps hqs) ?_
        simp only [go_sem, eq_true h3]
        refine awp_then ?_
        simp only [go_sem]
        refine loop_go (X := Nat) (fun k => [(2, ⟨true, .ptr σ.length 0 0 0⟩), (3, ⟨true, .ptr (σ.length + 1) 0 0 0⟩), (30, ⟨true, iv l.length⟩), (31, ⟨true, iv k⟩)]) (fun _ => σ ++ [.row 0 3 [.agg [codeAV l, strsB ss, iv pg]], .row 0 3 [.agg [codeAV m, strsB ts, iv qg]]])
          (fun k => k ≤ l.length ∧ l.take k = m.take k) (fun k => l.length - k) 0 (by simp) (by simp only [go_sem, codeAV]; simp) (by simp [codeAV, strsB]) ?_
        rintro k ⟨hk, hn⟩
        by_cases hlt : k < l.length
        · have hltm : k < m.length := by omega
          have hg := List.getElem?_eq_getElem hlt
          have hgm := List.getElem?_eq_getElem hltm
          obtain ⟨⟨a, b, c, d⟩, hx⟩ : ∃ x, l[k] = x := ⟨_, rfl⟩
          obtain ⟨⟨a', b', c', d'⟩, hy⟩ : ∃ x, m[k] = x := ⟨_, rfl⟩
          rw [hx] at hg
          rw [hy] at hgm
          simp only [go_sem, codeAV, strsB, hlt]
          refine awp_draw Tryz.mixed (by kernel_rfl) ?_
          by_cases he : (⟨a, b, c, d⟩ : Ins) = ⟨a', b', c', d'⟩
          · simp only [go_sem, codeAV, hlt, hltm, hg, hgm, insAV, abinT, eqN_ins, aints, ins_list, eq_true he]
            refine ⟨k + 1, by omega, ⟨by omega, ?_⟩, inc k (by omega)⟩
            rw [List.take_add_one, List.take_add_one, hn, hg, hgm, he]
          · simp only [go_sem, codeAV, hlt, hltm, hg, hgm, insAV, abinT, eqN_ins, aints, ins_list, he]
            refine retOK_app hw trivial ⟨?_, rfl⟩
            rw [bad]
            rintro ⟨_, rfl, _⟩
            rw [hx] at hy
            exact he hy
        · simp only [go_sem, codeAV, strsB, hlt]
          refine vcode_sound _ ?_
          simp only [go_sem]
          refine retOK_app hw trivial ⟨?_, rfl⟩
          rw [List.take_of_length_le (by omega), List.take_of_length_le (by omega)] at hn
          rw [decide_eq_true]
          simp only [prg_eq]
          exact ⟨h1, hn, h3⟩
      · simp only [go_sem, eq_true h1, eq_true h2]
        refine callG_of (bv (decide (ss = ts))) (fun _ => same_B _ _ _ hps hqs) ?_
        simp only [go_sem, h3]
        exact retOK_app hw trivial ⟨by rw [bad (fun h => h3 h.2.2)], rfl⟩
    · simp only [go_sem, eq_true h1, h2]
      refine callG_of (bv true) (fun h => by cases h) ?_
      simp only [go_sem]
      exact retOK_app hw trivial ⟨by rw [bad (fun h => h2 (by rw [h.2.1]))], rfl⟩
  · simp only [go_sem, h1]
    refine callG_of (bv true) (fun h => by cases h) ?_
    simp only [go_sem]
    exact retOK_app hw trivial ⟨by rw [bad (fun h => h1 h.1)], rfl⟩

/-- a short program -/
def keepS (p : Prg) : Bool := (p.strs.all fun s => decide (s.length ≤ 200)) && decide (p.code.length ≤ 300) && decide (p.strs.length ≤ 40)
theorem keep_c (p : Prg) (σ : Heap) (hc : p.code.length < 2^62) (hs : p.strs.length < 2^62) : ACalls Tryz.prog 6 [p.av] σ (fun r σ' => r = bv (keepS p) ∧ σ' = σ) := by
  obtain ⟨code, strs, pg⟩ := p
  simp only at hc hs
  refine acalls_awp Tryz.func6 rfl Tryz.call6 Tryz.ntmps6 Tryz.results6 (Nat.le_of_ble_eq_true rfl) fun hw => ?_
  unfold keepS
  simp only
  refine awp_then ?_
  simp only [go_sem, Prg.av, codeAV, strsB]
  refine awp_then ?_
  simp only [go_sem]
  refine loop_go (X := Nat) (fun k => [(1, ⟨true, .ptr σ.length 0 0 0⟩), (6, ⟨true, strsB strs⟩), (7, ⟨true, iv strs.length⟩), (8, ⟨true, iv k⟩)]) (fun _ => σ ++ [.row 0 3 [.agg [codeAV code, strsB strs, iv pg]]])
    (fun k => k ≤ strs.length ∧ ((strs.take k).all fun s => decide (s.length ≤ 200)) = true) (fun k => strs.length - k) 0 (by simp) (by simp only [go_sem, strsB]; simp) (by simp [codeAV, strsB]) ?_
  rintro k ⟨hk, hn⟩
  by_cases hlt : k < strs.length
  · obtain ⟨s, hg⟩ : ∃ s, strs[k]? = some s := ⟨_, List.getElem?_eq_getElem hlt⟩
    by_cases h2 : 200 < s.length
    · have h2' : (200 : Int) < s.length := by omega
      simp only [go_sem, strsB, hlt, hg, List.size_toArray, eq_true h2']
      refine retOK_app hw trivial ⟨?_, rfl⟩
      have : (strs.all fun w => decide (w.length ≤ 200)) = false := by
        rw [List.all_eq_false]; exact ⟨s, List.mem_of_getElem? hg, by simp; omega⟩
      rw [this]; rfl
    · have h2' : ¬ (200 : Int) < s.length := by omega
      simp only [go_sem, strsB, hlt, hg, List.size_toArray, h2']
      refine ⟨k + 1, by omega, ⟨by omega, ?_⟩, inc k (by omega)⟩
      rw [List.take_add_one, hg, List.all_append, hn]; simp; omega
  · obtain rfl : k = strs.length := by omega
    rw [List.take_length] at hn
    simp only [go_sem, strsB, hlt, codeAV]
    refine vcode_sound _ ?_
    rw [hn, Bool.true_and]
    by_cases h3 : (code.length : Int) ≤ 300
    · simp only [go_sem, eq_true h3]
      refine retOK_app hw trivial ⟨?_, rfl⟩
      rw [decide_eq_true (show code.length ≤ 300 by omega), Bool.true_and]
      congr 3
      apply propext; omega
    · simp only [go_sem, h3]
      exact retOK_app hw trivial ⟨by rw [decide_eq_false (show ¬ code.length ≤ 300 by omega)]; rfl, rfl⟩
end Go.Proofs.YtdlekkhjkcbbnaaGreatDoor
