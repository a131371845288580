/-
  Contracts: Equal of slices, Same of the program and of the reference.
  Contracts: Same of the reference; the bounds (keep).
-/
import Derived.Test.YtdlekkhjkcbbnaaDoorCoS
set_option linter.unusedVariables false
set_option linter.unusedSimpArgs false
set_option maxRecDepth 8000
set_option maxHeartbeats 2000000
namespace Go.Proofs.YtdlekkhjkcbbnaaDoor
open Go.Ab Go.Id Go.Wo Go

theorem svk_inj (a b : Bytes) : (ByteArray.mk a.toArray = ByteArray.mk b.toArray) = (a = b) := by
  apply propext
  refine ⟨fun h => ?_, fun h => by rw [h]⟩
  have := congrArg (fun b : ByteArray => b.data.toList) h
  simpa using this
theorem equalStr_c (l m : List Bytes) (σ : Heap) (hl : l.length < 2^62) (hm : m.length < 2^62) : ACalls Tryd.prog 25 [strsB l, strsB m] σ (fun r σ' => r = bv (decide (l = m)) ∧ σ' = σ) := by
  refine acalls_go Tryd.func25 rfl Tryd.call25 Tryd.ntmps25 Tryd.results25 (Nat.le_of_ble_eq_true rfl) fun hw => ?_
  simp only [go_sem, strsB]
  by_cases hlm : l.length = m.length
  · have hlen' := eq_true hlm
    simp only [go_sem, strsB, hlen']
    refine loop_go (X := Nat) (fun k => [(0, ⟨true, strsB l⟩), (1, ⟨true, strsB m⟩), (12, ⟨true, iv l.length⟩), (13, ⟨true, iv k⟩)]) (fun _ => σ) (fun k => k ≤ l.length ∧ l.take k = m.take k) (fun k => l.length - k) 0 (by simp) (by simp only [go_sem, strsB]; simp) rfl ?_
    rintro k ⟨hk, hn⟩
    by_cases hlt : k < l.length
    · have hltm : k < m.length := by omega
      have hg := List.getElem?_eq_getElem hlt
      have hgm := List.getElem?_eq_getElem hltm
      simp only [go_sem, strsB, hlt]
      refine awp_draw Tryd.mixed (by kernel_rfl) ?_
      simp only [go_sem, strsB, hlt, hltm, hg, hgm, svk_inj]
      by_cases he : l[k] = m[k]
      · simp only [he, not_true_eq_false, if_false]
        refine ⟨k + 1, by omega, ⟨by omega, ?_⟩, inc k (by omega)⟩
        rw [List.take_add_one, List.take_add_one, hn, hg, hgm, he]
      · simp only [he, not_false_eq_true, if_true]
        refine retOK_same hw trivial ⟨?_, rfl⟩
        rw [decide_eq_false]
        rintro rfl
        exact he rfl
    · simp only [go_sem, strsB, hlt]
      refine retOK_same hw trivial ⟨?_, rfl⟩
      rw [List.take_of_length_le (by omega), List.take_of_length_le (by omega)] at hn
      simp [hn]
  · simp only [go_sem, strsB, hlm]
    refine retOK_same hw trivial ⟨?_, rfl⟩
    rw [decide_eq_false]; intro e; apply hlm; rw [e]

theorem eqN_ins : eqN Tryd.prog 39 = some 4 := by kernel_rfl
theorem ins_list (a b c d a' b' c' d' : Int) : ([a, b, c, d] = [a', b', c', d']) = ((⟨a, b, c, d⟩ : Ins) = ⟨a', b', c', d'⟩) := by
  apply propext; simp
theorem equalIns_c (l m : List Ins) (σ : Heap) (hl : l.length < 2^62) (hm : m.length < 2^62) : ACalls Tryd.prog 24 [codeAV l, codeAV m] σ (fun r σ' => r = bv (decide (l = m)) ∧ σ' = σ) := by
  refine acalls_go Tryd.func24 rfl Tryd.call24 Tryd.ntmps24 Tryd.results24 (Nat.le_of_ble_eq_true rfl) fun hw => ?_
  simp only [go_sem, codeAV]
  by_cases hlm : l.length = m.length
  · have hlen' := eq_true hlm
    simp only [go_sem, codeAV, hlen']
    refine loop_go (X := Nat) (fun k => [(0, ⟨true, codeAV l⟩), (1, ⟨true, codeAV m⟩), (12, ⟨true, iv l.length⟩), (13, ⟨true, iv k⟩)]) (fun _ => σ) (fun k => k ≤ l.length ∧ l.take k = m.take k) (fun k => l.length - k) 0 (by simp) (by simp only [go_sem, codeAV]; simp) rfl ?_
    rintro k ⟨hk, hn⟩
    by_cases hlt : k < l.length
    · have hltm : k < m.length := by omega
      have hg := List.getElem?_eq_getElem hlt
      have hgm := List.getElem?_eq_getElem hltm
      obtain ⟨⟨a, b, c, d⟩, hx⟩ : ∃ x, l[k] = x := ⟨_, rfl⟩
      obtain ⟨⟨a', b', c', d'⟩, hy⟩ : ∃ x, m[k] = x := ⟨_, rfl⟩
      rw [hx] at hg
      rw [hy] at hgm
      simp only [go_sem, codeAV, hlt]
      refine awp_draw Tryd.mixed (by kernel_rfl) ?_
      by_cases he : (⟨a, b, c, d⟩ : Ins) = ⟨a', b', c', d'⟩
      · simp only [go_sem, codeAV, hlt, hltm, hg, hgm, insAV, abinT, eqN_ins, aints, ins_list, eq_true he]
        refine ⟨k + 1, by omega, ⟨by omega, ?_⟩, inc k (by omega)⟩
        rw [List.take_add_one, List.take_add_one, hn, hg, hgm, he]
      · simp only [go_sem, codeAV, hlt, hltm, hg, hgm, insAV, abinT, eqN_ins, aints, ins_list, he]
        refine retOK_same hw trivial ⟨?_, rfl⟩
        rw [decide_eq_false]
        rintro rfl
        rw [hx] at hy
        exact he hy
    · simp only [go_sem, codeAV, hlt]
      refine retOK_same hw trivial ⟨?_, rfl⟩
      rw [List.take_of_length_le (by omega), List.take_of_length_le (by omega)] at hn
      simp [hn]
  · simp only [go_sem, codeAV, hlm]
    refine retOK_same hw trivial ⟨?_, rfl⟩
    rw [decide_eq_false]; intro e; apply hlm; rw [e]

theorem prg_eq (p q : Prg) : (p = q) = (p.pages = q.pages ∧ p.code = q.code ∧ p.strs = q.strs) := by
  obtain ⟨a, b, c⟩ := p
  obtain ⟨a', b', c'⟩ := q
  apply propext
  simp only [Prg.mk.injEq]
  constructor
  · rintro ⟨h1, h2, h3⟩; exact ⟨h3, h1, h2⟩
  · rintro ⟨h3, h1, h2⟩; exact ⟨h1, h2, h3⟩
/-- a program whose lists can be counted -/
def Cnt (p : Prg) : Prop := p.code.length < 2^62 ∧ p.strs.length < 2^62
theorem sameC_c (p q : Prg) (σ : Heap) (hp : Cnt p) (hq : Cnt q) : ACalls Tryd.prog 10 [p.av, q.av] σ (fun r σ' => r = bv (decide (p = q)) ∧ σ' = σ) := by
  refine acalls_go Tryd.func10 rfl Tryd.call10 Tryd.ntmps10 Tryd.results10 (Nat.le_of_ble_eq_true rfl) fun hw => ?_
  simp only [go_sem, Prg.av, codeAV, strsB]
  refine callG_of (bv (decide (p.code = q.code))) (fun _ => equalIns_c _ _ _ hp.1 hq.1) ?_
  by_cases h1 : p.pages = q.pages
  · by_cases h2 : p.code = q.code
    · simp only [go_sem, eq_true h1, eq_true h2, codeAV, strsB]
      refine callG_of (bv (decide (p.strs = q.strs))) (fun _ => equalStr_c _ _ _ hp.2 hq.2) ?_
      simp only [go_sem]
      exact retOK_app hw trivial ⟨by simp only [prg_eq, h1, h2, true_and], rfl⟩
    · simp only [go_sem, eq_true h1, h2, codeAV, strsB]
      refine callG_of (bv false) (fun h => by cases h) ?_
      simp only [go_sem]
      exact retOK_app hw trivial ⟨by simp only [prg_eq, h1, h2]; simp, rfl⟩
  · simp only [go_sem, h1, codeAV, strsB]
    refine callG_of (bv false) (fun h => by cases h) ?_
    simp only [go_sem]
    exact retOK_app hw trivial ⟨by simp only [prg_eq, h1]; simp, rfl⟩
end Go.Proofs.YtdlekkhjkcbbnaaDoor
set_option linter.unusedVariables false
set_option linter.unusedSimpArgs false
set_option maxRecDepth 8000
set_option maxHeartbeats 4000000
namespace Go.Proofs.YtdlekkhjkcbbnaaDoor
open Go.Ab Go.Id Go.Wo Go

/-- a short program -/
def keepS (p : Prg) : Bool := (p.strs.all fun s => decide (s.length ≤ 200)) && decide (p.code.length ≤ 300) && decide (p.strs.length ≤ 40)
end Go.Proofs.YtdlekkhjkcbbnaaDoor
