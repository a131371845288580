/-
  Contracts: judge's sets, Last.
-/
import Derived.Test.YtkpdjbklnjjedaaJuC
set_option linter.unusedVariables false
set_option linter.unusedSimpArgs false
set_option maxRecDepth 8000
set_option maxHeartbeats 1000000
namespace Go.Proofs.Ytkpdjbklnjjedaa
open Go.Ab Go.Ju

theorem jlast_c (l : List Acc) (o : Int) (σ : Heap) (hl : l.length < 2^62) : ACalls Try.prog 17 [accs l, .v (.int .u64 o)] σ (fun r σ' => r = iv (rLast l o) ∧ σ' = σ) := by
  refine acalls_go Try.func17 rfl Try.call17 Try.ntmps17 Try.results17 (Nat.le_of_ble_eq_true rfl) fun hw => ?_
  simp only [go_sem, accs]
  refine loop_junk (X := Nat) (fun k => [(1, ⟨true, .v (.int .u64 o)⟩), (5, ⟨true, iv (rLast (l.take k) o)⟩), (8, ⟨true, accs l⟩), (9, ⟨true, iv l.length⟩), (10, ⟨true, iv k⟩)]) (fun _ => σ) (fun k => k ≤ l.length) (fun k => l.length - k) 0 (by simp) (by simp only [go_sem, accs]; simp [rLast]) rfl ?_
  rintro k hk
  by_cases hlt : k < l.length
  · have hg := List.getElem?_eq_getElem hlt
    have hwr := inc k (by omega)
    simp only [go_sem, accs, hlt, hg, Acc.av]
    split
    · rename_i h; exact ⟨k + 1, by omega, by omega, ⟨by rw [take_snoc hlt, rLast_snoc, if_pos h], hwr⟩, List.take_left, hw⟩
    · rename_i h; exact ⟨k + 1, by omega, by omega, ⟨by rw [take_snoc hlt, rLast_snoc, if_neg h], hwr⟩, List.take_left, hw⟩
  · simp only [go_sem, accs, hlt]
    exact retOK_same hw trivial ⟨by rw [List.take_of_length_le (by omega)], rfl⟩

theorem has_c (ws : List Int) (x i g k : Nat) (es : List AV) (σ : Heap) (hws : ws.length = 8) (hi : σ[i]? = some (.row g 8 es)) (hk : es[k]? = some (setV ws)) (hx : x < 512) : ACalls Try.prog 24 [.ptr i g k 0, iv x] σ (fun r σ' => r = bv (hasS ws x) ∧ σ' = σ) := by
  refine acalls_go Try.func24 rfl Try.call24 Try.ntmps24 Try.results24 (Nat.le_of_ble_eq_true rfl) fun hw => ?_
  have hkl : k < es.length := (List.getElem?_eq_some_iff.1 hk).1
  have h8 : x / 64 < ws.length := by omega
  have hw8 := List.getElem?_eq_getElem h8
  simp only [go_sem, hi, hk, setV, hkl, tdiv64 hx, tmod64, hw8, hws]
  refine ⟨by omega, by omega, by omega, by omega, retOK_same hw trivial ⟨?_, rfl⟩⟩
  simp only [hasS, hasW, List.getD_eq_getElem?_getD, hw8]; rfl

theorem allIL_set {V : Nat → Prop} {l : List AV} {k : Nat} {a : AV} (h : AllIL V l) (ha : AllI V a) : AllIL V (l.set k a) := by
  rw [allIL_iff] at *
  intro x hx
  rcases List.mem_or_eq_of_mem_set hx with hx | hx
  · exact h x hx
  · rw [hx]; exact ha

theorem add_c (ws : List Int) (x i g k : Nat) (es : List AV) (σ : Heap) (hws : ws.length = 8) (hi : σ[i]? = some (.row g 8 es)) (hk : es[k]? = some (setV ws)) (hx : x < 512) : ACalls Try.prog 26 [.ptr i g k 0, iv x] σ (fun r σ' => r = .tup [] ∧ σ' = σ.set i (.row g 8 (es.set k (setV (addS ws x))))) := by
  refine acalls_go Try.func26 rfl Try.call26 Try.ntmps26 Try.results26 (Nat.le_of_ble_eq_true rfl) fun hw => ?_
  have hkl : k < es.length := (List.getElem?_eq_some_iff.1 hk).1
  have h8 : x / 64 < ws.length := by omega
  have hw8 := List.getElem?_eq_getElem h8
  simp only [go_sem]
  refine awp_draw Try.mixed (by kernel_rfl) ?_
  simp only [go_sem, hi, hk, setV, hkl, tdiv64 hx, tmod64, hw8, hws]
  have hall : AllIL (· < σ.length) es := hw _ (List.mem_of_getElem? hi)
  have e : (List.map uv ws).set (x / 64) (AV.v (Value.int IntKind.u64 (bitsOp BinOp.or IntKind.u64 ws[x / 64] (IntKind.u64.wrap (1 * 2 ^ min (x % 64) 64))))) = List.map uv (addS ws x) := by
    rw [addS, List.map_set, addW, List.getD_eq_getElem?_getD, hw8]; rfl
  rw [e]
  exact ⟨by omega, by omega, by omega, by omega, by omega, by omega, retOK_keep (by simp) (wfH_set hw (allIL_set hall (Pure.allI (pure_setV _)))) (by simp only [go_sem]) ⟨rfl, rfl⟩⟩

theorem inside_c (ws vs : List Int) (i g k i' g' k' : Nat) (es es' : List AV) (σ : Heap) (hws : ws.length = 8) (hvs : vs.length = 8) (hi : σ[i]? = some (.row g 8 es)) (hk : es[k]? = some (setV ws)) (hi' : σ[i']? = some (.row g' 8 es')) (hk' : es'[k']? = some (setV vs)) : ACalls Try.prog 25 [.ptr i g k 0, .ptr i' g' k' 0] σ (fun r σ' => r = bv (insideS ws vs) ∧ σ' = σ) := by
  refine acalls_go Try.func25 rfl Try.call25 Try.ntmps25 Try.results25 (Nat.le_of_ble_eq_true rfl) fun hw => ?_
  have hkl : k < es.length := (List.getElem?_eq_some_iff.1 hk).1
  have hkl' : k' < es'.length := (List.getElem?_eq_some_iff.1 hk').1
  simp only [go_sem]
  refine loop_go (X := Nat) (fun j => [(0, ⟨true, .ptr i g k 0⟩), (1, ⟨true, .ptr i' g' k' 0⟩), (6, ⟨true, iv j⟩)]) (fun _ => σ) (fun j => j ≤ 8 ∧ allTo j (fun k => decide (bitsOp .andNot .u64 (ws.getD k 0) (vs.getD k 0) = 0)) = true) (fun j => 8 - j) 0 (by simp [allTo]) (by simp only [go_sem]; simp) rfl ?_
  rintro j ⟨hj, hm⟩
  by_cases hlt : j < 8
  · have h1 := List.getElem?_eq_getElem (show j < ws.length by omega)
    have h2 := List.getElem?_eq_getElem (show j < vs.length by omega)
    have hlt' : (j : Int) < 8 := by omega
    simp only [go_sem, hlt']
    refine awp_draw Try.mixed (by kernel_rfl) ?_
    simp only [go_sem, hi, hk, hi', hk', setV, hkl, hkl', h1, h2, hws, hvs, hlt, hlt']
    split
    · rename_i h; refine retOK_same hw trivial ⟨?_, rfl⟩
      rw [insideS, allTo_false hlt (by simp only [List.getD_eq_getElem?_getD, h1, h2]; simpa using h)]
    · rename_i h; refine ⟨j + 1, by omega, ⟨by omega, ?_⟩, inc j (by omega)⟩
      rw [allTo_succ, hm]; simp only [List.getD_eq_getElem?_getD, h1, h2]; simpa using h
  · have hlt' : ¬ (j : Int) < 8 := by omega
    simp only [go_sem, hlt']
    refine retOK_same hw trivial ⟨?_, rfl⟩
    have : j = 8 := by omega
    subst this
    rw [insideS, hm]

end Go.Proofs.Ytkpdjbklnjjedaa
