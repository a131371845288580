/-
  Contracts: within, Make, Split, Valid, New, of the program and of the reference; Same.
-/
import Derived.Test.YtbinpbjeeiedhaaDoorIdGl
set_option linter.unusedVariables false
set_option linter.unusedSimpArgs false
set_option maxRecDepth 8000
set_option maxHeartbeats 1000000
namespace Go.Proofs.YtbinpbjeeiedhaaDoor
open Go.Ab Go.Id Go

theorem within_c (n b : Int) (σ : Heap) : ACalls Tryd.prog 43 [iv n, iv b] σ (fun r σ' => r = bv (within n b) ∧ σ' = σ) := by
  refine acalls_go Tryd.func43 rfl Tryd.call43 Tryd.ntmps43 Tryd.results43 (Nat.le_of_ble_eq_true rfl) fun hw => ?_
  simp only [go_sem]
  exact retOK_same hw trivial ⟨rfl, rfl⟩
theorem split_c (id : Int) (σ : Heap) : ACalls Tryd.prog 37 [uv id] σ (fun r σ' => r = .tup [iv (nodeOf id), iv (bootOf id), iv (serOf id)] ∧ σ' = σ) := by
  refine acalls_go Tryd.func37 rfl Tryd.call37 Tryd.ntmps37 Tryd.results37 (Nat.le_of_ble_eq_true rfl) fun hw => ?_
  simp only [go_sem]
  exact retOK_same hw (by simp only [go_sem]) ⟨rfl, rfl⟩
theorem make_c (n b s : Int) (σ : Heap) : ACalls Tryd.prog 35 [iv n, iv b, iv s] σ (fun r σ' => r = .tup [uv (makeS n b s).1, iv (makeS n b s).2] ∧ σ' = σ) := by
  refine acalls_go Tryd.func35 rfl Tryd.call35 Tryd.ntmps35 Tryd.results35 (Nat.le_of_ble_eq_true rfl) fun hw => ?_
  simp only [go_sem]
  refine callN_of (within_c n b _) ?_
  rintro r τ ⟨rfl, rfl⟩
  unfold makeS
  by_cases h1 : within n b = true
  · by_cases h2 : s < 1
    · simp only [go_sem, h1, eq_true h2, show ¬ 1 ≤ s from by omega]
      exact retOK_same hw (by simp only [go_sem]) ⟨rfl, rfl⟩
    · by_cases h3 : 1099511627775 < s
      · simp only [go_sem, h1, h2, eq_true h3, show ¬ s ≤ 1099511627775 from by omega]
        exact retOK_same hw (by simp only [go_sem]) ⟨rfl, rfl⟩
      · simp only [go_sem, h1, h2, h3, show 1 ≤ s from by omega, show s ≤ 1099511627775 from by omega]
        exact retOK_same hw (by simp only [go_sem]) ⟨rfl, rfl⟩
  · simp only [Bool.not_eq_true] at h1
    simp only [go_sem, h1]
    exact retOK_same hw (by simp only [go_sem]) ⟨rfl, rfl⟩
theorem rmake_c (n b s : Int) (σ : Heap) : ACalls Tryd.prog 36 [iv n, iv b, iv s] σ (fun r σ' => r = .tup [uv (makeS n b s).1, iv (makeS n b s).2] ∧ σ' = σ) := by
  refine acalls_go Tryd.func36 rfl Tryd.call36 Tryd.ntmps36 Tryd.results36 (Nat.le_of_ble_eq_true rfl) fun hw => ?_
  by_cases h : within n b = true ∧ 1 ≤ s ∧ s ≤ 1099511627775
  · have e : makeS n b s = (idOf n b s, 0) := if_pos h
    rw [e]
    obtain ⟨h1, h2, h3⟩ := h
    simp only [within, Bool.and_eq_true, decide_eq_true_eq] at h1
    obtain ⟨⟨⟨h4, h5⟩, h6⟩, h7⟩ := h1
    simp only [go_sem, show ¬ n < 0 from by omega, show ¬ 127 < n from by omega, show ¬ b < 0 from by omega, show ¬ 65535 < b from by omega, show ¬ s < 1 from by omega, show ¬ 1099511627775 < s from by omega]
    exact retOK_same hw (by simp only [go_sem]) ⟨rfl, rfl⟩
  · have e : makeS n b s = (0, 2) := if_neg h
    rw [e]
    simp only [within, Bool.and_eq_true, decide_eq_true_eq] at h
    simp only [go_sem]
    have h' : (decide (n < 0) || decide (127 < n) || decide (b < 0) || decide (65535 < b) || decide (s < 1) || decide (1099511627775 < s)) = true := by
      simp only [Bool.or_eq_true, decide_eq_true_eq]; omega
    by_cases h1 : n < 0
    · simp only [go_sem, eq_true h1]; exact retOK_same hw (by simp only [go_sem]) ⟨rfl, rfl⟩
    · by_cases h2 : 127 < n
      · simp only [go_sem, h1, eq_true h2]; exact retOK_same hw (by simp only [go_sem]) ⟨rfl, rfl⟩
      · by_cases h3 : b < 0
        · simp only [go_sem, h1, h2, eq_true h3]; exact retOK_same hw (by simp only [go_sem]) ⟨rfl, rfl⟩
        · by_cases h4 : 65535 < b
          · simp only [go_sem, h1, h2, h3, eq_true h4]; exact retOK_same hw (by simp only [go_sem]) ⟨rfl, rfl⟩
          · by_cases h5 : s < 1
            · simp only [go_sem, h1, h2, h3, h4, eq_true h5]; exact retOK_same hw (by simp only [go_sem]) ⟨rfl, rfl⟩
            · simp only [go_sem, h1, h2, h3, h4, h5, show 1099511627775 < s from by omega]; exact retOK_same hw (by simp only [go_sem]) ⟨rfl, rfl⟩
theorem valid_c (id : Int) (σ : Heap) : ACalls Tryd.prog 20 [uv id] σ (fun r σ' => r = bv (validS id) ∧ σ' = σ) := by
  refine acalls_go Tryd.func20 rfl Tryd.call20 Tryd.ntmps20 Tryd.results20 (Nat.le_of_ble_eq_true rfl) fun hw => ?_
  simp only [go_sem]
  refine callN_of (split_c id _) ?_
  rintro r τ ⟨rfl, rfl⟩
  simp only [go_sem]
  refine callN_of (make_c _ _ _ _) ?_
  rintro r τ ⟨rfl, rfl⟩
  simp only [go_sem]
  exact retOK_same hw trivial ⟨rfl, rfl⟩
theorem new_c (n b : Int) (σ : Heap) : ACalls Tryd.prog 18 [iv n, iv b] σ (fun r σ' => r = .tup [(newS n b).1.av, iv (newS n b).2] ∧ σ' = σ) := by
  refine acalls_go Tryd.func18 rfl Tryd.call18 Tryd.ntmps18 Tryd.results18 (Nat.le_of_ble_eq_true rfl) fun hw => ?_
  simp only [go_sem]
  refine callN_of (within_c n b _) ?_
  rintro r τ ⟨rfl, rfl⟩
  by_cases h1 : within n b = true
  · simp only [go_sem, h1, newS, Allo.av]
    exact retOK_app hw (by simp only [go_sem]) ⟨rfl, rfl⟩
  · simp only [Bool.not_eq_true] at h1
    simp only [go_sem, h1, newS, Allo.av, zeroA]
    exact retOK_app hw (by simp only [go_sem]) ⟨rfl, rfl⟩
theorem rnew_c (n b : Int) (σ : Heap) : ACalls Tryd.prog 19 [iv n, iv b] σ (fun r σ' => r = .tup [(newS n b).1.av, iv (newS n b).2] ∧ σ' = σ) := by
  refine acalls_go Tryd.func19 rfl Tryd.call19 Tryd.ntmps19 Tryd.results19 (Nat.le_of_ble_eq_true rfl) fun hw => ?_
  simp only [go_sem]
  by_cases h : within n b = true
  · have e : newS n b = (⟨n, b, 0⟩, 0) := if_pos h
    rw [e]
    simp only [within, Bool.and_eq_true, decide_eq_true_eq] at h
    obtain ⟨⟨⟨h4, h5⟩, h6⟩, h7⟩ := h
    simp only [go_sem, show ¬ n < 0 from by omega, show ¬ 127 < n from by omega, show ¬ b < 0 from by omega, show ¬ 65535 < b from by omega, Allo.av]
    exact retOK_app hw (by simp only [go_sem]) ⟨rfl, rfl⟩
  · have e : newS n b = (zeroA, 2) := if_neg h
    rw [e]
    simp only [within, Bool.and_eq_true, decide_eq_true_eq] at h
    simp only [Allo.av, zeroA]
    by_cases h1 : n < 0
    · simp only [go_sem, eq_true h1]; exact retOK_app hw (by simp only [go_sem]) ⟨rfl, rfl⟩
    · by_cases h2 : 127 < n
      · simp only [go_sem, h1, eq_true h2]; exact retOK_app hw (by simp only [go_sem]) ⟨rfl, rfl⟩
      · by_cases h3 : b < 0
        · simp only [go_sem, h1, h2, eq_true h3]; exact retOK_app hw (by simp only [go_sem]) ⟨rfl, rfl⟩
        · simp only [go_sem, h1, h2, h3, show 65535 < b from by omega]; exact retOK_app hw (by simp only [go_sem]) ⟨rfl, rfl⟩

def sameS (l m : List Int) : Bool := decide (l = m)
theorem same_c (l m : List Int) (σ : Heap) (hl : l.length < 2^62) (hm : m.length < 2^62) : ACalls Tryd.prog 17 [uints l, uints m] σ (fun r σ' => r = bv (decide (l = m)) ∧ σ' = σ) := by
  refine acalls_go Tryd.func17 rfl Tryd.call17 Tryd.ntmps17 Tryd.results17 (Nat.le_of_ble_eq_true rfl) fun hw => ?_
  simp only [go_sem, uints]
  by_cases hlm : l.length = m.length
  · have hlen' := eq_true hlm
    simp only [go_sem, uints, hlen']
    refine loop_go (X := Nat) (fun k => [(0, ⟨true, uints l⟩), (1, ⟨true, uints m⟩), (12, ⟨true, iv l.length⟩), (13, ⟨true, iv k⟩)]) (fun _ => σ) (fun k => k ≤ l.length ∧ l.take k = m.take k) (fun k => l.length - k) 0 (by simp) (by simp only [go_sem, uints]; simp) rfl ?_
    rintro k ⟨hk, hn⟩
    by_cases hlt : k < l.length
    · have hltm : k < m.length := by omega
      have hg := List.getElem?_eq_getElem hlt
      have hgm := List.getElem?_eq_getElem hltm
      simp only [go_sem, uints, hlt]
      refine awp_draw Tryd.mixed (by kernel_rfl) ?_
      simp only [go_sem, uints, hlt, hltm, hg, hgm]
      by_cases he : l[k] = m[k]
      · simp only [he, not_true_eq_false, if_false]
        refine ⟨k + 1, by omega, ⟨by omega, ?_⟩, inc k (by omega)⟩
        rw [List.take_add_one, List.take_add_one, hn, hg, hgm, he]
      · simp only [he, not_false_eq_true, if_true]
        refine retOK_same hw trivial ⟨?_, rfl⟩
        rw [decide_eq_false]
        rintro rfl
        exact he rfl
    · simp only [go_sem, uints, hlt]
      refine retOK_same hw trivial ⟨?_, rfl⟩
      rw [List.take_of_length_le (by omega), List.take_of_length_le (by omega)] at hn
      simp [hn]
  · simp only [go_sem, uints, hlm]
    refine retOK_same hw trivial ⟨?_, rfl⟩
    rw [decide_eq_false]; intro e; apply hlm; rw [e]
end Go.Proofs.YtbinpbjeeiedhaaDoor
