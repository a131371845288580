/-
  The law JudgeOrders: what it answers.
-/
import Derived.Test.YtkpdjbklnjjedaaJuL
set_option linter.unusedVariables false
set_option linter.unusedSimpArgs false
set_option maxRecDepth 8000
set_option maxHeartbeats 4000000
namespace Go.Proofs.Ytkpdjbklnjjedaa
open Go.Ab Go.Ju Go

theorem order_len {y : List Ju.Acc} (hf : FitsL y) : ((rOrder y).getD []).length ≤ y.length := by
  cases h : rOrder y with
  | none => simp
  | some o => have := (order_sound hf h).2.1; simp [this]

theorem orders_c (L : List Int) (raw : List Ju.Acc) (order : List Int) (what at_ object : Int) (σ : Heap) (hL : L.length < 2^62) (hr : raw.length < 2^62) (ho : order.length < 2^62) (hf : FitsL raw) :
    ACalls Try.prog 3 [ints L, accs raw, ints order, iv what, iv at_, uv object] σ (fun r σ' => r = bv true ∧ σ' = σ) := by
  refine acalls_awp Try.func3 rfl Try.call3 Try.ntmps3 Try.results3 (Nat.le_of_ble_eq_true rfl) fun hw => ?_
  obtain ⟨hm, hlen⟩ := madeS_made L
  refine awp_then ?_
  simp only [go_sem, ints, accs]
  refine awp_then ?_
  simp only [go_sem]
  refine callN_of (sane_c _) ?_
  rintro r τ ⟨rfl, rfl⟩
  simp only [go_sem]
  refine awp_then ?_
  by_cases h14 : 14 < (raw.length : Int)
  · simp only [go_sem, h14]
    exact retOK_same hw trivial ⟨rfl, rfl⟩
  by_cases h20 : 20 < (order.length : Int)
  · simp only [go_sem, h14, h20]
    exact retOK_same hw trivial ⟨rfl, rfl⟩
  simp only [go_sem, h14, h20]
  refine awp_then ?_
  simp only [go_sem]
  refine callN_of (made_c L _ hL) ?_
  rintro r τ ⟨rfl, rfl⟩
  generalize madeS L = x at hm hlen
  simp only [go_sem]
  refine awp_then ?_
  simp only [go_sem, accs]
  refine callN_of (bad_c x what at_ _ (by omega)) ?_
  rintro r τ ⟨x', hx1, hx2, rfl, rfl⟩
  have hfx := made_fits hm (by omega)
  obtain ⟨rows, hrows⟩ : ∃ rows : List (List Ju.Acc), rows = [x, x', raw] := ⟨_, rfl⟩
  have hes : [accs x, accs x', accs raw] = rows.map accs := by rw [hrows]; rfl
  have hrl : rows.length = 3 := by rw [hrows]; rfl
  have hrw : ∀ y ∈ rows, FitsL y ∧ y.length ≤ 20 := by
    rw [hrows]; intro y hy
    simp only [List.mem_cons, List.not_mem_nil, or_false] at hy
    rcases hy with rfl | rfl | rfl
    · exact ⟨hfx, by omega⟩
    · exact ⟨hx2 hfx, by omega⟩
    · exact ⟨hf, by omega⟩
  simp only [go_sem, accs]
  refine loop_junk (X := Nat) (fun k => [(2, ⟨true, ints order⟩), (5, ⟨true, uv object⟩), (38, ⟨true, .os τ.length 0 0 3⟩), (39, ⟨true, iv 3⟩), (40, ⟨true, iv k⟩)]) (fun k => τ ++ [.row 0 1 (rows.map accs)]) (fun k => k ≤ 3) (fun k => 3 - k) 0 (by omega) (by simp only [go_sem, ints]; trivial) (by rw [← hes]; rfl) ?_
  intro k hk
  have h3 : ((3 : Nat) : Int) = 3 := rfl
  by_cases hlt : k < 3
  · have hg := List.getElem?_eq_getElem (l := rows) (i := k) (by omega)
    obtain ⟨hfy, hly⟩ := hrw _ (List.mem_of_getElem? hg)
    generalize rows[k] = y at hg hfy hly
    have hlt' : (k : Int) < 3 := by omega
    simp only [go_sem, ints, hlt', hlt, hg, accs, hrl]
    have e1 := jOrder_eq hfy
    have e2 := jValid_eq hfy
    have e3 := jExplains_eq hfy
    have hol := order_len hfy
    generalize hq : (rOrder y).getD [] = q at hol
    refine callN_of (jorder_c y _ (by omega)) ?_
    rintro r τ' ⟨rfl, rfl⟩
    rw [e1, hq]
    simp only [go_sem, ints, accs]
    refine callN_of (order_c y _ (by omega)) ?_
    rintro r τ' ⟨rfl, rfl⟩
    rw [hq]
    simp only [go_sem, ints, accs]
    refine callN_of (jvalid_c y _ (by omega)) ?_
    rintro r τ' ⟨rfl, rfl⟩
    rw [e2]
    simp only [go_sem, ints, accs]
    refine callN_of (valid_c y _ (by omega)) ?_
    rintro r τ' ⟨rfl, rfl⟩
    simp only [go_sem, ints, accs]
    refine callG_of (bv true) (fun _ => (same_c q q _ (by omega) (by omega)).mono fun r τ h => by simpa using h) ?_
    simp only [go_sem, ints, accs]
    refine callG_of (bv (rExplains y q)) (fun _ => (jexplains_c y q _ (by omega) (by omega)).mono fun r τ h => by rw [← e3]; exact h) ?_
    simp only [go_sem, ints, accs]
    refine callG_of (bv (rExplains y q)) (fun _ => explains_c y q _ (by omega) (by omega)) ?_
    simp only [go_sem, ints, accs]
    refine callG_of (bv (rExplains y order)) (fun _ => (jexplains_c y order _ (by omega) (by omega)).mono fun r τ h => by rw [← e3]; exact h) ?_
    simp only [go_sem, ints, accs]
    refine callG_of (bv (rExplains y order)) (fun _ => explains_c y order _ (by omega) (by omega)) ?_
    simp only [go_sem, ints, accs]
    refine callG_of (iv (rLast y object)) (fun _ => jlast_c y object _ (by omega)) ?_
    simp only [go_sem, ints, accs]
    refine callG_of (iv (rLast y object)) (fun _ => last_c y object _ (by omega)) ?_
    simp only [go_sem, ints, accs]
    refine ⟨by omega, callG_of (iv (rLast y (IntKind.u64.wrap (1 + object.tmod 3)))) (fun _ => jlast_c y _ _ (by omega)) ?_⟩
    simp only [go_sem, ints, accs]
    refine ⟨by omega, callG_of (iv (rLast y (IntKind.u64.wrap (1 + object.tmod 3)))) (fun _ => last_c y _ _ (by omega)) ?_⟩
    simp only [go_sem, ints, accs]
    exact ⟨k + 1, by omega, by omega, inc k (by omega), take_app1, by omega, wfH_row1 hw (pureL_map pure_accs rows)⟩
  · have hlt' : ¬ (k : Int) < 3 := by omega
    simp only [go_sem, hlt']
    refine vcode_sound _ ?_
    simp only [go_sem]
    exact retOK_app hw trivial ⟨rfl, rfl⟩
end Go.Proofs.Ytkpdjbklnjjedaa
