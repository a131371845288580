/-
  Contracts: the reference's Valid, Explains, next, Order; the law's same.
-/
import Derived.Test.YtkpdjbklnjjedaaJuA
set_option linter.unusedVariables false
set_option linter.unusedSimpArgs false
set_option maxRecDepth 8000
set_option maxHeartbeats 1000000
namespace Go.Proofs.Ytkpdjbklnjjedaa
open Go.Ab Go.Ju

theorem inc (k : Nat) (h : k < 2^62) : w64 (k + 1) = ((k + 1 : Nat) : Int) := by rw [w64, wrap_i64 (by omega) (by omega)]; omega

theorem same_c (a b : List Int) (σ : Heap) (ha : a.length < 2^62) (hb : b.length < 2^62) : ACalls Try.prog 14 [ints a, ints b] σ (fun r σ' => r = bv (decide (a = b)) ∧ σ' = σ) := by
  refine acalls_go Try.func14 rfl Try.call14 Try.ntmps14 Try.results14 (Nat.le_of_ble_eq_true rfl) fun hw => ?_
  by_cases hl : a.length = b.length
  · simp only [go_sem, ints, hl]
    refine loop_go (X := Nat) (fun k => [(0, ⟨true, ints a⟩), (1, ⟨true, ints b⟩), (12, ⟨true, iv b.length⟩), (13, ⟨true, iv k⟩)]) (fun _ => σ) (fun k => k ≤ b.length ∧ a.take k = b.take k) (fun k => b.length - k) 0 (by simp) (by simp only [go_sem, ints]; simp) rfl ?_
    rintro k ⟨hk, hm⟩
    by_cases hlt : k < b.length
    · have hlt' : k < a.length := by omega
      have hga := List.getElem?_eq_getElem hlt'
      have hgb := List.getElem?_eq_getElem hlt
      simp only [go_sem, ints, hlt, hlt', hga, hgb]
      refine awp_draw Try.mixed (by kernel_rfl) ?_
      simp only [go_sem, ints, hlt, hlt', hga, hgb]
      split
      · rename_i h; refine retOK_same hw trivial ⟨?_, rfl⟩
        rw [decide_eq_false]; intro e; subst e; exact h rfl
      · rename_i h; refine ⟨k + 1, by omega, ⟨by omega, ?_⟩, inc k (by omega)⟩
        rw [take_snoc hlt, take_snoc hlt', hm, Classical.not_not.1 h]
    · simp only [go_sem, ints, hlt]
      refine retOK_same hw trivial ⟨?_, rfl⟩
      rw [List.take_of_length_le (by omega), List.take_of_length_le (by omega)] at hm
      rw [decide_eq_true hm]
  · simp only [go_sem, ints, hl]
    refine retOK_same hw trivial ⟨?_, rfl⟩
    rw [decide_eq_false]; intro e; subst e; exact hl rfl

theorem valid_c (l : List Acc) (σ : Heap) (hl : l.length < 2^62) : ACalls Try.prog 13 [accs l] σ (fun r σ' => r = bv (rValid l) ∧ σ' = σ) := by
  refine acalls_go Try.func13 rfl Try.call13 Try.ntmps13 Try.results13 (Nat.le_of_ble_eq_true rfl) fun hw => ?_
  by_cases h512 : 512 < (l.length : Int)
  · simp only [go_sem, accs, h512]
    refine retOK_same hw trivial ⟨by simp only [rValid]; rw [decide_eq_false (by omega)]; rfl, rfl⟩
  · simp only [go_sem, accs, h512]
    refine loop_junk (X := Nat) (fun k => [(0, ⟨true, accs l⟩), (3, ⟨true, iv k⟩)]) (fun _ => σ) (fun k => k ≤ l.length ∧ allTo k (rOk l) = true) (fun k => l.length - k) 0 (by simp [allTo]) (by simp only [go_sem, accs]; simp) rfl ?_
    rintro k ⟨hk, hm⟩
    by_cases hlt : k < l.length
    · have hg := List.getElem?_eq_getElem hlt
      simp only [go_sem, accs, hlt, hg, Acc.av]
      refine callG_of (bv (rMade l l[k].o l[k].s)) (fun _ => (rmade_c l _ _ _ hl).mono fun r σ' h => h) ?_
      simp only [go_sem, accs, hlt, hg, Acc.av]
      split
      · rename_i h; refine retOK_app hw trivial ⟨?_, rfl⟩
        simp only [rValid]; rw [allTo_false hlt (by simp only [rOk, hg]; simp only [Bool.and_eq_false_iff, Bool.not_eq_false']; left; simpa using h)]; rw [Bool.and_false]
      · rename_i h
        refine awp_draw Try.mixed (by kernel_rfl) ?_
        simp only [go_sem, accs, hlt, hg, hk, Acc.av]
        refine callD_of (bv (rMade (l.take k) l[k].o l[k].m)) (fun _ σ' => by have := rmade_c (l.take k) l[k].o l[k].m σ' (by simp; omega); rwa [accs, List.map_take] at this) ?_
        simp only [go_sem, accs, hlt, hg, hk, Acc.av]
        split
        · rename_i h'; refine retOK_app hw trivial ⟨?_, rfl⟩
          simp only [rValid]; rw [allTo_false hlt (by simp only [rOk, hg]; simp only [Bool.and_eq_false_iff, Bool.not_eq_false']; right; simpa using h')]; rw [Bool.and_false]
        · rename_i h'
          refine ⟨k + 1, by omega, ⟨by omega, ?_⟩, inc k (by omega), ?_⟩
          · rw [allTo_succ, hm]; simp only [rOk, hg]; simp only [Bool.true_and, Bool.and_eq_true, Bool.not_eq_true']
            exact ⟨by simpa using h, by simpa using h'⟩
          · exact ⟨List.take_left, hw⟩
    · simp only [go_sem, accs, hlt]
      refine retOK_same hw trivial ⟨?_, rfl⟩
      have : k = l.length := by omega
      subst this
      simp only [rValid, hm]; rw [decide_eq_true (by omega)]; rfl

theorem explains_c (l : List Acc) (order : List Int) (σ : Heap) (hl : l.length < 2^62) (ho : order.length < 2^62) : ACalls Try.prog 16 [accs l, ints order] σ (fun r σ' => r = bv (rExplains l order) ∧ σ' = σ) := by
  refine acalls_go Try.func16 rfl Try.call16 Try.ntmps16 Try.results16 (Nat.le_of_ble_eq_true rfl) fun hw => ?_
  simp only [go_sem, accs, ints]
  refine callN_of (valid_c l σ hl) ?_
  rintro r σ' ⟨rfl, rfl⟩
  simp only [go_sem, accs, ints]
  split
  · rename_i h; refine retOK_same hw trivial ⟨?_, rfl⟩
    simp only [rExplains]
    rcases h with h | h
    · rw [h]; rfl
    · rw [decide_eq_false h]; simp
  · rename_i h
    have hv : rValid l = true := by simpa using fun e => h (.inl e)
    have hlen : order.length = l.length := Classical.not_not.1 fun e => h (.inr e)
    refine loop_go (X := Nat) (fun i => [(0, ⟨true, accs l⟩), (1, ⟨true, ints order⟩), (5, ⟨true, iv i⟩)]) (fun _ => σ') (fun i => i ≤ l.length ∧ ∀ j < i, (!decide (rPlace order j < 0) && allTo l.length fun k => !(rBef l j k && decide (rPlace order j ≥ rPlace order k))) = true) (fun i => l.length - i) 0 (by simp) (by simp only [go_sem, accs, ints]; simp) rfl ?_
    rintro i ⟨hi, hm⟩
    by_cases hlt : i < l.length
    · simp only [go_sem, accs, ints, hlt]
      refine callN_of (place_c order i σ' ho) ?_
      rintro r σ ⟨rfl, rfl⟩
      simp only [go_sem, accs, ints, hlt]
      by_cases hp : rPlace order i < 0
      · simp only [go_sem, hp]
        refine retOK_same hw trivial ⟨?_, rfl⟩
        simp only [rExplains]; rw [allTo_false hlt (by simp [hp]), Bool.and_false]
      · simp only [go_sem, hp]
        refine loop_go (X := Nat) (fun k => [(0, ⟨true, accs l⟩), (1, ⟨true, ints order⟩), (5, ⟨true, iv i⟩), (6, ⟨true, iv k⟩)]) (fun _ => σ) (fun k => k ≤ l.length ∧ allTo k (fun k => !(rBef l i k && decide (rPlace order i ≥ rPlace order k))) = true) (fun k => l.length - k) 0 (by simp [allTo]) (by simp only [go_sem, accs, ints]; simp) rfl ?_
        rintro k ⟨hk, hmk⟩
        by_cases hkt : k < l.length
        · simp only [go_sem, accs, ints, hkt]
          refine callN_of (rbefore_c l i k σ hlt hkt hl) ?_
          rintro r σ1 ⟨rfl, rfl⟩
          simp only [go_sem, accs, ints, hkt]
          refine callG_of (iv (rPlace order i)) (fun _ => (place_c order i σ1 ho)) ?_
          simp only [go_sem, accs, ints, hkt]
          refine callG_of (iv (rPlace order k)) (fun _ => (place_c order k σ1 ho)) ?_
          simp only [go_sem, accs, ints, hkt]
          split
          · rename_i h'; refine retOK_same hw trivial ⟨?_, rfl⟩
            simp only [rExplains]; rw [allTo_false hlt (by rw [allTo_false hkt (by rw [rBef_eq hlt hkt]; simpa using h'), Bool.and_false]), Bool.and_false]
          · rename_i h'; refine ⟨k + 1, by omega, ⟨by omega, ?_⟩, inc k (by omega)⟩
            rw [allTo_succ, hmk, rBef_eq hlt hkt]; rw [Bool.true_and, Bool.not_eq_true', Bool.and_eq_false_iff]; rcases Classical.em (rBefore l[i] l[k] i k = true) with hb | hb
            · right; simp; exact Int.not_le.1 fun hh => h' ⟨hb, hh⟩
            · left; simpa using hb
        · simp only [go_sem, accs, ints, hkt]
          refine ⟨i + 1, by omega, ⟨by omega, fun j hj => ?_⟩, inc i (by omega)⟩
          by_cases hji : j = i
          · subst hji
            have : k = l.length := by omega
            subst this
            exact ⟨hp, hmk⟩
          · simpa using hm j (by omega)
    · simp only [go_sem, accs, ints, hlt]
      refine retOK_same hw trivial ⟨?_, rfl⟩
      have : i = l.length := by omega
      subst this
      simp only [rExplains, hv, hlen, allTo_true.2 hm]; rfl

theorem next_c (l : List Acc) (order : List Int) (σ : Heap) (hl : l.length < 2^62) (ho : order.length < 2^62) : ACalls Try.prog 27 [accs l, ints order] σ (fun r σ' => r = iv (rNextI l order) ∧ σ' = σ) := by
  refine acalls_go Try.func27 rfl Try.call27 Try.ntmps27 Try.results27 (Nat.le_of_ble_eq_true rfl) fun hw => ?_
  simp only [go_sem, accs, ints]
  refine loop_go (X := Nat) (fun i => [(0, ⟨true, accs l⟩), (1, ⟨true, ints order⟩), (5, ⟨true, iv i⟩)]) (fun _ => σ) (fun i => i ≤ l.length ∧ ∀ j < i, rFree l order j l.length = false) (fun i => l.length - i) 0 (by simp) (by simp only [go_sem, accs, ints]; simp) rfl ?_
  rintro i ⟨hi, hm⟩
  by_cases hlt : i < l.length
  · simp only [go_sem, accs, ints, hlt]
    refine callN_of (place_c order i σ ho) ?_
    rintro r σ ⟨rfl, rfl⟩
    simp only [go_sem, accs, ints, hlt]
    refine loop_go (X := Nat) (fun k => [(0, ⟨true, accs l⟩), (1, ⟨true, ints order⟩), (5, ⟨true, iv i⟩), (6, ⟨true, bv (rFree l order i k)⟩), (7, ⟨true, iv k⟩)]) (fun _ => σ) (fun k => k ≤ l.length) (fun k => l.length - k) 0 (by simp) (by simp only [go_sem, accs, ints]; simp [rFree, allTo]) rfl ?_
    rintro k hk
    by_cases hkt : k < l.length
    · cases hf : rFree l order i k with
      | true =>
        simp only [go_sem, accs, ints, hkt, hf]
        refine callN_of (rbefore_c l k i σ hkt hlt hl) ?_
        rintro r σ1 ⟨rfl, rfl⟩
        simp only [go_sem, accs, ints, hkt]
        refine callG_of (iv (rPlace order k)) (fun _ => (place_c order k σ1 ho)) ?_
        simp only [go_sem, accs, ints, hkt]
        refine ⟨k + 1, by omega, by omega, ?_, inc k (by omega)⟩
        have : rFree l order i (k + 1) = (rFree l order i k && (!rBef l k i || decide (rPlace order k ≥ 0))) := by simp only [rFree, allTo_succ, Bool.and_assoc]
        rw [this, hf, rBef_eq hkt hlt]; rfl
      | false =>
        simp only [go_sem, accs, ints, hkt, hf]
        refine ⟨i + 1, by omega, ⟨by omega, fun j hj => ?_⟩, inc i (by omega)⟩
        by_cases hji : j = i
        · subst hji; exact rFree_mono hf hk
        · exact hm j (by omega)
    · have : k = l.length := by omega
      subst this
      cases hf : rFree l order i l.length with
      | true =>
        simp only [go_sem, accs, ints, hf, hkt]
        exact retOK_same hw trivial ⟨by rw [rNext_some hlt hf hm], rfl⟩
      | false =>
        simp only [go_sem, accs, ints, hf, hkt]
        refine ⟨i + 1, by omega, ⟨by omega, fun j hj => ?_⟩, inc i (by omega)⟩
        by_cases hji : j = i
        · subst hji; exact hf
        · exact hm j (by omega)
  · simp only [go_sem, accs, ints, hlt]
    refine retOK_same hw trivial ⟨?_, rfl⟩
    rw [rNext_none fun j hj => hm j (by omega)]

theorem order_c (l : List Acc) (σ : Heap) (hl : l.length < 2^62) : ACalls Try.prog 11 [accs l] σ (fun r σ' => r = .tup [ints ((rOrder l).getD []), bv (rOrder l).isSome] ∧ σ' = σ) := by
  refine acalls_go Try.func11 rfl Try.call11 Try.ntmps11 Try.results11 (Nat.le_of_ble_eq_true rfl) fun hw => ?_
  simp only [go_sem, accs, ints]
  refine callN_of (valid_c l σ hl) ?_
  rintro r σ' ⟨rfl, rfl⟩
  simp only [go_sem, accs, ints]
  cases hv : rValid l with
  | false =>
    simp only [go_sem]
    refine retOK_le (AVle.tup (.cons (AVle.nil 1) (.cons (.refl _) .nil))) (retOK_same hw (by simp only [go_sem]) ⟨?_, rfl⟩)
    simp [rOrder, hv]
  | true =>
    simp only [go_sem]
    refine loop_junk (X := List Int) (fun o => [(0, ⟨true, accs l⟩), (4, ⟨true, outV (σ'.length + 1) o⟩)]) (fun o => σ' ++ outH 1 iv o) (fun o => o.length ≤ l.length ∧ rGo l (l.length - o.length) o = rOrder l) (fun o => l.length - o.length) [] (by simp [rOrder, hv]) (by simp only [go_sem, accs, outV]) (by simp [outH]) ?_
    rintro o ⟨ho, hgo⟩
    by_cases hlt : o.length < l.length
    · have hstep : rGo l (l.length - o.length) o = match rNext l o with | some i => rGo l (l.length - (o.length + 1)) (o ++ [(i : Int)]) | none => none := by
        rw [show l.length - o.length = (l.length - (o.length + 1)) + 1 from by omega]; rfl
      rw [hgo] at hstep
      have hnext : ACalls Try.prog 27 [accs l, outV (σ'.length + 1) o] (σ' ++ (outH 1 iv o ++ [])) (fun r τ => r = iv (rNextI l o) ∧ τ = (σ' ++ (outH 1 iv o ++ []))) :=
        acalls_lend (args' := [accs l, ints o]) (lend_out (pre := [accs l]) (post := []) ⟨pure_accs l, trivial⟩ trivial (pure_ints o)) ((next_c l o [] hl (by omega)).mono fun r τ h => by rw [h.1]; exact ⟨rfl, rfl, rfl⟩)
      rw [List.append_nil] at hnext
      cases o with
      | nil =>
        simp only [outV_nil, outH_nil, List.append_nil, List.length_nil] at *
        simp only [go_sem, accs, ints, hlt, outV_nil, outH_nil]
        refine callN_of hnext ?_
        rintro r τ ⟨rfl, rfl⟩
        simp only [go_sem, accs, ints, outV_nil, outH_nil]
        cases hn : rNext l [] with
        | none =>
          have : rNextI l [] = -1 := by simp only [rNextI, hn]
          simp only [go_sem, this, outV_nil, outH_nil]
          refine retOK_le (AVle.tup (.cons (AVle.nil 1) (.cons (.refl _) .nil))) (retOK_same hw (by simp only [go_sem]) ⟨?_, rfl⟩)
          rw [hstep, hn]; rfl
        | some i =>
          have : rNextI l [] = i := by simp only [rNextI, hn]
          simp only [go_sem, this, outV_nil, outH_nil]
          refine ⟨[(i : Int)], ⟨by simp; omega, by simp⟩, ⟨by show 1 ≤ l.length; omega, ?_⟩, rfl, out_take (o := [(i : Int)]) (junk := []), outV_lt, outH_wf hw (pure_ints _)⟩
          rw [hstep, hn]; rfl
      | cons a r =>
        simp only [List.length_cons] at hlt hstep
        simp only [outV_cons, outH_cons] at hnext
        simp only [go_sem, accs, ints, hlt, outV_cons, outH_cons]
        refine callN_of hnext ?_
        rintro r' τ ⟨rfl, rfl⟩
        simp only [go_sem, accs, ints, outV_cons, outH_cons]
        cases hn : rNext l (a :: r) with
        | none =>
          have : rNextI l (a :: r) = -1 := by simp only [rNextI, hn]
          simp only [go_sem, this, outV_cons, outH_cons]
          refine retOK_le (AVle.tup (.cons (AVle.nil 1) (.cons (.refl _) .nil))) (retOK_app hw (by simp only [go_sem]) ⟨?_, rfl⟩)
          rw [hstep, hn]; rfl
        | some i =>
          have : rNextI l (a :: r) = i := by simp only [rNextI, hn]
          have h512 : l.length ≤ 512 := by simp only [rValid, Bool.and_eq_true, decide_eq_true_eq] at hv; exact hv.1
          simp only [go_sem, this, outV_cons, outH_cons]
          refine ⟨by omega, a :: (r ++ [(i : Int)]), ⟨by simp; omega, by simp [outH]⟩, ⟨by simp; omega, ?_⟩, outV_snoc _, ?_, outV_lt, outH_wf hw (pure_ints _)⟩
          · rw [hstep, hn]; simp
          · exact (congrArg (fun x => List.take _ (σ' ++ x)) (outH_snoc (junk := [.row 0 1 [iv i]]) (i : Int))).trans out_take
    · have hz : l.length - o.length = 0 := by omega
      rw [hz] at hgo
      have hR : rOrder l = some o := hgo.symm
      cases o with
      | nil =>
        simp only [List.length_nil] at hlt
        simp only [go_sem, accs, ints, hlt, outV_nil, outH_nil]
        exact retOK_le (AVle.tup (.cons (AVle.nil 1) (.cons (.refl _) .nil))) (retOK_same hw (by simp only [go_sem]) ⟨by rw [hR]; rfl, rfl⟩)
      | cons a r =>
        simp only [List.length_cons] at hlt
        simp only [go_sem, accs, ints, hlt, outV_cons, outH_cons]
        exact retOK_out_tup (e := 1) (o := a :: r) (f := iv) (junk := []) hw (pure_ints _) trivial ⟨by rw [hR]; rfl, rfl⟩

end Go.Proofs.Ytkpdjbklnjjedaa
