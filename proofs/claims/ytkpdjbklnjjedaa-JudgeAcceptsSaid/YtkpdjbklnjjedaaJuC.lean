/-
  Contracts: the deck, and the made records.
-/
import Derived.Test.YtkpdjbklnjjedaaJuB
set_option linter.unusedVariables false
set_option linter.unusedSimpArgs false
set_option maxRecDepth 8000
set_option maxHeartbeats 1000000
namespace Go.Proofs.Ytkpdjbklnjjedaa
open Go.Ab Go.Ju

theorem new_c (L : List Int) (σ : Heap) : ACalls Try.prog 19 [ints L] σ (fun r σ' => r = .ptr σ.length 0 0 0 ∧ σ' = σ ++ [.row 0 2 [deck L 0]]) := by
  refine acalls_go Try.func19 rfl Try.call19 Try.ntmps19 Try.results19 (Nat.le_of_ble_eq_true rfl) fun hw => ?_
  simp only [go_sem, ints]
  exact retOK_new hw (by simp [AObj.allI, AllI, AllIL, go_sem]) (by simp [AllI]) ⟨rfl, rfl⟩

theorem left_c (L : List Int) (k i g : Nat) (σ : Heap) (hi : σ[i]? = some (.row g 2 [deck L k])) : ACalls Try.prog 32 [.ptr i g 0 0] σ (fun r σ' => r = bv (decide (k < L.length)) ∧ σ' = σ) := by
  refine acalls_go Try.func32 rfl Try.call32 Try.ntmps32 Try.results32 (Nat.le_of_ble_eq_true rfl) fun hw => ?_
  simp only [deck, ints] at hi
  simp only [go_sem]
  refine awp_draw Try.mixed (by kernel_rfl) ?_
  simp only [go_sem, hi]
  exact retOK_same hw trivial ⟨rfl, rfl⟩

theorem dnext_c (L : List Int) (n : Int) (k i g : Nat) (σ : Heap) (hL : L.length < 2^62) (hn : n ≠ 0) (hk : k ≤ L.length) (hi : σ[i]? = some (.row g 2 [deck L k])) : ACalls Try.prog 20 [.ptr i g 0 0, iv n] σ (fun r σ' => r = iv (dNum L k n) ∧ σ' = σ.set i (.row g 2 [deck L (dAt L k)])) := by
  refine acalls_go Try.func20 rfl Try.call20 Try.ntmps20 Try.results20 (Nat.le_of_ble_eq_true rfl) fun hw => ?_
  have hi' := hi
  simp only [deck, ints] at hi'
  simp only [go_sem, hi']
  refine callN_of (left_c L k i g σ hi) ?_
  rintro r τ ⟨rfl, rfl⟩
  by_cases hlt : k < L.length
  · have hli : i < τ.length := (List.getElem?_eq_some_iff.1 hi).1
    have hg := List.getElem?_eq_getElem hlt
    have hw1 : IntKind.i64.wrap ((k : Int) + 1) = ((k + 1 : Nat) : Int) := inc k (by omega)
    have hw2 : IntKind.i64.wrap (((k + 1 : Nat) : Int) - 1) = (k : Int) := by rw [wrap_i64 (by omega) (by omega)]; omega
    have hset : ∀ o : AObj, (τ.set i o)[i]? = some o := fun o => by rw [List.getElem?_set_self hli]
    simp only [go_sem, hi', hlt, hw1]
    refine awp_draw Try.mixed (by kernel_rfl) ?_
    simp only [go_sem, hset, hw2, hg, hlt]
    refine callD_of (iv (modS L[k] n)) (fun _ σ' => mod_c L[k] n σ' hn) ?_
    simp only [go_sem, hset, hw2, hg, hlt]
    refine retOK_keep (by simp) (wfH_set hw (by simp [AObj.allI, AllI, AllIL, go_sem])) trivial ⟨?_, ?_⟩
    · simp only [dNum, hg]
    · simp only [deck, dAt, hlt, if_true, ints]
  · simp only [go_sem, hi', hlt]
    have hg : L[k]? = none := by simp; omega
    refine retOK_same hw trivial ⟨by simp only [dNum, hg], ?_⟩
    simp only [dAt, hlt, if_false]
    obtain ⟨hli, hii⟩ := List.getElem?_eq_some_iff.1 hi
    rw [← hii, List.set_getElem_self]

theorem drange_c (L : List Int) (k i g : Nat) (σ : Heap) (hL : L.length < 2^62) (hk : k ≤ L.length) (hi : σ[i]? = some (.row g 2 [deck L k])) : ACalls Try.prog 22 [.ptr i g 0 0, iv 1, iv 3] σ (fun r σ' => r = iv (w64 (1 + dNum L k 3)) ∧ σ' = σ.set i (.row g 2 [deck L (dAt L k)])) := by
  refine acalls_go Try.func22 rfl Try.call22 Try.ntmps22 Try.results22 (Nat.le_of_ble_eq_true rfl) fun hw => ?_
  have e3 : IntKind.i64.wrap (IntKind.i64.wrap (3 - 1) + 1) = 3 := by decide
  simp only [go_sem, e3]
  refine callN_of (dnext_c L 3 k i g σ hL (by omega) hk hi) ?_
  rintro r τ ⟨rfl, rfl⟩
  simp only [go_sem]
  exact retOK_keep (by simp) (wfH_set hw (by simp [AObj.allI, AllI, AllIL, go_sem, deck, ints])) trivial ⟨rfl, rfl⟩

/-- the heap while a record is made: what was made along the way, and the record -/
def mH : List Acc → Heap
  | [] => []
  | a :: r => [.row 0 4 [a.av], .row 0 4 [a.av], .row r.length 4 (a.av :: r.map Acc.av)]

theorem mH_nil : mH [] = [] := rfl
theorem mH_cons (a : Acc) (r : List Acc) : mH (a :: r) = [.row 0 4 [a.av], .row 0 4 [a.av], .row r.length 4 (a.av :: r.map Acc.av)] := rfl

theorem mH_len (a : Acc) (r : List Acc) : (mH (a :: r)).length = 3 := rfl
theorem pure_av (a : Acc) : Pure a.av := ⟨trivial, trivial, trivial, trivial, trivial⟩
theorem pure_deck (L : List Int) (k : Nat) : Pure (deck L k) := ⟨pure_ints L, trivial, trivial⟩
theorem allIL_pure {n : Nat} {l : List AV} (h : PureL l) : AllIL (· < n) l := AllIL.mono (fun _ h => h.elim) l h

theorem made_fin {L : List Int} {σ : Heap} {n k c : Nat} {out o : List Acc} {V : AV} {T : Heap} (hw : WfH σ.length σ) (hn : 0 < n) (h1 : n ≤ 15) (h2 : n + out.length ≤ 15) (hk : dAt L (dAt L k) ≤ L.length) (h4 : madeGo L n out k = madeS L) (ho : o = out ++ [madeAcc L out k])
    (hV : V = outV (σ.length + 3) o) (hT : T.take 3 = mH o) (hc : c ≤ 4) : ∃ y : Nat × List Acc × Nat, (y.fst < n ∧ σ.length + c ≤ σ.length + ((mH y.snd.fst).length + 1)) ∧
      (y.fst ≤ 15 ∧ y.fst + y.snd.fst.length ≤ 15 ∧ y.snd.snd ≤ L.length ∧ madeGo L y.fst y.snd.fst y.snd.snd = madeS L) ∧
        (V = outV (σ.length + 3) y.snd.fst ∧ IntKind.i64.wrap (↑n - 1) = ↑y.fst) ∧
          List.take (σ.length + ((mH y.snd.fst).length + 1)) (σ ++ AObj.row 0 2 [deck L (dAt L (dAt L (dAt L k)))] :: T) = σ ++ AObj.row 0 2 [deck L y.snd.snd] :: mH y.snd.fst ∧
            (σ.length < σ.length + ((mH y.snd.fst).length + 1) ∧ AllI (fun x => x < σ.length + ((mH y.snd.fst).length + 1)) (outV (σ.length + 3) y.snd.fst)) ∧
              WfH (σ.length + ((mH y.snd.fst).length + 1)) (σ ++ AObj.row 0 2 [deck L y.snd.snd] :: mH y.snd.fst) := by
  subst hV
  obtain ⟨junk, rfl⟩ : ∃ junk, T = mH o ++ junk := ⟨T.drop 3, by rw [← hT, List.take_append_drop]⟩
  obtain ⟨m, rfl⟩ : ∃ m, n = m + 1 := ⟨n - 1, by omega⟩
  have hlen : o.length = out.length + 1 := by rw [ho]; simp
  match o, hlen, ho with
  | a :: r, hlen, ho =>
  refine ⟨(m, a :: r, dAt L (dAt L (dAt L k))), ⟨by show m < m + 1; omega, by rw [mH_len]; omega⟩, ⟨by show m ≤ 15; omega, by show m + (a :: r).length ≤ 15; omega, dAt_le hk, ?_⟩, ⟨rfl, ?_⟩, ?_, ⟨by rw [mH_len]; omega, by rw [mH_len]; show σ.length + 3 < _; omega⟩, ?_⟩
  · show madeGo L m (a :: r) _ = _; rw [ho]; exact h4
  · rw [wrap_i64 (by omega) (by omega)]; show _ = (m : Int); omega
  · rw [show σ ++ AObj.row 0 2 [deck L (dAt L (dAt L (dAt L k)))] :: (mH (a :: r) ++ junk) = (σ ++ AObj.row 0 2 [deck L (dAt L (dAt L (dAt L k)))] :: mH (a :: r)) ++ junk from by simp]
    rw [show σ.length + ((mH (a :: r)).length + 1) = (σ ++ AObj.row 0 2 [deck L (dAt L (dAt L (dAt L k)))] :: mH (a :: r)).length from by simp]
    exact List.take_left
  · refine wfH_app (l := _ :: mH (a :: r)) hw fun x hx => ?_
    have pa := pure_av a
    have pr := pure_accs (a :: r)
    simp only [mH_cons, List.mem_cons, List.not_mem_nil, or_false] at hx
    rcases hx with rfl | rfl | rfl | rfl
    · exact ⟨Pure.allI (pure_deck L _), trivial⟩
    · exact ⟨Pure.allI pa, trivial⟩
    · exact ⟨Pure.allI pa, trivial⟩
    · exact allIL_pure (l := a.av :: r.map Acc.av) pr

theorem made_c (L : List Int) (σ : Heap) (hL : L.length < 2^62) : ACalls Try.prog 8 [ints L] σ (fun r σ' => r = accs (madeS L) ∧ σ' = σ) := by
  refine acalls_go Try.func8 rfl Try.call8 Try.ntmps8 Try.results8 (Nat.le_of_ble_eq_true rfl) fun hw => ?_
  simp only [go_sem, ints]
  refine callN_of (new_c L σ) ?_
  rintro r τ ⟨rfl, rfl⟩
  simp only [go_sem]
  refine callN_of (dnext_c L 16 0 σ.length 0 (σ ++ [.row 0 2 [deck L 0]]) hL (by omega) (by omega) (by simp)) ?_
  rintro r τ ⟨rfl, rfl⟩
  have hb := dNum_bound (L := L) (k := 0) (n := 16) (by omega) (by omega)
  simp only [go_sem]
  refine loop_junk (X := Nat × List Acc × Nat) (fun x => [(3, ⟨true, .ptr σ.length 0 0 0⟩), (4, ⟨true, outV (σ.length + 3) x.2.1⟩), (5, ⟨true, iv x.1⟩)]) (fun x => σ ++ (.row 0 2 [deck L x.2.2] :: mH x.2.1))
    (fun x => x.1 ≤ 15 ∧ x.1 + x.2.1.length ≤ 15 ∧ x.2.2 ≤ L.length ∧ madeGo L x.1 x.2.1 x.2.2 = madeS L) (fun x => x.1) ((dNum L 0 16).toNat, [], dAt L 0) ⟨by omega, by simp; omega, dAt_le (by omega), rfl⟩ ?_ (by simp [mH]) ?_
  · simp only [go_sem, outV]; congr 2; omega
  rintro ⟨n, out, k⟩ ⟨h1, h2, h3, h4⟩
  simp only at h1 h2 h3 h4
  by_cases hn : 0 < n
  · have hr1 := drange_c L k σ.length 0 (σ ++ (.row 0 2 [deck L k] :: mH out)) hL h3 (by simp)
    simp only [go_sem, hn]
    refine callN_of hr1 ?_
    rintro r τ ⟨rfl, rfl⟩
    simp only [go_sem]
    refine callN_of (drange_c L (dAt L k) σ.length 0 (σ ++ (.row 0 2 [deck L (dAt L k)] :: mH out)) hL (dAt_le h3) (by simp)) ?_
    rintro r τ ⟨rfl, rfl⟩
    have hk2 := dAt_le (dAt_le h3)
    cases out with
    | nil =>
      simp only [go_sem, outV_nil, mH_nil]
      refine callN_of (acalls_le (.cons (AVle.nil 4) (.cons (.refl _) .nil)) (last_c [] _ _ (by simp))) ?_
      rintro r τ ⟨rfl, rfl⟩
      simp only [go_sem]
      refine callN_of (dnext_c L 2 (dAt L (dAt L k)) σ.length 0 _ hL (by omega) hk2 (by simp only [go_sem])) ?_
      rintro r τ ⟨rfl, rfl⟩
      by_cases hc : dNum L (dAt L (dAt L k)) 2 = 0
      · simp only [go_sem, hc]
        exact made_fin (o := [⟨u64 (w64 (1 + dNum L k 3)), u64 (w64 (1 + dNum L (dAt L k) 3)), rLast [] (u64 (w64 (1 + dNum L (dAt L k) 3))), w64 (rLast [] (u64 (w64 (1 + dNum L (dAt L k) 3))) + 1)⟩]) hw hn h1 h2 hk2 h4 (by simp only [madeAcc, hc, if_true]; rfl) rfl rfl (by omega)
      · simp only [go_sem, hc]
        exact made_fin (o := [⟨u64 (w64 (1 + dNum L k 3)), u64 (w64 (1 + dNum L (dAt L k) 3)), rLast [] (u64 (w64 (1 + dNum L (dAt L k) 3))), 0⟩]) hw hn h1 h2 hk2 h4 (by simp only [madeAcc, hc, if_false]; rfl) rfl rfl (by omega)
    | cons a r =>
      simp only [go_sem, outV_cons, mH_cons]
      have hlast : ACalls Try.prog 18 [.os (σ.length + 3) r.length 0 (r.length + 1), .v (.int .u64 (u64 (w64 (1 + dNum L (dAt L k) 3))))]
        (σ ++ [.row 0 2 [deck L (dAt L (dAt L k))], .row 0 4 [a.av], .row 0 4 [a.av], .row r.length 4 (a.av :: r.map Acc.av), .row 0 4 [.agg [.v (.int .u64 (u64 (w64 (1 + dNum L k 3)))), .v (.int .u64 (u64 (w64 (1 + dNum L (dAt L k) 3)))), .v (.int .i64 0), .v (.int .i64 0)]]])
        (fun r' τ => r' = iv (rLast (a :: r) (u64 (w64 (1 + dNum L (dAt L k) 3)))) ∧ τ = (σ ++ [.row 0 2 [deck L (dAt L (dAt L k))], .row 0 4 [a.av], .row 0 4 [a.av], .row r.length 4 (a.av :: r.map Acc.av), .row 0 4 [.agg [.v (.int .u64 (u64 (w64 (1 + dNum L k 3)))), .v (.int .u64 (u64 (w64 (1 + dNum L (dAt L k) 3)))), .v (.int .i64 0), .v (.int .i64 0)]]])) := by
        have := lend_os (τ := (σ ++ [.row 0 2 [deck L (dAt L (dAt L k))], .row 0 4 [a.av], .row 0 4 [a.av], .row r.length 4 (a.av :: r.map Acc.av), .row 0 4 [.agg [.v (.int .u64 (u64 (w64 (1 + dNum L k 3)))), .v (.int .u64 (u64 (w64 (1 + dNum L (dAt L k) 3)))), .v (.int .i64 0), .v (.int .i64 0)]]])) (i := σ.length + 3) (g := r.length) (e := 4) (es := a.av :: r.map Acc.av) (pre := []) (post := [.v (.int .u64 (u64 (w64 (1 + dNum L (dAt L k) 3))))]) (by simp only [go_sem]) trivial ⟨trivial, trivial⟩ (pure_accs (a :: r))
        simp only [List.length_cons, List.length_map] at this
        exact acalls_lend this ((last_c (a :: r) _ _ (by simp at h2 ⊢; omega)).mono fun r τ h => by rw [h.1]; exact ⟨rfl, rfl, rfl⟩)
      refine callN_of hlast ?_
      rintro r' τ ⟨rfl, rfl⟩
      simp only [go_sem]
      refine callN_of (dnext_c L 2 (dAt L (dAt L k)) σ.length 0 _ hL (by omega) hk2 (by simp only [go_sem])) ?_
      rintro r' τ ⟨rfl, rfl⟩
      have hr13 : r.length ≤ 13 := by simp only [List.length_cons] at h2; omega
      by_cases hc : dNum L (dAt L (dAt L k)) 2 = 0
      · simp only [go_sem, hc]
        refine ⟨by omega, made_fin (o := a :: (r ++ [⟨u64 (w64 (1 + dNum L k 3)), u64 (w64 (1 + dNum L (dAt L k) 3)), rLast (a :: r) (u64 (w64 (1 + dNum L (dAt L k) 3))), w64 (rLast (a :: r) (u64 (w64 (1 + dNum L (dAt L k) 3))) + 1)⟩])) hw hn h1 h2 hk2 h4 (by simp only [madeAcc, hc, if_true]; rfl) (outV_snoc _) ?_ (by omega)⟩
        rw [← List.map_take, List.take_length, mH_cons, List.map_append, List.length_append]; rfl
      · simp only [go_sem, hc]
        refine ⟨by omega, made_fin (o := a :: (r ++ [⟨u64 (w64 (1 + dNum L k 3)), u64 (w64 (1 + dNum L (dAt L k) 3)), rLast (a :: r) (u64 (w64 (1 + dNum L (dAt L k) 3))), 0⟩])) hw hn h1 h2 hk2 h4 (by simp only [madeAcc, hc, if_false]; rfl) (outV_snoc _) ?_ (by omega)⟩
        rw [← List.map_take, List.take_length, mH_cons, List.map_append, List.length_append]; rfl
  · simp only [go_sem, hn]
    have hn0 : n = 0 := by omega
    subst hn0
    have ho : out = madeS L := h4
    rw [← ho]
    cases out with
    | nil => exact retOK_le (AVle.nil 4) (retOK_app hw (Pure.allI (show Pure (accs []) from trivial)) ⟨rfl, rfl⟩)
    | cons a r =>
      have := retOK_os (n := σ.length) (τ := σ ++ AObj.row 0 2 [deck L k] :: mH (a :: r)) (i := σ.length + 3) (g := r.length) (e := 4) (es := a.av :: r.map Acc.av) (R := fun r' σ' => r' = accs (a :: r) ∧ σ' = σ) (by rw [mH_cons]; simp only [go_sem]) (pure_accs (a :: r)) (by omega) (by rw [List.take_left]; exact hw) (by rw [List.take_left]; exact ⟨rfl, rfl⟩)
      simp only [List.length_cons, List.length_map] at this
      exact this

end Go.Proofs.Ytkpdjbklnjjedaa
