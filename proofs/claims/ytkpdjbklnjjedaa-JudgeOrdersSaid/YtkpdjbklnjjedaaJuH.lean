/-
  Contracts: judge's Order.
-/
import Derived.Test.YtkpdjbklnjjedaaJuG
set_option linter.unusedVariables false
set_option linter.unusedSimpArgs false
set_option maxRecDepth 8000
set_option maxHeartbeats 2000000
namespace Go.Proofs.Ytkpdjbklnjjedaa
open Go.Ab Go.Ju Go

theorem retOK_os_tup {n i g e : Nat} {es : List AV} {τ : Heap} {b : AV} {R : AV → Heap → Prop} (hi : τ[i]? = some (.row g e es)) (hp : PureL es) (hb : Pure b) (hn : n ≤ i) (hw : WfH n (τ.take n)) (h : R (.tup [.sl e es, b]) (τ.take n)) : RetOK n (.tup [.os i g 0 es.length, b]) τ R := by
  refine retOK_frz hi ?_
  rw [frz_tup2, frz_pure _ _ _ _ hb]
  simp only [frz, if_true, true_and, Nat.zero_add, Nat.le_refl, List.drop_zero, List.take_length]
  refine retOK_take n (Nat.le_refl _) (Pure.allI (show Pure (.tup [.sl e es, b]) from ⟨hp, hb, trivial⟩)) ?_ ?_
  · rw [List.take_set_of_le hn]; exact hw
  · rw [List.take_set_of_le hn]; exact h

theorem order_fin {l : List Acc} {σ T : Heap} {sets : List (List Int)} {d : List Int} {i c : Nat} {out o : List Int} {V : AV} (hw : WfH σ.length σ) (hd : d.length = 8) (hlt : out.length < l.length) (hi : i < 512) (ho : o = out ++ [(i : Int)])
    (hgo : jGoO sets l.length (l.length - (out.length + 1)) (out ++ [(i : Int)]) (addS d i) = jOrder l) (hV : V = outV (σ.length + 3) o) (hT : T.take 2 = outH 1 iv o) (hc : c ≤ 4) : ∃ y : List Int × List Int,
      (l.length - y.fst.length < l.length - out.length ∧ σ.length + c ≤ σ.length + ((outH 1 iv y.fst).length + 1 + 1)) ∧
      (y.fst.length ≤ l.length ∧ y.snd.length = 8 ∧ jGoO sets l.length (l.length - y.fst.length) y.fst y.snd = jOrder l) ∧
        V = outV (σ.length + 3) y.fst ∧
          List.take (σ.length + ((outH 1 iv y.fst).length + 1 + 1)) (σ ++ (AObj.row 0 8 (List.map setV sets) :: AObj.row 0 8 [setV (addS d i)] :: T)) = σ ++ AObj.row 0 8 (List.map setV sets) :: AObj.row 0 8 [setV y.snd] :: outH 1 iv y.fst ∧
            (σ.length < σ.length + ((outH 1 iv y.fst).length + 1 + 1) ∧ σ.length + 1 < σ.length + ((outH 1 iv y.fst).length + 1 + 1) ∧ AllI (fun x => x < σ.length + ((outH 1 iv y.fst).length + 1 + 1)) (outV (σ.length + 3) y.fst)) ∧
              WfH (σ.length + ((outH 1 iv y.fst).length + 1 + 1)) (σ ++ AObj.row 0 8 (List.map setV sets) :: AObj.row 0 8 [setV y.snd] :: outH 1 iv y.fst) := by
  subst hV
  obtain ⟨junk, rfl⟩ : ∃ junk, T = outH 1 iv o ++ junk := ⟨T.drop 2, by rw [← hT, List.take_append_drop]⟩
  have hlen : o.length = out.length + 1 := by rw [ho]; simp
  match o, hlen, ho with
  | a :: r, hlen, ho =>
  rw [← ho, ← hlen] at hgo
  have h2 : (outH 1 iv (a :: r)).length = 2 := rfl
  refine ⟨(a :: r, addS d i), ⟨by show l.length - (a :: r).length < _; omega, by rw [h2]; omega⟩, ⟨by show (a :: r).length ≤ _; omega, by rw [addS_length, hd], hgo⟩, rfl, ?_, ⟨by rw [h2]; omega, by rw [h2]; omega, by rw [h2]; show σ.length + 3 < _; omega⟩, ?_⟩
  · rw [show σ ++ AObj.row 0 8 (List.map setV sets) :: AObj.row 0 8 [setV (addS d i)] :: (outH 1 iv (a :: r) ++ junk) = (σ ++ AObj.row 0 8 (List.map setV sets) :: AObj.row 0 8 [setV (addS d i)] :: outH 1 iv (a :: r)) ++ junk from by simp]
    exact List.take_left' (by simp)
  · refine wfH_app (l := _ :: _ :: outH 1 iv (a :: r)) hw fun x hx => ?_
    simp only [outH_cons, List.mem_cons, List.not_mem_nil, or_false] at hx
    rcases hx with rfl | rfl | rfl | rfl
    · exact allIL_setV _
    · exact allIL_1 (pure_setV _)
    · exact allIL_1 (show Pure (iv a) from trivial)
    · exact allIL_pure (pure_ints (a :: r))

theorem jorder_c (l : List Acc) (σ : Heap) (hl : l.length < 2^62) : ACalls Try.prog 10 [accs l] σ (fun r σ' => r = .tup [ints ((jOrder l).getD []), bv (jOrder l).isSome] ∧ σ' = σ) := by
  refine acalls_go Try.func10 rfl Try.call10 Try.ntmps10 Try.results10 (Nat.le_of_ble_eq_true rfl) fun hw => ?_
  simp only [go_sem, accs, ints]
  refine scope_go ?_
  simp only [go_sem, accs, ints]
  refine callN_of (jvalid_c l σ hl) ?_
  rintro r σ' ⟨rfl, rfl⟩
  cases hv : jValid l with
  | false =>
    simp only [go_sem]
    refine retOK_le (AVle.tup (.cons (AVle.nil 1) (.cons (.refl _) .nil))) (retOK_same hw (by simp only [go_sem]) ⟨?_, rfl⟩)
    simp [jOrder, hv]
  | true =>
    obtain ⟨h5, hu⟩ := jValid_uniq hv
    simp only [go_sem]
    refine callN_of (before_c l σ' h5 hu) ?_
    rintro r τ ⟨rfl, rfl⟩
    have hs := sets_bef l l.length
    have hJ : jOrder l = jGoO (jBef l l.length) l.length l.length [] zset := by simp [jOrder, hv]
    generalize jBef l l.length = sets at hs hJ
    simp only [go_sem, accs, ints]
    refine loop_junk (X := List Int × List Int) (fun x => [(0, ⟨true, accs l⟩), (4, ⟨true, .os σ'.length 0 0 l.length⟩), (5, ⟨true, .ptr (σ'.length + 1) 0 0 0⟩), (6, ⟨true, outV (σ'.length + 3) x.1⟩)]) (fun x => σ' ++ (.row 0 8 (sets.map setV) :: .row 0 8 [setV x.2] :: outH 1 iv x.1))
      (fun x => x.1.length ≤ l.length ∧ x.2.length = 8 ∧ jGoO sets l.length (l.length - x.1.length) x.1 x.2 = jOrder l) (fun x => l.length - x.1.length) ([], zset) ⟨by simp, rfl, by rw [hJ]; simp⟩ (by simp only [go_sem, accs, outV]) (by simp [outH, setV]) ?_
    rintro ⟨out, d⟩ ⟨hk, hd, hgo⟩
    simp only at hk hd hgo
    by_cases hlt : out.length < l.length
    · have hstep : jGoO sets l.length (l.length - out.length) out d = match jNext sets l.length d with | some i => jGoO sets l.length (l.length - (out.length + 1)) (out ++ [(i : Int)]) (addS d i) | none => none := by
        rw [show l.length - out.length = (l.length - (out.length + 1)) + 1 from by omega]; rfl
      cases out with
      | nil =>
        simp only [List.length_nil] at hlt
        simp only [go_sem, accs, ints, hlt, outV_nil, outH_nil]
        refine loop_go (X := Nat) (fun i => [(0, ⟨true, accs l⟩), (4, ⟨true, .os σ'.length 0 0 l.length⟩), (5, ⟨true, .ptr (σ'.length + 1) 0 0 0⟩), (6, ⟨true, outV (σ'.length + 3) ([] : List Int)⟩), (19, ⟨true, iv l.length⟩), (20, ⟨true, iv i⟩)]) (fun _ => σ' ++ (.row 0 8 (sets.map setV) :: .row 0 8 [setV d] :: outH 1 iv ([] : List Int))) (fun i => i ≤ l.length ∧ ∀ j < i, jFree sets d j = false) (fun i => l.length - i) 0 (by simp) (by simp only [go_sem, accs, outV_nil, outH_nil]; simp) (by simp only [go_sem, outV_nil, outH_nil]) ?_
        rintro i ⟨hi, hm⟩
        by_cases hil : i < l.length
        · simp only [go_sem, accs, hil, outV_nil, outH_nil]
          refine callN_of (has_d hd (by omega)) ?_
          rintro r' τ ⟨rfl, rfl⟩
          simp only [go_sem, accs, hil, outV_nil, outH_nil]
          refine callG_of (bv (insideS (sets.getD i []) d)) (fun _ => inside_d hd hs hil) ?_
          cases hf : jFree sets d i with
          | true =>
            have h1 : hasS d i = false ∧ insideS (sets.getD i []) d = true := by simpa [jFree] using hf
            simp only [go_sem, accs, hil, h1.1, h1.2, outV_nil, outH_nil]
            refine callN_of (add_d hd (by omega)) ?_
            rintro r' τ ⟨rfl, rfl⟩
            simp only [go_sem, accs, hil, outV_nil, outH_nil]
            have hn : jNext sets l.length d = some i := List.find?_range_eq_some.2 ⟨hf, by simpa using hil, fun j hj => by simp [hm j hj]⟩
            rw [hstep, hn] at hgo
            exact order_fin (o := [(i : Int)]) hw hd (by simpa using hlt) (by omega) rfl hgo rfl rfl (by omega)
          | false =>
            have h1 : (!hasS d i && insideS (sets.getD i []) d) = false := hf
            simp only [go_sem, accs, hil, h1, outV_nil, outH_nil]
            exact ⟨i + 1, by omega, ⟨by omega, fun j hj => by
              by_cases e : j = i
              · subst e; exact hf
              · exact hm j (by omega)⟩, inc i (by omega)⟩
        · simp only [go_sem, accs, hil, outV_nil, outH_nil]
          have hn : jNext sets l.length d = none := List.find?_eq_none.2 fun j hj => by simp [hm j (by have := List.mem_range.1 hj; omega)]
          rw [hstep, hn] at hgo
          exact retOK_le (AVle.tup (.cons (AVle.nil 1) (.cons (.refl _) .nil))) (retOK_app hw (by simp only [go_sem]) ⟨by rw [← hgo]; rfl, rfl⟩)
      | cons a r =>
        simp only [List.length_cons] at hlt
        simp only [go_sem, accs, ints, hlt, outV_cons, outH_cons]
        refine loop_go (X := Nat) (fun i => [(0, ⟨true, accs l⟩), (4, ⟨true, .os σ'.length 0 0 l.length⟩), (5, ⟨true, .ptr (σ'.length + 1) 0 0 0⟩), (6, ⟨true, outV (σ'.length + 3) (a :: r : List Int)⟩), (19, ⟨true, iv l.length⟩), (20, ⟨true, iv i⟩)]) (fun _ => σ' ++ (.row 0 8 (sets.map setV) :: .row 0 8 [setV d] :: outH 1 iv (a :: r : List Int))) (fun i => i ≤ l.length ∧ ∀ j < i, jFree sets d j = false) (fun i => l.length - i) 0 (by simp) (by simp only [go_sem, accs, outV_cons, outH_cons]; simp) (by simp only [go_sem, outV_cons, outH_cons]) ?_
        rintro i ⟨hi, hm⟩
        by_cases hil : i < l.length
        · simp only [go_sem, accs, hil, outV_cons, outH_cons]
          refine callN_of (has_d hd (by omega)) ?_
          rintro r' τ ⟨rfl, rfl⟩
          simp only [go_sem, accs, hil, outV_cons, outH_cons]
          refine callG_of (bv (insideS (sets.getD i []) d)) (fun _ => inside_d hd hs hil) ?_
          cases hf : jFree sets d i with
          | true =>
            have h1 : hasS d i = false ∧ insideS (sets.getD i []) d = true := by simpa [jFree] using hf
            simp only [go_sem, accs, hil, h1.1, h1.2, outV_cons, outH_cons]
            refine callN_of (add_d hd (by omega)) ?_
            rintro r' τ ⟨rfl, rfl⟩
            simp only [go_sem, accs, hil, outV_cons, outH_cons]
            have hn : jNext sets l.length d = some i := List.find?_range_eq_some.2 ⟨hf, by simpa using hil, fun j hj => by simp [hm j hj]⟩
            rw [hstep, hn] at hgo
            refine ⟨by omega, order_fin (o := a :: (r ++ [(i : Int)])) (out := a :: r) hw hd (by simpa using hlt) (by omega) rfl hgo (outV_snoc _) ?_ (by omega)⟩
            rw [← List.map_take, List.take_length, outH_cons, List.map_append, List.length_append]; rfl
          | false =>
            have h1 : (!hasS d i && insideS (sets.getD i []) d) = false := hf
            simp only [go_sem, accs, hil, h1, outV_cons, outH_cons]
            exact ⟨i + 1, by omega, ⟨by omega, fun j hj => by
              by_cases e : j = i
              · subst e; exact hf
              · exact hm j (by omega)⟩, inc i (by omega)⟩
        · simp only [go_sem, accs, hil, outV_cons, outH_cons]
          have hn : jNext sets l.length d = none := List.find?_eq_none.2 fun j hj => by simp [hm j (by have := List.mem_range.1 hj; omega)]
          rw [hstep, hn] at hgo
          exact retOK_le (AVle.tup (.cons (AVle.nil 1) (.cons (.refl _) .nil))) (retOK_app hw (by simp only [go_sem]) ⟨by rw [← hgo]; rfl, rfl⟩)
    · have hz : l.length - out.length = 0 := by omega
      rw [hz] at hgo
      have hR : jOrder l = some out := hgo.symm
      cases out with
      | nil =>
        simp only [List.length_nil] at hlt
        simp only [go_sem, accs, ints, hlt, outV_nil, outH_nil]
        exact retOK_le (AVle.tup (.cons (AVle.nil 1) (.cons (.refl _) .nil))) (retOK_app hw (by simp only [go_sem]) ⟨by rw [hR]; rfl, rfl⟩)
      | cons a r =>
        simp only [List.length_cons] at hlt
        simp only [go_sem, accs, ints, hlt, outV_cons, outH_cons]
        have := retOK_os_tup (n := σ'.length) (τ := σ' ++ [.row 0 8 (sets.map setV), .row 0 8 [setV d], .row 0 1 [iv a], .row r.length 1 (iv a :: r.map iv)]) (i := σ'.length + 3) (g := r.length) (e := 1) (es := iv a :: r.map iv) (b := bv true) (R := fun r' σ'' => r' = .tup [.sl 1 (((jOrder l).getD []).map iv), bv (jOrder l).isSome] ∧ σ'' = σ') (by simp only [go_sem]) (pure_ints (a :: r)) trivial (by omega) (by rw [List.take_left]; exact hw) (by rw [List.take_left, hR]; exact ⟨rfl, rfl⟩)
        simp only [List.length_cons, List.length_map] at this
        exact this

end Go.Proofs.Ytkpdjbklnjjedaa
