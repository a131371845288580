/-
  Contracts: Next, of the program and of the reference.
-/
import Derived.Test.YtbinpbjeeiedhaaDoorIdA
set_option linter.unusedVariables false
set_option linter.unusedSimpArgs false
set_option maxRecDepth 8000
set_option maxHeartbeats 2000000
namespace Go.Proofs.YtbinpbjeeiedhaaDoor
open Go.Ab Go.Id Go

theorem next_none {n : Nat} {σ : Heap} {c : Int} {l : Heap} {R : AV → Heap → Prop} (hn : σ.length = n) (hw : WfH σ.length σ) (h : R (.tup [uints [], zeroA.av, iv c]) σ) :
    RetOK n (.tup [.v (.slice none 0 0), .agg [.v (.int .i64 0), .v (.int .i64 0), .v (.int .i64 0)], iv c]) (σ ++ l) R := by
  subst hn
  exact retOK_le (AVle.tup (.cons (AVle.nil 1) (.cons (.refl _) (.cons (.refl _) .nil)))) (retOK_app hw (by simp only [go_sem]) h)

theorem take_app3 {σ junk : Heap} {o o' o'' : AObj} : List.take (σ.length + 3) (σ ++ (o :: o' :: o'' :: junk)) = σ ++ [o, o', o''] :=
  (congrArg (List.take _) (List.append_assoc σ [o, o', o''] junk).symm).trans (List.take_left' (by simp))
theorem wfH_row3 {σ : Heap} {g e g' e' g'' e'' : Nat} {es es' es'' : List AV} (hw : WfH σ.length σ) (hp : PureL es) (hp' : PureL es') (hp'' : PureL es'') : WfH (σ.length + 3) (σ ++ [.row g e es, .row g' e' es', .row g'' e'' es'']) := wfH_app (l := [.row g e es, .row g' e' es', .row g'' e'' es'']) hw fun o ho => by
  simp only [List.mem_cons, List.not_mem_nil, or_false] at ho
  rcases ho with rfl | rfl | rfl
  · exact AllIL.mono (fun _ h => h.elim) _ hp
  · exact AllIL.mono (fun _ h => h.elim) _ hp'
  · exact AllIL.mono (fun _ h => h.elim) _ hp''
theorem idsS_snoc (a : Allo) (k : Nat) : List.take k ((idsS a k).map uv) ++ [uv (idOf a.node a.boot (a.serial + ((k : Int) + 1)))] = (idsS a (k + 1)).map uv := by
  rw [List.take_of_length_le (by simp [idsS]), idsS_succ, List.map_append]; rfl

theorem next_c (a : Allo) (n : Int) (σ : Heap) : ACalls Tryd.prog 15 [a.av, iv n] σ (fun r σ' => r = .tup [uints (nextS a n).1, (nextS a n).2.1.av, iv (nextS a n).2.2] ∧ σ' = σ) := by
  refine acalls_awp Tryd.func15 rfl Tryd.call15 Tryd.ntmps15 Tryd.results15 (Nat.le_of_ble_eq_true rfl) fun hw => ?_
  refine awp_then ?_
  simp only [go_sem, Allo.av]
  refine awp_then ?_
  simp only [go_sem, Allo.av]
  refine callN_of (within_c _ _ _) ?_
  rintro r τ ⟨rfl, rfl⟩
  unfold nextS
  by_cases h1 : within a.node a.boot = true
  · by_cases h2 : a.serial < 0
    · rw [if_neg (fun h => by omega)]
      simp only [go_sem, h1, eq_true h2]
      exact next_none rfl hw ⟨rfl, rfl⟩
    · by_cases h3 : 1099511627775 < a.serial
      · rw [if_neg (fun h => by omega)]
        simp only [go_sem, h1, h2, eq_true h3]
        exact next_none rfl hw ⟨rfl, rfl⟩
      · rw [if_pos ⟨h1, by omega, by omega⟩]
        by_cases h4 : n < 0
        · rw [if_pos (.inl h4)]
          simp only [go_sem, h1, h2, h3, eq_true h4]
          exact next_none rfl hw ⟨rfl, rfl⟩
        · by_cases h5 : 64 < n
          · rw [if_pos (.inr h5)]
            simp only [go_sem, h1, h2, h3, h4, eq_true h5]
            exact next_none rfl hw ⟨rfl, rfl⟩
          · rw [if_neg (by omega)]
            have e : IntKind.i64.wrap (a.serial + n) = a.serial + n := wrap_i64 (by omega) (by omega)
            by_cases h6 : 1099511627775 < a.serial + n
            · rw [if_pos h6]
              simp only [go_sem, h1, h2, h3, h4, h5, e, eq_true h6]
              exact next_none rfl hw ⟨rfl, rfl⟩
            · rw [if_neg h6]
              simp only [go_sem, h1, h2, h3, h4, h5, e, h6]
              refine awp_then ?_
              simp only [go_sem]
              refine awp_nil 7 1 (by simp only [go_sem]) ?_
              refine awp_then ?_
              simp only [go_sem]
              have hw0 : ∀ i ≤ n.toNat, within a.node a.boot = true ∧ 1 ≤ a.serial + ((i : Int) + 1) ∧ (i < n.toNat → a.serial + ((i : Int) + 1) ≤ 1099511627775) := fun i hi => ⟨h1, by omega, fun h => by omega⟩
              refine loop_junk (X := Nat) (fun k => [(1, ⟨true, iv n⟩), (2, ⟨true, .ptr σ.length 0 0 0⟩), (5, ⟨true, .ptr (σ.length + 1) 0 0 0⟩), (6, ⟨true, iv 0⟩), (7, ⟨true, .os (σ.length + 2) k 0 k⟩), (43, ⟨true, iv n⟩), (44, ⟨true, iv k⟩)])
                (fun k => σ ++ [.row 0 3 [.agg [iv a.node, iv a.boot, iv (a.serial + k)]], .row 0 3 [.agg [iv 0, iv 0, iv 0]], .row k 1 ((idsS a k).map uv)]) (fun k => k ≤ n.toNat) (fun k => n.toNat - k) 0 (by omega) (by simp only [go_sem]; rfl) (by simp [idsS]) ?_
              intro k hk
              by_cases hlt : (k : Int) < n
              · have ew : IntKind.i64.wrap (a.serial + (k : Int) + 1) = a.serial + ((k : Int) + 1) := by rw [Int.add_assoc]; exact wrap_i64 (by omega) (by omega)
                have em : makeS a.node a.boot (a.serial + ((k : Int) + 1)) = (idOf a.node a.boot (a.serial + ((k : Int) + 1)), 0) := if_pos ⟨h1, by omega, by omega⟩
                simp only [go_sem, eq_true hlt, ew]
                refine callN_of (make_c _ _ _ _) ?_
                rintro r τ ⟨rfl, rfl⟩
                simp only [go_sem, em, idsS_length]
                refine ⟨⟨by omega, by omega⟩, k + 1, by omega, by omega, ⟨rfl, inc k (by omega)⟩, ?_, by omega, wfH_row3 hw ⟨⟨trivial, trivial, trivial, trivial⟩, trivial⟩ ⟨⟨trivial, trivial, trivial, trivial⟩, trivial⟩ (pureL_map (f := uv) (fun _ => trivial) _)⟩
                rw [idsS_snoc]; exact take_app3
              · obtain rfl : k = n.toNat := by omega
                simp only [go_sem, hlt]
                refine awp_then ?_
                simp only [go_sem]
                refine awp_draw Tryd.mixed (by kernel_rfl) ?_
                simp only [go_sem]
                refine awp_frz (i := σ.length + 2) (g := n.toNat) (e := 1) (es := (idsS a n.toNat).map uv) (by simp only [go_sem]) ?_
                refine vcode_sound _ ?_
                simp only [go_sem, frzE, frz, frzL, idsS_length]
                rw [List.take_of_length_le (by simp [idsS]), Int.toNat_of_nonneg (by omega)]
                exact retOK_app hw (by simp only [go_sem]) ⟨rfl, rfl⟩
  · rw [if_neg (fun h => h1 h.1)]
    simp only [Bool.not_eq_true] at h1
    simp only [go_sem, h1]
    exact next_none rfl hw ⟨rfl, rfl⟩

theorem take_app4 {σ junk : Heap} {o o' o'' o3 : AObj} : List.take (σ.length + 4) (σ ++ (o :: o' :: o'' :: o3 :: junk)) = σ ++ [o, o', o'', o3] :=
  (congrArg (List.take _) (List.append_assoc σ [o, o', o'', o3] junk).symm).trans (List.take_left' (by simp))
theorem wfH_row4 {σ : Heap} {g e g' e' g'' e'' g3 e3 : Nat} {es es' es'' es3 : List AV} (hw : WfH σ.length σ) (hp : PureL es) (hp' : PureL es') (hp'' : PureL es'') (hp3 : PureL es3) : WfH (σ.length + 4) (σ ++ [.row g e es, .row g' e' es', .row g'' e'' es'', .row g3 e3 es3]) := wfH_app (l := [.row g e es, .row g' e' es', .row g'' e'' es'', .row g3 e3 es3]) hw fun o ho => by
  simp only [List.mem_cons, List.not_mem_nil, or_false] at ho
  rcases ho with rfl | rfl | rfl | rfl
  · exact AllIL.mono (fun _ h => h.elim) _ hp
  · exact AllIL.mono (fun _ h => h.elim) _ hp'
  · exact AllIL.mono (fun _ h => h.elim) _ hp''
  · exact AllIL.mono (fun _ h => h.elim) _ hp3

theorem rnext_c (a : Allo) (n : Int) (σ : Heap) : ACalls Tryd.prog 16 [a.av, iv n] σ (fun r σ' => r = .tup [uints (nextS a n).1, (nextS a n).2.1.av, iv (nextS a n).2.2] ∧ σ' = σ) := by
  refine acalls_awp Tryd.func16 rfl Tryd.call16 Tryd.ntmps16 Tryd.results16 (Nat.le_of_ble_eq_true rfl) fun hw => ?_
  refine awp_then ?_
  simp only [go_sem, Allo.av]
  refine awp_then ?_
  simp only [go_sem, Allo.av]
  refine callN_of (rnew_c _ _ _) ?_
  rintro r τ ⟨rfl, rfl⟩
  unfold nextS
  by_cases h1 : within a.node a.boot = true
  · have en : newS a.node a.boot = (⟨a.node, a.boot, 0⟩, 0) := if_pos h1
    rw [en]
    by_cases h2 : a.serial < 0
    · rw [if_neg (fun h => by omega)]
      simp only [go_sem, Allo.av, h1, eq_true h2]
      exact next_none rfl hw ⟨rfl, rfl⟩
    · by_cases h3 : 1099511627775 < a.serial
      · rw [if_neg (fun h => by omega)]
        simp only [go_sem, Allo.av, h1, h2, eq_true h3]
        exact next_none rfl hw ⟨rfl, rfl⟩
      · rw [if_pos ⟨h1, by omega, by omega⟩]
        simp only [go_sem, Allo.av, h1, h2, h3]
        refine awp_then ?_
        simp only [go_sem, Allo.av]
        by_cases h4 : n < 0
        · rw [if_pos (.inl h4)]
          simp only [go_sem, h1, h2, h3, eq_true h4]
          exact next_none rfl hw ⟨rfl, rfl⟩
        · by_cases h5 : 64 < n
          · rw [if_pos (.inr h5)]
            simp only [go_sem, h1, h2, h3, h4, eq_true h5]
            exact next_none rfl hw ⟨rfl, rfl⟩
          · rw [if_neg (by omega)]
            simp only [go_sem, h4, h5]
            refine awp_then ?_
            have e : IntKind.i64.wrap (a.serial + n) = a.serial + n := wrap_i64 (by omega) (by omega)
            by_cases h6 : 1099511627775 < a.serial + n
            · rw [if_pos h6]
              simp only [go_sem, h1, h2, h3, h4, h5, e, eq_true h6]
              exact next_none rfl hw ⟨rfl, rfl⟩
            · rw [if_neg h6]
              simp only [go_sem, h1, h2, h3, h4, h5, e, h6]
              refine awp_then ?_
              simp only [go_sem]
              refine awp_nil 9 1 (by simp only [go_sem]) ?_
              refine awp_then ?_
              simp only [go_sem]
              refine loop_junk (X := Nat) (fun k => [(1, ⟨true, iv n⟩), (2, ⟨true, .ptr σ.length 0 0 0⟩), (5, ⟨true, .ptr (σ.length + 1) 0 0 0⟩), (6, ⟨true, iv 0⟩), (9, ⟨true, .os (σ.length + 3) k 0 k⟩), (10, ⟨true, iv k⟩)])
                (fun k => σ ++ [.row 0 3 [.agg [iv a.node, iv a.boot, iv (a.serial + k)]], .row 0 3 [.agg [iv 0, iv 0, iv 0]], .row 0 3 [.agg [iv a.node, iv a.boot, iv 0]], .row k 1 ((idsS a k).map uv)]) (fun k => k ≤ n.toNat) (fun k => n.toNat - k) 0 (by omega) (by simp only [go_sem]; rfl) (by simp [idsS]) ?_
              intro k hk
              by_cases hlt : (k : Int) < n
              · have ew : IntKind.i64.wrap (a.serial + (k : Int) + 1) = a.serial + ((k : Int) + 1) := by rw [Int.add_assoc]; exact wrap_i64 (by omega) (by omega)
                have em : makeS a.node a.boot (a.serial + ((k : Int) + 1)) = (idOf a.node a.boot (a.serial + ((k : Int) + 1)), 0) := if_pos ⟨h1, by omega, by omega⟩
                simp only [go_sem, eq_true hlt, ew]
                refine callN_of (rmake_c _ _ _ _) ?_
                rintro r τ ⟨rfl, rfl⟩
                simp only [go_sem, em, idsS_length]
                refine ⟨⟨by omega, by omega⟩, k + 1, by omega, by omega, ⟨rfl, inc k (by omega)⟩, ?_, by omega, wfH_row4 hw ⟨⟨trivial, trivial, trivial, trivial⟩, trivial⟩ ⟨⟨trivial, trivial, trivial, trivial⟩, trivial⟩ ⟨⟨trivial, trivial, trivial, trivial⟩, trivial⟩ (pureL_map (f := uv) (fun _ => trivial) _)⟩
                rw [idsS_snoc]; exact take_app4
              · obtain rfl : k = n.toNat := by omega
                simp only [go_sem, hlt]
                refine awp_then ?_
                simp only [go_sem]
                refine awp_draw Tryd.mixed (by kernel_rfl) ?_
                simp only [go_sem]
                refine awp_frz (i := σ.length + 3) (g := n.toNat) (e := 1) (es := (idsS a n.toNat).map uv) (by simp only [go_sem]) ?_
                refine vcode_sound _ ?_
                simp only [go_sem, frzE, frz, frzL, idsS_length]
                rw [List.take_of_length_le (by simp [idsS]), Int.toNat_of_nonneg (by omega)]
                exact retOK_app hw (by simp only [go_sem]) ⟨rfl, rfl⟩
  · have en : newS a.node a.boot = (zeroA, 2) := if_neg h1
    rw [if_neg (fun h => h1 h.1), en]
    simp only [Bool.not_eq_true] at h1
    simp only [go_sem, Allo.av, zeroA, h1]
    exact next_none rfl hw ⟨rfl, rfl⟩
end Go.Proofs.YtbinpbjeeiedhaaDoor
