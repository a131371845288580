/-
  The laws: what they answer.
-/
import Derived.Test.YtkpdjbklnjjedaaJuJ
set_option linter.unusedVariables false
set_option linter.unusedSimpArgs false
set_option maxRecDepth 8000
set_option maxHeartbeats 4000000
namespace Go.Proofs.Ytkpdjbklnjjedaa
open Go.Ab Go.Ju Go

theorem iota_map_snoc (k : Nat) : (iota k).map iv ++ [iv k] = (iota (k + 1)).map iv := by rw [iota_succ, List.map_append]; rfl
theorem iota_map_take (k : Nat) : ((iota k).map iv).take k = (iota k).map iv := List.take_of_length_le (by simp [iota])

theorem wfH_row1 {σ : Heap} {g e : Nat} {es : List AV} (hw : WfH σ.length σ) (hp : PureL es) : WfH (σ.length + 1) (σ ++ [.row g e es]) := wfH_app (l := [.row g e es]) hw fun o ho => by
  rw [List.mem_singleton] at ho; subst ho; exact AllIL.mono (fun _ h => h.elim) _ hp

theorem accepts_c (L : List Int) (σ : Heap) (hL : L.length < 2^62) : ACalls Try.prog 4 [ints L] σ (fun r σ' => r = bv true ∧ σ' = σ) := by
  refine acalls_awp Try.func4 rfl Try.call4 Try.ntmps4 Try.results4 (Nat.le_of_ble_eq_true rfl) fun hw => ?_
  obtain ⟨hm, hlen⟩ := madeS_made L
  obtain ⟨a1, a2, o, a3, a4⟩ := made_all hm (by omega)
  refine awp_then ?_
  simp only [go_sem, ints]
  refine awp_then ?_
  simp only [go_sem]
  refine callN_of (sane_c _) ?_
  rintro r τ ⟨rfl, rfl⟩
  simp only [go_sem]
  refine awp_then ?_
  simp only [go_sem]
  refine callN_of (made_c L _ hL) ?_
  rintro r τ ⟨rfl, rfl⟩
  generalize madeS L = x at hm hlen a1 a2 a3 a4
  simp only [go_sem]
  refine awp_then ?_
  simp only [go_sem]
  refine awp_nil 4 1 (by simp only [go_sem]) ?_
  refine awp_then ?_
  simp only [go_sem, accs]
  refine loop_junk (X := Nat) (fun k => [(3, ⟨true, accs x⟩), (4, ⟨true, .os τ.length k 0 k⟩), (13, ⟨true, iv x.length⟩), (14, ⟨true, iv k⟩)]) (fun k => τ ++ [.row k 1 ((iota k).map iv)]) (fun k => k ≤ x.length) (fun k => x.length - k) 0 (by omega) (by simp only [go_sem, accs]; rfl) (by simp [iota]) ?_
  intro k hk
  by_cases hlt : k < x.length
  · simp only [go_sem, accs, hlt]
    refine ⟨by rw [iota_length]; omega, k + 1, by omega, by omega, ⟨rfl, inc k (by omega)⟩, ?_, by omega, wfH_row1 hw (pureL_map (f := iv) (fun _ => trivial) _)⟩
    rw [iota_map_take, iota_map_snoc]; exact take_app1
  · simp only [go_sem, accs, hlt]
    obtain rfl : k = x.length := by omega
    refine awp_frz (i := τ.length) (g := x.length) (e := 1) (es := (iota x.length).map iv) (by simp only [go_sem]) ?_
    refine vcode_sound _ ?_
    simp only [go_sem, frzE, frz, frzL, iota_length, iota_map_take, accs]
    refine callN_of (jorder_c x _ (by omega)) ?_
    rintro r τ' ⟨rfl, rfl⟩
    simp only [go_sem, a3, ints, accs]
    refine callN_of (jvalid_c x _ (by omega)) ?_
    rintro r τ' ⟨rfl, rfl⟩
    have hl2 : (iota x.length).length < 2^62 := by rw [iota_length]; omega
    have hl3 : o.length < 2^62 := by have := (exact_some (made_fits hm (by omega)) a3).2; omega
    simp only [go_sem, a1, ints, accs]
    refine callG_of (bv true) (fun _ => (jexplains_c x (iota x.length) _ (by omega) hl2).mono fun r τ h => by rw [a2] at h; exact h) ?_
    simp only [go_sem, ints, accs]
    refine callG_of (bv true) (fun _ => (jexplains_c x o _ (by omega) hl3).mono fun r τ h => by rw [a4] at h; exact h) ?_
    simp only [go_sem, ints, accs]
    exact retOK_app hw trivial ⟨rfl, rfl⟩

theorem take_app2 {σ junk : Heap} {o o' : AObj} : List.take (σ.length + 2) (σ ++ (o :: o' :: junk)) = σ ++ [o, o'] :=
  (congrArg (List.take _) (List.append_assoc σ [o, o'] junk).symm).trans (List.take_left' (by simp))
theorem wfH_row2 {σ : Heap} {g e g' e' : Nat} {es es' : List AV} (hw : WfH σ.length σ) (hp : PureL es) (hp' : PureL es') : WfH (σ.length + 2) (σ ++ [.row g e es, .row g' e' es']) := wfH_app (l := [.row g e es, .row g' e' es']) hw fun o ho => by
  simp only [List.mem_cons, List.not_mem_nil, or_false] at ho
  rcases ho with rfl | rfl
  · exact AllIL.mono (fun _ h => h.elim) _ hp
  · exact AllIL.mono (fun _ h => h.elim) _ hp'
theorem row_snoc1 {l : List Acc} {a : Acc} : (l ++ [a]).map Acc.av = List.take l.length (l.map Acc.av) ++ [a.av] := by
  rw [List.map_append, List.take_of_length_le (by simp)]; rfl

theorem len_add1 (n : Nat) : (n + 1 = n) = False := by simp

theorem parts_c (L : List Int) (p at_ : Int) (σ : Heap) (hL : L.length < 2^62) : ACalls Try.prog 6 [ints L, uv p, iv at_] σ (fun r σ' => r = bv true ∧ σ' = σ) := by
  refine acalls_awp Try.func6 rfl Try.call6 Try.ntmps6 Try.results6 (Nat.le_of_ble_eq_true rfl) fun hw => ?_
  obtain ⟨hm, hlen⟩ := madeS_made L
  refine awp_then ?_
  simp only [go_sem, ints]
  refine awp_then ?_
  simp only [go_sem]
  refine callN_of (sane_c _) ?_
  rintro r τ ⟨rfl, rfl⟩
  simp only [go_sem]
  refine awp_then ?_
  simp only [go_sem]
  refine callN_of (made_c L _ hL) ?_
  rintro r τ ⟨rfl, rfl⟩
  generalize madeS L = x at hm hlen
  obtain ⟨b1, b2, b3, b4, b5⟩ := parts_all hm hlen (modS at_ x.length) (IntKind.u64.wrap (1 + p.tmod 3))
  simp only [go_sem]
  refine awp_then ?_
  simp only [go_sem]
  refine awp_then ?_
  simp only [go_sem, accs]
  refine loop_junk (X := Nat) (fun k => [(1, ⟨true, uv p⟩), (2, ⟨true, iv at_⟩), (7, ⟨true, accs x⟩), (8, ⟨true, iv (countS x k)⟩), (23, ⟨true, accs x⟩), (24, ⟨true, iv x.length⟩), (25, ⟨true, iv k⟩)]) (fun k => τ) (fun k => k ≤ x.length) (fun k => x.length - k) 0 (by omega) (by simp only [go_sem, accs]; exact ⟨rfl, rfl⟩) rfl ?_
  intro k hk
  by_cases hlt : k < x.length
  · have hg := List.getElem?_eq_getElem hlt
    have hcnt : countS x k ≤ k := by
      clear hlt hg hk
      induction k with
      | zero => exact Nat.le_refl _
      | succ k ih => unfold countS; split <;> (try split) <;> omega
    have hc1 : countS x (k + 1) = if x[k].o = 1 ∧ x[k].m ≠ 0 then countS x k + 1 else countS x k := by rw [countS, hg]
    have fin : ∀ (v : Int) (junk : Heap), v = countS x (k + 1) → ∃ y, x.length - y < x.length - k ∧ y ≤ x.length ∧ (v = countS x y ∧ IntKind.i64.wrap (↑k + 1) = ↑y) ∧ List.take τ.length (τ ++ junk) = τ ∧ WfH τ.length τ := fun v junk hv => ⟨k + 1, by omega, by omega, ⟨hv, inc k (by omega)⟩, List.take_left, hw⟩
    have finN : ∀ (junk : Heap), countS x k = countS x (k + 1) → ∃ y, x.length - y < x.length - k ∧ y ≤ x.length ∧ (countS x k = countS x y ∧ IntKind.i64.wrap (↑k + 1) = ↑y) ∧ List.take τ.length (τ ++ junk) = τ ∧ WfH τ.length τ := fun junk hv => ⟨k + 1, by omega, by omega, ⟨hv, inc k (by omega)⟩, List.take_left, hw⟩
    by_cases ho : x[k].o = 1
    · by_cases h0 : x[k].m = 0
      · simp only [go_sem, accs, hlt, hg, Acc.av, ho, h0]
        exact finN _ (by rw [hc1, if_neg (fun h => h.2 h0)])
      · simp only [go_sem, accs, hlt, hg, Acc.av, ho, h0]
        exact fin _ _ (by rw [hc1, if_pos ⟨ho, h0⟩]; exact inc _ (by omega))
    · simp only [go_sem, accs, hlt, hg, Acc.av, ho]
      exact finN _ (by rw [hc1, if_neg (fun h => ho h.1)])
  · obtain rfl : k = x.length := by omega
    simp only [go_sem, accs, hlt]
    refine awp_then ?_
    simp only [go_sem, accs]
    refine callN_of (jlast_c x 1 _ (by omega)) ?_
    rintro r τ ⟨rfl, rfl⟩
    have hcnt : ∀ k, countS x k ≤ k := by
      intro k
      induction k with
      | zero => exact Nat.le_refl _
      | succ k ih => unfold countS; split <;> (try split) <;> omega
    have e1 : IntKind.i64.wrap ((countS x x.length : Int) + 1) = rLast x 1 := by
      rw [b1]; exact w64_id ⟨by omega, by have := hcnt x.length; omega⟩
    simp only [go_sem, accs, e1]
    refine awp_then ?_
    simp only [go_sem, accs]
    refine awp_nil 11 4 (by simp only [go_sem]) ?_
    refine awp_nil 12 4 (by simp only [go_sem]) ?_
    refine awp_then ?_
    simp only [go_sem, accs]
    generalize hcd : modS at_ x.length = c at b2 b4
    generalize hdd : IntKind.u64.wrap (1 + p.tmod 3) = d at b3 b5
    refine loop_junk (X := Nat) (fun k => [(1, ⟨true, uv p⟩), (2, ⟨true, iv at_⟩), (7, ⟨true, accs x⟩), (11, ⟨true, .os τ.length (lessS x c k).length 0 (lessS x c k).length⟩), (12, ⟨true, .os (τ.length + 1) (aloneS x d k).length 0 (aloneS x d k).length⟩), (45, ⟨true, accs x⟩), (46, ⟨true, iv x.length⟩), (47, ⟨true, iv k⟩)])
      (fun k => τ ++ [.row (lessS x c k).length 4 ((lessS x c k).map Acc.av), .row (aloneS x d k).length 4 ((aloneS x d k).map Acc.av)]) (fun k => k ≤ x.length) (fun k => x.length - k) 0 (by omega) (by simp only [go_sem, accs]; exact ⟨rfl, rfl, rfl⟩) rfl ?_
    intro k hk
    have hll := thin_len (less_thin x c k hk)
    have hal := thin_len (alone_thin x d k hk)
    rw [List.length_take] at hll hal
    have hx0 : x.length ≠ 0 → (x.length : Int) ≠ 0 := by omega
    by_cases hlt : k < x.length
    · have hg := List.getElem?_eq_getElem hlt
      have hl1 : lessS x c (k + 1) = if x[k].m ≠ 0 ∨ (k : Int) ≠ c then lessS x c k ++ [x[k]] else lessS x c k := by rw [lessS, hg]
      have ha1 : aloneS x d (k + 1) = if x[k].m ≠ 0 ∨ x[k].p ≠ d then aloneS x d k ++ [x[k]] else aloneS x d k := by rw [aloneS, hg]
      have fin : ∀ (l1 a1 : List Acc) (junk : Heap), lessS x c (k + 1) = l1 → aloneS x d (k + 1) = a1 → ∃ y, x.length - y < x.length - k ∧ y ≤ x.length ∧
          (AV.os τ.length l1.length 0 l1.length = AV.os τ.length (lessS x c y).length 0 (lessS x c y).length ∧ AV.os (τ.length + 1) a1.length 0 a1.length = AV.os (τ.length + 1) (aloneS x d y).length 0 (aloneS x d y).length ∧ IntKind.i64.wrap ((k : Int) + 1) = ↑y) ∧
          List.take (τ.length + 2) (τ ++ (.row l1.length 4 (l1.map Acc.av) :: .row a1.length 4 (a1.map Acc.av) :: junk)) = τ ++ [.row (lessS x c y).length 4 ((lessS x c y).map Acc.av), .row (aloneS x d y).length 4 ((aloneS x d y).map Acc.av)] ∧
          (τ.length < τ.length + 2 ∧ τ.length + 1 < τ.length + 2) ∧ WfH (τ.length + 2) (τ ++ [.row (lessS x c y).length 4 ((lessS x c y).map Acc.av), .row (aloneS x d y).length 4 ((aloneS x d y).map Acc.av)]) := by
        intro l1 a1 junk h1 h2
        subst h1; subst h2
        exact ⟨k + 1, by omega, by omega, ⟨rfl, rfl, inc k (by omega)⟩, take_app2, ⟨by omega, by omega⟩, wfH_row2 hw (pure_accs _) (pure_accs _)⟩
      by_cases h0 : x[k].m = 0
      · have h0' := eq_true h0
        simp only [go_sem, accs, hlt, hg, Acc.av, h0']
        refine callG_of (iv c) (fun _ => by rw [← hcd]; exact mod_c at_ x.length _ (hx0 (by omega))) ?_
        by_cases hkc : (k : Int) = c
        · have hkc' := eq_true hkc
          rw [if_neg (fun h => h.elim (fun h => h h0) (fun h => h hkc))] at hl1
          by_cases hpd : x[k].p = d
          · have hpd' := eq_true hpd
            rw [if_neg (fun h => h.elim (fun h => h h0) (fun h => h hpd))] at ha1
            simp only [go_sem, accs, hlt, hg, Acc.av, h0', hkc', hdd, hpd']
            exact ⟨by omega, fin _ _ _ hl1 ha1⟩
          · rw [if_pos (.inr hpd)] at ha1
            have := fin _ _ [.row 0 4 [x[k].av], .row 0 4 [x[k].av]] hl1 ha1
            simp only [row_snoc1, List.length_append, List.length_singleton] at this
            simp only [go_sem, accs, hlt, hg, Acc.av, h0', hkc', hdd, hpd]
            exact ⟨by omega, by omega, this⟩
        · rw [if_pos (.inr hkc)] at hl1
          by_cases hpd : x[k].p = d
          · have hpd' := eq_true hpd
            rw [if_neg (fun h => h.elim (fun h => h h0) (fun h => h hpd))] at ha1
            have := fin _ _ [.row 0 4 [x[k].av], .row 0 4 [x[k].av]] hl1 ha1
            simp only [row_snoc1, List.length_append, List.length_singleton] at this
            simp only [go_sem, accs, hlt, hg, Acc.av, h0', hkc, hdd, hpd']
            exact ⟨by omega, by omega, this⟩
          · rw [if_pos (.inr hpd)] at ha1
            have := fin _ _ [.row 0 4 [x[k].av], .row 0 4 [x[k].av], .row 0 4 [x[k].av]] hl1 ha1
            simp only [row_snoc1, List.length_append, List.length_singleton] at this
            simp only [go_sem, accs, hlt, hg, Acc.av, h0', hkc, hdd, hpd]
            exact ⟨by omega, by omega, by omega, this⟩
      · rw [if_pos (.inl h0)] at hl1 ha1
        simp only [go_sem, accs, hlt, hg, Acc.av, h0]
        refine callG_of (iv c) (fun h => by simp at h) ?_
        have := fin _ _ [.row 0 4 [x[k].av], .row 0 4 [x[k].av], .row 0 4 [x[k].av]] hl1 ha1
        simp only [row_snoc1, List.length_append, List.length_singleton] at this
        simp only [go_sem, accs, hlt, hg, Acc.av, h0, hdd]
        exact ⟨by omega, by omega, this⟩
    · obtain rfl : k = x.length := by omega
      simp only [go_sem, accs, hlt]
      generalize lessS x c x.length = less at b2 b4 hll
      generalize aloneS x d x.length = alone at b3 b5 hal
      refine awp_frz (i := τ.length) (g := less.length) (e := 4) (es := less.map Acc.av) (by simp only [go_sem]) ?_
      refine awp_frz (i := τ.length + 1) (g := alone.length) (e := 4) (es := alone.map Acc.av) (by simp only [go_sem]) ?_
      refine vcode_sound _ ?_
      have mt : ∀ l : List Ju.Acc, List.take l.length (l.map Acc.av) = l.map Acc.av := fun l => List.take_of_length_le (by simp)
      simp only [go_sem, frzE, frz, frzL, mt, accs, len_add1]
      refine callN_of (jorder_c less _ (by omega)) ?_
      rintro r τ' ⟨rfl, rfl⟩
      simp only [go_sem, b2, ints, accs]
      refine callN_of (jorder_c alone _ (by omega)) ?_
      rintro r τ' ⟨rfl, rfl⟩
      simp only [go_sem, b3, ints, accs]
      refine callG_of (bv true) (fun _ => (jvalid_c less _ (by omega)).mono fun r τ h => by rw [b4] at h; exact h) ?_
      simp only [go_sem, ints, accs]
      refine callG_of (bv true) (fun _ => (jvalid_c alone _ (by omega)).mono fun r τ h => by rw [b5] at h; exact h) ?_
      simp only [go_sem, ints, accs]
      exact retOK_app hw trivial ⟨rfl, rfl⟩
end Go.Proofs.Ytkpdjbklnjjedaa
