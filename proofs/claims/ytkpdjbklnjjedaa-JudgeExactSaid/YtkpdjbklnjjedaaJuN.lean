/-
  The law JudgeExact: what it answers.
-/
import Derived.Test.YtkpdjbklnjjedaaJuM
set_option linter.unusedVariables false
set_option linter.unusedSimpArgs false
set_option maxRecDepth 8000
set_option maxHeartbeats 4000000
namespace Go.Proofs.Ytkpdjbklnjjedaa
open Go.Ab Go.Ju Go

/-- the state of the loop that makes another order -/
structure ExS where
  k : Nat
  p : Nat
  σ : Heap
  i : Nat
  g : Nat
  q : List Int
structure ExOK (L : List Int) (τ : Heap) (n : Nat) (s : ExS) : Prop where
  k : s.k ≤ n
  p : s.p ≤ L.length
  len : s.q.length = s.k
  i : s.σ[s.i]? = some (.row s.g 1 (s.q.map iv))
  d : s.σ[τ.length]? = some (.row 0 2 [deck L s.p])
  ne : τ.length < s.i
  take : s.σ.take τ.length = τ
  wf : WfH s.σ.length s.σ

theorem exact_c (L : List Int) (what at_ turn : Int) (σ : Heap) (hL : L.length < 2^62) : ACalls Try.prog 5 [ints L, iv what, iv at_, iv turn] σ (fun r σ' => r = bv true ∧ σ' = σ) := by
  refine acalls_awp Try.func5 rfl Try.call5 Try.ntmps5 Try.results5 (Nat.le_of_ble_eq_true rfl) fun hw => ?_
  obtain ⟨hm, hlen⟩ := madeS_made L
  refine awp_then ?_
  simp only [go_sem, ints]
  refine awp_then ?_
  simp only [go_sem]
  refine callN_of (sane_c _) ?_
  rintro r τ ⟨rfl, rfl⟩
  simp only [go_sem]
  refine awp_then ?_
  simp only [go_sem]
  refine callN_of (made_c L _ hL) ?_
  rintro r τ ⟨rfl, rfl⟩
  have hfx := made_fits hm (by omega)
  generalize madeS L = x0 at hm hlen hfx
  simp only [go_sem, accs]
  refine callN_of (bad_c x0 what at_ _ (by omega)) ?_
  rintro r τ ⟨x, hx1, hx2, rfl, rfl⟩
  have hf := hx2 hfx
  have hxl : x.length ≤ 15 := by omega
  clear hx1 hx2 hfx hm hlen
  simp only [go_sem, accs]
  refine awp_then ?_
  simp only [go_sem, accs]
  refine callN_of (jorder_c x _ (by omega)) ?_
  rintro r τ ⟨rfl, rfl⟩
  simp only [go_sem, ints]
  refine awp_then ?_
  simp only [go_sem, accs]
  refine callN_of (new_c L _) ?_
  rintro r σ1 ⟨rfl, rfl⟩
  simp only [go_sem, ints]
  refine awp_then ?_
  simp only [go_sem, accs]
  refine awp_nil 13 1 (by simp only [go_sem]) ?_
  refine awp_then ?_
  simp only [go_sem, accs]
  generalize hq : (jOrder x).getD [] = o
  refine loop_junk (X := ExS) (fun s => [(3, ⟨true, iv turn⟩), (9, ⟨true, accs x⟩), (10, ⟨true, ints o⟩), (11, ⟨true, bv (jOrder x).isSome⟩), (12, ⟨true, .ptr τ.length 0 0 0⟩), (13, ⟨true, .os s.i s.g 0 s.k⟩), (35, ⟨true, iv x.length⟩), (36, ⟨true, iv s.k⟩)]) (fun s => s.σ) (ExOK L τ x.length) (fun s => x.length - s.k)
    ⟨0, 0, τ ++ [.row 0 2 [deck L 0], .row 0 1 []], τ.length + 1, 0, []⟩ ⟨by simp, by simp, rfl, by simp only [go_sem], by simp only [go_sem], by simp, List.take_left, by simpa using wfH_row2 (g := 0) (e := 2) (g' := 0) (e' := 1) (es := [deck L 0]) (es' := []) hw ⟨pure_deck L 0, trivial⟩ trivial⟩ (by simp only [go_sem, ints, accs]; rfl) rfl ?_
  rintro ⟨k, p, σ', i, g, q⟩ ⟨h1, h2, h3, h4, h5, h6, h7, h8⟩
  simp only at h1 h2 h3 h4 h5 h6 h7 h8
  by_cases hlt : k < x.length
  · have hk1 := inc k (by omega)
    simp only [go_sem, ints, accs, hlt, hk1]
    refine callN_of (dnext_c L ((k + 1 : Nat) : Int) p τ.length 0 σ' hL (by omega) h2 h5) ?_
    rintro r σ2 ⟨rfl, rfl⟩
    obtain ⟨c, hc, hck⟩ : ∃ c : Nat, dNum L p ((k + 1 : Nat) : Int) = c ∧ c ≤ k := by
      have := dNum_bound (L := L) (k := p) (n := ((k + 1 : Nat) : Int)) (by omega) (by omega)
      exact ⟨(dNum L p ((k + 1 : Nat) : Int)).toNat, by omega, by omega⟩
    simp only [go_sem, hc]
    have g1 : (σ'.set τ.length (.row 0 2 [deck L (dAt L p)]))[i]? = some (.row g 1 (q.map iv)) := by rw [List.getElem?_set_ne (by omega)]; exact h4
    have g2 : (σ'.set τ.length (.row 0 2 [deck L (dAt L p)]))[τ.length]? = some (.row 0 2 [deck L (dAt L p)]) := List.getElem?_set_self (List.getElem?_eq_some_iff.1 h5).1
    have g3 : (σ'.set τ.length (.row 0 2 [deck L (dAt L p)])).take τ.length = τ := by rw [List.take_set_of_le (Nat.le_refl _)]; exact h7
    have g4 : WfH (σ'.set τ.length (.row 0 2 [deck L (dAt L p)])).length (σ'.set τ.length (.row 0 2 [deck L (dAt L p)])) := by
      rw [List.length_set]; exact wfH_set h8 ⟨Pure.allI (pure_deck L _), trivial⟩
    generalize hl0 : σ'.set τ.length (.row 0 2 [deck L (dAt L p)]) = σ3 at g1 g2 g3 g4
    have g5 : ∀ l : Heap, (σ3 ++ l)[i]? = some (.row g 1 (q.map iv)) := fun l => by rw [List.getElem?_append_left (List.getElem?_eq_some_iff.1 g1).1]; exact g1
    have hil := (List.getElem?_eq_some_iff.1 g1).1
    have g6 : ∀ k, (σ3.length + k = i) = False := fun k => by simp; omega
    have g7 : (σ3.length = i) = False := by simp; omega
    have hck' : (c : Int) ≤ k := by omega
    have ht1 : (List.take c (q.map iv)).length = c := by simp; omega
    have hz1 : ((c : Int) - 0).toNat = c := by omega
    have hz2 : ((k : Int) - (c : Int)).toNat = k - c := by omega
    have ht2 : (List.take (k - c) (List.drop c (q.map iv))).length = k - c := by simp; omega
    have hrow : List.take (c + 1) (List.take c (List.take c (q.map iv)) ++ [iv k]) ++ List.take (k - c) (List.drop c (q.map iv)) = (q.take c ++ (k : Int) :: q.drop c).map iv := by
      rw [List.take_take, Nat.min_self, List.take_of_length_le (l := List.take c (q.map iv) ++ [iv k]) (by simp; omega), List.take_of_length_le (l := List.drop c (q.map iv)) (by simp; omega)]
      simp
    refine awp_draw Try.mixed (by kernel_rfl) ?_
    simp only [go_sem, g5, g6, g7, h3, hck, hck', ht1, hz1, hz2, ht2, hrow]
    refine ⟨by omega, by omega, ⟨by omega, by simp; omega, by omega, by omega⟩, ⟨k + 1, dAt L p, σ3 ++ [.row 3 1 ((q.take c ++ (k : Int) :: q.drop c).map iv)], σ3.length, 3, q.take c ++ (k : Int) :: q.drop c⟩, ⟨by simp only; omega, by rw [← hl0]; simp⟩, ⟨by simp only; omega, dAt_le h2, by simp; omega, by simp only [go_sem], by rw [List.getElem?_append_left (List.getElem?_eq_some_iff.1 g2).1]; exact g2, by simp only; omega, ?_, ?_⟩, ⟨by show AV.os _ 3 0 _ = AV.os _ 3 0 (k + 1); congr 1; omega, hk1⟩, ?_, ⟨by simp; omega, by simp⟩, ?_⟩
    · rw [List.take_append_of_le_length (by omega)]; exact g3
    · have := wfH_row1 (g := 3) (e := 1) g4 (pure_ints (q.take c ++ (k : Int) :: q.drop c))
      simpa using this
    · have := take_app1 (σ := σ3) (o := .row 3 1 ((q.take c ++ (k : Int) :: q.drop c).map iv)) (junk := [.hole, .row 0 1 [iv k], .hole, .hole])
      simpa using this
    · have := wfH_row1 (g := 3) (e := 1) g4 (pure_ints (q.take c ++ (k : Int) :: q.drop c))
      simpa using this
  · obtain rfl : k = x.length := by omega
    simp only [go_sem, hlt]
    have hret : ∀ l : Heap, (List.take τ.length l = τ) → RetOK τ.length (bv true) l (fun r σ' => r = bv true ∧ σ' = τ) := fun l hl => retOK_take τ.length (Nat.le_refl _) trivial (by rw [hl]; exact hw) ⟨rfl, hl⟩
    have hτ : ∀ l : Heap, List.take τ.length (σ' ++ l) = τ := fun l => by
      rw [List.take_append_of_le_length]
      · exact h7
      · have := (List.getElem?_eq_some_iff.1 h5).1; omega
    cases hj : jOrder x with
    | none =>
      have ho : o = [] := by rw [← hq, hj]; rfl
      subst ho
      refine awp_frz (i := i) (g := g) (e := 1) (es := q.map iv) h4 ?_
      refine awp_then ?_
      have hne : (τ.length = i) = False := by simp; omega
      have mt : List.take x.length (q.map iv) = q.map iv := List.take_of_length_le (by simp; omega)
      have h00 : ((0 : Nat) : Int) = 0 := rfl
      simp only [go_sem, frzE, frz, frzL, hne, mt, h3, ints, accs, h00]
      refine callG_of (bv false) (fun _ => (jexplains_c x q _ (by omega) (by omega)).mono fun r τ h => by rw [exact_none hf hj] at h; exact h) ?_
      simp only [go_sem]
      exact hret _ (by rw [List.take_set_of_le (by omega)]; exact h7)
    | some o' =>
      have ho : o = o' := by rw [← hq, hj]; rfl
      subst ho
      obtain ⟨hx1, hx2⟩ := exact_some hf hj
      refine awp_then ?_
      simp only [go_sem, ints, accs]
      refine awp_then ?_
      simp only [go_sem, ints, accs]
      refine callN_of (jexplains_c x o _ (by omega) (by omega)) ?_
      rintro r σ2 ⟨rfl, rfl⟩
      simp only [go_sem, hx1, hx2]
      refine awp_then ?_
      by_cases h2' : (x.length : Int) < 2
      · simp only [go_sem, ints, accs, hx2, h2']
        exact hret _ h7
      simp only [go_sem, ints, accs, hx2, h2']
      refine awp_then ?_
      have h1' : IntKind.i64.wrap ((x.length : Int) - 1) = ((x.length - 1 : Nat) : Int) := by rw [wrap_i64 (by omega) (by omega)]; omega
      simp only [go_sem, ints, accs, hx2, h1']
      refine callN_of (mod_c turn ((x.length - 1 : Nat) : Int) _ (by omega)) ?_
      rintro r σ3 ⟨rfl, rfl⟩
      obtain ⟨kk, hkk, hkl⟩ := mod_nat turn (n := x.length - 1) (by omega) (by omega)
      obtain ⟨xx, yy, a, b, q1, q2, q3, q4, q5⟩ := exact_swap hf hj (k := kk) (by omega)
      have b1 : kk < x.length := by omega
      have b2 : kk + 1 < x.length := by omega
      have b3 := (List.getElem?_eq_some_iff.1 q3).1
      have b4 := (List.getElem?_eq_some_iff.1 q4).1
      have e1 : IntKind.i64.wrap ((kk : Int) + 1) = ((kk + 1 : Nat) : Int) := inc kk (by omega)
      simp only [go_sem, hkk]
      refine awp_then ?_
      simp only [go_sem]
      refine awp_draw Try.mixed (by kernel_rfl) ?_
      simp only [go_sem, ints, accs, hx2, e1, q1, q2, q3, q4, b1, b2, b3, b4, Acc.av]
      refine awp_then ?_
      simp only [go_sem, ints, accs, hx2]
      refine ⟨by omega, awp_then ?_⟩
      simp only [go_sem]
      refine awp_draw Try.mixed (by kernel_rfl) ?_
      have r1 : (o.map iv).length = x.length := by simp [hx2]
      have r2 : ∀ v, ((o.map iv).set kk v).length = x.length := fun v => by simp [hx2]
      have r3 : ∀ v, ((o.map iv).set kk v)[kk + 1]? = some (iv yy) := fun v => by rw [List.getElem?_set_ne (by omega), List.getElem?_map, q2]; rfl
      simp only [go_sem, ints, accs, hx2, e1, q1, q2, b1, b2, r1, r2, r3]
      have hsw : ((o.map iv).set kk (iv yy)).set (kk + 1) (iv xx) = (swapS o kk).map iv := by
        unfold swapS
        rw [List.map_set, List.map_set, List.getD_eq_getElem?_getD, List.getD_eq_getElem?_getD, q1, q2]; rfl
      have hsl : (swapS o kk).length = x.length := by simp [swapS, hx2]
      rw [hsw]
      generalize swapS o kk = sw at hsw hsl q5
      have hex : ∀ (σx : Heap) (v : Bool), σx[σ3.length + 2]? = some (.row 1 1 (sw.map iv)) → jExplains x sw = v → ACalls Try.prog 15 [.sl 4 (x.map Acc.av), .os (σ3.length + 2) 1 0 x.length] σx (fun r σ' => r = bv v ∧ σ' = σx) := by
        intro σx v hx hv
        have h1 := lend_os (τ := σx) (i := σ3.length + 2) (g := 1) (e := 1) (es := sw.map iv) (pre := [accs x]) (post := []) hx ⟨pure_accs x, trivial⟩ trivial (pure_ints sw)
        rw [List.length_map, hsl] at h1
        refine acalls_lend h1 ((jexplains_c x sw [] (by omega) (by omega)).mono fun r τ h => ?_)
        obtain ⟨rfl, _⟩ := h
        exact ⟨rfl, by rw [hv], rfl⟩
      by_cases hp : a.p = b.p
      · have hp' := eq_true hp
        have h5 : jExplains x sw = false := by rw [q5]; simp [hp]
        refine awp_then ?_
        simp only [go_sem, hp']
        refine vcode_sound _ ?_
        simp only [go_sem]
        refine callN_of (hex _ false (by simp only [go_sem]) h5) ?_
        rintro r σ4 ⟨rfl, rfl⟩
        simp only [go_sem]
        exact hret _ (hτ _)
      by_cases ho : a.o = b.o
      · have ho' := eq_true ho
        by_cases hma : a.m = 0
        · have hma' := eq_true hma
          by_cases hmb : b.m = 0
          · have hmb' := eq_true hmb
            have h5 : jExplains x sw = true := by rw [q5]; simp [hp, hma, hmb]
            refine awp_then ?_
            simp only [go_sem, hp, ho', hma', hmb']
            refine callN_of (hex _ true (by simp only [go_sem]) h5) ?_
            rintro r σ4 ⟨rfl, rfl⟩
            simp only [go_sem]
            exact hret _ (hτ _)
          · have h5 : jExplains x sw = false := by rw [q5]; simp [hp, ho, hma, hmb]
            refine awp_then ?_
            simp only [go_sem, hp, ho', hma', hmb]
            refine vcode_sound _ ?_
            simp only [go_sem]
            refine callN_of (hex _ false (by simp only [go_sem]) h5) ?_
            rintro r σ4 ⟨rfl, rfl⟩
            simp only [go_sem]
            exact hret _ (hτ _)
        · have h5 : jExplains x sw = false := by rw [q5]; simp [hp, ho, hma]
          refine awp_then ?_
          simp only [go_sem, hp, ho', hma]
          refine vcode_sound _ ?_
          simp only [go_sem]
          refine callN_of (hex _ false (by simp only [go_sem]) h5) ?_
          rintro r σ4 ⟨rfl, rfl⟩
          simp only [go_sem]
          exact hret _ (hτ _)
      · have h5 : jExplains x sw = true := by rw [q5]; simp [hp, ho]
        refine awp_then ?_
        simp only [go_sem, hp, ho]
        refine callN_of (hex _ true (by simp only [go_sem]) h5) ?_
        rintro r σ4 ⟨rfl, rfl⟩
        simp only [go_sem]
        exact hret _ (hτ _)
end Go.Proofs.Ytkpdjbklnjjedaa
