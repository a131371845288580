/-
  Contracts: Split, Valid, Format, Parse of the reference, of identifiers.
-/
import Derived.Test.YtbinpbjeeiedhaaDoorIdU
import Derived.Test.YtbinpbjeeiedhaaDoorIdP
set_option linter.unusedVariables false
set_option linter.unusedSimpArgs false
set_option maxRecDepth 8000
set_option maxHeartbeats 2000000
namespace Go.Proofs.YtbinpbjeeiedhaaDoor
open Go.Ab Go.Id Go.Wo Go

theorem size_len' (s : ByteArray) : s.data.toList.length = s.size := by rw [Array.length_toList]; rfl
theorem hsplit_c (id : Int) (σ : Heap) : ACalls Tryd.prog 38 [uv id] σ (fun r σ' => r = .tup [iv (nodeOf id), iv (bootOf id), iv (serOf id)] ∧ σ' = σ) := by
  refine acalls_go Tryd.func38 rfl Tryd.call38 Tryd.ntmps38 Tryd.results38 (Nat.le_of_ble_eq_true rfl) fun hw => ?_
  simp only [go_sem]
  exact retOK_same hw (by simp only [go_sem]) ⟨rfl, rfl⟩
theorem hvalid_c (id : Int) (σ : Heap) : ACalls Tryd.prog 41 [uv id] σ (fun r σ' => r = bv (decide ((makeS (nodeOf id) (bootOf id) (serOf id)).2 = 0)) ∧ σ' = σ) := by
  refine acalls_go Tryd.func41 rfl Tryd.call41 Tryd.ntmps41 Tryd.results41 (Nat.le_of_ble_eq_true rfl) fun hw => ?_
  simp only [go_sem]
  refine callN_of (hsplit_c id _) ?_
  rintro r τ ⟨rfl, rfl⟩
  simp only [go_sem]
  refine callN_of (rmake_c _ _ _ _) ?_
  rintro r τ' ⟨rfl, rfl⟩
  simp only [go_sem]
  exact retOK_same hw (by simp only [go_sem]) ⟨rfl, rfl⟩
theorem valid_same {id : Int} (h0 : 0 ≤ id) (h1 : id < 2^64) : validS id = decide ((makeS (nodeOf id) (bootOf id) (serOf id)).2 = 0) := by
  obtain ⟨i, rfl⟩ : ∃ i : Nat, id = i := ⟨id.toNat, by omega⟩
  have hi : i < 2^64 := by omega
  unfold validS
  by_cases hm : (makeS (nodeOf i) (bootOf i) (serOf i)).2 = 0
  · have hmk : within (nodeOf i) (bootOf i) = true ∧ 1 ≤ serOf i ∧ serOf i ≤ 1099511627775 := by
      unfold makeS at hm
      split at hm
      · assumption
      · simp at hm
    have hwn := hmk.1
    simp only [within, Bool.and_eq_true, decide_eq_true_eq] at hwn
    have hid : (makeS (nodeOf i) (bootOf i) (serOf i)).1 = (i : Int) := by
      rw [makeS, if_pos hmk]
      simp only
      rw [nodeOf_nat hi, bootOf_nat hi, serOf_nat hi]
      rw [nodeOf_nat hi] at hwn
      rw [idOf_nat (by omega) (by omega) (Nat.mod_lt _ (by decide))]
      have := Nat.div_add_mod i (2^40)
      have h2 := Nat.div_add_mod (i / 2^40) (2^16)
      have h3 : i / 2^40 / 2^16 = i / 2^56 := by rw [Nat.div_div_eq_div_mul]
      omega
    rw [hid, decide_eq_true hm, decide_eq_true rfl]
    rfl
  · rw [decide_eq_false hm]; rfl
theorem hformat_c (id : Int) (σ : Heap) : ACalls Tryd.prog 42 [uv id] σ (fun r σ' => r = sv (formatS id) ∧ σ' = σ) := by
  refine acalls_go Tryd.func42 rfl Tryd.call42 Tryd.ntmps42 Tryd.results42 (Nat.le_of_ble_eq_true rfl) fun hw => ?_
  simp only [go_sem]
  refine callN_of (hsplit_c id _) ?_
  rintro r τ ⟨rfl, rfl⟩
  have r1 : -9223372036854775808 ≤ nodeOf id ∧ nodeOf id ≤ 9223372036854775807 := wrap_i64_range _
  have r2 : -9223372036854775808 ≤ bootOf id ∧ bootOf id ≤ 9223372036854775807 := wrap_i64_range _
  have r3 : -9223372036854775808 ≤ serOf id ∧ serOf id ≤ 9223372036854775807 := wrap_i64_range _
  have l1 := Lib.itoa_length_le _ r1.1 r1.2
  have l2 := Lib.itoa_length_le _ r2.1 r2.2
  have l3 := Lib.itoa_length_le _ r3.1 r3.2
  simp only [go_sem]
  refine callN_of (rformat_c _ _ r1.1 r1.2) ?_
  rintro r τ' ⟨rfl, rfl⟩
  simp only [go_sem, bytes_app, List.size_toArray, List.length_append, List.length_singleton]
  refine ⟨by omega, ?_⟩
  refine callN_of (rformat_c _ _ r2.1 r2.2) ?_
  rintro r τ ⟨rfl, rfl⟩
  simp only [go_sem, bytes_app, List.size_toArray, List.length_append, List.length_singleton]
  refine ⟨by omega, by omega, ?_⟩
  refine callN_of (rformat_c _ _ r3.1 r3.2) ?_
  rintro r τ' ⟨rfl, rfl⟩
  simp only [go_sem, bytes_app, List.size_toArray, List.length_append, List.length_singleton]
  refine ⟨by omega, retOK_same hw (by simp only [go_sem]) ⟨?_, rfl⟩⟩
  unfold formatS
  simp [Lib.join, List.intercalate]

/-- the parts that ended among the first i bytes, and where the next begins -/
def dotP (l : Bytes) : Nat → List Bytes × Nat
  | 0 => ([], 0)
  | i + 1 => if (l[i]?.getD 0).toNat = 46 then ((dotP l i).1 ++ [(l.drop (dotP l i).2).take (i - (dotP l i).2)], i + 1) else dotP l i
theorem dotP_le (l : Bytes) (i : Nat) : (dotP l i).2 ≤ i ∧ (dotP l i).1.length ≤ i := by
  induction i with
  | zero => simp [dotP]
  | succ i ih =>
    unfold dotP
    split
    · simp only [List.length_append, List.length_singleton]; omega
    · omega
theorem dotP_cut (l : Bytes) : ∀ i, i ≤ l.length → cutD (l.take i) = (dotP l i).1 ++ [(l.take i).drop (dotP l i).2]
  | 0, _ => by simp [dotP, cutD]
  | i + 1, hi => by
    have ih := dotP_cut l i (by omega)
    have hle := (dotP_le l i).1
    have htk : l.take (i + 1) = l.take i ++ [l[i]?.getD 0] := by rw [List.take_add_one, List.getElem?_eq_getElem (by omega)]; rfl
    rw [dotP, htk]
    by_cases hc : (l[i]?.getD 0).toNat = 46
    · rw [if_pos hc, show l[i]?.getD 0 = 46 from UInt8.toNat_inj.1 hc, cutD_snoc_dot, ih]
      congr 1
      · congr 2
        rw [List.drop_take]
      · rw [List.drop_of_length_le (by rw [List.length_append, List.length_take, List.length_singleton]; omega)]
    · rw [if_neg hc, cutD_snoc _ (fun h => hc (by rw [h]; rfl)) _ _ _ ih]
      congr 2
      rw [List.drop_append_of_le_length (by rw [List.length_take]; omega)]

def bigS (a b c : Bytes) (k : Nat) : Bool := (decide (0 < k) && (decide ((numS a).2 ≠ 0) || decide (1099511627775 < (numS a).1))) || (decide (1 < k) && (decide ((numS b).2 ≠ 0) || decide (1099511627775 < (numS b).1))) || (decide (2 < k) && (decide ((numS c).2 ≠ 0) || decide (1099511627775 < (numS c).1)))

theorem hparse_c (s : ByteArray) (σ : Heap) (hs : s.size < 2^31) : ACalls Tryd.prog 40 [sw s] σ (fun r σ' => r = .tup [uv (parseS s.data.toList).1, iv (parseS s.data.toList).2] ∧ σ' = σ) := by
  refine acalls_awp Tryd.func40 rfl Tryd.call40 Tryd.ntmps40 Tryd.results40 (Nat.le_of_ble_eq_true rfl) fun hw => ?_
  generalize hres : parseS s.data.toList = res
  unfold parseS at hres
  have hsz := size_len' s
  refine awp_then ?_
  simp only [go_sem]
  refine awp_then ?_
  simp only [go_sem]
  refine awp_nil 4 1 (by simp only [go_sem]) ?_
  refine awp_then ?_
  simp only [go_sem]
  refine awp_then ?_
  simp only [go_sem]
  refine loop_junk (X := Nat × List Bytes × Nat × Nat) (fun x => [(0, ⟨true, sw s⟩), (4, ⟨true, .os σ.length x.2.2.2 0 x.2.1.length⟩), (5, ⟨true, iv x.2.2.1⟩), (6, ⟨true, iv x.1⟩)])
    (fun x => σ ++ [.row x.2.2.2 1 (x.2.1.map sv)]) (fun x => x.2.1.length ≤ x.1 ∧ x.2.2.1 ≤ x.1 ∧ ((x.1 ≤ s.size ∧ (x.2.1, x.2.2.1) = dotP s.data.toList x.1) ∨ (x.1 = s.size + 1 ∧ x.2.1 = cutD s.data.toList))) (fun x => s.size + 1 - x.1) (0, [], 0, 0) ⟨by simp, by simp, .inl ⟨by simp, rfl⟩⟩ (by simp only [go_sem]; simp) (by simp) ?_
  rintro ⟨i, parts, from_, g⟩ ⟨h1, h2, h3⟩
  simp only at h1 h2 h3
  by_cases hle : i ≤ s.size
  · obtain ⟨_, hdp⟩ : i ≤ s.size ∧ (parts, from_) = dotP s.data.toList i := by
      rcases h3 with h | ⟨h, _⟩
      · exact h
      · omega
    have hcut := dotP_cut s.data.toList i (by omega)
    rw [← hdp] at hcut
    simp only at hcut
    by_cases hlt : i < s.size
    · have hne : ¬ (i : Int) = (s.size : Int) := by omega
      obtain ⟨c, hc⟩ : ∃ c, s.data.toList[i]?.getD 0 = c := ⟨_, rfl⟩
      have hnx : dotP s.data.toList (i + 1) = if c.toNat = 46 then (parts ++ [(s.data.toList.drop from_).take (i - from_)], i + 1) else (parts, from_) := by rw [dotP, hc, ← hdp]
      by_cases h46 : c.toNat = 46
      · have h46' : (c.toNat : Int) = 46 := by omega
        rw [if_pos h46] at hnx
        simp only [go_sem, hle, hne, hlt, hc, eq_true h46', extract_sv]
        refine ⟨h2, ⟨by omega, by omega⟩, (i + 1, parts ++ [(s.data.toList.drop from_).take (i - from_)], i + 1, g + 1), by simp only; omega, ⟨by simp only [List.length_append, List.length_singleton]; omega, by simp only; omega, .inl ⟨by simp only; omega, hnx.symm⟩⟩, ⟨by simp only [List.length_append, List.length_singleton], inc i (by omega), inc i (by omega)⟩, ?_, by omega, wfH_row1 hw (pureL_map (f := sv) (fun _ => trivial) _)⟩
        rw [take_app1, List.map_append]; rfl
      · have h46' : ¬ (c.toNat : Int) = 46 := by omega
        rw [if_neg h46] at hnx
        simp only [go_sem, hle, hne, hlt, hc, h46']
        exact ⟨(i + 1, parts, from_, g), by simp only; omega, ⟨by simp only; omega, by simp only; omega, .inl ⟨by simp only; omega, hnx.symm⟩⟩, ⟨rfl, rfl, inc i (by omega)⟩, List.take_of_length_le (by simp), by omega, wfH_row1 hw (pureL_map (f := sv) (fun _ => trivial) _)⟩
    · obtain rfl : i = s.size := by omega
      rw [← hsz, List.take_length] at hcut
      have hlast : (s.data.toList.drop from_).take (s.size - from_) = s.data.toList.drop from_ := List.take_of_length_le (by rw [List.length_drop]; omega)
      simp only [go_sem, hle, extract_sv, hlast]
      refine ⟨h2, ⟨by omega, by omega⟩, (s.size + 1, cutD s.data.toList, s.size + 1, g + 1), by simp only; omega, ⟨by simp only [hcut, List.length_append, List.length_singleton]; omega, by simp only; omega, .inr ⟨rfl, rfl⟩⟩, ⟨by simp only [hcut, List.length_append, List.length_singleton], inc s.size (by omega), inc s.size (by omega)⟩, ?_, by omega, wfH_row1 hw (pureL_map (f := sv) (fun _ => trivial) _)⟩
      rw [take_app1]; simp only [hcut, List.map_append]; rfl
  · have hps : parts = cutD s.data.toList := by
      rcases h3 with ⟨h, _⟩ | ⟨_, h⟩
      · omega
      · exact h
    subst hps
    have hsub : ∀ x ∈ cutD s.data.toList, x.length ≤ 281474976710656 := by
      intro x hx
      have := cutD_len _ _ hx
      omega
    have hcl : (cutD s.data.toList).length ≤ 2^40 := by omega
    generalize cutD s.data.toList = ps at *
    simp only [go_sem, hle]
    refine awp_frz (i := σ.length) (g := g) (e := 1) (es := ps.map sv) (by simp only [go_sem]) ?_
    have e4 : List.take ps.length (ps.map sv) = ps.map sv := List.take_of_length_le (by simp)
    simp only [frzE, frz, frzL, go_sem, e4, Nat.le_refl]
    refine awp_then ?_
    by_cases h3 : ps.length = 3
    · obtain ⟨a, b, c, rfl⟩ : ∃ a b c, ps = [a, b, c] := by
        match ps, h3 with
        | [a, b, c], _ => exact ⟨a, b, c, rfl⟩
      simp only at hres
      simp only [go_sem, Int.cast_ofNat_Int, Int.reduceEq]
      refine awp_then ?_
      simp only [go_sem]
      refine awp_then ?_
      simp only [go_sem]
      refine awp_then ?_
      simp only [go_sem]
      have bad : (partBad a || partBad b || partBad c) = true → ∀ l : Heap, RetOK σ.length (.tup [uv 0, iv 5]) (σ ++ l) (fun r σ' => r = .tup [uv res.1, iv res.2] ∧ σ' = σ) := by
        intro h l
        rw [if_pos h] at hres
        subst hres
        exact retOK_app hw (by simp only [go_sem]) ⟨rfl, rfl⟩
      refine loop_go (X := Nat) (fun k => [(7, ⟨true, .ptr (σ.length + 1) 0 0 0⟩), (8, ⟨true, bv (bigS a b c k)⟩), (41, ⟨true, strsB [a, b, c]⟩), (42, ⟨true, iv 3⟩), (43, ⟨true, iv k⟩)]) (fun k => σ ++ [.dead g, .row 0 3 [arrS a b c k]])
        (fun k => k ≤ 3 ∧ (0 < k → partBad a = false) ∧ (1 < k → partBad b = false) ∧ (2 < k → partBad c = false)) (fun k => 3 - k) 0 ⟨by omega, by omega, by omega, by omega⟩ (by simp only [go_sem, strsB]; simp [bigS]) (by simp [arrS]) ?_
      rintro k ⟨hk, ha, hb, hc⟩
      rcases (show k = 0 ∨ k = 1 ∨ k = 2 ∨ k = 3 by omega) with rfl | rfl | rfl | rfl
      · have hla := hsub a (by simp)
        simp only [go_sem, strsB, arrS, Int.cast_ofNat_Int, Int.natCast_zero, Int.natCast_one, Int.reduceLT, Int.reduceToNat, Int.toNat_natCast, List.getElem?_cons_succ, List.getElem?_cons_zero, Nat.lt_irrefl]
        refine callN_of (rnumber_c a _ hla) ?_
        rintro r τ' ⟨rfl, rfl⟩
        by_cases h5 : (numS a).2 = 5
        · simp only [go_sem, eq_true h5]
          exact bad (by unfold partBad; rw [decide_eq_true h5]; simp) _
        · cases hx : partBad a with
          | true =>
            obtain ⟨hp, h45⟩ := part_neg h5 hx
            have h45' : ((a[0]?.getD 0).toNat : Int) = 45 := by omega
            simp only [go_sem, h5, List.size_toArray, hp, eq_true h45']
            exact bad (by rw [hx]; simp) _
          | false =>
            obtain ⟨_, hp, h45⟩ := part_zero hx
            have h45' : ¬ ((a[0]?.getD 0).toNat : Int) = 45 := by omega
            simp only [go_sem, h5, List.size_toArray, hp, h45', Int.reduceEq, Int.reduceLT, Int.reduceToNat, Nat.lt_irrefl]
            exact ⟨1, by omega, ⟨by omega, fun h => by omega, fun h => by omega⟩, ⟨by simp [bigS, Bool.or_assoc], rfl⟩, rfl⟩
      · have hlb := hsub b (by simp)
        simp only [go_sem, strsB, arrS, Int.cast_ofNat_Int, Int.natCast_zero, Int.natCast_one, Int.reduceLT, Int.reduceToNat, Int.toNat_natCast, List.getElem?_cons_succ, List.getElem?_cons_zero, Nat.lt_irrefl]
        refine callN_of (rnumber_c b _ hlb) ?_
        rintro r τ' ⟨rfl, rfl⟩
        by_cases h5 : (numS b).2 = 5
        · simp only [go_sem, eq_true h5]
          exact bad (by unfold partBad; rw [decide_eq_true h5]; simp) _
        · cases hx : partBad b with
          | true =>
            obtain ⟨hp, h45⟩ := part_neg h5 hx
            have h45' : ((b[0]?.getD 0).toNat : Int) = 45 := by omega
            simp only [go_sem, h5, List.size_toArray, hp, eq_true h45']
            exact bad (by rw [hx]; simp) _
          | false =>
            obtain ⟨_, hp, h45⟩ := part_zero hx
            have h45' : ¬ ((b[0]?.getD 0).toNat : Int) = 45 := by omega
            simp only [go_sem, h5, List.size_toArray, hp, h45', Int.reduceEq, Int.reduceLT, Int.reduceToNat, Nat.lt_irrefl]
            exact ⟨by decide, 2, by omega, ⟨by omega, fun _ => ha (by omega), fun h => by omega⟩, ⟨by simp [bigS, Bool.or_assoc], rfl⟩, rfl⟩
      · have hlc := hsub c (by simp)
        simp only [go_sem, strsB, arrS, Int.cast_ofNat_Int, Int.natCast_zero, Int.natCast_one, Int.reduceLT, Int.reduceToNat, Int.toNat_natCast, List.getElem?_cons_succ, List.getElem?_cons_zero, Nat.lt_irrefl]
        refine callN_of (rnumber_c c _ hlc) ?_
        rintro r τ' ⟨rfl, rfl⟩
        by_cases h5 : (numS c).2 = 5
        · simp only [go_sem, eq_true h5]
          exact bad (by unfold partBad; rw [decide_eq_true h5]; simp) _
        · cases hx : partBad c with
          | true =>
            obtain ⟨hp, h45⟩ := part_neg h5 hx
            have h45' : ((c[0]?.getD 0).toNat : Int) = 45 := by omega
            simp only [go_sem, h5, List.size_toArray, hp, eq_true h45']
            exact bad (by rw [hx]; simp) _
          | false =>
            obtain ⟨_, hp, h45⟩ := part_zero hx
            have h45' : ¬ ((c[0]?.getD 0).toNat : Int) = 45 := by omega
            simp only [go_sem, h5, List.size_toArray, hp, h45', Int.reduceEq, Int.reduceLT, Int.reduceToNat, Nat.lt_irrefl]
            exact ⟨by decide, 3, by omega, ⟨by omega, fun _ => ha (by omega), fun _ => hb (by omega)⟩, ⟨by simp [bigS, Bool.or_assoc], rfl⟩, rfl⟩
      · have hba := ha (by omega)
        have hbb := hb (by omega)
        have hbc := hc (by omega)
        rw [if_neg (by rw [hba, hbb, hbc]; simp)] at hres
        simp only [go_sem, strsB, arrS, Int.cast_ofNat_Int, Int.reduceLT]
        refine vcode_sound _ ?_
        simp only [go_sem, arrS, Int.reduceLT, Int.reduceToNat]
        by_cases hB : bigS a b c 3 = true
        · rw [if_pos hB]
          have hr2 : res = (0, 2) := by
            rw [← hres]
            split
            · rename_i h0
              rw [makeS, if_neg]
              rintro ⟨hwi, hc1, hc2⟩
              simp only [within, Bool.and_eq_true, decide_eq_true_eq] at hwi
              simp [bigS, h0.1, h0.2.1, h0.2.2] at hB
              omega
            · rfl
          subst hr2
          exact retOK_app hw (by simp only [go_sem]) ⟨rfl, rfl⟩
        · rw [if_neg hB]
          have h0 : (numS a).2 = 0 ∧ (numS b).2 = 0 ∧ (numS c).2 = 0 := by
            simp [bigS] at hB
            exact ⟨hB.1.1.1, hB.1.2.1, hB.2.1⟩
          rw [if_pos h0] at hres
          refine ⟨by decide, by decide, ?_⟩
          refine callN_of (rmake_c _ _ _ _) ?_
          rw [hres]
          rintro r τ' ⟨rfl, rfl⟩
          simp only [go_sem]
          exact retOK_app hw (by simp only [go_sem]) ⟨rfl, rfl⟩
    · have h3' : ¬ (ps.length : Int) = 3 := by omega
      have : res = (0, 5) := by
        rw [← hres]
        match ps, h3 with
        | [], _ => rfl
        | [_], _ => rfl
        | [_, _], _ => rfl
        | [_, _, _], h => exact absurd rfl h
        | _ :: _ :: _ :: _ :: _, _ => rfl
      subst this
      simp only [go_sem, h3']
      exact retOK_app hw (by simp only [go_sem]) ⟨rfl, rfl⟩
end Go.Proofs.YtbinpbjeeiedhaaDoor
