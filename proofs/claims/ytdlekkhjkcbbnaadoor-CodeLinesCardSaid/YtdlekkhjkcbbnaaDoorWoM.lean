/-
  Contracts: ParseInt of the library, Number of the program and of the reference, Format of the reference.
  Contracts: Number and Format of the reference.
-/
import Derived.Test.YtdlekkhjkcbbnaaDoorAbY
import Derived.Test.YtdlekkhjkcbbnaaDoorWoK
import Derived.Test.YtdlekkhjkcbbnaaDoorWoD
import Derived.Test.YtdlekkhjkcbbnaaDoorWoT
import Derived.Test.YtdlekkhjkcbbnaaDoorCoId
set_option linter.unusedVariables false
set_option linter.unusedSimpArgs false
set_option maxRecDepth 8000
set_option maxHeartbeats 2000000
namespace Go.Proofs.YtdlekkhjkcbbnaaDoor
open Go.Ab Go.Id Go.Wo Go

theorem parseInt_ok_c (s : Bytes) (v : Int) (σ : Heap) (hs : s.length ≤ 281474976710656) (h : Lib.parseIntB 64 s = .ok v) :
    ACalls Tryd.prog 64 [sv s, iv 10, iv 64] σ (fun r σ' => r = .tup [iv v, .v .nilIface] ∧ σ' = σ) := by
  refine acalls_calls Tryd.call64 ?_
  rintro vs w ρ hh ⟨y, ys, rfl, hy, z, zs, rfl, hz, z2, zs2, rfl, hz2, rfl⟩
  simp only [Rep] at hy hz hz2
  subst hy; subst hz; subst hz2
  refine (Tryd.strconv_ParseInt_10_at64_ok ⟨s.toArray⟩ (by show s.toArray.size ≤ _; simp; omega) v h w).mono ?_
  rintro e w' ⟨rfl, hw⟩
  refine ⟨_, rfl, ?_, fun _ => ⟨_, rfl, _, _, rfl, rfl, _, _, rfl, rfl, rfl⟩⟩
  rcases hw with rfl | ⟨t, rfl⟩
  · exact Old.refl _
  · exact Old.of_below (Lib.bytesWorld_below _ _ _)

theorem parseInt_range_c (s : Bytes) (σ : Heap) (hs : s.length ≤ 281474976710656) (h : Lib.parseIntB 64 s = .range) :
    ACalls Tryd.prog 64 [sv s, iv 10, iv 64] σ (fun r σ' => r = .tup [iv (Lib.intSat 64 s), .ifc 139 .any] ∧ σ' = σ) := by
  refine acalls_calls Tryd.call64 ?_
  rintro vs w ρ hh ⟨y, ys, rfl, hy, z, zs, rfl, hz, z2, zs2, rfl, hz2, rfl⟩
  simp only [Rep] at hy hz hz2
  subst hy; subst hz; subst hz2
  obtain ⟨tp, p, hv⟩ := glob_err hh
  refine (Tryd.strconv_ParseInt_10_at64_range_var ⟨s.toArray⟩ (by show s.toArray.size ≤ _; simp; omega) h tp p w hv).mono ?_
  rintro e w' ⟨N, rfl, hN, _, hb⟩
  exact ⟨_, rfl, Old.of_below hb, fun _ => ⟨_, rfl, _, _, rfl, rfl, _, _, rfl, ⟨_, rfl, trivial⟩, rfl⟩⟩

theorem trim_digs (s : Bytes) : Lib.trimPrefix s [45] = digsS s := by
  unfold Lib.trimPrefix Lib.hasPrefix digsS negS
  cases s with
  | nil => rfl
  | cons c r =>
    by_cases h : c.toNat = 45
    · obtain rfl : c = 45 := UInt8.toNat_inj.1 h
      simp [List.isPrefixOf]
    · have h' : ¬ (45 : UInt8) = c := fun e => h (by rw [← e]; rfl)
      simp [List.isPrefixOf, h, h']
theorem trim_B (s : Bytes) (σ : Heap) : ACalls Tryd.prog 63 [sv s, .v (.string ⟨#[45]⟩)] σ (fun r σ' => r = sv (digsS s) ∧ σ' = σ) := by
  have := trim_c ⟨s.toArray⟩ ⟨#[45]⟩ σ
  simp only [List.toList_toArray] at this
  rw [trim_digs] at this
  exact this
theorem digs_len (s : Bytes) : ((digsS s).length < s.length) = (negS s = true) := by
  unfold digsS
  by_cases h : negS s = true
  · rw [if_pos h]
    apply propext
    refine ⟨fun _ => h, fun _ => ?_⟩
    cases s with
    | nil => simp [negS] at h
    | cons c r => simp
  · rw [if_neg h]
    exact propext ⟨fun h' => by omega, fun h' => absurd h' h⟩
theorem sv_nil (d : Bytes) : (ByteArray.mk d.toArray = ByteArray.mk #[]) = (d = []) := by
  apply propext
  refine ⟨fun h => ?_, fun h => by rw [h]⟩
  have := congrArg (fun b => b.data.toList) h
  simpa using this

theorem number_c (s : Bytes) (σ : Heap) (hs : s.length ≤ 281474976710656) : ACalls Tryd.prog 51 [sv s] σ (fun r σ' => r = .tup [iv (numS s).1, iv (numS s).2] ∧ σ' = σ) := by
  refine acalls_awp Tryd.func51 rfl Tryd.call51 Tryd.ntmps51 Tryd.results51 (Nat.le_of_ble_eq_true rfl) fun hw => ?_
  generalize hres : numS s = res
  unfold numS at hres
  have hdl := digs_len s
  have hbd : badS s = (decide (digsS s = []) || (decide (((digsS s)[0]?.map (·.toNat)) = some 48) && (decide (1 < (digsS s).length) || negS s)) || !(digsS s).all digB) := rfl
  have hpi : badS s = false → Lib.parseIntB 64 s = _ := parseIntB_digits s
  have hlen : (digsS s).length ≤ s.length := by unfold digsS; split <;> simp
  refine awp_then ?_
  simp only [go_sem]
  refine awp_then ?_
  simp only [go_sem]
  refine callN_of (trim_B s _) ?_
  rintro x τ ⟨rfl, rfl⟩
  generalize digsS s = d at *
  generalize hneg : negS s = neg at *
  have bad : badS s = true → RetOK τ.length (.tup [iv 0, iv 5]) τ (fun r σ' => r = .tup [iv res.1, iv res.2] ∧ σ' = τ) := by
    intro h
    rw [if_pos h] at hres
    subst hres
    exact retOK_same hw (by simp only [go_sem]) ⟨rfl, rfl⟩
  simp only [go_sem]
  refine awp_then ?_
  simp only [go_sem, List.size_toArray]
  refine awp_then ?_
  by_cases hd : d = []
  · have hd' : (ByteArray.mk d.toArray = ByteArray.mk #[]) := by rw [hd]
    simp only [go_sem, eq_true hd']
    exact bad (by rw [hbd, decide_eq_true hd]; rfl)
  · have hd' : ¬ (ByteArray.mk d.toArray = ByteArray.mk #[]) := by rw [sv_nil]; exact hd
    have hpos : 0 < d.length := List.length_pos_iff.2 hd
    have hdl' : ((d.length : Int) < (s.length : Int)) = (neg = true) := by rw [Int.ofNat_lt]; exact hdl
    have hhead : ((d[0]?.map (·.toNat)) = some 48) = ((d[0]?.getD 0).toNat = 48) := by
      rw [List.getElem?_eq_getElem hpos]; simp
    simp only [hhead] at hbd
    by_cases h0 : (d[0]?.getD 0).toNat = 48
    · have h0' : ((d[0]?.getD 0).toNat : Int) = 48 := by omega
      by_cases h1 : 1 < d.length
      · have h1' : (1 : Int) < (d.length : Int) := by omega
        simp only [go_sem, hd', List.size_toArray, eq_true h0', hpos, eq_true h1']
        exact bad (by rw [hbd, decide_eq_true h0, decide_eq_true h1]; simp)
      · have h1' : ¬ (1 : Int) < (d.length : Int) := by omega
        cases hn : neg with
        | true =>
          have hdl2 : d.length < s.length := by rw [hdl]; exact hn
          simp only [go_sem, hd', List.size_toArray, eq_true h0', hpos, h1', eq_true hdl2]
          exact bad (by rw [hbd, decide_eq_true h0, hn]; simp)
        | false =>
          have hdl2 : ¬ d.length < s.length := by rw [hdl, hn]; simp
          simp only [go_sem, hd', List.size_toArray, eq_true h0', hpos, h1', hdl2]
          have hok : d.all digB = true → badS s = false := fun h => by rw [hbd, h, decide_eq_false hd, decide_eq_false h1, hn]; simp
          refine awp_then ?_
          simp only [go_sem]
          refine loop_go (X := Nat) (fun k => [(0, ⟨true, sv s⟩), (4, ⟨true, sv d⟩), (32, ⟨true, iv d.length⟩), (33, ⟨true, iv k⟩)]) (fun _ => τ) (fun k => k ≤ d.length ∧ (d.take k).all digB = true) (fun k => d.length - k) 0 ⟨by omega, by simp⟩ (by simp only [go_sem, List.size_toArray]; simp) rfl ?_
          rintro k ⟨hk, hall⟩
          by_cases hlt : k < d.length
          · obtain ⟨c, hc⟩ : ∃ c, d[k]?.getD 0 = c := ⟨_, rfl⟩
            have hg : d[k]? = some c := by rw [List.getElem?_eq_getElem hlt] at hc ⊢; simpa using hc
            have nodig : digB c = false → RetOK τ.length (.tup [iv 0, iv 5]) τ (fun r σ' => r = .tup [iv res.1, iv res.2] ∧ σ' = τ) := fun h => bad (by
              have : d.all digB = false := by rw [List.all_eq_false]; exact ⟨c, List.mem_of_getElem? hg, by rw [h]; simp⟩
              rw [hbd, this]; simp)
            by_cases h48 : c.toNat < 48
            · have h48' : (c.toNat : Int) < 48 := by omega
              simp only [go_sem, hlt, hc, List.size_toArray, eq_true h48']
              exact nodig (by rw [digB, decide_eq_false (by omega)]; rfl)
            · have h48' : ¬ (c.toNat : Int) < 48 := by omega
              by_cases h57 : 57 < c.toNat
              · have h57' : (57 : Int) < (c.toNat : Int) := by omega
                simp only [go_sem, hlt, hc, List.size_toArray, h48', eq_true h57']
                exact nodig (by rw [digB, decide_eq_false (show ¬ c.toNat ≤ 57 by omega), Bool.and_false])
              · have h57' : ¬ (57 : Int) < (c.toNat : Int) := by omega
                simp only [go_sem, hlt, hc, List.size_toArray, h48', h57']
                refine ⟨k + 1, by omega, ⟨by omega, ?_⟩, inc k (by omega)⟩
                rw [List.take_add_one, hg, List.all_append, hall]
                simp [digB]; omega
          · obtain rfl : k = d.length := by omega
            rw [List.take_length] at hall
            simp only [go_sem, hlt]
            refine vcode_sound _ ?_
            have hb := hok hall
            have hp := hpi hb
            rw [hb, if_neg (by simp)] at hres
            simp only [go_sem]
            cases hn2 : neg with
            | true =>
              rw [hn2, if_pos rfl] at hres hp
              by_cases hv : 9223372036854775808 < valD 0 d
              · rw [if_pos hv] at hres hp
                subst hres
                refine callN_of (parseInt_range_c s _ hs hp) ?_
                rintro x τ ⟨rfl, rfl⟩
                simp only [go_sem]
                refine aop_neq_ifc (t' := 139) (a := .any) rfl rfl rfl rfl (by kernel_rfl) (fun _ => by simp only [go_sem]) ?_
                simp only [go_sem]
                exact retOK_same hw (by simp only [go_sem]) ⟨rfl, rfl⟩
              · rw [if_neg hv] at hres hp
                subst hres
                refine callN_of (parseInt_ok_c s _ _ hs hp) ?_
                rintro x τ ⟨rfl, rfl⟩
                simp only [go_sem]
                refine aop_neq_nil rfl rfl rfl (by kernel_rfl) (fun _ => by simp only [go_sem]) ?_
                simp only [go_sem]
                exact retOK_same hw (by simp only [go_sem]) ⟨rfl, rfl⟩
            | false =>
              rw [hn2, if_neg (by simp)] at hres hp
              by_cases hv : 9223372036854775808 ≤ valD 0 d
              · rw [if_pos hv] at hres hp
                subst hres
                refine callN_of (parseInt_range_c s _ hs hp) ?_
                rintro x τ ⟨rfl, rfl⟩
                simp only [go_sem]
                refine aop_neq_ifc (t' := 139) (a := .any) rfl rfl rfl rfl (by kernel_rfl) (fun _ => by simp only [go_sem]) ?_
                simp only [go_sem]
                exact retOK_same hw (by simp only [go_sem]) ⟨rfl, rfl⟩
              · rw [if_neg hv] at hres hp
                subst hres
                refine callN_of (parseInt_ok_c s _ _ hs hp) ?_
                rintro x τ ⟨rfl, rfl⟩
                simp only [go_sem]
                refine aop_neq_nil rfl rfl rfl (by kernel_rfl) (fun _ => by simp only [go_sem]) ?_
                simp only [go_sem]
                exact retOK_same hw (by simp only [go_sem]) ⟨rfl, rfl⟩
    · have h0' : ¬ ((d[0]?.getD 0).toNat : Int) = 48 := by omega
      simp only [go_sem, hd', List.size_toArray, h0', hpos]
      have hok : d.all digB = true → badS s = false := fun h => by rw [hbd, h, decide_eq_false hd, decide_eq_false h0]; rfl
      refine awp_then ?_
      simp only [go_sem]
      refine loop_go (X := Nat) (fun k => [(0, ⟨true, sv s⟩), (4, ⟨true, sv d⟩), (32, ⟨true, iv d.length⟩), (33, ⟨true, iv k⟩)]) (fun _ => τ) (fun k => k ≤ d.length ∧ (d.take k).all digB = true) (fun k => d.length - k) 0 ⟨by omega, by simp⟩ (by simp only [go_sem, List.size_toArray]; simp) rfl ?_
      rintro k ⟨hk, hall⟩
      by_cases hlt : k < d.length
      · obtain ⟨c, hc⟩ : ∃ c, d[k]?.getD 0 = c := ⟨_, rfl⟩
        have hg : d[k]? = some c := by rw [List.getElem?_eq_getElem hlt] at hc ⊢; simpa using hc
        have nodig : digB c = false → RetOK τ.length (.tup [iv 0, iv 5]) τ (fun r σ' => r = .tup [iv res.1, iv res.2] ∧ σ' = τ) := fun h => bad (by
          have : d.all digB = false := by rw [List.all_eq_false]; exact ⟨c, List.mem_of_getElem? hg, by rw [h]; simp⟩
          rw [hbd, this]; simp)
        by_cases h48 : c.toNat < 48
        · have h48' : (c.toNat : Int) < 48 := by omega
          simp only [go_sem, hlt, hc, List.size_toArray, eq_true h48']
          exact nodig (by rw [digB, decide_eq_false (by omega)]; rfl)
        · have h48' : ¬ (c.toNat : Int) < 48 := by omega
          by_cases h57 : 57 < c.toNat
          · have h57' : (57 : Int) < (c.toNat : Int) := by omega
            simp only [go_sem, hlt, hc, List.size_toArray, h48', eq_true h57']
            exact nodig (by rw [digB, decide_eq_false (show ¬ c.toNat ≤ 57 by omega), Bool.and_false])
          · have h57' : ¬ (57 : Int) < (c.toNat : Int) := by omega
            simp only [go_sem, hlt, hc, List.size_toArray, h48', h57']
            refine ⟨k + 1, by omega, ⟨by omega, ?_⟩, inc k (by omega)⟩
            rw [List.take_add_one, hg, List.all_append, hall]
            simp [digB]; omega
      · obtain rfl : k = d.length := by omega
        rw [List.take_length] at hall
        simp only [go_sem, hlt]
        refine vcode_sound _ ?_
        have hb := hok hall
        have hp := hpi hb
        rw [hb, if_neg (by simp)] at hres
        simp only [go_sem]
        cases hn2 : neg with
        | true =>
          rw [hn2, if_pos rfl] at hres hp
          by_cases hv : 9223372036854775808 < valD 0 d
          · rw [if_pos hv] at hres hp
            subst hres
            refine callN_of (parseInt_range_c s _ hs hp) ?_
            rintro x τ ⟨rfl, rfl⟩
            simp only [go_sem]
            refine aop_neq_ifc (t' := 139) (a := .any) rfl rfl rfl rfl (by kernel_rfl) (fun _ => by simp only [go_sem]) ?_
            simp only [go_sem]
            exact retOK_same hw (by simp only [go_sem]) ⟨rfl, rfl⟩
          · rw [if_neg hv] at hres hp
            subst hres
            refine callN_of (parseInt_ok_c s _ _ hs hp) ?_
            rintro x τ ⟨rfl, rfl⟩
            simp only [go_sem]
            refine aop_neq_nil rfl rfl rfl (by kernel_rfl) (fun _ => by simp only [go_sem]) ?_
            simp only [go_sem]
            exact retOK_same hw (by simp only [go_sem]) ⟨rfl, rfl⟩
        | false =>
          rw [hn2, if_neg (by simp)] at hres hp
          by_cases hv : 9223372036854775808 ≤ valD 0 d
          · rw [if_pos hv] at hres hp
            subst hres
            refine callN_of (parseInt_range_c s _ hs hp) ?_
            rintro x τ ⟨rfl, rfl⟩
            simp only [go_sem]
            refine aop_neq_ifc (t' := 139) (a := .any) rfl rfl rfl rfl (by kernel_rfl) (fun _ => by simp only [go_sem]) ?_
            simp only [go_sem]
            exact retOK_same hw (by simp only [go_sem]) ⟨rfl, rfl⟩
          · rw [if_neg hv] at hres hp
            subst hres
            refine callN_of (parseInt_ok_c s _ _ hs hp) ?_
            rintro x τ ⟨rfl, rfl⟩
            simp only [go_sem]
            refine aop_neq_nil rfl rfl rfl (by kernel_rfl) (fun _ => by simp only [go_sem]) ?_
            simp only [go_sem]
            exact retOK_same hw (by simp only [go_sem]) ⟨rfl, rfl⟩
end Go.Proofs.YtdlekkhjkcbbnaaDoor
set_option linter.unusedVariables false
set_option linter.unusedSimpArgs false
set_option maxRecDepth 8000
set_option maxHeartbeats 2000000
namespace Go.Proofs.YtdlekkhjkcbbnaaDoor
open Go.Ab Go.Id Go.Wo Go

theorem tail_sv (s : Bytes) (h : 0 < s.length) : (ByteArray.mk s.toArray).extract 1 (ByteArray.mk s.toArray).size = ByteArray.mk (s.drop 1).toArray := by
  have := extract_sv ⟨s.toArray⟩ 1 (ByteArray.mk s.toArray).size
  simp only [AV.v.injEq, Value.string.injEq] at this
  rw [this, strlen]
  congr 2
  rw [List.take_of_length_le (by simp)]

theorem tail_sv' (s : Bytes) (h : 0 < s.length) : (ByteArray.mk s.toArray).extract 1 s.length = ByteArray.mk (s.drop 1).toArray := by
  have := tail_sv s h
  rwa [strlen] at this
theorem sv_one (d : Bytes) : (ByteArray.mk d.toArray = ByteArray.mk #[48]) = (d = [48]) := by
  apply propext
  refine ⟨fun h => ?_, fun h => by rw [h]⟩
  have := congrArg (fun b => b.data.toList) h
  simpa using this

theorem wrap_nat (n : Nat) : IntKind.u64.wrap (n : Int) = ((n % 18446744073709551616 : Nat) : Int) := by
  simp [IntKind.wrap, IntKind.bits, IntKind.signed]
theorem wrap_u8 (n : Nat) (h : n < 256) : IntKind.u8.wrap (n : Int) = (n : Int) := by
  simp [IntKind.wrap, IntKind.bits, IntKind.signed]; omega

theorem digit_c (u : Nat) : IntKind.u8.wrap (IntKind.u64.wrap (48 + (u : Int).tmod 10)) = ((UInt8.ofNat (48 + u % 10)).toNat : Int) := by
  have e : (UInt8.ofNat (48 + u % 10)).toNat = 48 + u % 10 := by rw [UInt8.toNat_ofNat']; omega
  rw [e, show (10 : Int) = ((10 : Nat) : Int) by rfl, ← Int.ofNat_tmod, show (48 : Int) + ((u % 10 : Nat) : Int) = ((48 + u % 10 : Nat) : Int) by omega, wrap_nat, Nat.mod_eq_of_lt (by omega), wrap_u8 _ (by omega)]

end Go.Proofs.YtdlekkhjkcbbnaaDoor
