/-
  Contracts: ParseInt of the library, Number of the program and of the reference, Format of the reference.
  Contracts: Number and Format of the reference.
-/
import Derived.Test.YtdlekkhjkcbbnaaGreatDoorAbY
import Derived.Test.YtdlekkhjkcbbnaaGreatDoorWoK
import Derived.Test.YtdlekkhjkcbbnaaGreatDoorWoD
import Derived.Test.YtdlekkhjkcbbnaaGreatDoorWoT
import Derived.Test.YtdlekkhjkcbbnaaGreatDoorCoId
set_option linter.unusedVariables false
set_option linter.unusedSimpArgs false
set_option maxRecDepth 8000
set_option maxHeartbeats 2000000
namespace Go.Proofs.YtdlekkhjkcbbnaaGreatDoor
open Go.Ab Go.Id Go.Wo Go

theorem parseInt_ok_c (s : Bytes) (v : Int) (σ : Heap) (hs : s.length ≤ 281474976710656) (h : Lib.parseIntB 64 s = .ok v) :
    ACalls Tryz.prog 85 [sv s, iv 10, iv 64] σ (fun r σ' => r = .tup [iv v, .v .nilIface] ∧ σ' = σ) := by
  refine acalls_calls Tryz.call85 ?_
  rintro vs w ρ hh ⟨y, ys, rfl, hy, z, zs, rfl, hz, z2, zs2, rfl, hz2, rfl⟩
  simp only [Rep] at hy hz hz2
  subst hy; subst hz; subst hz2
  refine (Tryz.strconv_ParseInt_10_at64_ok ⟨s.toArray⟩ (by show s.toArray.size ≤ _; simp; omega) v h w).mono ?_
  rintro e w' ⟨rfl, hw⟩
  refine ⟨_, rfl, ?_, fun _ => ⟨_, rfl, _, _, rfl, rfl, _, _, rfl, rfl, rfl⟩⟩
  rcases hw with rfl | ⟨t, rfl⟩
  · exact Old.refl _
  · exact Old.of_below (Lib.bytesWorld_below _ _ _)

theorem parseInt_range_c (s : Bytes) (σ : Heap) (hs : s.length ≤ 281474976710656) (h : Lib.parseIntB 64 s = .range) :
    ACalls Tryz.prog 85 [sv s, iv 10, iv 64] σ (fun r σ' => r = .tup [iv (Lib.intSat 64 s), .ifc 148 .any] ∧ σ' = σ) := by
  refine acalls_calls Tryz.call85 ?_
  rintro vs w ρ hh ⟨y, ys, rfl, hy, z, zs, rfl, hz, z2, zs2, rfl, hz2, rfl⟩
  simp only [Rep] at hy hz hz2
  subst hy; subst hz; subst hz2
  obtain ⟨tp, p, hv⟩ := glob_err hh
  refine (Tryz.strconv_ParseInt_10_at64_range_var ⟨s.toArray⟩ (by show s.toArray.size ≤ _; simp; omega) h tp p w hv).mono ?_
  rintro e w' ⟨N, rfl, hN, _, hb⟩
  exact ⟨_, rfl, Old.of_below hb, fun _ => ⟨_, rfl, _, _, rfl, rfl, _, _, rfl, ⟨_, rfl, trivial⟩, rfl⟩⟩

theorem trim_digs (s : Bytes) : Lib.trimPrefix s [45] = digsS s := by
  unfold Lib.trimPrefix Lib.hasPrefix digsS negS
  cases s with
  | nil => rfl
  | cons c r =>
    by_cases h : c.toNat = 45
    · obtain rfl : c = 45 := UInt8.toNat_inj.1 h
      simp [List.isPrefixOf]
    · have h' : ¬ (45 : UInt8) = c := fun e => h (by rw [← e]; rfl)
      simp [List.isPrefixOf, h, h']
theorem trim_B (s : Bytes) (σ : Heap) : ACalls Tryz.prog 84 [sv s, .v (.string ⟨#[45]⟩)] σ (fun r σ' => r = sv (digsS s) ∧ σ' = σ) := by
  have := trim_c ⟨s.toArray⟩ ⟨#[45]⟩ σ
  simp only [List.toList_toArray] at this
  rw [trim_digs] at this
  exact this
theorem digs_len (s : Bytes) : ((digsS s).length < s.length) = (negS s = true) := by
  unfold digsS
  by_cases h : negS s = true
  · rw [if_pos h]
    apply propext
    refine ⟨fun _ => h, fun _ => ?_⟩
    cases s with
    | nil => simp [negS] at h
    | cons c r => simp
  · rw [if_neg h]
    exact propext ⟨fun h' => by omega, fun h' => absurd h' h⟩
theorem sv_nil (d : Bytes) : (ByteArray.mk d.toArray = ByteArray.mk #[]) = (d = []) := by
  apply propext
  refine ⟨fun h => ?_, fun h => by rw [h]⟩
  have := congrArg (fun b => b.data.toList) h
  simpa using this

theorem number_c (s : Bytes) (σ : Heap) (hs : s.length ≤ 281474976710656) : ACalls Tryz.prog 70 [sv s] σ (fun r σ' => r = .tup [iv (numS s).1, iv (numS s).2] ∧ σ' = σ) := by
  refine acalls_awp Tryz.func70 rfl Tryz.call70 Tryz.ntmps70 Tryz.results70 (Nat.le_of_ble_eq_true rfl) fun hw => ?_
  generalize hres : numS s = res
  unfold numS at hres
  have hdl := digs_len s
  have hbd : badS s = (decide (digsS s = []) || (decide (((digsS s)[0]?.map (·.toNat)) = some 48) && (decide (1 < (digsS s).length) || negS s)) || !(digsS s).all digB) := rfl
  have hpi : badS s = false → Lib.parseIntB 64 s = _ := parseIntB_digits s
  have hlen : (digsS s).length ≤ s.length := by unfold digsS; split <;> simp
  refine awp_then ?_
  simp only [go_sem]
  refine awp_then ?_
  simp only [go_sem]
  refine callN_of (trim_B s _) ?_
  rintro x τ ⟨rfl, rfl⟩
  generalize digsS s = d at *
  generalize hneg : negS s = neg at *
  have bad : badS s = true → RetOK τ.length (.tup [iv 0, iv 5]) τ (fun r σ' => r = .tup [iv res.1, iv res.2] ∧ σ' = τ) := by
    intro h
    rw [if_pos h] at hres
    subst hres
    exact retOK_same hw (by simp only [go_sem]) ⟨rfl, rfl⟩
  simp only [go_sem]
  refine awp_then ?_
  simp only [go_sem, List.size_toArray]
  refine awp_then ?_
  by_cases hd : d = []
  · have hd' : (ByteArray.mk d.toArray = ByteArray.mk #[]) := by rw [hd]
    simp only [go_sem, eq_true hd']
    exact bad (by rw [hbd, decide_eq_true hd]; rfl)
  · have hd' : ¬ (ByteArray.mk d.toArray = ByteArray.mk #[]) := by rw [sv_nil]; exact hd
    have hpos : 0 < d.length := List.length_pos_iff.2 hd
    have hdl' : ((d.length : Int) < (s.length : Int)) = (neg = true) := by rw [Int.ofNat_lt]; exact hdl
    have hhead : ((d[0]?.map (·.toNat)) = some 48) = ((d[0]?.getD 0).toNat = 48) := by
      rw [List.getElem?_eq_getElem hpos]; simp
    simp only [hhead] at hbd
    by_cases h0 : (d[0]?.getD 0).toNat = 48
    · have h0' : ((d[0]?.getD 0).toNat : Int) = 48 := by omega
      by_cases h1 : 1 < d.length
      · have h1' : (1 : Int) < (d.length : Int) := by omega
        simp only [go_sem, hd', List.size_toArray, eq_true h0', hpos, eq_true h1']
        exact bad (by rw [hbd, decide_eq_true h0, decide_eq_true h1]; simp)
      · have h1' : ¬ (1 : Int) < (d.length : Int) := by omega
        cases hn : neg with
        | true =>
          have hdl2 : d.length < s.length := by rw [hdl]; exact hn
          simp only [go_sem, hd', List.size_toArray, eq_true h0', hpos, h1', eq_true hdl2]
          exact bad (by rw [hbd, decide_eq_true h0, hn]; simp)
        | false =>
          have hdl2 : ¬ d.length < s.length := by rw [hdl, hn]; simp
          simp only [go_sem, hd', List.size_toArray, eq_true h0', hpos, h1', hdl2]
          have hok : d.all digB = true → badS s = false := fun h => by rw [hbd, h, decide_eq_false hd, decide_eq_false h1, hn]; simp
          refine awp_then ?_
          simp only [go_sem]
          refine loop_go (X := Nat) (fun k => [(0, ⟨true, sv s⟩), (4, ⟨true, sv d⟩), (32, ⟨true, iv d.length⟩), (33, ⟨true, iv k⟩)]) (fun _ => τ) (fun k => k ≤ d.length ∧ (d.take k).all digB = true) (fun k => d.length - k) 0 ⟨by omega, by simp⟩ (by simp only [go_sem, List.size_toArray]; simp) rfl ?_
          rintro k ⟨hk, hall⟩
          by_cases hlt : k < d.length
          · obtain ⟨c, hc⟩ : ∃ c, d[k]?.getD 0 = c := ⟨_, rfl⟩
            have hg : d[k]? = some c := by rw [List.getElem?_eq_getElem hlt] at hc ⊢; simpa using hc
            have nodig : digB c = false → RetOK τ.length (.tup [iv 0, iv 5]) τ (fun r σ' => r = .tup [iv res.1, iv res.2] ∧ σ' = τ) := fun h => bad (by
              have : d.all digB = false := by rw [List.all_eq_false]; exact ⟨c, List.mem_of_getElem? hg, by rw [h]; simp⟩
              rw [hbd, this]; simp)
            by_cases h48 : c.toNat < 48
            · have h48' : (c.toNat : Int) < 48 := by omega
              simp only [go_sem, hlt, hc, List.size_toArray, eq_true h48']
              exact nodig (by rw [digB, decide_eq_false (by omega)]; rfl)
            · have h48' : ¬ (c.toNat : Int) < 48 := by omega
              by_cases h57 : 57 < c.toNat
              · have h57' : (57 : Int) < (c.toNat : Int) := by omega
                simp only [go_sem, hlt, hc, List.size_toArray, h48', eq_true h57']
                exact nodig (by rw [digB, decide_eq_false (show ¬ c.toNat ≤ 57 by omega), Bool.and_false])
              · have h57' : ¬ (57 : Int) < (c.toNat : Int) := by omega
                simp only [go_sem, hlt, hc, List.size_toArray, h48', h57']
                refine ⟨k + 1, by omega, ⟨by omega, ?_⟩, inc k (by omega)⟩
                rw [List.take_add_one, hg, List.all_append, hall]
                simp [digB]; omega
          · obtain rfl : k = d.length := by omega
            rw [List.take_length] at hall
            simp only [go_sem, hlt]
            refine vcode_sound _ ?_
            have hb := hok hall
            have hp := hpi hb
            rw [hb, if_neg (by simp)] at hres
            simp only [go_sem]
            cases hn2 : neg with
            | true =>
              rw [hn2, if_pos rfl] at hres hp
              by_cases hv : 9223372036854775808 < valD 0 d
              · rw [if_pos hv] at hres hp
                subst hres
                refine callN_of (parseInt_range_c s _ hs hp) ?_
                rintro x τ ⟨rfl, rfl⟩
                simp only [go_sem]
                refine aop_neq_ifc (t' := 148) (a := .any) rfl rfl rfl rfl (by kernel_rfl) (fun _ => by simp only [go_sem]) ?_
                simp only [go_sem]
                exact retOK_same hw (by simp only [go_sem]) ⟨rfl, rfl⟩
              · rw [if_neg hv] at hres hp
                subst hres
                refine callN_of (parseInt_ok_c s _ _ hs hp) ?_
                rintro x τ ⟨rfl, rfl⟩
                simp only [go_sem]
                refine aop_neq_nil rfl rfl rfl (by kernel_rfl) (fun _ => by simp only [go_sem]) ?_
                simp only [go_sem]
                exact retOK_same hw (by simp only [go_sem]) ⟨rfl, rfl⟩
            | false =>
              rw [hn2, if_neg (by simp)] at hres hp
              by_cases hv : 9223372036854775808 ≤ valD 0 d
              · rw [if_pos hv] at hres hp
                subst hres
                refine callN_of (parseInt_range_c s _ hs hp) ?_
                rintro x τ ⟨rfl, rfl⟩
                simp only [go_sem]
                refine aop_neq_ifc (t' := 148) (a := .any) rfl rfl rfl rfl (by kernel_rfl) (fun _ => by simp only [go_sem]) ?_
                simp only [go_sem]
                exact retOK_same hw (by simp only [go_sem]) ⟨rfl, rfl⟩
              · rw [if_neg hv] at hres hp
                subst hres
                refine callN_of (parseInt_ok_c s _ _ hs hp) ?_
                rintro x τ ⟨rfl, rfl⟩
                simp only [go_sem]
                refine aop_neq_nil rfl rfl rfl (by kernel_rfl) (fun _ => by simp only [go_sem]) ?_
                simp only [go_sem]
                exact retOK_same hw (by simp only [go_sem]) ⟨rfl, rfl⟩
    · have h0' : ¬ ((d[0]?.getD 0).toNat : Int) = 48 := by omega
      simp only [go_sem, hd', List.size_toArray, h0', hpos]
      have hok : d.all digB = true → badS s = false := fun h => by rw [hbd, h, decide_eq_false hd, decide_eq_false h0]; rfl
      refine awp_then ?_
      simp only [go_sem]
      refine loop_go (X := Nat) (fun k => [(0, ⟨true, sv s⟩), (4, ⟨true, sv d⟩), (32, ⟨true, iv d.length⟩), (33, ⟨true, iv k⟩)]) (fun _ => τ) (fun k => k ≤ d.length ∧ (d.take k).all digB = true) (fun k => d.length - k) 0 ⟨by omega, by simp⟩ (by simp only [go_sem, List.size_toArray]; simp) rfl ?_
      rintro k ⟨hk, hall⟩
      by_cases hlt : k < d.length
      · obtain ⟨c, hc⟩ : ∃ c, d[k]?.getD 0 = c := ⟨_, rfl⟩
        have hg : d[k]? = some c := by rw [List.getElem?_eq_getElem hlt] at hc ⊢; simpa using hc
        have nodig : digB c = false → RetOK τ.length (.tup [iv 0, iv 5]) τ (fun r σ' => r = .tup [iv res.1, iv res.2] ∧ σ' = τ) := fun h => bad (by
          have : d.all digB = false := by rw [List.all_eq_false]; exact ⟨c, List.mem_of_getElem? hg, by rw [h]; simp⟩
          rw [hbd, this]; simp)
        by_cases h48 : c.toNat < 48
        · have h48' : (c.toNat : Int) < 48 := by omega
          simp only [go_sem, hlt, hc, List.size_toArray, eq_true h48']
          exact nodig (by rw [digB, decide_eq_false (by omega)]; rfl)
        · have h48' : ¬ (c.toNat : Int) < 48 := by omega
          by_cases h57 : 57 < c.toNat
          · have h57' : (57 : Int) < (c.toNat : Int) := by omega
            simp only [go_sem, hlt, hc, List.size_toArray, h48', eq_true h57']
            exact nodig (by rw [digB, decide_eq_false (show ¬ c.toNat ≤ 57 by omega), Bool.and_false])
          · have h57' : ¬ (57 : Int) < (c.toNat : Int) := by omega
            simp only [go_sem, hlt, hc, List.size_toArray, h48', h57']
            refine ⟨k + 1, by omega, ⟨by omega, ?_⟩, inc k (by omega)⟩
            rw [List.take_add_one, hg, List.all_append, hall]
            simp [digB]; omega
      · obtain rfl : k = d.length := by omega
        rw [List.take_length] at hall
        simp only [go_sem, hlt]
        refine vcode_sound _ ?_
        have hb := hok hall
        have hp := hpi hb
        rw [hb, if_neg (by simp)] at hres
        simp only [go_sem]
        cases hn2 : neg with
        | true =>
          rw [hn2, if_pos rfl] at hres hp
          by_cases hv : 9223372036854775808 < valD 0 d
          · rw [if_pos hv] at hres hp
            subst hres
            refine callN_of (parseInt_range_c s _ hs hp) ?_
            rintro x τ ⟨rfl, rfl⟩
            simp only [go_sem]
            refine aop_neq_ifc (t' := 148) (a := .any) rfl rfl rfl rfl (by kernel_rfl) (fun _ => by simp only [go_sem]) ?_
            simp only [go_sem]
            exact retOK_same hw (by simp only [go_sem]) ⟨rfl, rfl⟩
          · rw [if_neg hv] at hres hp
            subst hres
            refine callN_of (parseInt_ok_c s _ _ hs hp) ?_
            rintro x τ ⟨rfl, rfl⟩
            simp only [go_sem]
            refine aop_neq_nil rfl rfl rfl (by kernel_rfl) (fun _ => by simp only [go_sem]) ?_
            simp only [go_sem]
            exact retOK_same hw (by simp only [go_sem]) ⟨rfl, rfl⟩
        | false =>
          rw [hn2, if_neg (by simp)] at hres hp
          by_cases hv : 9223372036854775808 ≤ valD 0 d
          · rw [if_pos hv] at hres hp
            subst hres
            refine callN_of (parseInt_range_c s _ hs hp) ?_
            rintro x τ ⟨rfl, rfl⟩
            simp only [go_sem]
            refine aop_neq_ifc (t' := 148) (a := .any) rfl rfl rfl rfl (by kernel_rfl) (fun _ => by simp only [go_sem]) ?_
            simp only [go_sem]
            exact retOK_same hw (by simp only [go_sem]) ⟨rfl, rfl⟩
          · rw [if_neg hv] at hres hp
            subst hres
            refine callN_of (parseInt_ok_c s _ _ hs hp) ?_
            rintro x τ ⟨rfl, rfl⟩
            simp only [go_sem]
            refine aop_neq_nil rfl rfl rfl (by kernel_rfl) (fun _ => by simp only [go_sem]) ?_
            simp only [go_sem]
            exact retOK_same hw (by simp only [go_sem]) ⟨rfl, rfl⟩
end Go.Proofs.YtdlekkhjkcbbnaaGreatDoor
set_option linter.unusedVariables false
set_option linter.unusedSimpArgs false
set_option maxRecDepth 8000
set_option maxHeartbeats 2000000
namespace Go.Proofs.YtdlekkhjkcbbnaaGreatDoor
open Go.Ab Go.Id Go.Wo Go

theorem tail_sv (s : Bytes) (h : 0 < s.length) : (ByteArray.mk s.toArray).extract 1 (ByteArray.mk s.toArray).size = ByteArray.mk (s.drop 1).toArray := by
  have := extract_sv ⟨s.toArray⟩ 1 (ByteArray.mk s.toArray).size
  simp only [AV.v.injEq, Value.string.injEq] at this
  rw [this, strlen]
  congr 2
  rw [List.take_of_length_le (by simp)]

theorem tail_sv' (s : Bytes) (h : 0 < s.length) : (ByteArray.mk s.toArray).extract 1 s.length = ByteArray.mk (s.drop 1).toArray := by
  have := tail_sv s h
  rwa [strlen] at this
theorem sv_one (d : Bytes) : (ByteArray.mk d.toArray = ByteArray.mk #[48]) = (d = [48]) := by
  apply propext
  refine ⟨fun h => ?_, fun h => by rw [h]⟩
  have := congrArg (fun b => b.data.toList) h
  simpa using this

theorem wrap_nat (n : Nat) : IntKind.u64.wrap (n : Int) = ((n % 18446744073709551616 : Nat) : Int) := by
  simp [IntKind.wrap, IntKind.bits, IntKind.signed]
theorem wrap_u8 (n : Nat) (h : n < 256) : IntKind.u8.wrap (n : Int) = (n : Int) := by
  simp [IntKind.wrap, IntKind.bits, IntKind.signed]; omega

theorem rnumber_c (s : Bytes) (σ : Heap) (hs : s.length ≤ 281474976710656) : ACalls Tryz.prog 61 [sv s] σ (fun r σ' => r = .tup [iv (numS s).1, iv (numS s).2] ∧ σ' = σ) := by
  refine acalls_awp Tryz.func61 rfl Tryz.call61 Tryz.ntmps61 Tryz.results61 (Nat.le_of_ble_eq_true rfl) fun hw => ?_
  generalize hres : numS s = res
  unfold numS at hres
  have hbd : badS s = (decide (digsS s = []) || (decide (((digsS s)[0]?.map (·.toNat)) = some 48) && (decide (1 < (digsS s).length) || negS s)) || !(digsS s).all digB) := rfl
  have hlen : (digsS s).length ≤ s.length := by unfold digsS; split <;> simp
  refine awp_then ?_
  simp only [go_sem]
  refine awp_then ?_
  simp only [go_sem]
  refine awp_meet (T := Unit) (fun _ => [(0, ⟨true, sv s⟩), (4, ⟨true, sv (digsS s)⟩), (5, ⟨true, bv (negS s)⟩)]) (fun _ => σ) (fun _ => True) ?_ ?_
  · by_cases hn : negS s = true
    · have hpos : 0 < s.length := by cases s with
        | nil => simp [negS] at hn
        | cons c r => simp
      have hne : ¬ (ByteArray.mk s.toArray = ByteArray.mk #[]) := by rw [sv_nil]; exact fun h => by rw [h] at hpos; simp at hpos
      have h45 : ((s[0]?.getD 0).toNat : Int) = 45 := by
        simp only [negS, decide_eq_true_eq] at hn
        rw [List.getElem?_eq_getElem hpos] at hn ⊢
        simp at hn ⊢
        omega
      have hd : digsS s = s.drop 1 := by rw [digsS, if_pos hn]
      simp only [go_sem, hne, hpos, eq_true h45, List.size_toArray, tail_sv' s hpos, hd, hn]
      exact ⟨by omega, (), by exact congrArg Value.string (tail_sv' s hpos)⟩
    · have hd : digsS s = s := by rw [digsS, if_neg hn]
      simp only [Bool.not_eq_true] at hn
      by_cases hs0 : s = []
      · have he : (ByteArray.mk s.toArray = ByteArray.mk #[]) := by rw [hs0]
        simp only [go_sem, eq_true he, hd, hn]
        exact ⟨(), by simp⟩
      · have he : ¬ (ByteArray.mk s.toArray = ByteArray.mk #[]) := by rw [sv_nil]; exact hs0
        have hpos : 0 < s.length := List.length_pos_iff.2 hs0
        have h45 : ¬ ((s[0]?.getD 0).toNat : Int) = 45 := by
          simp only [negS, decide_eq_false_iff_not] at hn
          rw [List.getElem?_eq_getElem hpos] at hn ⊢
          simp at hn ⊢
          omega
        simp only [go_sem, he, hd, hn, h45, hpos, List.size_toArray]
        exact ⟨(), by simp⟩
  rintro - -
  generalize digsS s = d at *
  generalize hneg : negS s = neg at *
  have bad : badS s = true → RetOK σ.length (.tup [iv 0, iv 5]) σ (fun r σ' => r = .tup [iv res.1, iv res.2] ∧ σ' = σ) := by
    intro h
    rw [if_pos h] at hres
    subst hres
    exact retOK_same hw (by simp only [go_sem]) ⟨rfl, rfl⟩
  refine awp_meet (T := Unit) (fun _ => [(0, ⟨true, sv s⟩), (4, ⟨true, sv d⟩), (5, ⟨true, bv neg⟩)]) (fun _ => σ) (fun _ => badS s = !d.all digB) ?_ ?_
  · by_cases hd : d = []
    · have hd' : (ByteArray.mk d.toArray = ByteArray.mk #[]) := by rw [hd]
      simp only [go_sem, eq_true hd']
      exact bad (by rw [hbd, decide_eq_true hd]; rfl)
    · have hd' : ¬ (ByteArray.mk d.toArray = ByteArray.mk #[]) := by rw [sv_nil]; exact hd
      have hpos : 0 < d.length := List.length_pos_iff.2 hd
      have hhead : ((d[0]?.map (·.toNat)) = some 48) = ((d[0]?.getD 0).toNat = 48) := by
        rw [List.getElem?_eq_getElem hpos]; simp
      simp only [hhead] at hbd
      by_cases h1 : 1 < d.length
      · have h1' : (1 : Int) < (d.length : Int) := by omega
        have hone : ¬ (ByteArray.mk d.toArray = ByteArray.mk #[48]) := by rw [sv_one]; intro h; rw [h] at h1; simp at h1
        by_cases h0 : (d[0]?.getD 0).toNat = 48
        · have h0' : ((d[0]?.getD 0).toNat : Int) = 48 := by omega
          simp only [go_sem, hd', List.size_toArray, eq_true h0', hpos, eq_true h1']
          exact bad (by rw [hbd, decide_eq_true h0, decide_eq_true h1]; simp)
        · have h0' : ¬ ((d[0]?.getD 0).toNat : Int) = 48 := by omega
          simp only [go_sem, hd', List.size_toArray, h0', hpos, eq_true h1', hone]
          exact ⟨(), by rw [hbd, decide_eq_false hd, decide_eq_false h0]; rfl⟩
      · have h1' : ¬ (1 : Int) < (d.length : Int) := by omega
        by_cases h0 : (d[0]?.getD 0).toNat = 48
        · have hone : (ByteArray.mk d.toArray = ByteArray.mk #[48]) := by
            rw [sv_one]
            cases d with
            | nil => exact absurd rfl hd
            | cons c r =>
              have : r = [] := by cases r with
                | nil => rfl
                | cons x y => simp at h1
              subst this
              simp at h0
              rw [show c = 48 from UInt8.toNat_inj.1 h0]
          cases neg with
          | true =>
            simp only [go_sem, hd', List.size_toArray, hpos, h1', eq_true hone]
            exact bad (by rw [hbd, decide_eq_true h0]; simp)
          | false =>
            simp only [go_sem, hd', List.size_toArray, hpos, h1', eq_true hone]
            exact ⟨(), by rw [hbd, decide_eq_false hd, decide_eq_false h1]; simp⟩
        · have hone : ¬ (ByteArray.mk d.toArray = ByteArray.mk #[48]) := by rw [sv_one]; intro h; rw [h] at h0; simp at h0
          simp only [go_sem, hd', List.size_toArray, hpos, h1', hone]
          exact ⟨(), by rw [hbd, decide_eq_false hd, decide_eq_false h0]; rfl⟩
  rintro - hbad
  refine awp_then ?_
  simp only [go_sem]
  refine awp_then ?_
  simp only [go_sem]
  refine loop_go (X := Nat × Nat × Bool) (fun x => [(4, ⟨true, sv d⟩), (5, ⟨true, bv neg⟩), (6, ⟨true, uv x.2.1⟩), (7, ⟨true, bv x.2.2⟩), (8, ⟨true, iv x.1⟩)]) (fun _ => σ)
    (fun x => x.1 ≤ d.length ∧ (d.take x.1).all digB = true ∧ x.2.1 < 18446744073709551616 ∧ x.2.2 = decide (9223372036854775808 < valD 0 (d.take x.1)) ∧ (x.2.2 = false → x.2.1 = valD 0 (d.take x.1))) (fun x => d.length - x.1) (0, 0, false) ⟨by simp, by simp, by simp, by simp [valD_nil], by simp [valD_nil]⟩ (by simp only [go_sem]; simp) rfl ?_
  rintro ⟨k, u, over⟩ ⟨hk, hall, hu, ho, hv⟩
  simp only at hk hall hu ho hv
  by_cases hlt : k < d.length
  · obtain ⟨c, hc⟩ : ∃ c, d[k]?.getD 0 = c := ⟨_, rfl⟩
    have hg : d[k]? = some c := by rw [List.getElem?_eq_getElem hlt] at hc ⊢; simpa using hc
    have nodig : digB c = false → RetOK σ.length (.tup [iv 0, iv 5]) σ (fun r σ' => r = .tup [iv res.1, iv res.2] ∧ σ' = σ) := fun h => bad (by
      have : d.all digB = false := by rw [List.all_eq_false]; exact ⟨c, List.mem_of_getElem? hg, by rw [h]; simp⟩
      rw [hbad, this]; simp)
    have hc256 := c.toNat_lt
    by_cases h48 : c.toNat < 48
    · have h48' : (c.toNat : Int) < 48 := by omega
      simp only [go_sem, hlt, hc, List.size_toArray, eq_true h48']
      exact nodig (by rw [digB, decide_eq_false (by omega)]; rfl)
    · have h48' : ¬ (c.toNat : Int) < 48 := by omega
      by_cases h57 : 57 < c.toNat
      · have h57' : (57 : Int) < (c.toNat : Int) := by omega
        simp only [go_sem, hlt, hc, List.size_toArray, h48', eq_true h57']
        exact nodig (by rw [digB, decide_eq_false (show ¬ c.toNat ≤ 57 by omega), Bool.and_false])
      · have h57' : ¬ (57 : Int) < (c.toNat : Int) := by omega
        obtain ⟨x, hx, hx9⟩ : ∃ x : Nat, c.toNat = 48 + x ∧ x ≤ 9 := ⟨c.toNat - 48, by omega, by omega⟩
        have e1 : IntKind.u64.wrap (IntKind.u8.wrap ((c.toNat : Int) - 48)) = (x : Int) := by
          rw [show ((c.toNat : Int) - 48) = (x : Int) by omega, wrap_u8 x (by omega), wrap_nat, Nat.mod_eq_of_lt (by omega)]
        have e2 : IntKind.u64.wrap ((IntKind.u64.wrap (9223372036854775808 - (x : Int))).tdiv 10) = (((9223372036854775808 - x) / 10 : Nat) : Int) := by
          rw [show (9223372036854775808 - (x : Int)) = ((9223372036854775808 - x : Nat) : Int) by omega, wrap_nat, Nat.mod_eq_of_lt (by omega), show (10 : Int) = ((10 : Nat) : Int) by rfl, ← Int.ofNat_tdiv, wrap_nat, Nat.mod_eq_of_lt (by omega)]
        have e3 : IntKind.u64.wrap (IntKind.u64.wrap ((u : Int) * 10) + (x : Int)) = (((u * 10 % 18446744073709551616 + x) % 18446744073709551616 : Nat) : Int) := by
          rw [show ((u : Int) * 10) = ((u * 10 : Nat) : Int) by omega, wrap_nat, show (((u * 10 % 18446744073709551616 : Nat) : Int) + (x : Int)) = ((u * 10 % 18446744073709551616 + x : Nat) : Int) by omega, wrap_nat]
        simp only [go_sem, hlt, hc, List.size_toArray, h48', h57', e1, e2, e3]
        have hval : valD 0 (d.take (k + 1)) = valD 0 (d.take k) * 10 + x := by
          rw [List.take_add_one, hg]
          simp only [Option.toList_some]
          rw [valD_snoc, hx]; omega
        refine ⟨fun _ => by decide, (k + 1, (u * 10 % 18446744073709551616 + x) % 18446744073709551616, (over || decide ((9223372036854775808 - x) / 10 < u))), by simp only; omega, ⟨by simp only; omega, ?_, Nat.mod_lt _ (by decide), ?_, ?_⟩, rfl, ?_, inc k (by omega)⟩
        · simp only
          rw [List.take_add_one, hg, List.all_append, hall]
          simp [digB]; omega
        · simp only
          rw [hval]
          cases over with
          | true =>
            have := (of_decide_eq_true ho.symm)
            rw [Bool.true_or]
            exact (decide_eq_true (by omega)).symm
          | false =>
            have h1 := of_decide_eq_false ho.symm
            have h2 := hv rfl
            rw [Bool.false_or, decide_eq_decide]
            omega
        · simp only
          intro h
          rw [Bool.or_eq_false_iff] at h
          obtain ⟨h1, h2⟩ := h
          have h3 := hv h1
          have h4 := of_decide_eq_false h2
          rw [hval]
          omega
        · simp only [Int.ofNat_lt]
  · obtain rfl : k = d.length := by omega
    rw [List.take_length] at hall ho hv
    simp only [go_sem, hlt, List.size_toArray]
    refine vcode_sound _ ?_
    simp only [go_sem]
    rw [show badS s = false by rw [hbad, hall]; rfl, if_neg (by simp)] at hres
    have hnn : 0 ≤ valD 0 d := Nat.zero_le _
    by_cases hov : over = true ∨ neg = false ∧ (u : Int) = 9223372036854775808
    · rw [if_pos hov]
      have : res = (0, 2) := by
        rw [← hres]
        rcases hov with h | ⟨h, h'⟩
        · rw [h] at ho
          have := of_decide_eq_true ho.symm
          cases neg with
          | true => rw [if_pos rfl, if_pos this]
          | false => rw [if_neg (by simp), if_pos (by omega)]
        · rw [h, if_neg (by simp)]
          cases hov2 : over with
          | true =>
            rw [hov2] at ho
            have := of_decide_eq_true ho.symm
            rw [if_pos (by omega)]
          | false =>
            have := hv hov2
            rw [if_pos (by omega)]
      subst this
      exact retOK_same hw (by simp only [go_sem]) ⟨rfl, rfl⟩
    · rw [if_neg hov]
      have ho1 : over = false := by cases over with
        | true => exact absurd (.inl rfl) hov
        | false => rfl
      rw [ho1] at ho
      have h1 := of_decide_eq_false ho.symm
      have h2 := hv ho1
      cases neg with
      | true =>
        rw [if_pos rfl, if_neg h1] at hres
        simp only [if_true]
        subst hres
        refine retOK_same hw (by simp only [go_sem]) ⟨?_, rfl⟩
        have e : IntKind.i64.wrap (0 - IntKind.i64.wrap (u : Int)) = -(valD 0 d : Int) := by
          rw [h2]
          simp [IntKind.wrap, IntKind.bits, IntKind.signed]
          repeat' split
          all_goals omega
        rw [e]
      | false =>
        have h3 : ¬ (u : Int) = 9223372036854775808 := fun h => hov (.inr ⟨rfl, h⟩)
        rw [if_neg (by simp), if_neg (by omega)] at hres
        simp only [Bool.false_eq_true, if_false]
        subst hres
        refine retOK_same hw (by simp only [go_sem]) ⟨?_, rfl⟩
        rw [wrap_i64 (by omega) (by omega), h2]

theorem digit_c (u : Nat) : IntKind.u8.wrap (IntKind.u64.wrap (48 + (u : Int).tmod 10)) = ((UInt8.ofNat (48 + u % 10)).toNat : Int) := by
  have e : (UInt8.ofNat (48 + u % 10)).toNat = 48 + u % 10 := by rw [UInt8.toNat_ofNat']; omega
  rw [e, show (10 : Int) = ((10 : Nat) : Int) by rfl, ← Int.ofNat_tmod, show (48 : Int) + ((u % 10 : Nat) : Int) = ((48 + u % 10 : Nat) : Int) by omega, wrap_nat, Nat.mod_eq_of_lt (by omega), wrap_u8 _ (by omega)]

theorem rformat_c (n : Int) (σ : Heap) (h0 : -9223372036854775808 ≤ n) (h1 : n ≤ 9223372036854775807) : ACalls Tryz.prog 29 [iv n] σ (fun r σ' => r = sv (Lib.itoa n) ∧ σ' = σ) := by
  refine acalls_awp Tryz.func29 rfl Tryz.call29 Tryz.ntmps29 Tryz.results29 (Nat.le_of_ble_eq_true rfl) fun hw => ?_
  refine awp_then ?_
  simp only [go_sem]
  refine awp_then ?_
  simp only [go_sem]
  refine awp_meet (T := Unit) (fun _ => [(3, ⟨true, uv n.natAbs⟩), (4, ⟨true, sv (if n < 0 then [45] else [])⟩)]) (fun _ => σ) (fun _ => True) ?_ ?_
  · by_cases hn : n < 0
    · simp only [go_sem, eq_true hn]
      refine ⟨(), ?_⟩
      simp [IntKind.wrap, IntKind.bits, IntKind.signed]; omega
    · simp only [go_sem, hn]
      refine ⟨(), ?_⟩
      simp [IntKind.wrap, IntKind.bits, IntKind.signed]; omega
  rintro - -
  have hit : Lib.itoa n = (if n < 0 then [45] else []) ++ Lib.decDigits n.natAbs := by
    unfold Lib.itoa
    split
    · rfl
    · rw [List.nil_append]; congr 1; omega
  have hlen := Lib.itoa_length_le n h0 h1
  rw [hit, List.length_append] at hlen
  rw [hit]
  generalize (if n < 0 then [45] else [] : Bytes) = sign at *
  generalize hN : n.natAbs = N at *
  have hN64 : N < 18446744073709551616 := by omega
  clear hit
  refine awp_then ?_
  simp only [go_sem]
  refine vcode_sound _ ?_
  simp only [go_sem]
  refine loop_junk (X := Nat × Bytes) (fun x => [(3, ⟨true, uv x.1⟩), (4, ⟨true, sv sign⟩), (5, ⟨true, sv x.2⟩)]) (fun _ => σ) (fun x => x.1 < 18446744073709551616 ∧ Lib.decDigits N = Lib.decDigits x.1 ++ x.2) (fun x => x.1) (N, []) ⟨hN64, by simp⟩ (by simp only [go_sem]) rfl ?_
  rintro ⟨u, t⟩ ⟨hu, hd⟩
  simp only at hu hd
  have hl2 : t.length ≤ 30 := by rw [hd, List.length_append] at hlen; omega
  have e2 : IntKind.u64.wrap ((u : Int).tdiv 10) = ((u / 10 : Nat) : Int) := by
    rw [show (10 : Int) = ((10 : Nat) : Int) by rfl, ← Int.ofNat_tdiv, wrap_nat, Nat.mod_eq_of_lt (by omega)]
  have hb : bytesOf [AV.v (.int .u8 ((UInt8.ofNat (48 + u % 10)).toNat : Int))] = some [UInt8.ofNat (48 + u % 10)] := bytesOf_map [UInt8.ofNat (48 + u % 10)]
  by_cases h10 : u < 10
  · have hz : ((u / 10 : Nat) : Int) = 0 := by omega
    have hd1 : Lib.decDigits u = [UInt8.ofNat (48 + u % 10)] := by rw [Lib.decDigits, dif_pos h10, Nat.mod_eq_of_lt h10]
    simp only [go_sem, digit_c, e2, hz, hb, bytes_app, List.size_toArray]
    exact ⟨by decide, by omega, by decide, by omega, retOK_app hw (by simp only [go_sem]) ⟨by rw [hd, hd1]; rfl, rfl⟩⟩
  · have hz : ¬ ((u / 10 : Nat) : Int) = 0 := by omega
    have hd1 : Lib.decDigits u = Lib.decDigits (u / 10) ++ [UInt8.ofNat (48 + u % 10)] := by rw [Lib.decDigits, dif_neg h10]
    simp only [go_sem, digit_c, e2, hz, hb, bytes_app, List.size_toArray]
    exact ⟨by decide, by omega, by decide, (u / 10, UInt8.ofNat (48 + u % 10) :: t), by simp only; omega, ⟨by simp only; omega, by rw [hd, hd1]; simp⟩, ⟨rfl, rfl⟩, List.take_left' rfl, hw⟩
end Go.Proofs.YtdlekkhjkcbbnaaGreatDoor
