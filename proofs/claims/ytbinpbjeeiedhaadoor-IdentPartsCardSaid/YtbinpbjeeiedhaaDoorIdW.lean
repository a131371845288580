/-
  Contracts: the statements of identifiers' parts, and of their coming back.
-/
import Derived.Test.YtbinpbjeeiedhaaDoorIdV
set_option linter.unusedVariables false
set_option linter.unusedSimpArgs false
set_option maxRecDepth 8000
set_option maxHeartbeats 400000
namespace Go.Proofs.YtbinpbjeeiedhaaDoor
open Go.Ab Go.Id Go.Wo Go

theorem parts_c (nd bt se id : Int) (s : ByteArray) (σ : Heap) (h0 : 0 ≤ id) (h1 : id < 2^64) (hs : s.size < 2^62) : ACalls Tryd.prog 12 [iv nd, iv bt, iv se, uv id, sw s] σ (fun r σ' => r = bv true ∧ σ' = σ) := by
  refine acalls_awp Tryd.func12 rfl Tryd.call12 Tryd.ntmps12 Tryd.results12 (Nat.le_of_ble_eq_true rfl) fun hw => ?_
  refine awp_then ?_
  simp only [go_sem]
  refine awp_then ?_
  simp only [go_sem]
  refine callN_of (sane_c _) ?_
  rintro r τ ⟨rfl, rfl⟩
  simp only [go_sem]
  refine awp_then ?_
  by_cases hlong : (100 : Int) < (s.size : Int)
  · simp only [go_sem, eq_true hlong]
    exact retOK_same hw (by simp only [go_sem]) ⟨rfl, rfl⟩
  · simp only [go_sem, hlong]
    refine awp_then ?_
    simp only [go_sem]
    refine callN_of (make_c _ _ _ _) ?_
    rintro r τ' ⟨rfl, rfl⟩
    simp only [go_sem]
    refine awp_then ?_
    simp only [go_sem]
    refine callN_of (rmake_c _ _ _ _) ?_
    rintro r τ ⟨rfl, rfl⟩
    simp only [go_sem]
    refine awp_then ?_
    simp only [go_sem]
    refine callN_of (split_c _ _) ?_
    rintro r τ' ⟨rfl, rfl⟩
    simp only [go_sem]
    refine awp_then ?_
    simp only [go_sem]
    refine callN_of (hsplit_c _ _) ?_
    rintro r τ ⟨rfl, rfl⟩
    simp only [go_sem]
    refine awp_then ?_
    simp only [go_sem]
    refine callN_of (parse_c s _ (by omega)) ?_
    rintro r τ' ⟨rfl, rfl⟩
    simp only [go_sem]
    refine awp_then ?_
    simp only [go_sem]
    refine callN_of (hparse_c s _ (by omega)) ?_
    rintro r τ ⟨rfl, rfl⟩
    simp only [go_sem]
    refine vcode_sound _ ?_
    simp only [go_sem]
    refine callG_of (bv (validS id)) (fun _ => valid_c id _) ?_
    simp only [go_sem]
    refine callG_of (bv (validS id)) (fun _ => by rw [valid_same h0 h1]; exact hvalid_c id _) ?_
    simp only [go_sem]
    refine callG_of (sv (formatS id)) (fun _ => format_c id _) ?_
    simp only [go_sem]
    refine callG_of (sv (formatS id)) (fun _ => hformat_c id _) ?_
    simp only [go_sem]
    exact retOK_same hw (by simp only [go_sem]) ⟨rfl, rfl⟩

theorem dec_part (u : Nat) (hu : u < 9223372036854775808) : numS (Lib.decDigits u) = ((u : Int), 0) ∧ partBad (Lib.decDigits u) = false := by
  have h1 : Lib.itoa (u : Int) = Lib.decDigits u := by
    unfold Lib.itoa
    rw [if_neg (by omega), Int.toNat_natCast]
  have h2 := itoa_num (u : Int) (by omega) (by omega)
  rw [h1] at h2
  refine ⟨h2, ?_⟩
  unfold partBad
  rw [h2]
  obtain ⟨_, d2, d3, _⟩ := dec_val u
  have : negS (Lib.decDigits u) = false := by
    unfold negS
    rw [decide_eq_false_iff_not]
    intro h
    cases hl : Lib.decDigits u with
    | nil => exact d3 hl
    | cons c r =>
      rw [hl] at h d2
      simp only [List.all_cons, Bool.and_eq_true] at d2
      have := dig_iff.1 d2.1
      simp at h
      omega
  rw [this]
  rfl
theorem back_plain {n b s : Nat} (hn : n ≤ 127) (hb : b ≤ 65535) (hs0 : 1 ≤ s) (hs : s ≤ 1099511627775) : ∃ id : Nat, 0 < id ∧ id < 9223372036854775808 ∧ makeS n b s = ((id : Int), 0) ∧ nodeOf id = n ∧ bootOf id = b ∧ serOf id = s ∧ parseS (formatS id) = ((id : Int), 0) ∧ validS id = true := by
  have hid := idOf_nat hn hb (show s < 2^40 by omega)
  have hmk : makeS n b s = (idOf n b s, 0) := by
    rw [makeS, if_pos ⟨by simp only [within, Bool.and_eq_true, decide_eq_true_eq]; omega, by omega, by omega⟩]
  obtain ⟨id, hdef⟩ : ∃ id : Nat, id = n * 72057594037927936 + b * 1099511627776 + s := ⟨_, rfl⟩
  have hid' : idOf n b s = (id : Int) := by rw [hid, hdef]
  have hlt : id < 9223372036854775808 := by omega
  have hlt64 : id < 2^64 := by omega
  have d1 : id / 2^56 = n := by omega
  have d2 : id / 2^40 % 2^16 = b := by omega
  have d3 : id % 2^40 = s := by omega
  have hnode := nodeOf_nat hlt64
  have hboot := bootOf_nat hlt64
  have hser := serOf_nat hlt64
  rw [d1] at hnode
  rw [d2] at hboot
  rw [d3] at hser
  rw [hid'] at hmk
  have hfm := format_nat hlt64
  rw [d1, d2, d3] at hfm
  have hd : ∀ u, ∀ c ∈ Lib.decDigits u, c ≠ 46 := fun u c hc h => dec_dot u (h ▸ hc)
  have hps : parseS (formatS id) = ((id : Int), 0) := by
    rw [hfm]
    unfold parseS
    rw [cutD_app _ _ (hd n), cutD_app _ _ (hd b), cutD_free _ (hd s)]
    obtain ⟨p1, p2⟩ := dec_part n (by omega)
    obtain ⟨q1, q2⟩ := dec_part b (by omega)
    obtain ⟨r1, r2⟩ := dec_part s (by omega)
    simp only [p1, p2, q1, q2, r1, r2, Bool.or_self, Bool.false_eq_true, if_false, and_self, if_true]
    exact hmk
  refine ⟨id, by omega, hlt, hmk, hnode, hboot, hser, hps, ?_⟩
  unfold validS
  rw [hnode, hboot, hser, hmk]
  simp

theorem back_c (nd bt se : Int) (σ : Heap) (h0 : 0 ≤ nd ∧ nd < 2^64) (h1 : 0 ≤ bt ∧ bt < 2^64) (h2 : 0 ≤ se ∧ se < 2^64) : ACalls Tryd.prog 13 [uv nd, uv bt, uv se] σ (fun r σ' => r = bv true ∧ σ' = σ) := by
  obtain ⟨N, rfl⟩ : ∃ N : Nat, nd = N := ⟨nd.toNat, by omega⟩
  obtain ⟨B, rfl⟩ : ∃ B : Nat, bt = B := ⟨bt.toNat, by omega⟩
  obtain ⟨S, rfl⟩ : ∃ S : Nat, se = S := ⟨se.toNat, by omega⟩
  refine acalls_awp Tryd.func13 rfl Tryd.call13 Tryd.ntmps13 Tryd.results13 (Nat.le_of_ble_eq_true rfl) fun hw => ?_
  refine awp_then ?_
  simp only [go_sem]
  refine awp_then ?_
  simp only [go_sem]
  refine callN_of (sane_c _) ?_
  rintro r τ ⟨rfl, rfl⟩
  simp only [go_sem]
  refine awp_then ?_
  have e1 : IntKind.i64.wrap ((N : Int).tmod 128) = ((N % 128 : Nat) : Int) := by
    rw [show (128 : Int) = ((128 : Nat) : Int) by rfl, ← Int.ofNat_tmod, wrap_i64 (by omega) (by omega)]
  have e2 : IntKind.i64.wrap ((B : Int).tmod 65536) = ((B % 65536 : Nat) : Int) := by
    rw [show (65536 : Int) = ((65536 : Nat) : Int) by rfl, ← Int.ofNat_tmod, wrap_i64 (by omega) (by omega)]
  have e3 : IntKind.i64.wrap (IntKind.u64.wrap (1 + (S : Int).tmod 1099511627775)) = ((S % 1099511627775 + 1 : Nat) : Int) := by
    rw [show (1099511627775 : Int) = ((1099511627775 : Nat) : Int) by rfl, ← Int.ofNat_tmod, show (1 : Int) + ((S % 1099511627775 : Nat) : Int) = ((S % 1099511627775 + 1 : Nat) : Int) by omega, wrap_nat, Nat.mod_eq_of_lt (by omega), wrap_i64 (by omega) (by omega)]
  have hn : N % 128 ≤ 127 := by omega
  have hb : B % 65536 ≤ 65535 := by omega
  have hs0 : 1 ≤ S % 1099511627775 + 1 := by omega
  have hs : S % 1099511627775 + 1 ≤ 1099511627775 := by omega
  generalize N % 128 = n at *
  generalize B % 65536 = b at *
  generalize S % 1099511627775 + 1 = s at *
  obtain ⟨id, hpos, hlt, hmk, hnode, hboot, hser, hpf, hval⟩ := back_plain hn hb hs0 hs
  have hfl : (formatS id).length ≤ 100 := by
    have l1 := Lib.itoa_length_le _ (wrap_i64_range _).1 (wrap_i64_range ((id : Int).fdiv (2 ^ min (Int.toNat 56) 64))).2
    have l2 := Lib.itoa_length_le _ (wrap_i64_range _).1 (wrap_i64_range (bitsOp BinOp.and IntKind.u64 ((id : Int).fdiv (2 ^ min (Int.toNat 40) 64)) 65535)).2
    have l3 := Lib.itoa_length_le _ (wrap_i64_range _).1 (wrap_i64_range (bitsOp BinOp.and IntKind.u64 (id : Int) 1099511627775)).2
    unfold formatS nodeOf bootOf serOf
    simp only [Lib.join, List.intercalate, List.intersperse, List.flatten_cons, List.flatten_nil, List.length_append, List.length_cons, List.length_nil]
    omega
  have hpc := parse_c (toB (formatS id)) τ (by show (formatS id).toArray.size < _; rw [List.size_toArray]; omega)
  rw [show (toB (formatS id)).data.toList = formatS id from rfl, hpf] at hpc
  have hmc := make_c n b s τ
  rw [hmk] at hmc
  have hsc := split_c id τ
  rw [hnode, hboot, hser] at hsc
  have hvc := valid_c id τ
  rw [hval] at hvc
  have hfc := format_c id τ
  have ew : IntKind.i64.wrap (id : Int) = (id : Int) := wrap_i64 (by omega) (by omega)
  have hgt : (0 : Int) < (id : Int) := by omega
  simp only [go_sem, e1, e2, e3]
  refine ⟨by decide, by decide, by decide, ?_⟩
  refine awp_then ?_
  simp only [go_sem]
  refine callN_of hmc ?_
  rintro r τ' ⟨rfl, rfl⟩
  simp only [go_sem]
  refine awp_then ?_
  simp only [go_sem]
  refine callN_of hsc ?_
  rintro r τ ⟨rfl, rfl⟩
  simp only [go_sem]
  refine awp_then ?_
  simp only [go_sem]
  refine callN_of hfc ?_
  rintro r τ' ⟨rfl, rfl⟩
  simp only [go_sem]
  refine callN_of hpc ?_
  rintro r τ ⟨rfl, rfl⟩
  simp only [go_sem]
  refine vcode_sound _ ?_
  simp only [go_sem]
  refine callG_of (bv true) (fun _ => hvc) ?_
  simp only [go_sem, ew, hgt, eq_true hgt]
  exact retOK_same hw (by simp only [go_sem]) ⟨rfl, rfl⟩

theorem wfU {a : Int} (h : (Lit.int .u64 a).wf = true) : 0 ≤ a ∧ a < 2^64 := by
  have : 0 ≤ a ∧ a ≤ 18446744073709551615 := by simpa [Lit.wf, IntKind.min, IntKind.max, IntKind.bits, IntKind.signed] using h
  omega
end Go.Proofs.YtbinpbjeeiedhaaDoor
