/-
  Contracts: the law's example (sane) and CodeChecks.
-/
import Derived.Test.YtdlekkhjkcbbnaaGreatDoorAbZ
import Derived.Test.YtdlekkhjkcbbnaaGreatDoorCoF
import Derived.Test.YtdlekkhjkcbbnaaGreatDoorCoH
import Derived.Test.YtdlekkhjkcbbnaaGreatDoorCoL
import Derived.Test.YtdlekkhjkcbbnaaGreatDoorCoM
import Derived.Test.YtdlekkhjkcbbnaaGreatDoorCoX
set_option linter.unusedVariables false
set_option linter.unusedSimpArgs false
set_option maxRecDepth 8000
set_option maxHeartbeats 4000000
namespace Go.Proofs.YtdlekkhjkcbbnaaGreatDoor
open Go.Ab Go.Id Go.Wo Go

def exP : Prg := ⟨[⟨1, 1, 5, 0⟩, ⟨12, 1, 0, 0⟩], [], 0⟩
def exT : Bytes := [115, 101, 116, 32, 114, 49, 32, 53, 10, 99, 97, 108, 108, 32, 49, 10]
theorem ex_parse : parseS exT = (exP, 0, 0) := by kernel_rfl
theorem itoa_small : Lib.itoa 0 = [48] ∧ Lib.itoa 1 = [49] ∧ Lib.itoa 5 = [53] := by
  have : ∀ k : Nat, k < 10 → Lib.itoa (k : Int) = [UInt8.ofNat (48 + k)] := by
    intro k hk
    unfold Lib.itoa
    rw [if_neg (by omega), Int.toNat_natCast, Lib.decDigits, dif_pos (by omega)]
  exact ⟨this 0 (by decide), this 1 (by decide), this 5 (by decide)⟩
theorem ex_format : formatP exP = ([112, 97, 103, 101, 115, 32, 48, 10, 115, 101, 116, 32, 114, 49, 32, 53, 10, 99, 97, 108, 108, 32, 49, 10], 0) := by
  have h : (checkS exP).2 = 0 := by kernel_rfl
  unfold formatP
  rw [if_pos h]
  obtain ⟨h0, h1, h5⟩ := itoa_small
  simp [textS, exP, headS, lineS, opsT, opT, nameS, letsS, formsB, Ins.nums, h0, h1, h5]

theorem saneC_c (σ : Heap) : ACalls Tryz.prog 5 [] σ (fun r σ' => r = bv true ∧ σ' = σ) := by
  refine acalls_awp Tryz.func5 rfl Tryz.call5 Tryz.ntmps5 Tryz.results5 (Nat.le_of_ble_eq_true rfl) fun hw => ?_
  refine awp_then ?_
  simp only [go_sem]
  refine awp_then ?_
  simp only [go_sem]
  have h1 := parse_c exT σ (by decide)
  rw [ex_parse] at h1
  refine callN_of h1 ?_
  rintro r τ ⟨rfl, rfl⟩
  simp only [go_sem, exP, Prg.av, codeAV, strsB, List.map_cons, List.map_nil, insAV]
  refine awp_then ?_
  simp only [go_sem]
  have h2 := format_c exP (τ ++ [.row 0 3 [exP.av]]) (by decide) (by decide)
  rw [ex_format] at h2
  refine callN_of h2 ?_
  rintro r τ' ⟨rfl, rfl⟩
  simp only [go_sem]
  refine vcode_sound _ ?_
  simp only [go_sem, exP, Prg.av, codeAV, strsB, List.map_cons, List.map_nil, insAV, abinT, eqN_ins, aints, Int.cast_ofNat_Int, Int.reduceEq]
  refine callG_of (bv true) (fun _ => by have := sameC_c exP exP (τ ++ [.row 0 3 [exP.av]]) ⟨by decide, by decide⟩ ⟨by decide, by decide⟩; rw [decide_eq_true rfl] at this; exact this) ?_
  simp only [go_sem]
  exact retOK_app hw trivial ⟨rfl, rfl⟩

theorem take_app5 {σ junk : Heap} {a b c d e : AObj} : List.take (σ.length + 5) (σ ++ (a :: b :: c :: d :: e :: junk)) = σ ++ [a, b, c, d, e] := by
  rw [List.take_append, List.take_of_length_le (by omega)]; simp
theorem prgAV (a : List Ins) (b : List Bytes) (c : Int) : Prg.av ⟨a, b, c⟩ = .agg [codeAV a, strsB b, iv c] := rfl
theorem u8_rem (b : UInt8) (m : Nat) (hm : 0 < m) : (b.toNat : Int).tmod m = ((b.toNat % m : Nat) : Int) := by
  rw [Int.tmod_eq_emod_of_nonneg (by omega)]; rfl

theorem checks_c (raw : Prg) (seeds : Bytes) (at' what : UInt8) (n : Int) (σ : Heap) (hraw : Cnt raw) (hs : seeds.length < 2^62) :
    ACalls Tryz.prog 3 [raw.av, .sl 1 (seeds.map byteV), .v (.int .u8 at'.toNat), .v (.int .u8 what.toNat), iv n] σ (fun r σ' => r = bv true ∧ σ' = σ) := by
  refine acalls_awp Tryz.func3 rfl Tryz.call3 Tryz.ntmps3 Tryz.results3 (Nat.le_of_ble_eq_true rfl) fun hw => ?_
  have hfin : ∀ τ : Heap, RetOK σ.length (bv true) (σ ++ τ) (fun r σ' => r = bv true ∧ σ' = σ) := fun τ => retOK_app hw trivial ⟨rfl, rfl⟩
  refine awp_then ?_
  simp only [go_sem, Prg.av]
  refine awp_then ?_
  simp only [go_sem]
  refine callN_of (saneC_c _) ?_
  rintro r τ ⟨rfl, rfl⟩
  simp only [go_sem]
  refine awp_then ?_
  simp only [go_sem]
  refine callN_of (keep_c raw _ hraw.1 hraw.2) ?_
  rintro r τ ⟨rfl, rfl⟩
  cases hk : keepS raw with
  | false =>
    simp only [go_sem]
    exact hfin _
  | true =>
    simp only [go_sem]
    refine awp_then ?_
    simp only [go_sem]
    refine callN_of (made_c seeds _ hs) ?_
    rintro r τ ⟨p, hp, rfl, rfl⟩
    obtain ⟨⟨hpc, hps, hpl, hpp, hpr⟩, hpb, _⟩ := hp
    obtain ⟨code, strs, pages⟩ := p
    simp only at hpc hps hpl hpp hpr hpb
    simp only [go_sem, Prg.av, codeAV, strsB]
    refine awp_then ?_
    simp only [go_sem]
    refine awp_then ?_
    simp only [go_sem]
    refine ⟨⟨by omega, by omega⟩, ?_⟩
    refine awp_meet (T := List Ins × Int) (fun _ => [(5, ⟨true, .ptr σ.length 0 0 0⟩), (11, ⟨true, .ptr (σ.length + 1) 0 0 0⟩), (12, ⟨true, .ptr (σ.length + 2) 0 0 0⟩)])
      (fun q => σ ++ [.row 0 3 [.agg [.sl 4 (List.map Ins.av raw.code), .sl 1 (List.map sv raw.strs), iv raw.pages]], .row 0 3 [.agg [.sl 4 (List.map Ins.av code), .sl 1 (List.map sv strs), iv pages]],
        .row 0 3 [.agg [.os (σ.length + 3) 0 0 q.1.length, .sl 1 (List.map sv strs), iv q.2]], .row 0 4 (List.map Ins.av q.1)]) (fun q => q.1.length = code.length) ?_ ?_
    · by_cases hc0 : (0 : Int) < code.length
      · simp only [go_sem, eq_true hc0]
        have hcp : 0 < code.length := by omega
        obtain ⟨k, hkk⟩ : ∃ k, at'.toNat % code.length = k := ⟨_, rfl⟩
        have hkl : k < code.length := by rw [← hkk]; exact Nat.mod_lt _ hcp
        obtain ⟨⟨xo, xa, xb, xc⟩, hg⟩ : ∃ x, code[k]? = some x := ⟨_, List.getElem?_eq_getElem hkl⟩
        have hatb := at'.toNat_lt
        have hwa : IntKind.i64.wrap (at'.toNat : Int) = at'.toNat := wrap_i64 (by omega) (by omega)
        have hrem : (at'.toNat : Int).tmod (code.length : Int) = (k : Int) := by rw [u8_rem _ _ hcp, hkk]
        have hne0 : ((code.length : Int) ≠ 0) := by omega
        have hk0 : (0 : Int) ≤ k := by omega
        have hk1 : (k : Int) < (code.length : Int) := by omega
        have hwm : (what.toNat : Int).tmod 5 = ((what.toNat % 5 : Nat) : Int) := u8_rem what 5 (by decide)
        obtain ⟨w, hww⟩ : ∃ w, what.toNat % 5 = w := ⟨_, rfl⟩
        have hw5 : w < 5 := by rw [← hww]; exact Nat.mod_lt _ (by decide)
        rw [hww] at hwm
        refine awp_draw Tryz.mixed (by kernel_rfl) ?_
        have ms : ∀ y : Ins, (List.map Ins.av code).set k y.av = List.map Ins.av (code.set k y) := fun y => by rw [List.map_set]
        have hls : ∀ y : Ins, (code.set k y).length = code.length := fun y => List.length_set
        have done : ∀ (y : Ins), ∃ t : List Ins × Int, t.1.length = code.length ∧ σ ++ [AObj.row 0 3 [.agg [.sl 4 (List.map Ins.av raw.code), .sl 1 (List.map sv raw.strs), iv raw.pages]], .row 0 3 [.agg [.sl 4 (List.map Ins.av code), .sl 1 (List.map sv strs), iv pages]],
            .row 0 3 [.agg [.os (σ.length + 3) 0 0 code.length, .sl 1 (List.map sv strs), iv pages]], .row 0 4 ((List.map Ins.av code).set k y.av)] =
            σ ++ [.row 0 3 [.agg [.sl 4 (List.map Ins.av raw.code), .sl 1 (List.map sv raw.strs), iv raw.pages]], .row 0 3 [.agg [.sl 4 (List.map Ins.av code), .sl 1 (List.map sv strs), iv pages]],
            .row 0 3 [.agg [.os (σ.length + 3) 0 0 t.1.length, .sl 1 (List.map sv strs), iv t.2]], .row 0 4 (List.map Ins.av t.1)] := fun y =>
          ⟨(code.set k y, pages), hls y, by rw [ms, hls]⟩
        rcases (show w = 0 ∨ w = 1 ∨ w = 2 ∨ w = 3 ∨ w = 4 by omega) with rfl | rfl | rfl | rfl | rfl
        · simp only [go_sem, hwa, hrem, hwm, hg, insAV, Int.cast_ofNat_Int, Int.reduceEq]
          exact ⟨hne0, hkl, by decide, hkl, done ⟨n, xa, xb, xc⟩⟩
        · simp only [go_sem, hwa, hrem, hwm, hg, insAV, Int.cast_ofNat_Int, Int.reduceEq]
          exact ⟨hne0, hkl, by decide, hkl, done ⟨xo, n, xb, xc⟩⟩
        · simp only [go_sem, hwa, hrem, hwm, hg, insAV, Int.cast_ofNat_Int, Int.reduceEq]
          exact ⟨hne0, hkl, by decide, hkl, done ⟨xo, xa, n, xc⟩⟩
        · simp only [go_sem, hwa, hrem, hwm, hg, insAV, Int.cast_ofNat_Int, Int.reduceEq]
          exact ⟨hne0, hkl, by decide, hkl, done ⟨xo, xa, xb, n⟩⟩
        · simp only [go_sem, hwa, hrem, hwm, hg, insAV, Int.cast_ofNat_Int, Int.reduceEq]
          exact ⟨hne0, hkl, by decide, (code, n), rfl, rfl⟩
      · simp only [go_sem, hc0]
        exact ⟨(code, pages), rfl, rfl⟩
    rintro ⟨qc, qp⟩ hql
    simp only at hql
    have tc : List.take qc.length (List.map Ins.av qc) = List.map Ins.av qc := List.take_of_length_le (by simp)
    refine awp_frzH (k := 3) hw rfl ?_
    simp only [frzE, frzO, frz, frzL, go_sem, List.map_cons, List.map_nil, tc]
    refine awp_then ?_
    simp only [go_sem]
    have hx : ∀ x ∈ [raw, ⟨code, strs, pages⟩, ⟨qc, strs, qp⟩], Cnt x := by
      intro x hx
      simp only [List.mem_cons, List.not_mem_nil, or_false] at hx
      rcases hx with rfl | rfl | rfl
      · exact hraw
      · exact ⟨by simp only; omega, by simp only; omega⟩
      · exact ⟨by simp only; omega, by simp only; omega⟩
    obtain ⟨xl, hxl⟩ : ∃ xl : List Prg, [raw, ⟨code, strs, pages⟩, ⟨qc, strs, qp⟩] = xl := ⟨_, rfl⟩
    have hx3 : xl.length = 3 := by rw [← hxl]; rfl
    rw [hxl] at hx
    have hxv : [AV.agg [.sl 4 (List.map Ins.av raw.code), .sl 1 (List.map sv raw.strs), iv raw.pages], .agg [.sl 4 (List.map Ins.av code), .sl 1 (List.map sv strs), iv pages], .agg [.sl 4 (List.map Ins.av qc), .sl 1 (List.map sv strs), iv qp]] = xl.map Prg.av := by rw [← hxl]; rfl
    have hpc' : Cnt ⟨code, strs, pages⟩ := ⟨by simp only; omega, by simp only; omega⟩
    obtain ⟨qA, hqA⟩ : ∃ qA, AV.agg [.sl 4 (List.map Ins.av qc), .sl 1 (List.map sv strs), iv qp] = qA := ⟨_, rfl⟩
    have hpq : Pure qA := by rw [← hqA]; exact ⟨pure_codeL _, pure_svL _, trivial, trivial⟩
    have hpx : PureL (xl.map Prg.av) := pureL_map (f := Prg.av) (fun x => ⟨pure_codeL _, pure_strL _, trivial, trivial⟩) xl
    refine loop_junk (X := Nat) (fun k => [(11, ⟨true, .ptr (σ.length + 1) 0 0 0⟩), (80, ⟨true, .os (σ.length + 4) 0 0 3⟩), (81, ⟨true, iv (3 : Nat)⟩), (82, ⟨true, iv k⟩)])
      (fun _ => σ ++ [.row 0 3 [raw.av], .row 0 3 [Prg.av ⟨code, strs, pages⟩], .row 0 3 [qA], .dead 0, .row 0 3 (xl.map Prg.av)]) (fun k => k ≤ 3) (fun k => 3 - k) 0 (by decide) (by simp only [go_sem]; simp) (by rw [← hxv, hqA]; rfl) ?_
    rintro k hk
    have hwk : WfH (σ.length + 5) (σ ++ [.row 0 3 [raw.av], .row 0 3 [Prg.av ⟨code, strs, pages⟩], .row 0 3 [qA], .dead 0, .row 0 3 (xl.map Prg.av)]) := by
      intro o ho
      simp only [List.mem_append, List.mem_cons, List.not_mem_nil, or_false] at ho
      rcases ho with ho | rfl | rfl | rfl | rfl | rfl
      · exact AObj.allI_mono (fun i (hi : i < σ.length) => by show i < σ.length + 5; omega) (hw o ho)
      · exact ⟨⟨AllIL.mono (fun _ h => h.elim) _ (pure_codeL _), AllIL.mono (fun _ h => h.elim) _ (pure_strL _), trivial, trivial⟩, trivial⟩
      · exact ⟨⟨AllIL.mono (fun _ h => h.elim) _ (pure_codeL _), AllIL.mono (fun _ h => h.elim) _ (pure_strL _), trivial, trivial⟩, trivial⟩
      · exact ⟨AllI.mono (fun _ h => h.elim) _ hpq, trivial⟩
      · trivial
      · exact AllIL.mono (fun _ h => h.elim) _ hpx
    by_cases hlt : k < 3
    · obtain ⟨x, hg⟩ : ∃ x, xl[k]? = some x := ⟨_, List.getElem?_eq_getElem (by omega)⟩
      have hcx := hx x (List.mem_of_getElem? hg)
      have hlt' : (k : Int) < 3 := by omega
      have hk0 : (0 : Int) ≤ k := by omega
      obtain ⟨xc, xs, xp⟩ := x
      simp only [go_sem, Int.cast_ofNat_Int, eq_true hlt', eq_true hk0, hlt, hg, prgAV, codeAV, strsB]
      have hkx : k < xl.length := by omega
      refine ⟨hkx, callN_of (check_c ⟨xc, xs, xp⟩ _ hcx.1 hcx.2) ?_⟩
      rintro r τ ⟨rfl, rfl⟩
      obtain ⟨cr, hcr⟩ : ∃ cr, checkS ⟨xc, xs, xp⟩ = cr := ⟨_, rfl⟩
      rw [hcr]
      simp only [go_sem, prgAV, codeAV, strsB]
      have hk2 := rcheck_c ⟨xc, xs, xp⟩ (σ ++ [.row 0 3 [raw.av], .row 0 3 [Prg.av ⟨code, strs, pages⟩], .row 0 3 [qA], .dead 0, .row 0 3 (xl.map Prg.av), .row 0 3 [Prg.av ⟨xc, xs, xp⟩]]) hcx.1 hcx.2
      rw [hcr] at hk2
      refine callN_of hk2 ?_
      rintro r τ ⟨rfl, rfl⟩
      simp only [go_sem, prgAV, codeAV, strsB]
      obtain ⟨fr, hfr⟩ : ∃ fr, formatP ⟨xc, xs, xp⟩ = fr := ⟨_, rfl⟩
      have hf1 := format_c ⟨xc, xs, xp⟩ (σ ++ [.row 0 3 [raw.av], .row 0 3 [Prg.av ⟨code, strs, pages⟩], .row 0 3 [qA], .dead 0, .row 0 3 (xl.map Prg.av), .row 0 3 [Prg.av ⟨xc, xs, xp⟩]]) hcx.1 hcx.2
      have hf2 := rformatP_c ⟨xc, xs, xp⟩ (σ ++ [.row 0 3 [raw.av], .row 0 3 [Prg.av ⟨code, strs, pages⟩], .row 0 3 [qA], .dead 0, .row 0 3 (xl.map Prg.av), .row 0 3 [Prg.av ⟨xc, xs, xp⟩]]) hcx.1 hcx.2
      rw [hfr] at hf1 hf2
      refine callN_of hf1 ?_
      rintro r τ ⟨rfl, rfl⟩
      simp only [go_sem, prgAV, codeAV, strsB]
      refine callN_of hf2 ?_
      rintro r τ ⟨rfl, rfl⟩
      simp only [go_sem, prgAV, codeAV, strsB]
      refine awp_draw Tryz.mixed (by kernel_rfl) ?_
      simp only [go_sem, prgAV, codeAV, strsB]
      refine callD_of (bv (decide ((⟨xc, xs, xp⟩ : Prg) = ⟨code, strs, pages⟩))) (fun _ σ' => sameC_c ⟨xc, xs, xp⟩ ⟨code, strs, pages⟩ σ' hcx hpc') ?_
      simp only [go_sem, prgAV, codeAV, strsB]
      refine callD_of (bv (decide ((⟨xc, xs, xp⟩ : Prg) = ⟨code, strs, pages⟩))) (fun _ σ' => rsameC_c ⟨xc, xs, xp⟩ ⟨code, strs, pages⟩ σ' hcx hpc') ?_
      simp only [go_sem, prgAV, codeAV, strsB, abinT]
      exact ⟨k + 1, by omega, by omega, inc k (by omega), take_app5, ⟨by omega, by omega⟩, hwk⟩
    · obtain rfl : k = 3 := by omega
      have hlt' : ¬ ((3 : Nat) : Int) < 3 := by omega
      simp only [go_sem, hlt']
      refine vcode_sound _ ?_
      simp only [go_sem]
      exact hfin _
end Go.Proofs.YtdlekkhjkcbbnaaGreatDoor
