/-
  Contracts: operand, Format, Same of the reference.
-/
import Derived.Test.YtdlekkhjkcbbnaaGreatDoorCoC
import Derived.Test.YtdlekkhjkcbbnaaGreatDoorCoD
import Derived.Test.YtdlekkhjkcbbnaaGreatDoorCoM
set_option linter.unusedVariables false
set_option linter.unusedSimpArgs false
set_option maxRecDepth 8000
set_option maxHeartbeats 4000000
namespace Go.Proofs.YtdlekkhjkcbbnaaGreatDoor
open Go.Ab Go.Id Go.Wo Go

theorem roperand_c (l : UInt8) (n : Int) (σ : Heap) (hn : okN n) : ACalls Tryz.prog 32 [.v (.int .u8 l.toNat), iv n] σ (fun r σ' => r = sv (opT l n) ∧ σ' = σ) := by
  refine acalls_go Tryz.func32 rfl Tryz.call32 Tryz.ntmps32 Tryz.results32 (Nat.le_of_ble_eq_true rfl) fun hw => ?_
  have hit := itoa_okN hn
  have h64 := okN_64 hn
  by_cases h : l.toNat = 114
  · have h' : (l.toNat : Int) = 114 := by omega
    have e2 : ∀ s : Bytes, ({ data := #[114] } : ByteArray) ++ { data := s.toArray } = ⟨([114] ++ s).toArray⟩ := fun s => bytes_app [114] s
    rw [opT, if_pos h]
    simp only [go_sem, eq_true h']
    refine callN_of (rformat_c n _ h64.1 h64.2) ?_
    rintro r τ ⟨rfl, rfl⟩
    simp only [go_sem, e2, List.size_toArray]
    exact ⟨by omega, retOK_same hw (by simp only [go_sem]) ⟨rfl, rfl⟩⟩
  · have h' : ¬ (l.toNat : Int) = 114 := by omega
    rw [opT, if_neg h]
    simp only [go_sem, h']
    refine callN_of (rformat_c n _ h64.1 h64.2) ?_
    rintro r τ ⟨rfl, rfl⟩
    simp only [go_sem]
    exact retOK_same hw (by simp only [go_sem]) ⟨rfl, rfl⟩

theorem opsT_congr : ∀ (ls ms : Bytes) (ns : List Int), ls.map (fun l => decide (l.toNat = 114)) = ms.map (fun l => decide (l.toNat = 114)) → opsT ls ns = opsT ms ns
  | [], [], _, _ => by simp [opsT]
  | [], _ :: _, _, h => by simp at h
  | _ :: _, [], _, h => by simp at h
  | l :: ls, m :: ms, [], _ => by simp [opsT]
  | l :: ls, m :: ms, n :: ns, h => by
    simp only [List.map_cons, List.cons.injEq] at h
    rw [opsT, opsT, opsT_congr ls ms ns h.2]
    congr 1
    unfold opT
    by_cases h1 : l.toNat = 114
    · rw [if_pos h1, if_pos (by have := h.1; rw [decide_eq_true h1] at this; exact of_decide_eq_true this.symm)]
    · rw [if_neg h1, if_neg (by have := h.1; rw [decide_eq_false h1] at this; exact of_decide_eq_false this.symm)]
theorem lets_114 : ∀ k, k < 13 → (rletsS k).map (fun l => decide (l.toNat = 114)) = (letsS k).map (fun l => decide (l.toNat = 114)) := by decide
theorem ropsT {k : Nat} (h : k < 13) (ns : List Int) : opsT (rletsS k) ns = opsT (letsS k) ns := opsT_congr _ _ _ (lets_114 k h)

theorem rformatP_c (p : Prg) (σ : Heap) (hc : p.code.length < 2^62) (hs : p.strs.length < 2^62) : ACalls Tryz.prog 11 [p.av] σ (fun r σ' => r = .tup [sv (formatP p).1, iv (formatP p).2] ∧ σ' = σ) := by
  refine acalls_awp Tryz.func11 rfl Tryz.call11 Tryz.ntmps11 Tryz.results11 (Nat.le_of_ble_eq_true rfl) fun hw => ?_
  generalize hres : formatP p = res
  unfold formatP at hres
  refine awp_then ?_
  simp only [go_sem, Prg.av]
  refine awp_then ?_
  simp only [go_sem]
  refine callN_of (rcheck_c p _ hc hs) ?_
  rintro r τ ⟨rfl, rfl⟩
  by_cases hok : (checkS p).2 = 0
  · rw [if_pos hok] at hres
    subst hres
    have hP := okP_iff.1 hok
    have hlen := textS_len hP
    have hpg := pages_okN hP
    simp only [go_sem, eq_true hok]
    refine awp_then ?_
    simp only [go_sem]
    refine callN_of (rformat_c p.pages _ (okN_64 hpg).1 (okN_64 hpg).2) ?_
    rintro r τ ⟨rfl, rfl⟩
    have hit := itoa_okN hpg
    have e1 : ∀ s : Bytes, ({ data := #[112, 97, 103, 101, 115, 32] } : ByteArray) ++ { data := s.toArray } = ⟨([112, 97, 103, 101, 115, 32] ++ s).toArray⟩ := fun s => bytes_app [112, 97, 103, 101, 115, 32] s
    have e2 : ∀ s : Bytes, ({ data := s.toArray } : ByteArray) ++ { data := #[10] } = ⟨(s ++ [10]).toArray⟩ := fun s => bytes_app s [10]
    have e3 : ∀ s : Bytes, ({ data := #[32] } : ByteArray) ++ { data := s.toArray } = ⟨([32] ++ s).toArray⟩ := fun s => bytes_app [32] s
    have hh : (112 :: 97 :: 103 :: 101 :: 115 :: 32 :: (Lib.itoa p.pages ++ [10]) : Bytes) = headS p.pages := rfl
    have hl1 := headS_len hpg
    simp only [go_sem, e1, e2, List.size_toArray, hh]
    refine ⟨by omega, by omega, ?_⟩
    have hstr := hP.strs
    have hcode := hP.code
    refine awp_then ?_
    simp only [go_sem, strsB]
    refine loop_junk (X := Nat × Bytes) (fun x => [(1, ⟨true, .ptr σ.length 0 0 0⟩), (6, ⟨true, sv x.2⟩), (31, ⟨true, strsB p.strs⟩), (32, ⟨true, iv p.strs.length⟩), (33, ⟨true, iv x.1⟩)])
      (fun x => σ ++ [.row 0 3 [p.av]])
      (fun x => x.1 ≤ p.strs.length ∧ (x.2 = headS p.pages ++ (p.strs.take x.1).flatMap strS ∧ x.2.length ≤ 28 + 400 * x.1)) (fun x => p.strs.length - x.1) (0, headS p.pages) ⟨by simp, by simp, by simpa using hl1⟩ (by simp only [go_sem, strsB]; simp) (by simp [Prg.av, strsB]) ?_
    rintro ⟨k, out⟩ ⟨hk, ho, hol⟩
    simp only at hk ho hol
    have hwk : WfH (σ.length + 1) (σ ++ [.row 0 3 [p.av]]) := wfH_row1 hw ⟨⟨pure_codeL _, pure_strL _, trivial, trivial⟩, trivial⟩
    by_cases hlt : k < p.strs.length
    · obtain ⟨s, hg⟩ : ∃ s, p.strs[k]? = some s := ⟨_, List.getElem?_eq_getElem hlt⟩
      have hsh := hP.short s (List.mem_of_getElem? hg)
      have hsl := strS_len hsh
      simp only [go_sem, strsB, hlt, hg]
      have hj := rjoin_c [[115, 116, 114, 105, 110, 103], s] (σ ++ [.row 0 3 [p.av], .dead 0]) (by simp) (by intro w hw; rcases List.mem_cons.1 hw with rfl | hw; simp; rcases List.mem_cons.1 hw with rfl | hw; omega; cases hw)
      refine callN_of (acalls_frz (i := σ.length + 1) (g := 0) (e := 1) (es := [sv [115, 116, 114, 105, 110, 103], sv s]) (by simp only [go_sem]) (by simp only [frzL, frz, go_sem]; exact hj)) ?_
      rintro r τ ⟨rfl, rfl⟩
      have hss : (joinS [[115, 116, 114, 105, 110, 103], s]).1 ++ [10] = strS s := rfl
      have hss2 : (joinS [[115, 116, 114, 105, 110, 103], s]).1.length + 1 = (strS s).length := by rw [← hss]; simp
      simp only [go_sem, e2, List.size_toArray, hss, bytes_app]
      refine ⟨by omega, by omega, (k + 1, out ++ strS s), by simp only; omega, ⟨by simp only; omega, ?_, ?_⟩, ⟨rfl, inc k (by omega)⟩, take_app1, by omega, hwk⟩
      · simp only
        rw [take_flatMap _ _ _ _ hg, ← List.append_assoc, ← ho]
      · simp only [List.length_append]; omega
    · obtain rfl : k = p.strs.length := by omega
      rw [List.take_length] at ho
      simp only [go_sem, strsB, hlt]
      refine awp_then ?_
      simp only [go_sem, Prg.av, codeAV]
      refine loop_junk (X := Nat × Bytes) (fun x => [(1, ⟨true, .ptr σ.length 0 0 0⟩), (6, ⟨true, sv x.2⟩), (49, ⟨true, codeAV p.code⟩), (50, ⟨true, iv p.code.length⟩), (51, ⟨true, iv x.1⟩)])
        (fun x => σ ++ [.row 0 3 [p.av]])
        (fun x => x.1 ≤ p.code.length ∧ (x.2 = headS p.pages ++ p.strs.flatMap strS ++ (p.code.take x.1).flatMap lineS ∧ x.2.length ≤ 28 + 400 * 32 + 75 * x.1)) (fun x => p.code.length - x.1) (0, out)
        ⟨by simp, by simp only [List.take_zero, List.flatMap_nil, List.append_nil]; exact ho, by simp only; omega⟩ (by simp only [go_sem, codeAV]; simp) (by simp [Prg.av, codeAV]) ?_
      clear hol ho
      rintro ⟨k, out⟩ ⟨hk, ho, hol⟩
      simp only at hk ho hol
      by_cases hlt : k < p.code.length
      · obtain ⟨⟨xo, xa, xb, xc⟩, hg⟩ : ∃ x, p.code[k]? = some x := ⟨_, List.getElem?_eq_getElem hlt⟩
        have hright := hP.right _ (List.mem_of_getElem? hg)
        obtain ⟨⟨hx1, hx2⟩, hxn⟩ := right_okN (by omega) hright
        have hlx := lineS_len hxn
        simp only at hx1 hx2
        simp only [go_sem, codeAV, hlt, hg, insAV]
        obtain ⟨q, rfl⟩ : ∃ q : Nat, xo = q := ⟨xo.toNat, by omega⟩
        have hq : q < 13 := by omega
        refine callN_of (form_c q _) ?_
        rintro r τ ⟨rfl, rfl⟩
        have hni : nameI q = nameS q := by unfold nameI; rw [if_neg (by omega), Int.toNat_natCast]
        have hri : rletsI q = rletsS q := by unfold rletsI; rw [if_neg (by omega), Int.toNat_natCast]
        rw [hni, hri]
        have hnl5 := nameS_len q
        have hrl := rlets_len q
        have hll := letsS_len q
        have hlx2 : lineS ⟨q, xa, xb, xc⟩ = nameS q ++ ((opsT (rletsS q) [xa, xb, xc]).flatMap fun w => 32 :: w) ++ [10] := by rw [ropsT hq]; rfl
        obtain ⟨ls, hls⟩ : ∃ ls, rletsS q = ls := ⟨_, rfl⟩
        obtain ⟨nm, hnm⟩ : ∃ nm, nameS q = nm := ⟨_, rfl⟩
        rw [hls] at hrl hlx2 ⊢
        rw [hnm] at hlx2 hnl5 ⊢
        obtain ⟨ns, hns⟩ : ∃ ns : List Int, [xa, xb, xc] = ns := ⟨_, rfl⟩
        have hok' : ∀ n ∈ ns, okN n := by rw [← hns]; exact hxn
        rw [hns] at hlx2
        have hnl : ns.length = 3 := by rw [← hns]; rfl
        have hnsv : [iv xa, iv xb, iv xc] = ns.map iv := by rw [← hns]; rfl
        simp only [go_sem, codeAV, bytes_app, List.size_toArray]
        refine ⟨by omega, ?_⟩
        refine loop_go (X := Nat × Bytes) (fun x => [(1, ⟨true, .ptr σ.length 0 0 0⟩), (6, ⟨true, sv x.2⟩), (14, ⟨true, sv ls⟩), (49, ⟨true, codeAV p.code⟩), (50, ⟨true, iv p.code.length⟩), (51, ⟨true, iv k⟩), (70, ⟨true, .os (σ.length + 2) 0 0 3⟩), (71, ⟨true, iv (3 : Nat)⟩), (72, ⟨true, iv x.1⟩)])
          (fun _ => σ ++ [.row 0 3 [p.av], .row 0 4 [.agg [iv q, iv xa, iv xb, iv xc]], .row 0 1 [iv xa, iv xb, iv xc]])
          (fun x => x.1 ≤ 3 ∧ (x.2 = out ++ nm ++ ((opsT ls ns).take x.1).flatMap (fun w => 32 :: w) ∧ x.2.length ≤ out.length + 5 + 23 * x.1)) (fun x => 3 - x.1) (0, out ++ nm)
          ⟨by simp, by simp, by simp only [List.length_append]; omega⟩ (by simp only [go_sem, codeAV]; simp) (by simp) ?_
        rintro ⟨i, cur⟩ ⟨hi, hcur, hcl⟩
        simp only at hi hcur hcl
        by_cases hi3 : i < 3
        · obtain ⟨n, hni⟩ : ∃ n, ns[i]? = some n := ⟨_, List.getElem?_eq_getElem (by omega)⟩
          have hav : [iv xa, iv xb, iv xc][i]? = some (iv n) := by rw [hnsv, List.getElem?_map, hni]; rfl
          have hi3' : (i : Int) < 3 := by omega
          have hi0 : (0 : Int) ≤ i := by omega
          have hnok := hok' n (List.mem_of_getElem? hni)
          by_cases hl : i < ls.length
          · have hl' : (i : Int) < (ls.length : Int) := by omega
            simp only [go_sem, Int.cast_ofNat_Int, eq_true hi3', eq_true hi0, hi3, hav, List.size_toArray, eq_true hl', eq_true hl]
            refine callN_of (roperand_c _ n _ hnok) ?_
            rintro r τ ⟨rfl, rfl⟩
            have hop : (opT (ls[i]?.getD 0) n).length ≤ 22 := by
              have := itoa_okN hnok
              unfold opT
              split
              · simp only [List.length_cons]; omega
              · omega
            simp only [go_sem, codeAV, e3, bytes_app, List.size_toArray]
            refine ⟨by omega, by omega, (i + 1, cur ++ 32 :: opT (ls[i]?.getD 0) n), by simp only; omega, ⟨by simp only; omega, ?_, ?_⟩, rfl, inc i (by omega)⟩
            · simp only
              rw [opsT_take ls ns i n hl hni, List.flatMap_append, hcur]
              simp
            · simp only [List.length_append, List.length_cons]; omega
          · have hl' : ¬ (i : Int) < (ls.length : Int) := by omega
            simp only [go_sem, Int.cast_ofNat_Int, eq_true hi3', eq_true hi0, hi3, hav, List.size_toArray, hl', codeAV]
            refine ⟨(i + 1, cur), by simp only; omega, ⟨by simp only; omega, ?_, by simp only; omega⟩, rfl, inc i (by omega)⟩
            simp only
            rw [hcur, List.take_of_length_le (by rw [opsT_len']; omega), List.take_of_length_le (by rw [opsT_len']; omega)]
        · obtain rfl : i = 3 := by omega
          have hi3' : ¬ ((3 : Nat) : Int) < 3 := by omega
          simp only [go_sem, hi3', codeAV, e2, List.size_toArray]
          have hcl2 : cur ++ [10] = out ++ lineS ⟨q, xa, xb, xc⟩ := by
            rw [hcur, hlx2, List.take_of_length_le (by rw [opsT_len']; omega)]
            simp
          rw [hcl2]
          refine ⟨by omega, (k + 1, out ++ lineS ⟨q, xa, xb, xc⟩), by simp only; omega, ⟨by simp only; omega, ?_, ?_⟩, ⟨rfl, inc k (by omega)⟩, take_app1, by omega, hwk⟩
          · simp only
            rw [take_flatMap _ _ _ _ hg, ← List.append_assoc, ← ho]
          · simp only [List.length_append]; omega
      · obtain rfl : k = p.code.length := by omega
        rw [List.take_length] at ho
        have ht : textS p = out := by rw [ho]; rfl
        simp only [go_sem, codeAV, hlt]
        refine vcode_sound _ ?_
        simp only [go_sem]
        exact retOK_app hw (by simp only [go_sem]) ⟨by rw [ht], rfl⟩
  · rw [if_neg hok] at hres
    subst hres
    simp only [go_sem, hok]
    exact retOK_app hw (by simp only [go_sem]) ⟨rfl, rfl⟩
end Go.Proofs.YtdlekkhjkcbbnaaGreatDoor
