/-
  Contracts: the law's example (sane) and CodeChecks.
-/
import Derived.Test.YtdlekkhjkcbbnaaDoorAbZ
import Derived.Test.YtdlekkhjkcbbnaaDoorCoF
import Derived.Test.YtdlekkhjkcbbnaaDoorCoH
import Derived.Test.YtdlekkhjkcbbnaaDoorCoL
import Derived.Test.YtdlekkhjkcbbnaaDoorCoM
import Derived.Test.YtdlekkhjkcbbnaaDoorCoX
set_option linter.unusedVariables false
set_option linter.unusedSimpArgs false
set_option maxRecDepth 8000
set_option maxHeartbeats 4000000
namespace Go.Proofs.YtdlekkhjkcbbnaaDoor
open Go.Ab Go.Id Go.Wo Go

def exP : Prg := ⟨[⟨1, 1, 5, 0⟩, ⟨12, 1, 0, 0⟩], [], 0⟩
def exT : Bytes := [115, 101, 116, 32, 114, 49, 32, 53, 10, 99, 97, 108, 108, 32, 49, 10]
theorem ex_parse : parseS exT = (exP, 0, 0) := by kernel_rfl
theorem itoa_small : Lib.itoa 0 = [48] ∧ Lib.itoa 1 = [49] ∧ Lib.itoa 5 = [53] := by
  have : ∀ k : Nat, k < 10 → Lib.itoa (k : Int) = [UInt8.ofNat (48 + k)] := by
    intro k hk
    unfold Lib.itoa
    rw [if_neg (by omega), Int.toNat_natCast, Lib.decDigits, dif_pos (by omega)]
  exact ⟨this 0 (by decide), this 1 (by decide), this 5 (by decide)⟩
theorem ex_format : formatP exP = ([112, 97, 103, 101, 115, 32, 48, 10, 115, 101, 116, 32, 114, 49, 32, 53, 10, 99, 97, 108, 108, 32, 49, 10], 0) := by
  have h : (checkS exP).2 = 0 := by kernel_rfl
  unfold formatP
  rw [if_pos h]
  obtain ⟨h0, h1, h5⟩ := itoa_small
  simp [textS, exP, headS, lineS, opsT, opT, nameS, letsS, formsB, Ins.nums, h0, h1, h5]

theorem saneC_c (σ : Heap) : ACalls Tryd.prog 6 [] σ (fun r σ' => r = bv true ∧ σ' = σ) := by
  refine acalls_awp Tryd.func6 rfl Tryd.call6 Tryd.ntmps6 Tryd.results6 (Nat.le_of_ble_eq_true rfl) fun hw => ?_
  refine awp_then ?_
  simp only [go_sem]
  refine awp_then ?_
  simp only [go_sem]
  have h1 := parse_c exT σ (by decide)
  rw [ex_parse] at h1
  refine callN_of h1 ?_
  rintro r τ ⟨rfl, rfl⟩
  simp only [go_sem, exP, Prg.av, codeAV, strsB, List.map_cons, List.map_nil, insAV]
  refine awp_then ?_
  simp only [go_sem]
  have h2 := format_c exP (τ ++ [.row 0 3 [exP.av]]) (by decide) (by decide)
  rw [ex_format] at h2
  refine callN_of h2 ?_
  rintro r τ' ⟨rfl, rfl⟩
  simp only [go_sem]
  refine vcode_sound _ ?_
  simp only [go_sem, exP, Prg.av, codeAV, strsB, List.map_cons, List.map_nil, insAV, abinT, eqN_ins, aints, Int.cast_ofNat_Int, Int.reduceEq]
  refine callG_of (bv true) (fun _ => by have := sameC_c exP exP (τ ++ [.row 0 3 [exP.av]]) ⟨by decide, by decide⟩ ⟨by decide, by decide⟩; rw [decide_eq_true rfl] at this; exact this) ?_
  simp only [go_sem]
  exact retOK_app hw trivial ⟨rfl, rfl⟩

theorem take_app5 {σ junk : Heap} {a b c d e : AObj} : List.take (σ.length + 5) (σ ++ (a :: b :: c :: d :: e :: junk)) = σ ++ [a, b, c, d, e] := by
  rw [List.take_append, List.take_of_length_le (by omega)]; simp
theorem prgAV (a : List Ins) (b : List Bytes) (c : Int) : Prg.av ⟨a, b, c⟩ = .agg [codeAV a, strsB b, iv c] := rfl
theorem u8_rem (b : UInt8) (m : Nat) (hm : 0 < m) : (b.toNat : Int).tmod m = ((b.toNat % m : Nat) : Int) := by
  rw [Int.tmod_eq_emod_of_nonneg (by omega)]; rfl

end Go.Proofs.YtdlekkhjkcbbnaaDoor
