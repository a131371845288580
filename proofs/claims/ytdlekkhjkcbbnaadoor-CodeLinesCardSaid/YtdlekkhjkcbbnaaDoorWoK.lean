/-
  Contracts: Join of the program, written and Join of the reference.
  Contracts: written and Join of the reference.
-/
import Derived.Test.YtdlekkhjkcbbnaaDoorWoI
set_option linter.unusedVariables false
set_option linter.unusedSimpArgs false
set_option maxRecDepth 8000
set_option maxHeartbeats 2000000
namespace Go.Proofs.YtdlekkhjkcbbnaaDoor
open Go.Ab Go.Id Go.Wo Go

theorem write_over (σ l : Heap) (g : Nat) (b s : Bytes) (hw : WfH σ.length σ) (hb : b.length < 2^40) (hs : s.length < 2^40) :
    ACalls Tryd.prog 35 [.os σ.length g 0 b.length, sv s] (σ ++ (.row g 1 (b.map byteV) :: l)) (fun r τ => ∃ g', r = .os σ.length g' 0 (b ++ writeS s).length ∧ τ = σ ++ (.row g' 1 ((b ++ writeS s).map byteV) :: deadL l)) := by
  have h := acalls_over (l := l) (σ := σ ++ bufH g b) (by rw [List.length_append]; exact wo_row hw g b) (by rw [List.length_append]; refine ⟨?_, trivial, trivial⟩; show σ.length < _; simp [bufH]) (by rintro r σ' ⟨g', rfl, rfl⟩; simp [bufH]) (write_c σ g b s hb hs)
  have e : (σ ++ bufH g b) ++ l = σ ++ (.row g 1 (b.map byteV) :: l) := by simp [bufH]
  rw [e] at h
  refine h.mono ?_
  rintro r τ ⟨σ', ⟨g', rfl, rfl⟩, rfl⟩
  exact ⟨g', rfl, by simp [bufH]⟩

theorem join_long {l : List Bytes} {k : Nat} (hk : k < l.length) (h : 4096 < (l[k]?.getD []).length) : 4096 < (joinB l).length := by
  have h1 := joinB_mono l (k + 1)
  rw [joinB_take hk] at h1
  have h2 := writeS_len (l[k]?.getD [])
  simp only [List.length_append] at h1
  omega

theorem wjoin_c (l : List Bytes) (σ : Heap) (hl : l.length < 2^62) :
    ACalls Tryd.prog 18 [strsB l] σ (fun r σ' => r = .tup [sv (joinS l).1, iv (joinS l).2] ∧ σ' = σ) := by
  refine acalls_awp Tryd.func18 rfl Tryd.call18 Tryd.ntmps18 Tryd.results18 (Nat.le_of_ble_eq_true rfl) fun hw => ?_
  generalize hres : joinS l = res
  unfold joinS at hres
  refine awp_then ?_
  simp only [go_sem]
  refine awp_then ?_
  simp only [go_sem, strsB]
  by_cases h1 : 64 < l.length
  · have h1' : (64 : Int) < (l.length : Int) := by omega
    rw [if_pos h1] at hres
    subst hres
    simp only [go_sem, eq_true h1']
    exact retOK_same hw (by simp only [go_sem]) ⟨rfl, rfl⟩
  · have h1' : ¬ (64 : Int) < (l.length : Int) := by omega
    rw [if_neg h1] at hres
    simp only [go_sem, h1']
    refine awp_then ?_
    simp only [go_sem]
    refine awp_nil 4 1 (by simp only [go_sem]) ?_
    refine awp_then ?_
    simp only [go_sem]
    refine loop_junk (X := Nat × Nat) (fun x => [(4, ⟨true, .os σ.length x.2 0 (joinB (l.take x.1)).length⟩), (10, ⟨true, strsB l⟩), (11, ⟨true, iv l.length⟩), (12, ⟨true, iv x.1⟩)])
      (fun x => σ ++ [.row x.2 1 ((joinB (l.take x.1)).map byteV)]) (fun x => x.1 ≤ l.length ∧ (joinB (l.take x.1)).length ≤ 8200 * x.1) (fun x => l.length - x.1) (0, 0) ⟨by simp, by simp [joinB]⟩ (by simp only [go_sem, strsB]; simp [joinB]) (by simp [joinB]) ?_
    rintro ⟨k, g⟩ ⟨hk, ho⟩
    simp only at hk ho
    by_cases hlt : k < l.length
    · obtain ⟨w, hwd⟩ : ∃ w, l[k]?.getD [] = w := ⟨_, rfl⟩
      have hg : l[k]? = some w := by rw [List.getElem?_eq_getElem hlt] at hwd ⊢; simpa using hwd
      have hnx := joinB_take hlt
      rw [hwd] at hnx
      have hwl := writeS_len w
      have long : 4096 < w.length → res = ([], 3) := fun h => by rw [← hres, if_pos (join_long hlt (by rw [hwd]; exact h))]
      obtain ⟨b, hb⟩ : ∃ b, joinB (l.take k) = b := ⟨_, rfl⟩
      rw [hb] at hnx ho
      by_cases hlong : 4096 < w.length
      · have hlong' : (4096 : Int) < (w.length : Int) := by omega
        have hr := long hlong
        subst hr
        by_cases h0 : k = 0
        · have h0' : ¬ (0 : Int) < (k : Int) := by omega
          simp only [go_sem, strsB, hlt, hg, h0', hb, List.size_toArray, eq_true hlong']
          exact retOK_app hw (by simp only [go_sem]) ⟨rfl, rfl⟩
        · have h0' : (0 : Int) < (k : Int) := by omega
          simp only [go_sem, strsB, hlt, hg, eq_true h0', hb, List.size_toArray, eq_true hlong']
          exact ⟨⟨by omega, by omega⟩, retOK_app hw (by simp only [go_sem]) ⟨rfl, rfl⟩⟩
      · have hlong' : ¬ (4096 : Int) < (w.length : Int) := by omega
        have done : ∀ (g' : Nat) (b' : Bytes) (m : Nat) (es : List AV) (jl : Heap), b' = joinB (l.take (k + 1)) → m = b'.length → es = b'.map byteV → ∃ y : Nat × Nat, l.length - y.1 < l.length - k ∧ (y.1 ≤ l.length ∧ (joinB (l.take y.1)).length ≤ 8200 * y.1) ∧
            (AV.os σ.length g' 0 m = AV.os σ.length y.2 0 (joinB (l.take y.1)).length ∧ IntKind.i64.wrap ((k : Int) + 1) = (y.1 : Int)) ∧ List.take (σ.length + 1) (σ ++ (.row g' 1 es :: jl)) = σ ++ [.row y.2 1 ((joinB (l.take y.1)).map byteV)] ∧
            σ.length < σ.length + 1 ∧ WfH (σ.length + 1) (σ ++ [.row y.2 1 ((joinB (l.take y.1)).map byteV)]) := by
          rintro g' _ _ _ jl rfl rfl rfl
          refine ⟨(k + 1, g'), by simp only; omega, ⟨by simp only; omega, ?_⟩, ⟨rfl, inc k (by omega)⟩, take_app1, by omega, wo_row hw _ _⟩
          simp only
          rw [hnx]
          have : (if k = 0 then [] else [32] : Bytes).length ≤ 1 := by split <;> simp
          simp only [List.length_append]
          omega
        by_cases h0 : k = 0
        · have h0' : ¬ (0 : Int) < (k : Int) := by omega
          rw [if_pos h0, List.append_nil] at hnx
          simp only [go_sem, strsB, hlt, hg, h0', hb, List.size_toArray, hlong']
          refine callN_of (write_over σ [] g b w hw (by omega) (by omega)) ?_
          rintro x τ ⟨g', rfl, rfl⟩
          simp only [go_sem]
          exact done _ _ _ _ _ hnx.symm rfl rfl
        · have h0' : (0 : Int) < (k : Int) := by omega
          rw [if_neg h0] at hnx
          simp only [go_sem, strsB, hlt, hg, eq_true h0', hb, List.size_toArray, hlong']
          have e1 : (b ++ [32]).length = b.length + 1 := by simp
          have e2 : (b ++ [32]).map byteV = b.map byteV ++ [AV.v (Value.int IntKind.u8 32)] := by simp [byteV]
          refine ⟨⟨by omega, by omega⟩, ?_⟩
          rw [← e1, ← e2]
          refine callN_of (write_over σ _ _ (b ++ [32]) w hw (by omega) (by omega)) ?_
          rintro x τ ⟨g', rfl, rfl⟩
          simp only [go_sem]
          exact done _ _ _ _ _ hnx.symm rfl rfl
    · obtain rfl : k = l.length := by omega
      rw [List.take_length] at ho ⊢
      simp only [go_sem, hlt]
      refine vcode_sound _ ?_
      by_cases hl2 : 4096 < (joinB l).length
      · have hl2' : (4096 : Int) < ((joinB l).length : Int) := by omega
        rw [if_pos hl2] at hres
        subst hres
        simp only [go_sem, eq_true hl2']
        exact retOK_app hw (by simp only [go_sem]) ⟨rfl, rfl⟩
      · have hl2' : ¬ (4096 : Int) < ((joinB l).length : Int) := by omega
        rw [if_neg hl2] at hres
        subst hres
        simp only [go_sem, hl2']
        exact retOK_app hw (by simp only [go_sem]) ⟨rfl, rfl⟩
end Go.Proofs.YtdlekkhjkcbbnaaDoor
set_option linter.unusedVariables false
set_option linter.unusedSimpArgs false
set_option maxRecDepth 8000
set_option maxHeartbeats 2000000
namespace Go.Proofs.YtdlekkhjkcbbnaaDoor
open Go.Ab Go.Id Go.Wo Go

theorem bytes_app (a b : Bytes) : (ByteArray.mk a.toArray ++ ByteArray.mk b.toArray) = ByteArray.mk (a ++ b).toArray := by
  apply ByteArray.ext
  rw [ByteArray.data_append]
  simp

end Go.Proofs.YtdlekkhjkcbbnaaDoor
