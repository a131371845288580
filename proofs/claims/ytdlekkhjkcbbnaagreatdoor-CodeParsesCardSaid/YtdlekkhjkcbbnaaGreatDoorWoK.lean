/-
  Contracts: Join of the program, written and Join of the reference.
  Contracts: written and Join of the reference.
-/
import Derived.Test.YtdlekkhjkcbbnaaGreatDoorWoI
set_option linter.unusedVariables false
set_option linter.unusedSimpArgs false
set_option maxRecDepth 8000
set_option maxHeartbeats 2000000
namespace Go.Proofs.YtdlekkhjkcbbnaaGreatDoor
open Go.Ab Go.Id Go.Wo Go

theorem write_over (σ l : Heap) (g : Nat) (b s : Bytes) (hw : WfH σ.length σ) (hb : b.length < 2^40) (hs : s.length < 2^40) :
    ACalls Tryz.prog 52 [.os σ.length g 0 b.length, sv s] (σ ++ (.row g 1 (b.map byteV) :: l)) (fun r τ => ∃ g', r = .os σ.length g' 0 (b ++ writeS s).length ∧ τ = σ ++ (.row g' 1 ((b ++ writeS s).map byteV) :: deadL l)) := by
  have h := acalls_over (l := l) (σ := σ ++ bufH g b) (by rw [List.length_append]; exact wo_row hw g b) (by rw [List.length_append]; refine ⟨?_, trivial, trivial⟩; show σ.length < _; simp [bufH]) (by rintro r σ' ⟨g', rfl, rfl⟩; simp [bufH]) (write_c σ g b s hb hs)
  have e : (σ ++ bufH g b) ++ l = σ ++ (.row g 1 (b.map byteV) :: l) := by simp [bufH]
  rw [e] at h
  refine h.mono ?_
  rintro r τ ⟨σ', ⟨g', rfl, rfl⟩, rfl⟩
  exact ⟨g', rfl, by simp [bufH]⟩

theorem join_long {l : List Bytes} {k : Nat} (hk : k < l.length) (h : 4096 < (l[k]?.getD []).length) : 4096 < (joinB l).length := by
  have h1 := joinB_mono l (k + 1)
  rw [joinB_take hk] at h1
  have h2 := writeS_len (l[k]?.getD [])
  simp only [List.length_append] at h1
  omega

theorem wjoin_c (l : List Bytes) (σ : Heap) (hl : l.length < 2^62) :
    ACalls Tryz.prog 26 [strsB l] σ (fun r σ' => r = .tup [sv (joinS l).1, iv (joinS l).2] ∧ σ' = σ) := by
  refine acalls_awp Tryz.func26 rfl Tryz.call26 Tryz.ntmps26 Tryz.results26 (Nat.le_of_ble_eq_true rfl) fun hw => ?_
  generalize hres : joinS l = res
  unfold joinS at hres
  refine awp_then ?_
  simp only [go_sem]
  refine awp_then ?_
  simp only [go_sem, strsB]
  by_cases h1 : 64 < l.length
  · have h1' : (64 : Int) < (l.length : Int) := by omega
    rw [if_pos h1] at hres
    subst hres
    simp only [go_sem, eq_true h1']
    exact retOK_same hw (by simp only [go_sem]) ⟨rfl, rfl⟩
  · have h1' : ¬ (64 : Int) < (l.length : Int) := by omega
    rw [if_neg h1] at hres
    simp only [go_sem, h1']
    refine awp_then ?_
    simp only [go_sem]
    refine awp_nil 4 1 (by simp only [go_sem]) ?_
    refine awp_then ?_
    simp only [go_sem]
    refine loop_junk (X := Nat × Nat) (fun x => [(4, ⟨true, .os σ.length x.2 0 (joinB (l.take x.1)).length⟩), (10, ⟨true, strsB l⟩), (11, ⟨true, iv l.length⟩), (12, ⟨true, iv x.1⟩)])
      (fun x => σ ++ [.row x.2 1 ((joinB (l.take x.1)).map byteV)]) (fun x => x.1 ≤ l.length ∧ (joinB (l.take x.1)).length ≤ 8200 * x.1) (fun x => l.length - x.1) (0, 0) ⟨by simp, by simp [joinB]⟩ (by simp only [go_sem, strsB]; simp [joinB]) (by simp [joinB]) ?_
    rintro ⟨k, g⟩ ⟨hk, ho⟩
    simp only at hk ho
    by_cases hlt : k < l.length
    · obtain ⟨w, hwd⟩ : ∃ w, l[k]?.getD [] = w := ⟨_, rfl⟩
      have hg : l[k]? = some w := by rw [List.getElem?_eq_getElem hlt] at hwd ⊢; simpa using hwd
      have hnx := joinB_take hlt
      rw [hwd] at hnx
      have hwl := writeS_len w
      have long : 4096 < w.length → res = ([], 3) := fun h => by rw [← hres, if_pos (join_long hlt (by rw [hwd]; exact h))]
      obtain ⟨b, hb⟩ : ∃ b, joinB (l.take k) = b := ⟨_, rfl⟩
      rw [hb] at hnx ho
      by_cases hlong : 4096 < w.length
      · have hlong' : (4096 : Int) < (w.length : Int) := by omega
        have hr := long hlong
        subst hr
        by_cases h0 : k = 0
        · have h0' : ¬ (0 : Int) < (k : Int) := by omega
          simp only [go_sem, strsB, hlt, hg, h0', hb, List.size_toArray, eq_true hlong']
          exact retOK_app hw (by simp only [go_sem]) ⟨rfl, rfl⟩
        · have h0' : (0 : Int) < (k : Int) := by omega
          simp only [go_sem, strsB, hlt, hg, eq_true h0', hb, List.size_toArray, eq_true hlong']
          exact ⟨⟨by omega, by omega⟩, retOK_app hw (by simp only [go_sem]) ⟨rfl, rfl⟩⟩
      · have hlong' : ¬ (4096 : Int) < (w.length : Int) := by omega
        have done : ∀ (g' : Nat) (b' : Bytes) (m : Nat) (es : List AV) (jl : Heap), b' = joinB (l.take (k + 1)) → m = b'.length → es = b'.map byteV → ∃ y : Nat × Nat, l.length - y.1 < l.length - k ∧ (y.1 ≤ l.length ∧ (joinB (l.take y.1)).length ≤ 8200 * y.1) ∧
            (AV.os σ.length g' 0 m = AV.os σ.length y.2 0 (joinB (l.take y.1)).length ∧ IntKind.i64.wrap ((k : Int) + 1) = (y.1 : Int)) ∧ List.take (σ.length + 1) (σ ++ (.row g' 1 es :: jl)) = σ ++ [.row y.2 1 ((joinB (l.take y.1)).map byteV)] ∧
            σ.length < σ.length + 1 ∧ WfH (σ.length + 1) (σ ++ [.row y.2 1 ((joinB (l.take y.1)).map byteV)]) := by
          rintro g' _ _ _ jl rfl rfl rfl
          refine ⟨(k + 1, g'), by simp only; omega, ⟨by simp only; omega, ?_⟩, ⟨rfl, inc k (by omega)⟩, take_app1, by omega, wo_row hw _ _⟩
          simp only
          rw [hnx]
          have : (if k = 0 then [] else [32] : Bytes).length ≤ 1 := by split <;> simp
          simp only [List.length_append]
          omega
        by_cases h0 : k = 0
        · have h0' : ¬ (0 : Int) < (k : Int) := by omega
          rw [if_pos h0, List.append_nil] at hnx
          simp only [go_sem, strsB, hlt, hg, h0', hb, List.size_toArray, hlong']
          refine callN_of (write_over σ [] g b w hw (by omega) (by omega)) ?_
          rintro x τ ⟨g', rfl, rfl⟩
          simp only [go_sem]
          exact done _ _ _ _ _ hnx.symm rfl rfl
        · have h0' : (0 : Int) < (k : Int) := by omega
          rw [if_neg h0] at hnx
          simp only [go_sem, strsB, hlt, hg, eq_true h0', hb, List.size_toArray, hlong']
          have e1 : (b ++ [32]).length = b.length + 1 := by simp
          have e2 : (b ++ [32]).map byteV = b.map byteV ++ [AV.v (Value.int IntKind.u8 32)] := by simp [byteV]
          refine ⟨⟨by omega, by omega⟩, ?_⟩
          rw [← e1, ← e2]
          refine callN_of (write_over σ _ _ (b ++ [32]) w hw (by omega) (by omega)) ?_
          rintro x τ ⟨g', rfl, rfl⟩
          simp only [go_sem]
          exact done _ _ _ _ _ hnx.symm rfl rfl
    · obtain rfl : k = l.length := by omega
      rw [List.take_length] at ho ⊢
      simp only [go_sem, hlt]
      refine vcode_sound _ ?_
      by_cases hl2 : 4096 < (joinB l).length
      · have hl2' : (4096 : Int) < ((joinB l).length : Int) := by omega
        rw [if_pos hl2] at hres
        subst hres
        simp only [go_sem, eq_true hl2']
        exact retOK_app hw (by simp only [go_sem]) ⟨rfl, rfl⟩
      · have hl2' : ¬ (4096 : Int) < ((joinB l).length : Int) := by omega
        rw [if_neg hl2] at hres
        subst hres
        simp only [go_sem, hl2']
        exact retOK_app hw (by simp only [go_sem]) ⟨rfl, rfl⟩
end Go.Proofs.YtdlekkhjkcbbnaaGreatDoor
set_option linter.unusedVariables false
set_option linter.unusedSimpArgs false
set_option maxRecDepth 8000
set_option maxHeartbeats 2000000
namespace Go.Proofs.YtdlekkhjkcbbnaaGreatDoor
open Go.Ab Go.Id Go.Wo Go

theorem bytes_app (a b : Bytes) : (ByteArray.mk a.toArray ++ ByteArray.mk b.toArray) = ByteArray.mk (a ++ b).toArray := by
  apply ByteArray.ext
  rw [ByteArray.data_append]
  simp

theorem written_c (s : Bytes) (σ : Heap) (hs : s.length < 2^40) : ACalls Tryz.prog 54 [sv s] σ (fun r σ' => r = sv (writeS s) ∧ σ' = σ) := by
  refine acalls_awp Tryz.func54 rfl Tryz.call54 Tryz.ntmps54 Tryz.results54 (Nat.le_of_ble_eq_true rfl) fun hw => ?_
  refine awp_then ?_
  simp only [go_sem]
  refine awp_then ?_
  simp only [go_sem]
  refine callN_of (plain_B s _ (by omega)) ?_
  rintro x τ ⟨rfl, rfl⟩
  cases hbare : bareB s with
  | true =>
    have hwr : writeS s = s := by rw [writeS, if_pos hbare]
    simp only [go_sem]
    exact retOK_same hw (by simp only [go_sem]) ⟨by rw [hwr], rfl⟩
  | false =>
    have hwr : writeS s = 34 :: (s.flatMap escB ++ [34]) := by rw [writeS, if_neg (by rw [hbare]; simp)]
    simp only [go_sem]
    refine awp_then ?_
    simp only [go_sem]
    refine awp_then ?_
    simp only [go_sem]
    have hwk : ∀ (g' : Nat) (es : Bytes), WfH (τ.length + 1) (τ ++ [.row g' 1 (es.map byteV)]) := fun g' es => wo_row hw _ _
    refine loop_junk (X := Nat × Bytes × Nat) (fun x => [(0, ⟨true, sv s⟩), (3, ⟨true, .os τ.length x.2.2 0 x.2.1.length⟩), (4, ⟨true, iv x.1⟩)])
      (fun x => τ ++ [.row x.2.2 1 (x.2.1.map byteV)]) (fun x => x.1 ≤ s.length ∧ x.2.1.length ≤ 1 + 2 * x.1 ∧ x.2.1 = 34 :: (s.take x.1).flatMap escB) (fun x => s.length - x.1) (0, [34], 0) ⟨by simp, by simp, by simp⟩ (by simp only [go_sem, List.length_append, List.length_singleton]; simp) (by rfl) ?_
    rintro ⟨k, out, g⟩ ⟨hk, ho, he⟩
    simp only at hk ho he
    by_cases hlt : k < s.length
    · obtain ⟨c, hc⟩ : ∃ c, s[k]?.getD 0 = c := ⟨_, rfl⟩
      have next : out ++ escB c = 34 :: (s.take (k + 1)).flatMap escB := by
        rw [he, List.take_add_one, List.getElem?_eq_getElem hlt]
        rw [List.getElem?_eq_getElem hlt] at hc
        simp only [Option.getD_some] at hc
        rw [hc]
        simp [List.flatMap_append]
      have hl2 := escB_len c
      have done : ∀ es l m, es = (out ++ escB c).map byteV → m = (out ++ escB c).length → ∃ y : Nat × Bytes × Nat, (s.length - y.1 < s.length - k) ∧ (y.1 ≤ s.length ∧ y.2.1.length ≤ 1 + 2 * y.1 ∧ y.2.1 = 34 :: (s.take y.1).flatMap escB) ∧
          (AV.os τ.length (g + 1) 0 m = AV.os τ.length y.2.2 0 y.2.1.length ∧ IntKind.i64.wrap ((k : Int) + 1) = (y.1 : Int)) ∧ List.take (τ.length + 1) (τ ++ (.row (g + 1) 1 es :: l)) = τ ++ [.row y.2.2 1 (y.2.1.map byteV)] ∧
          τ.length < τ.length + 1 ∧ WfH (τ.length + 1) (τ ++ [.row y.2.2 1 (y.2.1.map byteV)]) := by
        rintro _ l _ rfl rfl
        exact ⟨(k + 1, out ++ escB c, g + 1), by simp only; omega, ⟨by simp only; omega, by simp only [List.length_append]; omega, next⟩, ⟨rfl, inc k (by omega)⟩, take_app1, by omega, hwk _ _⟩
      by_cases h1 : c.toNat = 34
      · have h1' : (c.toNat : Int) = 34 := by omega
        have he' : escB c = [92, c] := by rw [escB, if_pos (.inl h1)]
        simp only [go_sem, hlt, hc, List.size_toArray, eq_true h1']
        exact ⟨⟨by omega, by omega⟩, done _ _ _ (by rw [he']; simp [byteV]) (by rw [he']; simp)⟩
      · have h1' : ¬ (c.toNat : Int) = 34 := by omega
        by_cases h2 : c.toNat = 92
        · have h2' : (c.toNat : Int) = 92 := by omega
          have he' : escB c = [92, c] := by rw [escB, if_pos (.inr h2)]
          simp only [go_sem, hlt, hc, List.size_toArray, h1', eq_true h2']
          exact ⟨⟨by omega, by omega⟩, done _ _ _ (by rw [he']; simp [byteV]) (by rw [he']; simp)⟩
        · have h2' : ¬ (c.toNat : Int) = 92 := by omega
          by_cases h3 : c.toNat = 10
          · have h3' : (c.toNat : Int) = 10 := by omega
            have he' : escB c = [92, 110] := by rw [escB, if_neg (by omega), if_pos h3]
            simp only [go_sem, hlt, hc, List.size_toArray, h1', h2', eq_true h3']
            exact ⟨⟨by omega, by omega⟩, done _ _ _ (by rw [he']; simp [byteV]) (by rw [he']; simp)⟩
          · have h3' : ¬ (c.toNat : Int) = 10 := by omega
            by_cases h4 : c.toNat = 13
            · have h4' : (c.toNat : Int) = 13 := by omega
              have he' : escB c = [92, 114] := by rw [escB, if_neg (by omega), if_neg h3, if_pos h4]
              simp only [go_sem, hlt, hc, List.size_toArray, h1', h2', h3', eq_true h4']
              exact ⟨⟨by omega, by omega⟩, done _ _ _ (by rw [he']; simp [byteV]) (by rw [he']; simp)⟩
            · have h4' : ¬ (c.toNat : Int) = 13 := by omega
              have he' : escB c = [c] := by rw [escB, if_neg (by omega), if_neg h3, if_neg h4]
              simp only [go_sem, hlt, hc, List.size_toArray, h1', h2', h3', h4']
              exact ⟨⟨by omega, by omega⟩, done _ _ _ (by rw [he']; simp [byteV]) (by rw [he']; simp)⟩
    · have hkl : k = s.length := by omega
      subst hkl
      rw [List.take_length] at he
      simp only [go_sem, hlt, List.size_toArray]
      refine vcode_sound _ ?_
      have e2 : out.map byteV ++ [AV.v (Value.int IntKind.u8 34)] = (out ++ [34]).map byteV := by simp [byteV]
      have e1 : out.length + 1 = ((out ++ [34]).map byteV).length := by simp
      simp only [go_sem, e2, e1, List.take_length]
      exact ⟨⟨by rw [List.length_append, List.length_singleton]; omega, by rw [List.length_append, List.length_singleton]; omega⟩, retOK_app hw (by simp only [go_sem]) ⟨by rw [hwr, he]; rfl, rfl⟩⟩

theorem rjoin_c (l : List Bytes) (σ : Heap) (hl : l.length < 2^62) (hs : ∀ w ∈ l, w.length < 2^40) :
    ACalls Tryz.prog 30 [strsB l] σ (fun r σ' => r = .tup [sv (joinS l).1, iv (joinS l).2] ∧ σ' = σ) := by
  refine acalls_awp Tryz.func30 rfl Tryz.call30 Tryz.ntmps30 Tryz.results30 (Nat.le_of_ble_eq_true rfl) fun hw => ?_
  generalize hres : joinS l = res
  unfold joinS at hres
  refine awp_then ?_
  simp only [go_sem]
  refine awp_then ?_
  simp only [go_sem, strsB]
  by_cases h1 : 64 < l.length
  · have h1' : (64 : Int) < (l.length : Int) := by omega
    rw [if_pos h1] at hres
    subst hres
    simp only [go_sem, eq_true h1']
    exact retOK_same hw (by simp only [go_sem]) ⟨rfl, rfl⟩
  · have h1' : ¬ (64 : Int) < (l.length : Int) := by omega
    rw [if_neg h1] at hres
    simp only [go_sem, h1']
    refine awp_then ?_
    simp only [go_sem]
    refine awp_then ?_
    simp only [go_sem]
    refine loop_go (X := Nat) (fun k => [(4, ⟨true, sv (joinB (l.take k))⟩), (10, ⟨true, strsB l⟩), (11, ⟨true, iv l.length⟩), (12, ⟨true, iv k⟩)])
      (fun _ => σ) (fun k => k ≤ l.length ∧ (joinB (l.take k)).length ≤ 4096) (fun k => l.length - k) 0 ⟨by simp, by simp [joinB]⟩ (by simp only [go_sem, strsB]; simp [joinB]) rfl ?_
    rintro k ⟨hk, ho⟩
    by_cases hlt : k < l.length
    · obtain ⟨w, hwd⟩ : ∃ w, l[k]?.getD [] = w := ⟨_, rfl⟩
      have hg : l[k]? = some w := by rw [List.getElem?_eq_getElem hlt] at hwd ⊢; simpa using hwd
      have hnx := joinB_take hlt
      rw [hwd] at hnx
      have hm := joinB_mono l (k + 1)
      have hwlen := hs w (List.mem_of_getElem? hg)
      obtain ⟨b, hb⟩ : ∃ b, joinB (l.take k) = b := ⟨_, rfl⟩
      rw [hb] at hnx ho
      have hwl := writeS_len w
      have fin : ∀ b' : Bytes, b' = joinB (l.take (k + 1)) → if 4096 < (b'.length : Int) then RetOK σ.length (.tup [.v (.string ⟨#[]⟩), iv 3]) σ (fun r σ' => r = .tup [sv res.1, iv res.2] ∧ σ' = σ) else
          ∃ y : Nat, l.length - y < l.length - k ∧ (y ≤ l.length ∧ (joinB (l.take y)).length ≤ 4096) ∧ (Value.string ⟨b'.toArray⟩ = Value.string ⟨(joinB (l.take y)).toArray⟩ ∧ IntKind.i64.wrap ((k : Int) + 1) = (y : Int)) := by
        rintro _ rfl
        split
        · rename_i h
          rw [if_pos (by omega)] at hres
          subst hres
          exact retOK_same hw (by simp only [go_sem]) ⟨rfl, rfl⟩
        · exact ⟨k + 1, by omega, ⟨by omega, by omega⟩, rfl, inc k (by omega)⟩
      by_cases h0 : k = 0
      · have h0' : ¬ (0 : Int) < (k : Int) := by omega
        rw [if_pos h0, List.append_nil] at hnx
        simp only [go_sem, strsB, hlt, hg, h0', hb]
        refine callN_of (written_c w _ hwlen) ?_
        rintro x τ ⟨rfl, rfl⟩
        simp only [go_sem, bytes_app, List.size_toArray]
        refine ⟨by omega, ?_⟩
        exact fin _ hnx.symm
      · have h0' : (0 : Int) < (k : Int) := by omega
        rw [if_neg h0] at hnx
        have hl1 : (b ++ [32]).length = b.length + 1 := by simp
        simp only [go_sem, strsB, hlt, hg, eq_true h0', hb, bytes_app, List.size_toArray]
        refine ⟨by omega, ?_⟩
        refine callN_of (written_c w _ hwlen) ?_
        rintro x τ ⟨rfl, rfl⟩
        simp only [go_sem, bytes_app, List.size_toArray]
        refine ⟨by omega, ?_⟩
        exact fin _ hnx.symm
    · obtain rfl : k = l.length := by omega
      rw [List.take_length] at ho ⊢
      simp only [go_sem, hlt]
      refine vcode_sound _ ?_
      rw [if_neg (by omega)] at hres
      subst hres
      simp only [go_sem]
      exact retOK_same hw (by simp only [go_sem]) ⟨rfl, rfl⟩
end Go.Proofs.YtdlekkhjkcbbnaaGreatDoor
