/-
  Contracts: write and Join of the program, written and Join of the reference.
-/
import Derived.Test.YtdlekkhjkcbbnaaGreatDoorWoH
import Derived.Test.YtdlekkhjkcbbnaaGreatDoorWoT
set_option linter.unusedVariables false
set_option linter.unusedSimpArgs false
set_option maxRecDepth 8000
set_option maxHeartbeats 2000000
namespace Go.Proofs.YtdlekkhjkcbbnaaGreatDoor
open Go.Ab Go.Id Go.Wo Go

theorem bareS_B (s : Bytes) : bareS ⟨s.toArray⟩ = bareB s := by
  unfold bareS bareTo bareB
  congr 1
  · show (s.take s.toArray.size).all _ = _
    rw [List.size_toArray, List.take_length]
    congr 1
    funext c
    exact simple_B c
  · cases s with
    | nil => simp
    | cons c s => simp
theorem bare_B (s : Bytes) (σ : Heap) (hs : s.length < 2^62) : ACalls Tryz.prog 64 [sv s] σ (fun r σ' => r = bv (bareB s) ∧ σ' = σ) := by
  rw [← bareS_B]; exact bare_c _ σ (by show s.toArray.size < _; simpa using hs)
theorem plain_B (s : Bytes) (σ : Heap) (hs : s.length < 2^62) : ACalls Tryz.prog 66 [sv s] σ (fun r σ' => r = bv (bareB s) ∧ σ' = σ) := by
  rw [← bareS_B]; exact plain_c _ σ (by show s.toArray.size < _; simpa using hs)

def bufH (g : Nat) (b : Bytes) : Heap := [.row g 1 (b.map byteV)]
theorem bufH_wf {σ : Heap} (hw : WfH σ.length σ) (g : Nat) (b : Bytes) : WfH (σ.length + 1) (σ ++ bufH g b) := wo_row hw g b
@[go_sem] theorem strlen (s : Bytes) : (ByteArray.mk s.toArray).size = s.length := by show s.toArray.size = _; simp
theorem wf_buf {σ τ : Heap} (hw : WfH (σ.length + 1) (σ ++ τ)) (g : Nat) (b : Bytes) : WfH (σ.length + 1) (σ ++ bufH g b) := by
  intro o ho
  rcases List.mem_append.1 ho with h | h
  · exact hw o (List.mem_append_left _ h)
  · simp only [bufH, List.mem_cons, List.not_mem_nil, or_false] at h
    subst h
    exact AllIL.mono (fun _ h => h.elim) _ (pureL_map (f := byteV) (fun _ => trivial) _)
def writeR (σ : Heap) (b s : Bytes) : AV → Heap → Prop := fun r σ' => ∃ g', r = .os σ.length g' 0 (b ++ writeS s).length ∧ σ' = σ ++ bufH g' (b ++ writeS s)
theorem write_fin {σ τ junk : Heap} (hw : WfH (σ.length + 1) (σ ++ τ)) (g : Nat) {b s : Bytes} {n : Nat} {es : List AV} (hn : n = (b ++ writeS s).length) (he : es = (b ++ writeS s).map byteV) :
    RetOK (σ.length + 1) (.os σ.length g 0 n) (σ ++ (.row g 1 es :: junk)) (writeR σ b s) := by
  subst hn; subst he
  have e : ∀ a : AObj, σ ++ (a :: junk) = (σ ++ [a]) ++ junk := fun a => by simp
  rw [e]
  exact retOK_left (by simp) (wf_buf hw g _) (by simp only [go_sem]; omega) ⟨g, rfl, rfl⟩

theorem write_c (σ : Heap) (g : Nat) (b s : Bytes) (hb : b.length < 2^40) (hs : s.length < 2^40) :
    ACalls Tryz.prog 52 [.os σ.length g 0 b.length, sv s] (σ ++ bufH g b) (writeR σ b s) := by
  refine acalls_awp Tryz.func52 rfl Tryz.call52 Tryz.ntmps52 Tryz.results52 (Nat.le_of_ble_eq_true rfl) fun hw => ?_
  have hw1 : WfH (σ.length + 1) (σ ++ bufH g b) := by rw [List.length_append] at hw; exact hw
  simp only [bufH]
  refine awp_then ?_
  simp only [go_sem]
  refine awp_then ?_
  simp only [go_sem]
  refine callN_of (bare_B s _ (by omega)) ?_
  rintro x τ ⟨rfl, rfl⟩
  cases hbare : bareB s with
  | true =>
    have hwr : writeS s = s := by rw [writeS, if_pos hbare]
    simp only [go_sem]
    exact ⟨⟨by omega, by omega⟩, write_fin hw1 _ (by rw [hwr, List.length_append]) (by rw [hwr, List.map_append]; rfl)⟩
  | false =>
    have hwr : writeS s = 34 :: (s.flatMap escB ++ [34]) := by rw [writeS, if_neg (by rw [hbare]; simp)]
    simp only [go_sem]
    refine awp_then ?_
    simp only [go_sem]
    refine ⟨⟨by omega, by omega⟩, ?_⟩
    refine awp_then ?_
    simp only [go_sem]
    have hwk : ∀ (g' : Nat) (es : Bytes), WfH (σ.length + 2) (σ ++ [.row g' 1 (es.map byteV), .row 0 1 [cv 34]]) := fun g' es o ho => by
      simp only [List.mem_append, List.mem_cons, List.not_mem_nil, or_false] at ho
      rcases ho with ho | rfl | rfl
      · exact AObj.allI_mono (fun i (hi : i < σ.length + 1) => by show i < σ.length + 2; omega) (hw1 o (List.mem_append_left _ ho))
      · exact AllIL.mono (fun _ h => h.elim) _ (pureL_map (f := byteV) (fun _ => trivial) _)
      · exact ⟨trivial, trivial⟩
    refine loop_junk (X := Nat × Bytes × Nat) (fun x => [(0, ⟨true, .os σ.length x.2.2 0 x.2.1.length⟩), (1, ⟨true, sv s⟩), (16, ⟨true, iv s.length⟩), (17, ⟨true, iv x.1⟩)])
      (fun x => σ ++ [.row x.2.2 1 (x.2.1.map byteV), .row 0 1 [cv 34]]) (fun x => x.1 ≤ s.length ∧ x.2.1.length ≤ b.length + 1 + 2 * x.1 ∧ x.2.1 = b ++ 34 :: (s.take x.1).flatMap escB) (fun x => s.length - x.1) (0, b ++ [34], g + 1) ⟨by simp, by simp, by simp⟩ (by simp only [go_sem, List.length_append, List.length_singleton]; simp) (by simp only [List.map_append]; rfl) ?_
    rintro ⟨k, out, g⟩ ⟨hk, ho, he⟩
    simp only at hk ho he
    by_cases hlt : k < s.length
    · obtain ⟨c, hc⟩ : ∃ c, s[k]?.getD 0 = c := ⟨_, rfl⟩
      have next : out ++ escB c = b ++ 34 :: (s.take (k + 1)).flatMap escB := by
        rw [he, List.take_add_one, List.getElem?_eq_getElem hlt]
        rw [List.getElem?_eq_getElem hlt] at hc
        simp only [Option.getD_some] at hc
        rw [hc]
        simp [List.flatMap_append]
      have hl2 := escB_len c
      have done : ∀ es l m, es = (out ++ escB c).map byteV → m = (out ++ escB c).length → ∃ y : Nat × Bytes × Nat, (s.length - y.1 < s.length - k) ∧ (y.1 ≤ s.length ∧ y.2.1.length ≤ b.length + 1 + 2 * y.1 ∧ y.2.1 = b ++ 34 :: (s.take y.1).flatMap escB) ∧
          (AV.os σ.length (g + 1) 0 m = AV.os σ.length y.2.2 0 y.2.1.length ∧ IntKind.i64.wrap ((k : Int) + 1) = (y.1 : Int)) ∧ List.take (σ.length + 2) (σ ++ (.row (g + 1) 1 es :: .row 0 1 [cv 34] :: l)) = σ ++ [.row y.2.2 1 (y.2.1.map byteV), .row 0 1 [cv 34]] ∧
          σ.length < σ.length + 2 ∧ WfH (σ.length + 2) (σ ++ [.row y.2.2 1 (y.2.1.map byteV), .row 0 1 [cv 34]]) := by
        rintro _ l _ rfl rfl
        exact ⟨(k + 1, out ++ escB c, g + 1), by simp only; omega, ⟨by simp only; omega, by simp only [List.length_append]; omega, next⟩, ⟨rfl, inc k (by omega)⟩, take_app2, by omega, hwk _ _⟩
      by_cases h1 : c.toNat = 34
      · have h1' : (c.toNat : Int) = 34 := by omega
        have he' : escB c = [92, c] := by rw [escB, if_pos (.inl h1)]
        simp only [go_sem, hlt, hc, List.size_toArray, eq_true h1']
        exact ⟨⟨by omega, by omega⟩, done _ _ _ (by rw [he']; simp [byteV]) (by rw [he']; simp)⟩
      · have h1' : ¬ (c.toNat : Int) = 34 := by omega
        by_cases h2 : c.toNat = 92
        · have h2' : (c.toNat : Int) = 92 := by omega
          have he' : escB c = [92, c] := by rw [escB, if_pos (.inr h2)]
          simp only [go_sem, hlt, hc, List.size_toArray, h1', eq_true h2']
          exact ⟨⟨by omega, by omega⟩, done _ _ _ (by rw [he']; simp [byteV]) (by rw [he']; simp)⟩
        · have h2' : ¬ (c.toNat : Int) = 92 := by omega
          by_cases h3 : c.toNat = 10
          · have h3' : (c.toNat : Int) = 10 := by omega
            have he' : escB c = [92, 110] := by rw [escB, if_neg (by omega), if_pos h3]
            simp only [go_sem, hlt, hc, List.size_toArray, h1', h2', eq_true h3']
            exact ⟨⟨by omega, by omega⟩, done _ _ _ (by rw [he']; simp [byteV]) (by rw [he']; simp)⟩
          · have h3' : ¬ (c.toNat : Int) = 10 := by omega
            by_cases h4 : c.toNat = 13
            · have h4' : (c.toNat : Int) = 13 := by omega
              have he' : escB c = [92, 114] := by rw [escB, if_neg (by omega), if_neg h3, if_pos h4]
              simp only [go_sem, hlt, hc, List.size_toArray, h1', h2', h3', eq_true h4']
              exact ⟨⟨by omega, by omega⟩, done _ _ _ (by rw [he']; simp [byteV]) (by rw [he']; simp)⟩
            · have h4' : ¬ (c.toNat : Int) = 13 := by omega
              have he' : escB c = [c] := by rw [escB, if_neg (by omega), if_neg h3, if_neg h4]
              simp only [go_sem, hlt, hc, List.size_toArray, h1', h2', h3', h4']
              exact ⟨⟨by omega, by omega⟩, done _ _ _ (by rw [he']; simp [byteV]) (by rw [he']; simp)⟩
    · have hkl : k = s.length := by omega
      subst hkl
      rw [List.take_length] at he
      simp only [go_sem, hlt]
      refine vcode_sound _ ?_
      simp only [go_sem]
      exact ⟨⟨by omega, by omega⟩, write_fin hw1 _ (by rw [hwr, he]; simp only [List.length_append, List.length_cons, List.length_nil]; omega) (by rw [hwr, he]; simp [byteV])⟩
end Go.Proofs.YtdlekkhjkcbbnaaGreatDoor
