/-
  Contracts: word and Split of the reference.
-/
import Derived.Test.YtdlekkhjkcbbnaaGreatDoorWoG
set_option linter.unusedVariables false
set_option linter.unusedSimpArgs false
set_option maxRecDepth 8000
set_option maxHeartbeats 2000000
namespace Go.Proofs.YtdlekkhjkcbbnaaGreatDoor
open Go.Ab Go.Id Go.Wo Go

def wordR (l : Bytes) (k : Nat) (σ : Heap) : AV → Heap → Prop := fun r σ' => (match wordS l k with
  | none => ∃ x y, r = .tup [sw x, iv y, bv false]
  | some (w, to) => r = .tup [sv w, iv to, bv true]) ∧ σ' = σ
theorem getD_drop {l : Bytes} {k : Nat} (h : k < l.length) : l.drop k = l[k]?.getD 0 :: l.drop (k + 1) := by rw [List.drop_eq_getElem_cons h, List.getElem?_eq_getElem h]; rfl
theorem extract_sv (s : ByteArray) (a b : Nat) : sw (s.extract a b) = sv ((s.data.toList.drop a).take (b - a)) := by
  have : (s.extract a b).data.toList = (s.data.toList.drop a).take (b - a) := by rw [Lib.extract_data]
  show AV.v (.string (s.extract a b)) = .v (.string _)
  congr 2
  cases h : s.extract a b with
  | mk d => rw [h] at this; rw [← this]

theorem wordQ_cons (c : UInt8) (t out : Bytes) (i : Nat) : wordQ (c :: t) out i = if c.toNat = 34 then some (out, i + 1) else if c.toNat = 10 ∨ c.toNat = 13 then none
    else if c.toNat = 92 then (match t with | [] => none | d :: l => if (meanB d).2 = true then wordQ l (out ++ [(meanB d).1]) (i + 2) else none) else wordQ t (out ++ [c]) (i + 1) := by
  cases t with
  | nil =>
    by_cases h1 : c.toNat = 34
    · simp [wordQ, h1]
    · by_cases h2 : c.toNat = 10 ∨ c.toNat = 13
      · simp [wordQ, h1, h2]
      · by_cases h3 : c.toNat = 92
        · simp [wordQ, h1, h2, h3]
        · simp [wordQ, h1, h2, h3]
  | cons d l => rfl
theorem wo_row {σ : Heap} (hw : WfH σ.length σ) (g : Nat) (out : Bytes) : WfH (σ.length + 1) (σ ++ [.row g 1 (out.map byteV)]) := wfH_row1 hw (pureL_map (f := byteV) (fun _ => trivial) _)

theorem word_c (s : ByteArray) (k : Nat) (σ : Heap) (hs : s.size < 2^40) (hk : k ≤ s.size) : ACalls Tryz.prog 60 [sw s, iv k] σ (wordR s.data.toList k σ) := by
  refine acalls_awp Tryz.func60 rfl Tryz.call60 Tryz.ntmps60 Tryz.results60 (Nat.le_of_ble_eq_true rfl) fun hw => ?_
  have hsz : s.data.toList.length = s.size := by rw [Array.length_toList]; rfl
  refine awp_then ?_
  simp only [go_sem]
  by_cases hq : k < s.size ∧ (s.data.toList[k]?.getD 0).toNat = 34
  · obtain ⟨hlt, h34⟩ := hq
    have hge : ¬ (s.size : Int) ≤ (k : Int) := by omega
    have he : ((s.data.toList[k]?.getD 0).toNat : Int) = 34 := by omega
    have hq' : (s.data.toList[k]?.map (·.toNat)) = some 34 := by rw [List.getElem?_eq_getElem (by omega)] at h34 ⊢; simpa using h34
    refine awp_then ?_
    simp only [go_sem, hge, hlt, he]
    refine awp_then ?_
    simp only [go_sem]
    refine awp_nil 8 1 (by simp only [go_sem]) ?_
    refine awp_then ?_
    simp only [go_sem]
    have hn : ∀ {l : Heap}, wordS s.data.toList k = none → RetOK σ.length (.tup [sw ⟨#[]⟩, iv 0, bv false]) (σ ++ l) (wordR s.data.toList k σ) := fun he => retOK_app hw (by simp only [go_sem]) ⟨by rw [he]; exact ⟨_, _, rfl⟩, rfl⟩
    refine loop_junk (X := Nat × Bytes × Nat) (fun x => [(0, ⟨true, sw s⟩), (8, ⟨true, .os σ.length x.2.2 0 x.2.1.length⟩), (9, ⟨true, iv x.1⟩)])
      (fun x => σ ++ [.row x.2.2 1 (x.2.1.map byteV)]) (fun x => x.1 ≤ s.size ∧ x.2.1.length ≤ x.1 ∧ wordQ (s.data.toList.drop x.1) x.2.1 x.1 = wordS s.data.toList k) (fun x => s.size - x.1) (k + 1, [], 0) ⟨by omega, by simp, by rw [wordS, if_pos hq']⟩ (by simp only [go_sem, inc k (by omega)]) rfl ?_
    rintro ⟨i, out, g⟩ ⟨hi, ho, hwq⟩
    simp only at hi ho hwq
    by_cases hli : i < s.size
    · obtain ⟨c, hc⟩ : ∃ c, s.data.toList[i]?.getD 0 = c := ⟨_, rfl⟩
      rw [getD_drop (by omega), hc, wordQ_cons] at hwq
      have ew := inc i (by omega)
      by_cases c34 : c.toNat = 34
      · have c34' : (c.toNat : Int) = 34 := by omega
        rw [if_pos c34] at hwq
        simp only [go_sem, hli, hc, eq_true c34', ew]
        exact retOK_app hw (by simp only [go_sem]) ⟨by rw [← hwq], rfl⟩
      · have c34' : ¬ (c.toNat : Int) = 34 := by omega
        rw [if_neg c34] at hwq
        by_cases c10 : c.toNat = 10 ∨ c.toNat = 13
        · have c10' : (c.toNat : Int) = 10 ∨ (c.toNat : Int) = 13 := by omega
          rw [if_pos c10] at hwq
          simp only [go_sem, hli, hc, c34', eq_true c10']
          exact hn hwq.symm
        · have c10' : ¬ (c.toNat : Int) = 10 := by omega
          have c13' : ¬ (c.toNat : Int) = 13 := by omega
          rw [if_neg c10] at hwq
          by_cases c92 : c.toNat = 92
          · have c92' : (c.toNat : Int) = 92 := by omega
            rw [if_pos c92] at hwq
            by_cases hl1 : i + 1 < s.size
            · have hne : ¬ ((i + 1 : Nat) : Int) = (s.size : Int) := by omega
              have hlt1 : ((i + 1 : Nat) : Int) < (s.size : Int) := by omega
              have h01 : (0 : Int) ≤ ((i + 1 : Nat) : Int) := by omega
              obtain ⟨d, hd⟩ : ∃ d, s.data.toList[i + 1]?.getD 0 = d := ⟨_, rfl⟩
              rw [getD_drop (by omega), hd] at hwq
              simp only at hwq
              simp only [go_sem, hli, hc, c34', c10', c13', eq_true c92', ew, hne, hlt1, h01, hd]
              refine callN_of (pair_c _ _) ?_
              rw [mean_B d]
              rintro x τ ⟨rfl, rfl⟩
              cases hb : (meanB d).2 with
              | true =>
                rw [hb, if_pos rfl] at hwq
                simp only [go_sem]
                refine ⟨by omega, (i + 2, out ++ [(meanB d).1], g + 1), by simp only; omega, ⟨by simp only; omega, by simp only [List.length_append, List.length_singleton]; omega, hwq⟩, ⟨by simp only [List.length_append, List.length_singleton], inc (i + 1) (by omega)⟩, ?_, by omega, wo_row hw _ _⟩
                rw [take_app1, List.map_append]; rfl
              | false =>
                rw [hb, if_neg (by simp)] at hwq
                simp only [go_sem]
                exact hn hwq.symm
            · have he1 : ((i + 1 : Nat) : Int) = (s.size : Int) := by omega
              rw [List.drop_of_length_le (by omega)] at hwq
              simp only [go_sem, hli, hc, c34', c10', c13', eq_true c92', ew, eq_true he1]
              exact hn hwq.symm
          · have c92' : ¬ (c.toNat : Int) = 92 := by omega
            rw [if_neg c92] at hwq
            simp only [go_sem, hli, hc, c34', c10', c13', c92']
            refine ⟨by omega, (i + 1, out ++ [c], g + 1), by simp only; omega, ⟨by simp only; omega, by simp only [List.length_append, List.length_singleton]; omega, hwq⟩, ⟨by simp only [List.length_append, List.length_singleton], ew⟩, ?_, by omega, wo_row hw _ _⟩
            rw [take_app1, List.map_append]; rfl
    · simp only [go_sem, hli]
      rw [List.drop_of_length_le (by omega)] at hwq
      refine vcode_sound _ ?_
      simp only [go_sem]
      exact hn hwq.symm
  · refine awp_then ?_
    have hq' : ¬ (s.data.toList[k]?.map (·.toNat)) = some 34 := fun h => hq (by
      rcases Nat.lt_or_ge k s.size with h1 | h1
      · exact ⟨h1, by rw [List.getElem?_eq_getElem (by omega)] at h ⊢; simpa using h⟩
      · rw [List.getElem?_eq_none (by omega)] at h; cases h)
    by_cases hlt : k < s.size
    · have hge : ¬ (s.size : Int) ≤ (k : Int) := by omega
      have hne : ¬ ((s.data.toList[k]?.getD 0).toNat : Int) = 34 := by omega
      simp only [go_sem, hge, hlt, hne]
      refine loop_go (X := Nat) (fun j => [(0, ⟨true, sw s⟩), (1, ⟨true, iv k⟩), (7, ⟨true, iv j⟩)]) (fun _ => σ) (fun j => k ≤ j ∧ j ≤ s.size ∧ (s.data.toList.drop k).takeWhile simB = (s.data.toList.drop k).take (j - k) ++ (s.data.toList.drop j).takeWhile simB) (fun j => s.size - j) k ⟨Nat.le_refl _, hk, by simp⟩ (by simp only [go_sem]) rfl ?_
      rintro j ⟨hkj, hj, htw⟩
      have fin : (s.data.toList.drop j).takeWhile simB = [] → RetOK σ.length (.tup [sw (s.extract k j), iv j, bv (decide (k < j))]) σ (wordR s.data.toList k σ) := by
        intro he
        rw [he, List.append_nil] at htw
        refine retOK_same hw (by simp only [go_sem]) ⟨?_, rfl⟩
        rw [wordS, if_neg hq', htw, extract_sv]
        have hlen : ((s.data.toList.drop k).take (j - k)).length = j - k := by rw [List.length_take, List.length_drop]; omega
        by_cases hkj' : k < j
        · have hne : ¬ (s.data.toList.drop k).take (j - k) = [] := fun h => by rw [h] at hlen; simp at hlen; omega
          rw [if_neg hne]
          simp only [hlen, decide_eq_true hkj']
          rw [show k + (j - k) = j by omega]
        · have hemp : (s.data.toList.drop k).take (j - k) = [] := List.eq_nil_of_length_eq_zero (by omega)
          rw [if_pos hemp, hemp]
          simp only [decide_eq_false hkj']
          exact ⟨_, _, rfl⟩
      by_cases hlj : j < s.size
      · simp only [go_sem, hlj]
        have hs := simple_B (s.data.toList[j]?.getD 0)
        have hd := getD_drop (l := s.data.toList) (k := j) (by omega)
        refine callG_of (bv (simB (s.data.toList[j]?.getD 0))) (fun _ => by rw [← hs]; exact plainByte_c _ _) ?_
        cases hb : simB (s.data.toList[j]?.getD 0) with
        | true =>
          simp only [go_sem]
          refine ⟨j + 1, by omega, ⟨by omega, by omega, ?_⟩, inc j (by omega)⟩
          rw [htw, hd, List.takeWhile_cons_of_pos hb, show j + 1 - k = (j - k) + 1 by omega, List.take_add_one, List.getElem?_drop, show k + (j - k) = j by omega]
          rw [List.getElem?_eq_getElem (show j < s.data.toList.length by omega)]
          simp
        | false =>
          simp only [go_sem]
          exact ⟨⟨hkj, hj⟩, fin (by rw [hd, List.takeWhile_cons_of_neg (fun h => by rw [hb] at h; cases h)])⟩
      · simp only [go_sem, hlj]
        refine callG_of (bv false) (fun h => by simp at h) ?_
        simp only [go_sem]
        exact ⟨⟨hkj, hj⟩, fin (by rw [List.drop_of_length_le (by omega)]; rfl)⟩
    · have hge : (s.size : Int) ≤ (k : Int) := by omega
      simp only [go_sem, eq_true hge]
      refine loop_go (X := Nat) (fun j => [(0, ⟨true, sw s⟩), (1, ⟨true, iv k⟩), (7, ⟨true, iv j⟩)]) (fun _ => σ) (fun j => k ≤ j ∧ j ≤ s.size ∧ (s.data.toList.drop k).takeWhile simB = (s.data.toList.drop k).take (j - k) ++ (s.data.toList.drop j).takeWhile simB) (fun j => s.size - j) k ⟨Nat.le_refl _, hk, by simp⟩ (by simp only [go_sem]) rfl ?_
      rintro j ⟨hkj, hj, htw⟩
      have fin : (s.data.toList.drop j).takeWhile simB = [] → RetOK σ.length (.tup [sw (s.extract k j), iv j, bv (decide (k < j))]) σ (wordR s.data.toList k σ) := by
        intro he
        rw [he, List.append_nil] at htw
        refine retOK_same hw (by simp only [go_sem]) ⟨?_, rfl⟩
        rw [wordS, if_neg hq', htw, extract_sv]
        have hlen : ((s.data.toList.drop k).take (j - k)).length = j - k := by rw [List.length_take, List.length_drop]; omega
        by_cases hkj' : k < j
        · have hne : ¬ (s.data.toList.drop k).take (j - k) = [] := fun h => by rw [h] at hlen; simp at hlen; omega
          rw [if_neg hne]
          simp only [hlen, decide_eq_true hkj']
          rw [show k + (j - k) = j by omega]
        · have hemp : (s.data.toList.drop k).take (j - k) = [] := List.eq_nil_of_length_eq_zero (by omega)
          rw [if_pos hemp, hemp]
          simp only [decide_eq_false hkj']
          exact ⟨_, _, rfl⟩
      by_cases hlj : j < s.size
      · simp only [go_sem, hlj]
        have hs := simple_B (s.data.toList[j]?.getD 0)
        have hd := getD_drop (l := s.data.toList) (k := j) (by omega)
        refine callG_of (bv (simB (s.data.toList[j]?.getD 0))) (fun _ => by rw [← hs]; exact plainByte_c _ _) ?_
        cases hb : simB (s.data.toList[j]?.getD 0) with
        | true =>
          simp only [go_sem]
          refine ⟨j + 1, by omega, ⟨by omega, by omega, ?_⟩, inc j (by omega)⟩
          rw [htw, hd, List.takeWhile_cons_of_pos hb, show j + 1 - k = (j - k) + 1 by omega, List.take_add_one, List.getElem?_drop, show k + (j - k) = j by omega]
          rw [List.getElem?_eq_getElem (show j < s.data.toList.length by omega)]
          simp
        | false =>
          simp only [go_sem]
          exact ⟨⟨hkj, hj⟩, fin (by rw [hd, List.takeWhile_cons_of_neg (fun h => by rw [hb] at h; cases h)])⟩
      · simp only [go_sem, hlj]
        refine callG_of (bv false) (fun h => by simp at h) ?_
        simp only [go_sem]
        exact ⟨⟨hkj, hj⟩, fin (by rw [List.drop_of_length_le (by omega)]; rfl)⟩

theorem wordQ_le : ∀ (l out : Bytes) (i : Nat) (w : Bytes) (to : Nat), wordQ l out i = some (w, to) → i < to ∧ to ≤ i + l.length
  | l, out, i, w, to, h => by
    have := run_quoted l out [] i
    rw [h] at this
    exact ⟨this.1, this.2.1⟩
theorem wordS_le {l : Bytes} {k : Nat} {w : Bytes} {to : Nat} (hk : k ≤ l.length) (h : wordS l k = some (w, to)) : k < to ∧ to ≤ l.length := by
  unfold wordS at h
  split at h
  · rename_i hq
    have hlt : k < l.length := by
      rcases Nat.lt_or_ge k l.length with h1 | h1
      · exact h1
      · rw [List.getElem?_eq_none h1] at hq; cases hq
    have := wordQ_le _ _ _ _ _ h
    rw [List.length_drop] at this
    omega
  · split at h
    · cases h
    · rename_i hne
      simp only [Option.some.injEq, Prod.mk.injEq] at h
      obtain ⟨rfl, rfl⟩ := h
      have h1 : ((l.drop k).takeWhile simB).length ≤ (l.drop k).length := (List.takeWhile_sublist _).length_le
      rw [List.length_drop] at h1
      have h2 : 0 < ((l.drop k).takeWhile simB).length := List.length_pos_iff.2 hne
      omega

theorem retOK_words1 {σ junk : Heap} (hw : WfH σ.length σ) (g : Nat) (l : List Bytes) (c : Int) {n : Nat} {es : List AV} (hn : n = l.length) (he : es = l.map sv) {R : AV → Heap → Prop} (h : R (.tup [strsB l, iv c]) σ) :
    RetOK σ.length (.tup [.os σ.length g 0 n, iv c]) (σ ++ (.row g 1 es :: junk)) R := by
  subst hn; subst he
  refine retOK_frz (i := σ.length) (g := g) (e := 1) (es := l.map sv) (by simp only [go_sem]) ?_
  simp only [frz, frzL, go_sem, List.drop_zero]
  exact retOK_app hw (by simp only [go_sem]) h

theorem rsplit_c (s : ByteArray) (σ : Heap) (hs : s.size < 2^62) :
    ACalls Tryz.prog 40 [sw s] σ (fun r σ' => r = .tup [strsB (rSplitS s.data.toList).1, iv (rSplitS s.data.toList).2] ∧ σ' = σ) := by
  refine acalls_awp Tryz.func40 rfl Tryz.call40 Tryz.ntmps40 Tryz.results40 (Nat.le_of_ble_eq_true rfl) fun hw => ?_
  have hsz : s.data.toList.length = s.size := by rw [Array.length_toList]; rfl
  generalize hres : rSplitS s.data.toList = res
  unfold rSplitS at hres
  refine awp_then ?_
  simp only [go_sem]
  refine awp_then ?_
  simp only [go_sem]
  by_cases h1 : 4096 < s.size
  · have h1' : (4096 : Int) < (s.size : Int) := by omega
    rw [if_pos (by omega)] at hres
    subst hres
    simp only [go_sem, eq_true h1']
    exact fin_none0 rfl hw ⟨rfl, rfl⟩
  · have h1' : ¬ (4096 : Int) < (s.size : Int) := by omega
    rw [if_neg (by omega)] at hres
    simp only [go_sem, h1']
    refine awp_then ?_
    by_cases h2 : s = ⟨#[]⟩
    · have h2' : s.data.toList = [] := by rw [h2]
      rw [if_pos h2'] at hres
      subst hres
      simp only [go_sem, eq_true h2]
      exact fin_none0 rfl hw ⟨rfl, rfl⟩
    · have h2' : ¬ s.data.toList = [] := fun h => h2 (by cases s; rename_i d; cases d; rename_i l; simp at h; subst h; rfl)
      rw [if_neg h2'] at hres
      simp only [go_sem, h2]
      refine awp_then ?_
      simp only [go_sem]
      refine awp_nil 4 1 (by simp only [go_sem]) ?_
      refine awp_then ?_
      simp only [go_sem]
      have hlen : s.size ≤ 4096 := by omega
      refine loop_junk (X := Nat × Nat × List Bytes × Nat) (fun x => [(0, ⟨true, sw s⟩), (4, ⟨true, .os σ.length x.2.2.2 0 x.2.2.1.length⟩), (5, ⟨true, iv x.1⟩)])
        (fun x => σ ++ [.row x.2.2.2 1 (x.2.2.1.map sv)]) (fun x => x.1 ≤ s.size ∧ s.size < x.2.1 + x.1 ∧ x.2.2.1.length ≤ x.1 ∧ (splitR s.data.toList x.2.1 x.1).map (x.2.2.1 ++ ·) = splitR s.data.toList (s.data.toList.length + 1) 0) (fun x => s.size - x.1) (0, s.data.toList.length + 1, [], 0) ⟨by simp, by simp only; omega, by simp, by simp⟩ (by simp only [go_sem]; rfl) rfl ?_
      rintro ⟨k, f, ws, g⟩ ⟨hk, hf, hl, hr⟩
      simp only at hk hf hl hr
      obtain ⟨f, rfl⟩ : ∃ f', f = f' + 1 := ⟨f - 1, by omega⟩
      simp only [go_sem]
      refine callN_of (word_c s k _ (by omega) hk) ?_
      rintro x τ ⟨hx, rfl⟩
      rw [splitR] at hr
      cases hw' : wordS s.data.toList k with
      | none =>
        rw [hw'] at hx hr
        obtain ⟨y, z, rfl⟩ := hx
        simp only [Option.map_none] at hr
        rw [← hr] at hres
        subst hres
        simp only [go_sem]
        exact fin_none rfl hw ⟨rfl, rfl⟩
      | some q =>
        obtain ⟨w, to⟩ := q
        rw [hw'] at hx hr
        simp only at hx hr
        subst hx
        obtain ⟨l1, l2⟩ := wordS_le (by omega) hw'
        by_cases hto : to = s.size
        · have hto' : (to : Int) = (s.size : Int) := by omega
          rw [if_pos (by omega)] at hr
          rw [← hr] at hres
          simp only [Option.map_some] at hres
          simp only [go_sem, eq_true hto']
          refine ⟨by omega, ?_⟩
          refine vcode_sound _ ?_
          by_cases h64 : 64 < (ws ++ [w]).length
          · have h64' : (64 : Int) < ((ws.length + 1 : Nat) : Int) := by rw [List.length_append, List.length_singleton] at h64; omega
            rw [if_pos h64] at hres
            subst hres
            simp only [go_sem, eq_true h64']
            exact fin_none rfl hw ⟨rfl, rfl⟩
          · have h64' : ¬ (64 : Int) < ((ws.length + 1 : Nat) : Int) := by rw [List.length_append, List.length_singleton] at h64; omega
            rw [if_neg h64] at hres
            subst hres
            simp only [go_sem, h64']
            exact retOK_words1 hw (g + 1) (ws ++ [w]) 0 (by simp) (by simp) ⟨rfl, rfl⟩
        · have hto' : ¬ (to : Int) = (s.size : Int) := by omega
          rw [if_neg (by omega)] at hr
          have hlt : to < s.size := by omega
          by_cases h32 : (s.data.toList[to]?.getD 0).toNat = 32
          · have h32' : ((s.data.toList[to]?.getD 0).toNat : Int) = 32 := by omega
            have h32'' : (s.data.toList[to]?.map (·.toNat)) = some 32 := by rw [List.getElem?_eq_getElem (by omega)] at h32 ⊢; simpa using h32
            rw [if_pos h32''] at hr
            simp only [go_sem, hto', hlt, h32']
            refine ⟨⟨by omega, by omega⟩, (to + 1, f, ws ++ [w], g + 1), by simp only; omega, ⟨by simp only; omega, by simp only; omega, by simp only [List.length_append, List.length_singleton]; omega, ?_⟩, ⟨by simp only [List.length_append, List.length_singleton], inc to (by omega)⟩, ?_, by omega, wfH_row1 hw (pureL_map (f := sv) (fun _ => trivial) _)⟩
            · rw [← hr, Option.map_map]
              congr 1
              funext x
              simp
            · rw [take_app1, List.map_append]; rfl
          · have h32' : ¬ ((s.data.toList[to]?.getD 0).toNat : Int) = 32 := by omega
            have h32'' : ¬ (s.data.toList[to]?.map (·.toNat)) = some 32 := by rw [List.getElem?_eq_getElem (by omega)] at h32 ⊢; simpa using h32
            rw [if_neg h32''] at hr
            rw [← hr] at hres
            subst hres
            simp only [go_sem, hto', hlt, h32']
            refine ⟨by omega, ?_⟩
            exact fin_none rfl hw ⟨rfl, rfl⟩
end Go.Proofs.YtdlekkhjkcbbnaaGreatDoor
