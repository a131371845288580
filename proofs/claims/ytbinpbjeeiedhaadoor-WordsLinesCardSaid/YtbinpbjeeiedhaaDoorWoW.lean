/-
  Contracts: the statements of lines, of coming back, and of limits.
-/
import Derived.Test.YtbinpbjeeiedhaaDoorWoV
set_option linter.unusedVariables false
set_option linter.unusedSimpArgs false
set_option maxRecDepth 8000
set_option maxHeartbeats 2000000
namespace Go.Proofs.YtbinpbjeeiedhaaDoor
open Go.Ab Go.Id Go.Wo Go

theorem textL_take (L : List Bytes) (k : Nat) : (textL (L.take k)).length ≤ (textL L).length := by
  have : textL L = textL (L.take k) ++ textL (L.drop k) := by unfold textL; rw [← List.flatMap_append, List.take_append_drop]
  rw [this, List.length_append]; omega
theorem textL_succ {L : List Bytes} {k : Nat} {x : Bytes} (h : L[k]? = some x) : textL (L.take (k + 1)) = textL (L.take k) ++ (x ++ [10]) := by
  unfold textL
  rw [List.take_add_one, h, List.flatMap_append]
  simp
theorem wordsLines_L (l : Bytes) (σ : Heap) (hs : l.length < 2^47) : ACalls Tryd.prog 9 [sv l] σ (fun r σ' => r = bv true ∧ σ' = σ) := by
  refine acalls_awp Tryd.func9 rfl Tryd.call9 Tryd.ntmps9 Tryd.results9 (Nat.le_of_ble_eq_true rfl) fun hw => ?_
  refine awp_then ?_
  simp only [go_sem]
  refine awp_then ?_
  simp only [go_sem]
  refine callN_of (wsane_c _) ?_
  rintro r τ ⟨rfl, rfl⟩
  simp only [go_sem]
  refine awp_then ?_
  by_cases h1 : (500 : Int) < (l.length : Int)
  · simp only [go_sem, List.size_toArray, eq_true h1]
    exact retOK_same hw (by simp only [go_sem]) ⟨rfl, rfl⟩
  · simp only [go_sem, List.size_toArray, h1]
    refine awp_then ?_
    simp only [go_sem]
    refine awp_then ?_
    simp only [go_sem]
    refine callN_of (lines_B (toB l) _ (by show l.toArray.size < _; rw [List.size_toArray]; omega)) ?_
    rw [show (toB l).data.toList = l from rfl]
    rintro r τ' ⟨rfl, rfl⟩
    have htl : (textL (linesL l)).length ≤ l.length + 1 := by
      rcases text_lines l with h | ⟨h, _⟩ <;> rw [h] <;> simp
    have hll := linesL_len l
    generalize hL : linesL l = L at *
    simp only [go_sem, strsB]
    refine loop_go (X := Nat) (fun k => [(0, ⟨true, sv l⟩), (3, ⟨true, sv (textL (L.take k))⟩), (12, ⟨true, strsB L⟩), (13, ⟨true, iv L.length⟩), (14, ⟨true, iv k⟩)]) (fun _ => τ') (fun k => k ≤ L.length) (fun k => L.length - k) 0 (by omega) (by simp only [go_sem, strsB]; simp [textL]) rfl ?_
    intro k hk
    have hk1 := textL_take L (k + 1)
    by_cases hlt : k < L.length
    · obtain ⟨x, hx⟩ : ∃ x, L[k]? = some x := ⟨_, List.getElem?_eq_getElem hlt⟩
      have hs1 := textL_succ hx
      rw [hs1, List.length_append, List.length_append, List.length_singleton] at hk1
      simp only [go_sem, strsB, hlt, hx, bytes_app, List.size_toArray, List.length_append, List.length_singleton]
      exact ⟨by omega, by omega, k + 1, by omega, by omega, by rw [hs1], inc k (by omega)⟩
    · obtain rfl : k = L.length := by omega
      rw [List.take_length] at *
      simp only [go_sem, hlt]
      refine vcode_sound _ ?_
      subst hL
      rcases text_lines l with h | ⟨h, c, hc, hne⟩
      · rw [h]
        simp only [go_sem, bytes_app, List.size_toArray, List.length_append, List.length_singleton]
        exact retOK_same hw (by simp only [go_sem]) ⟨rfl, rfl⟩
      · rw [h]
        have hne2 : ¬ (ByteArray.mk (l ++ [10]).toArray = ByteArray.mk l.toArray) := fun h' => by
          have := congrArg (fun b : ByteArray => b.data.toList.length) h'
          simp at this
        simp only [go_sem, bytes_app, List.size_toArray, List.length_append, List.length_singleton, hne2]
        have hpos : 0 < l.length := by cases l with
          | nil => simp at hc
          | cons => simp
        have ew : IntKind.i64.wrap ((l.length : Int) - 1) = ((l.length - 1 : Nat) : Int) := by rw [show (l.length : Int) - 1 = ((l.length - 1 : Nat) : Int) by omega]; exact wrap_i64 (by omega) (by omega)
        have hcl : l[l.length - 1]?.getD 0 = c := by rw [← List.getLast?_eq_getElem?, hc]; rfl
        have hc10 : ¬ (c.toNat : Int) = 10 := fun h => hne (UInt8.toNat_inj.1 (by show c.toNat = 10; omega))
        rw [ew, Int.toNat_natCast, hcl, decide_eq_false hc10]
        exact ⟨by omega, ⟨by omega, by omega⟩, retOK_same hw (by simp only [go_sem]) ⟨rfl, rfl⟩⟩

theorem joinS_len (l : List Bytes) : (joinS l).1.length ≤ 4096 := by
  unfold joinS
  repeat' split
  all_goals simp
  omega
theorem joinS_nl (l : List Bytes) : ∀ c ∈ (joinS l).1, c ≠ 10 := by
  unfold joinS
  repeat' split
  · simp
  · simp
  · exact joinB_nl l

theorem wordsBack_c (l : List Bytes) (n : Int) (σ : Heap) (hl : l.length < 2^62) (h0 : -9223372036854775808 ≤ n) (h1 : n ≤ 9223372036854775807) : ACalls Tryd.prog 11 [strsB l, iv n] σ (fun r σ' => r = bv true ∧ σ' = σ) := by
  refine acalls_awp Tryd.func11 rfl Tryd.call11 Tryd.ntmps11 Tryd.results11 (Nat.le_of_ble_eq_true rfl) fun hw => ?_
  refine awp_then ?_
  simp only [go_sem]
  refine awp_then ?_
  simp only [go_sem]
  refine callN_of (wsane_c _) ?_
  rintro r τ ⟨rfl, rfl⟩
  simp only [go_sem]
  refine awp_then ?_
  simp only [go_sem]
  refine callN_of (kept_B l _ hl) ?_
  rintro r τ' ⟨rfl, rfl⟩
  cases hk : keptS (l.map toB) with
  | false =>
    simp only [go_sem]
    exact retOK_same hw (by simp only [go_sem]) ⟨rfl, rfl⟩
  | true =>
    obtain ⟨k1, k2⟩ := kept_sizes hk
    simp only [go_sem]
    refine awp_then ?_
    simp only [go_sem]
    refine callN_of (wjoin_c l _ hl) ?_
    rintro r τ ⟨rfl, rfl⟩
    simp only [go_sem]
    have hjl := joinS_len l
    have hjn := joinS_nl l
    refine awp_meet (T := Unit) (fun _ => [(1, ⟨true, iv n⟩)]) (fun _ => τ) (fun _ => True) ?_ ?_
    · by_cases he : (joinS l).2 = 0
      · have hsj := split_join l he
        generalize hs : (joinS l).1 = s at *
        have hsp := wsplit_c (toB s) τ (by show s.toArray.size < _; rw [List.size_toArray]; omega)
        rw [show (toB s).data.toList = s from rfl, hsj] at hsp
        have hln := lines_B (toB (s ++ [10] ++ s ++ [10])) τ (by show (s ++ [10] ++ s ++ [10]).toArray.size < _; rw [List.size_toArray]; simp; omega)
        rw [show (toB (s ++ [10] ++ s ++ [10])).data.toList = s ++ [10] ++ s ++ [10] from rfl, show linesL (s ++ [10] ++ s ++ [10]) = [s, s] by rw [show s ++ [10] ++ s ++ [10] = s ++ 10 :: (s ++ [10]) by simp]; exact lines_two s hjn] at hln
        have hsm := same_B l l τ hl hl
        rw [decide_eq_true rfl] at hsm
        simp only [go_sem, eq_true he]
        refine callN_of hsp ?_
        rintro r τ' ⟨rfl, rfl⟩
        simp only [go_sem]
        refine callG_of (bv true) (fun _ => hsm) ?_
        simp only [go_sem, bytes_app, List.size_toArray, List.length_append, List.length_singleton]
        refine ⟨by omega, by omega, by omega, ?_⟩
        refine callN_of hln ?_
        rintro r τ ⟨rfl, rfl⟩
        simp only [go_sem, strsB, Int.cast_ofNat_Int, Int.reduceEq, Int.reduceLT, show Int.toNat 1 = 1 from rfl, show Int.toNat 0 = 0 from rfl]
        exact ⟨(), trivial⟩
      · simp only [go_sem, he]
        exact ⟨(), trivial⟩
    rintro - -
    have hit := itoa_num n h0 h1
    have hil := Lib.itoa_length_le n h0 h1
    refine awp_then ?_
    simp only [go_sem]
    refine callN_of (wformat_c n _ ⟨h0, h1⟩) ?_
    rintro r τ' ⟨rfl, rfl⟩
    simp only [go_sem]
    refine callN_of (number_c (Lib.itoa n) _ (by omega)) ?_
    rw [hit]
    rintro r τ ⟨rfl, rfl⟩
    simp only [go_sem]
    refine vcode_sound _ ?_
    simp only [go_sem]
    exact retOK_same hw (by simp only [go_sem]) ⟨rfl, rfl⟩

theorem writeS_as (w : Nat) : writeS (List.replicate (w + 1) 97) = List.replicate (w + 1) 97 := by
  have : bareB (List.replicate (w + 1) 97) = true := by
    unfold bareB
    rw [Bool.and_eq_true]
    refine ⟨?_, by simp [List.replicate_succ]⟩
    rw [List.all_eq_true]
    intro c hc
    rw [(List.mem_replicate.1 hc).2]
    decide
  rw [writeS, if_pos this]
theorem joinB_rep (w : Nat) : ∀ m : Nat, (joinB (List.replicate (m + 1) (List.replicate (w + 1) 97))).length = (m + 1) * (w + 2) - 1
  | m => by
    rw [List.replicate_succ, joinB, writeS_as]
    have : ∀ m : Nat, ((List.replicate m (List.replicate (w + 1) (97 : UInt8))).flatMap fun w => 32 :: writeS w).length = m * (w + 2) := by
      intro m
      induction m with
      | zero => simp
      | succ m ih =>
        rw [List.replicate_succ, List.flatMap_cons, List.length_append, ih, writeS_as]
        simp only [List.length_cons, List.length_replicate]
        rw [Nat.add_mul]; omega
    rw [List.length_append, this, List.length_replicate, Nat.add_mul]
    omega

theorem wordsLimits_c (n k : Int) (σ : Heap) (hn : 0 ≤ n ∧ n ≤ 65535) (hk : 0 ≤ k ∧ k ≤ 65535) : ACalls Tryd.prog 8 [.v (.int .u16 n), .v (.int .u16 k)] σ (fun r σ' => r = bv true ∧ σ' = σ) := by
  obtain ⟨N, rfl⟩ : ∃ N : Nat, n = N := ⟨n.toNat, by omega⟩
  obtain ⟨K, rfl⟩ : ∃ K : Nat, k = K := ⟨k.toNat, by omega⟩
  refine acalls_awp Tryd.func8 rfl Tryd.call8 Tryd.ntmps8 Tryd.results8 (Nat.le_of_ble_eq_true rfl) fun hw => ?_
  refine awp_then ?_
  simp only [go_sem]
  refine awp_then ?_
  simp only [go_sem]
  refine callN_of (wsane_c _) ?_
  rintro r τ ⟨rfl, rfl⟩
  simp only [go_sem]
  refine awp_then ?_
  have em : IntKind.i64.wrap (1 + (IntKind.i64.wrap (N : Int)).tmod 70) = ((N % 70 + 1 : Nat) : Int) := by
    rw [wrap_i64 (x := (N : Int)) (by omega) (by omega), show (70 : Int) = ((70 : Nat) : Int) by rfl, ← Int.ofNat_tmod, wrap_i64 (by omega) (by omega)]; omega
  have ek : IntKind.i64.wrap (1 + (IntKind.i64.wrap (K : Int)).tmod 80) = ((K % 80 + 1 : Nat) : Int) := by
    rw [wrap_i64 (x := (K : Int)) (by omega) (by omega), show (80 : Int) = ((80 : Nat) : Int) by rfl, ← Int.ofNat_tmod, wrap_i64 (by omega) (by omega)]; omega
  have hm70 : N % 70 < 70 := Nat.mod_lt _ (by decide)
  have hw80 : K % 80 < 80 := Nat.mod_lt _ (by decide)
  generalize N % 70 = m at *
  generalize K % 80 = w at *
  simp only [go_sem, em, ek]
  refine ⟨by decide, by decide, ?_⟩
  refine awp_then ?_
  simp only [go_sem]
  refine awp_nil 7 1 (by simp only [go_sem]) ?_
  refine awp_then ?_
  simp only [go_sem]
  refine awp_then ?_
  simp only [go_sem]
  refine loop_go (X := Nat) (fun i => [(5, ⟨true, iv (m + 1 : Nat)⟩), (6, ⟨true, iv (w + 1 : Nat)⟩), (7, ⟨true, .os τ.length 0 0 0⟩), (8, ⟨true, sv (List.replicate i 97)⟩), (9, ⟨true, iv i⟩)]) (fun _ => τ ++ [.row 0 1 []]) (fun i => i ≤ w + 1) (fun i => w + 1 - i) 0 (by omega) (by simp only [go_sem]; simp) rfl ?_
  intro i hi
  by_cases hlt : i < w + 1
  · have e1 : List.replicate i (97 : UInt8) ++ [97] = List.replicate (i + 1) 97 := by rw [List.replicate_succ']
    simp only [go_sem, hlt, bytes_app, e1, List.size_toArray, List.length_replicate]
    exact ⟨by omega, i + 1, by omega, by omega, rfl, inc i (by omega)⟩
  · obtain rfl : i = w + 1 := by omega
    have hjb : (joinB (List.replicate (m + 1) (List.replicate (w + 1) 97))).length = (m + 1) * (w + 2) - 1 := joinB_rep w m
    generalize hword : List.replicate (w + 1) (97 : UInt8) = word at *
    have hwl : word.length = w + 1 := by rw [← hword, List.length_replicate]
    simp only [go_sem, hlt]
    refine awp_then ?_
    simp only [go_sem]
    refine loop_junk (X := Nat) (fun i => [(5, ⟨true, iv (m + 1 : Nat)⟩), (6, ⟨true, iv (w + 1 : Nat)⟩), (7, ⟨true, .os τ.length i 0 i⟩), (8, ⟨true, sv word⟩), (10, ⟨true, iv i⟩)]) (fun i => τ ++ [.row i 1 ((List.replicate i word).map sv)]) (fun i => i ≤ m + 1) (fun i => m + 1 - i) 0 (by omega) (by simp only [go_sem]; simp) (by simp) ?_
    intro i hi
    by_cases hlt : i < m + 1
    · have e2 : List.take i (List.map sv (List.replicate i word)) ++ [sv word] = List.map sv (List.replicate (i + 1) word) := by
        rw [List.take_of_length_le (by simp), List.replicate_succ', List.map_append]; rfl
      simp only [go_sem, hlt, List.length_replicate, e2]
      exact ⟨⟨by omega, by omega⟩, i + 1, by omega, by omega, ⟨rfl, inc i (by omega)⟩, take_app1, by omega, wfH_row1 hw (pureL_map (f := sv) (fun _ => trivial) _)⟩
    · obtain rfl : i = m + 1 := by omega
      have hLl : (List.replicate (m + 1) word).length = m + 1 := List.length_replicate
      generalize List.replicate (m + 1) word = L at *
      simp only [go_sem, hlt]
      refine awp_frz (i := τ.length) (g := m + 1) (e := 1) (es := L.map sv) (by simp only [go_sem]) ?_
      have e3 : ∀ q, List.take (m + 1) (List.drop q (L.map sv)) = List.take (m + 1) (List.drop q (L.map sv)) := fun _ => rfl
      have e4 : List.take (m + 1) (L.map sv) = L.map sv := List.take_of_length_le (by simp [hLl])
      simp only [frzE, frz, frzL, go_sem, e4, hLl, Nat.le_refl]
      have hj := wjoin_c L (τ ++ [.dead (m + 1)]) (by omega)
      have hprod : (m + 1) * (w + 2) ≤ 70 * 82 := Nat.mul_le_mul (by omega) (by omega)
      have ew1 : IntKind.i64.wrap (((w + 1 : Nat) : Int) + 1) = ((w + 2 : Nat) : Int) := inc (w + 1) (by omega)
      have ew2 : IntKind.i64.wrap (((m + 1 : Nat) : Int) * ((w + 2 : Nat) : Int)) = (((m + 1) * (w + 2) : Nat) : Int) := by rw [← Int.natCast_mul]; exact wrap_i64 (by omega) (by omega)
      have hpos : 1 ≤ (m + 1) * (w + 2) := Nat.mul_pos (by omega) (by omega)
      have ew3 : IntKind.i64.wrap ((((m + 1) * (w + 2) : Nat) : Int) - 1) = (((m + 1) * (w + 2) - 1 : Nat) : Int) := by
        rw [show ((((m + 1) * (w + 2) : Nat) : Int) - 1) = (((m + 1) * (w + 2) - 1 : Nat) : Int) by omega]; exact wrap_i64 (by omega) (by omega)
      generalize hPP : (m + 1) * (w + 2) = PP at *
      have hjs : joinS L = if 64 < m + 1 then ([], 3) else if 4096 < PP - 1 then ([], 3) else (joinB L, 0) := by
        unfold joinS; rw [hLl, hjb]
      refine awp_then ?_
      simp only [go_sem]
      refine callN_of hj ?_
      rintro r τ' ⟨rfl, rfl⟩
      simp only [go_sem]
      refine awp_then ?_
      by_cases hbig : 64 < m + 1 ∨ 4096 < PP - 1
      · have hjs2 : joinS L = ([], 3) := by
          rw [hjs]
          by_cases h : 64 < m + 1
          · rw [if_pos h]
          · rw [if_neg h, if_pos (by omega)]
        rw [hjs2]
        rcases hbig with hb | hb
        · have hb' : (64 : Int) < ((m + 1 : Nat) : Int) := by omega
          simp only [go_sem, eq_true hb', ew1, ew2, ew3]
          exact retOK_app hw (by simp only [go_sem]) ⟨rfl, rfl⟩
        · have hb' : (4096 : Int) < ((PP - 1 : Nat) : Int) := by omega
          simp only [go_sem, eq_true hb', ew1, ew2, ew3]
          exact retOK_app hw (by simp only [go_sem]) ⟨rfl, rfl⟩
      · have hjs2 : joinS L = (joinB L, 0) := by rw [hjs, if_neg (by omega), if_neg (by omega)]
        have hsj := split_join L (by rw [hjs2])
        rw [hjs2] at hsj ⊢
        have hb1 : ¬ (64 : Int) < ((m + 1 : Nat) : Int) := by omega
        have hb2 : ¬ (4096 : Int) < ((PP - 1 : Nat) : Int) := by omega
        simp only [go_sem, hb1, hb2, ew1, ew2, ew3]
        have hsp := wsplit_c (toB (joinB L)) (τ ++ [.dead (m + 1)]) (by show (joinB L).toArray.size < _; rw [List.size_toArray, hjb]; omega)
        rw [show (toB (joinB L)).data.toList = joinB L from rfl, hsj] at hsp
        have hsm := same_B L L (τ ++ [.dead (m + 1)]) (by omega) (by omega)
        rw [decide_eq_true rfl] at hsm
        refine awp_then ?_
        simp only [go_sem]
        refine callN_of hsp ?_
        rintro r τ' ⟨rfl, rfl⟩
        simp only [go_sem]
        refine vcode_sound _ ?_
        simp only [go_sem, List.size_toArray, hjb, ew1, ew2, ew3]
        refine callG_of (bv true) (fun _ => hsm) ?_
        simp only [go_sem]
        exact retOK_app hw (by simp only [go_sem]) ⟨rfl, rfl⟩
end Go.Proofs.YtbinpbjeeiedhaaDoor
