/-
  Contracts of the reference: the number of an operand, an instruction of words, Parse.
-/
import Derived.Test.YtdlekkhjkcbbnaaGreatDoorAbZ
import Derived.Test.YtdlekkhjkcbbnaaGreatDoorCoL
import Derived.Test.YtdlekkhjkcbbnaaGreatDoorCoH
set_option linter.unusedVariables false
set_option linter.unusedSimpArgs false
set_option maxRecDepth 8000
set_option maxHeartbeats 4000000
namespace Go.Proofs.YtdlekkhjkcbbnaaGreatDoor
open Go.Ab Go.Id Go.Wo Go

/-- the number of an operand, and whether there is one -/
def readR (l : Nat) (w : Bytes) : Int × Bool :=
  if l = 114 then (match w with
    | [a, b] => if a.toNat = 114 ∧ 48 ≤ b.toNat ∧ b.toNat ≤ 57 then ((b.toNat : Int) - 48, true) else (0, false)
    | _ => (0, false))
  else ((numS w).1, decide ((numS w).2 = 0))
theorem numO_one : ∀ c : UInt8, numO [c] = if 48 ≤ c.toNat ∧ c.toNat ≤ 57 then some ((c.toNat : Int) - 48) else none := by
  have h : ∀ n, n < 256 → numO [UInt8.ofNat n] = if 48 ≤ (UInt8.ofNat n).toNat ∧ (UInt8.ofNat n).toNat ≤ 57 then some (((UInt8.ofNat n).toNat : Int) - 48) else none := by decide +kernel
  intro c
  have := h c.toNat c.toNat_lt
  simpa using this
theorem readR_operand (l : Nat) (w : Bytes) : operandO l w = if (readR l w).2 = true then some (readR l w).1 else none := by
  unfold operandO readR
  by_cases h : l = 114
  · subst h
    simp only [ne_eq, not_true_eq_false, if_false, if_true]
    match w with
    | [] => simp
    | [a] => simp
    | a :: b :: c :: r => simp
    | [a, b] =>
      simp only [List.length_cons, List.length_nil, List.getElem?_cons_zero, List.drop_succ_cons, List.drop_zero, numO_one, Option.some.injEq, true_and, Nat.zero_add, Nat.reduceAdd]
      have e : a = 114 ↔ a.toNat = 114 := ⟨fun h => by rw [h]; rfl, fun h => UInt8.toNat_inj.1 h⟩
      by_cases h1 : a.toNat = 114
      · by_cases h2 : 48 ≤ b.toNat ∧ b.toNat ≤ 57
        · simp [e, h1, h2]
        · simp only [e, h1, if_neg h2, true_and, if_true, Bool.false_eq_true, if_false]
      · simp [e, h1]
  · simp only [ne_eq, h, not_false_eq_true, if_true, if_false]
    unfold numO
    by_cases h2 : (numS w).2 = 0 <;> simp [h2]

theorem read_c (l : UInt8) (w : Bytes) (σ : Heap) (hl : w.length ≤ 281474976710656) : ACalls Tryz.prog 41 [.v (.int .u8 l.toNat), sv w] σ (fun r σ' => r = .tup [iv (readR l.toNat w).1, bv (readR l.toNat w).2] ∧ σ' = σ) := by
  refine acalls_go Tryz.func41 rfl Tryz.call41 Tryz.ntmps41 Tryz.results41 (Nat.le_of_ble_eq_true rfl) fun hw => ?_
  by_cases h : l.toNat = 114
  · have h' : (l.toNat : Int) = 114 := by omega
    unfold readR
    rw [if_pos h]
    by_cases h2 : w.length = 2
    · obtain ⟨a, b, rfl⟩ : ∃ a b, w = [a, b] := by
        match w, h2 with
        | [a, b], _ => exact ⟨a, b, rfl⟩
      by_cases ha : a.toNat = 114
      · have ha' : (a.toNat : Int) = 114 := by omega
        have hb := b.toNat_lt
        by_cases hb1 : (b.toNat : Int) < 48
        · have hn : ¬ (a.toNat = 114 ∧ 48 ≤ b.toNat ∧ b.toNat ≤ 57) := by omega
          simp only [go_sem, eq_true h', eq_true ha', eq_true hb1, List.size_toArray, List.length_cons, List.length_nil, if_neg hn]
          exact ⟨fun _ => by decide, retOK_same hw (by simp only [go_sem]) ⟨rfl, rfl⟩⟩
        · by_cases hb2 : (57 : Int) < b.toNat
          · have hn : ¬ (a.toNat = 114 ∧ 48 ≤ b.toNat ∧ b.toNat ≤ 57) := by omega
            simp only [go_sem, eq_true h', eq_true ha', hb1, eq_true hb2, List.size_toArray, List.length_cons, List.length_nil, if_neg hn]
            exact ⟨fun _ => by decide, fun _ => by decide, retOK_same hw (by simp only [go_sem]) ⟨rfl, rfl⟩⟩
          · have hn : (a.toNat = 114 ∧ 48 ≤ b.toNat ∧ b.toNat ≤ 57) := by omega
            simp only [go_sem, eq_true h', eq_true ha', hb1, hb2, List.size_toArray, List.length_cons, List.length_nil, if_pos hn]
            refine ⟨fun _ => by decide, fun _ => by decide, ?_⟩
            rw [if_neg (by decide), show IntKind.u8.wrap ((b.toNat : Int) - 48) = (b.toNat : Int) - 48 by simp only [IntKind.wrap, IntKind.bits, IntKind.signed]; simp; omega, wrap_i64 (by omega) (by omega)]
            exact ⟨by decide, retOK_same hw (by simp only [go_sem]) ⟨rfl, rfl⟩⟩
      · have ha' : ¬ (a.toNat : Int) = 114 := by omega
        have hn : ¬ (a.toNat = 114 ∧ 48 ≤ b.toNat ∧ b.toNat ≤ 57) := by omega
        simp only [go_sem, eq_true h', ha', List.size_toArray, List.length_cons, List.length_nil, if_neg hn]
        exact retOK_same hw (by simp only [go_sem]) ⟨rfl, rfl⟩
    · have h2' : ¬ (w.length : Int) = 2 := by omega
      have hm : (match w with
        | [a, b] => if a.toNat = 114 ∧ 48 ≤ b.toNat ∧ b.toNat ≤ 57 then ((b.toNat : Int) - 48, true) else (0, false)
        | _ => ((0 : Int), false)) = (0, false) := by
        match w, h2 with
        | [], _ => rfl
        | [a], _ => rfl
        | [a, b], h => exact absurd rfl h
        | _ :: _ :: _ :: _, _ => rfl
      rw [hm]
      simp only [go_sem, eq_true h', h2', List.size_toArray]
      exact retOK_same hw (by simp only [go_sem]) ⟨rfl, rfl⟩
  · have h' : ¬ (l.toNat : Int) = 114 := by omega
    unfold readR
    rw [if_neg h]
    simp only [go_sem, h']
    refine callN_of (rnumber_c w _ hl) ?_
    rintro r τ ⟨rfl, rfl⟩
    simp only [go_sem]
    exact retOK_same hw (by simp only [go_sem]) ⟨rfl, rfl⟩

theorem operandO_congr {l m : Nat} (h : decide (l = 114) = decide (m = 114)) (w : Bytes) : operandO l w = operandO m w := by
  unfold operandO
  by_cases h1 : l = 114
  · have h2 : m = 114 := by rw [decide_eq_true h1] at h; exact of_decide_eq_true h.symm
    rw [h1, h2]
  · have h2 : ¬ m = 114 := by rw [decide_eq_false h1] at h; exact of_decide_eq_false h.symm
    rw [if_pos h1, if_pos h2]
theorem operandsO_congr : ∀ (ls ms : Bytes) (ws : List Bytes), ls.map (fun l => decide (l.toNat = 114)) = ms.map (fun l => decide (l.toNat = 114)) → operandsO ls ws = operandsO ms ws
  | [], [], _, _ => rfl
  | [], _ :: _, _, h => by simp at h
  | _ :: _, [], _, h => by simp at h
  | l :: ls, m :: ms, [], _ => rfl
  | l :: ls, m :: ms, w :: ws, h => by
    simp only [List.map_cons, List.cons.injEq] at h
    rw [operandsO, operandsO, operandsO_congr ls ms ws h.2, operandO_congr h.1]
theorem roperandsO {k : Nat} (h : k < 13) (ws : List Bytes) : operandsO (rletsS k) ws = operandsO (letsS k) ws := operandsO_congr _ _ _ (lets_114 k h)
theorem rlets3 : ∀ k, k < 13 → (rletsS k).length = (letsS k).length ∧ (rletsS k).length ≤ 3 := by decide
theorem rlets_ascii {k : Nat} (h : k < 13) {c : UInt8} (hc : c ∈ rletsS k) : c.toNat < 128 := by
  have : ∀ k, k < 13 → (rletsS k).all (fun c => decide (c.toNat < 128)) = true := by decide
  exact of_decide_eq_true (List.all_eq_true.1 (this k h) c hc)
theorem nameI_nat {k : Nat} (h : k < 13) : nameI (k : Int) = nameS k := by unfold nameI; rw [if_neg (by omega)]; rfl
theorem rletsI_nat {k : Nat} (h : k < 13) : rletsI (k : Int) = rletsS k := by unfold rletsI; rw [if_neg (by omega)]; rfl
theorem opIx_nm : ∀ k, k < 13 → opIx (nameS k) = some k := by decide
theorem opIx_name' {w : Bytes} {k : Nat} (h : opIx w = some k) : nameS k = w := by
  obtain ⟨hk, h1, _⟩ := List.findIdx?_eq_some_iff_getElem.1 h
  unfold nameS
  rw [List.getElem?_eq_getElem hk]
  simpa using h1
theorem insA_none {w : Bytes} {ws : List Bytes} (h : ∀ j, j < 13 → nameS j = w → ws.length ≠ (letsS j).length) : insA (w :: ws) = (zeroI, false) := by
  unfold insA instrO
  cases ho : opIx w with
  | none => simp only [ho]
  | some k => simp only [ho, if_neg (h k (opIx_lt ho) (opIx_name' ho))]
theorem insA_some {w : Bytes} {ws : List Bytes} {k : Nat} (hk : k < 13) (hn : nameS k = w) (hl : ws.length = (letsS k).length) : insA (w :: ws) = match operandsO (rletsS k) ws with | some ns => (insOf k ns, true) | none => (zeroI, false) := by
  unfold insA instrO
  have ho : opIx w = some k := by rw [← hn]; exact opIx_nm k hk
  simp only [ho, if_pos hl, roperandsO hk]
  cases operandsO (letsS k) ws <;> rfl

theorem rinstr_c (w : Bytes) (ws : List Bytes) (σ : Heap) (hl : ws.length ≤ 100) (hls : ∀ x ∈ ws, x.length ≤ 281474976710656) :
    ACalls Tryz.prog 42 [strsB (w :: ws)] σ (fun r σ' => r = .tup [(insA (w :: ws)).1.av, bv (insA (w :: ws)).2] ∧ σ' = σ) := by
  refine acalls_awp Tryz.func42 rfl Tryz.call42 Tryz.ntmps42 Tryz.results42 (Nat.le_of_ble_eq_true rfl) fun hw => ?_
  obtain ⟨res, hres⟩ : ∃ res, insA (w :: ws) = res := ⟨_, rfl⟩
  rw [hres]
  refine awp_then ?_
  simp only [go_sem]
  refine awp_then ?_
  simp only [go_sem]
  refine loop_junk (X := Nat) (fun k => [(0, ⟨true, strsB (w :: ws)⟩), (2, ⟨true, .ptr σ.length 0 0 0⟩), (4, ⟨true, iv k⟩)]) (fun _ => σ ++ [.row 0 4 [.agg [iv 0, iv 0, iv 0, iv 0]]])
    (fun k => k ≤ 13 ∧ ∀ j, j < k → nameS j = w → ws.length ≠ (letsS j).length) (fun k => 13 - k) 0 ⟨by omega, by omega⟩ (by simp only [go_sem, strsB]; simp) rfl ?_
  rintro k ⟨hk, hno⟩
  by_cases hlt : k < 13
  · have hlt' : (k : Int) ≤ 12 := by omega
    simp only [go_sem, strsB, eq_true hlt']
    refine callN_of (form_c k _) ?_
    rintro r τ ⟨rfl, rfl⟩
    rw [nameI_nat hlt, rletsI_nat hlt]
    obtain ⟨hl1, hl2⟩ := rlets3 k hlt
    obtain ⟨ls, hlsE⟩ : ∃ ls, rletsS k = ls := ⟨_, rfl⟩
    have hasc : ∀ c ∈ ls, c.toNat < 128 := fun c hc => rlets_ascii hlt (by rw [hlsE]; exact hc)
    have hsome := fun (hn : nameS k = w) (h2 : ws.length = (letsS k).length) => insA_some hlt hn h2
    rw [hlsE] at hl1 hl2 hsome ⊢
    have hwr : IntKind.i64.wrap ((ls.length : Int) + 1) = ((ls.length + 1 : Nat) : Int) := by rw [wrap_i64 (by omega) (by omega)]; omega
    by_cases hm : nameS k = w ∧ ws.length = (letsS k).length
    · obtain ⟨hn, h2⟩ := hm
      have hs := hsome hn h2
      rw [hres] at hs
      have hlen' : (((ws.length + 1 : Nat) : Int) = ((ls.length + 1 : Nat) : Int)) := by omega
      simp only [go_sem, strsB, svb_inj, hn, hwr, eq_true hlen', List.size_toArray]
      refine ⟨by omega, ?_⟩
      refine aop_range_str (s := ⟨ls.toArray⟩) rfl rfl Tryz.ty9 rfl rfl (by simp only [go_sem]) ?_
      simp only [go_sem]
      have hwk : ∀ (acc : List Int) (i : Nat), WfH (σ.length + 3) (σ ++ [.row 0 4 [.agg [iv 0, iv 0, iv 0, iv 0]], .row 0 3 [arrO acc], .it 0 ⟨ls.toArray⟩ i]) := fun acc i o ho => by
        simp only [List.mem_append, List.mem_cons, List.not_mem_nil, or_false] at ho
        rcases ho with ho | rfl | rfl | rfl
        · exact AObj.allI_mono (fun i (hi : i < σ.length) => by show i < σ.length + 3; omega) (hw o ho)
        · exact ⟨⟨trivial, trivial, trivial, trivial, trivial⟩, trivial⟩
        · exact ⟨⟨trivial, trivial, trivial, trivial⟩, trivial⟩
        · trivial
      refine loop_junk (X := Nat × List Int) (fun x => [(0, ⟨true, strsB (w :: ws)⟩), (2, ⟨true, .ptr σ.length 0 0 0⟩), (4, ⟨true, iv k⟩), (6, ⟨true, sv ls⟩), (7, ⟨true, .ptr (σ.length + 1) 0 0 0⟩), (34, ⟨true, .ptr (σ.length + 2) 0 0 0⟩)])
        (fun x => σ ++ [.row 0 4 [.agg [iv 0, iv 0, iv 0, iv 0]], .row 0 3 [arrO x.2], .it 0 ⟨ls.toArray⟩ x.1])
        (fun x => x.1 ≤ ws.length ∧ x.2.length = x.1 ∧ operandsO ls ws = (operandsO (ls.drop x.1) (ws.drop x.1)).map (x.2 ++ ·)) (fun x => ws.length - x.1) (0, []) ⟨by simp, by simp, by simp⟩ (by simp only [go_sem, strsB]) (by simp [arrO]) ?_
      rintro ⟨i, acc⟩ ⟨hi, hal, hop2⟩
      simp only at hi hal hop2
      by_cases hil : i < ws.length
      · obtain ⟨x, hx⟩ : ∃ x, ws[i]? = some x := ⟨_, List.getElem?_eq_getElem hil⟩
        have hil' : i < ls.length := by omega
        obtain ⟨l, hlx⟩ : ∃ l, ls[i]? = some l := ⟨_, List.getElem?_eq_getElem hil'⟩
        have hlx' := (List.getElem?_eq_some_iff.1 hlx).2
        have hxl := hls x (List.mem_of_getElem? hx)
        have hx1 : (w :: ws)[i + 1]? = some x := by simpa using hx
        have hlca : l.toNat < 128 := hasc l (List.mem_of_getElem? hlx)
        simp only [go_sem, strsB]
        refine aop_next_ascii (s := ⟨ls.toArray⟩) (i := σ.length + 2) (g := 0) (pos := i) (ty := 0) rfl rfl rfl (by simp only [go_sem]) (by rw [strlen]; exact hil') (by show (ls[i]).toNat < 128; rw [hlx']; exact hlca) (by simp only [go_sem]) ?_
        simp only [go_sem, strsB]
        refine awp_draw Tryz.mixed (by kernel_rfl) ?_
        have hwi : IntKind.i64.wrap ((i : Int) + 1) = ((i + 1 : Nat) : Int) := by rw [wrap_i64 (by omega) (by omega)]; omega
        simp only [go_sem, strsB, hlx, hwi, hx, Int.toNat_natCast]
        refine ⟨by simpa using hil', by omega, callD_of (.tup [iv (readR l.toNat x).1, bv (readR l.toNat x).2]) (fun _ σ' => read_c l x σ' hxl) ?_⟩
        have hO := readR_operand l.toNat x
        have hdr : operandsO (ls.drop i) (ws.drop i) = match operandO l.toNat x, operandsO (ls.drop (i + 1)) (ws.drop (i + 1)) with
            | some n, some ns => some (n :: ns)
            | _, _ => none := by
          rw [List.drop_eq_getElem_cons hil', List.drop_eq_getElem_cons hil, (List.getElem?_eq_some_iff.1 hlx).2, (List.getElem?_eq_some_iff.1 hx).2]
          rfl
        generalize readR l.toNat x = oa at hO ⊢
        obtain ⟨n, b⟩ := oa
        cases b with
        | false =>
          rw [if_neg (by simp)] at hO
          rw [hdr, hO] at hop2
          simp only [Option.map_none] at hop2
          rw [hop2] at hs
          simp only at hs
          subst hs
          simp only [go_sem]
          exact retOK_app hw (by simp only [go_sem]) ⟨rfl, rfl⟩
        | true =>
          rw [if_pos rfl] at hO
          have hop3 : operandsO ls ws = (operandsO (ls.drop (i + 1)) (ws.drop (i + 1))).map ((acc ++ [n]) ++ ·) := by
            rw [hop2, hdr, hO]
            cases operandsO (ls.drop (i + 1)) (ws.drop (i + 1)) with
            | none => rfl
            | some ns => simp
          have hset : ([iv (acc[0]?.getD 0), iv (acc[1]?.getD 0), iv (acc[2]?.getD 0)] : List AV).set i (iv n) = [iv ((acc ++ [n])[0]?.getD 0), iv ((acc ++ [n])[1]?.getD 0), iv ((acc ++ [n])[2]?.getD 0)] := by
            rcases (show i = 0 ∨ i = 1 ∨ i = 2 by omega) with rfl | rfl | rfl
            · obtain rfl : acc = [] := List.length_eq_zero_iff.1 hal
              rfl
            · obtain ⟨a0, rfl⟩ : ∃ a0, acc = [a0] := List.length_eq_one_iff.1 hal
              rfl
            · obtain ⟨a0, a1, rfl⟩ : ∃ a0 a1, acc = [a0, a1] := by
                match acc, hal with
                | [a0, a1], _ => exact ⟨a0, a1, rfl⟩
              rfl
          simp only [go_sem, arrO, hset]
          refine ⟨by omega, by first | omega | (simp only [List.length_cons, List.length_nil]; omega), (i + 1, acc ++ [n]), by simp only; omega, ⟨by simp only; omega, by simp only [List.length_append, List.length_singleton]; omega, hop3⟩, take_app3, ⟨by omega, by omega, by omega⟩, ?_⟩
          have := hwk (acc ++ [n]) (i + 1)
          simp only [arrO] at this
          exact this
      · obtain rfl : i = ws.length := by omega
        have hd : operandsO (ls.drop ws.length) (ws.drop ws.length) = some [] := by rw [List.drop_of_length_le (by omega)]; rfl
        rw [hd] at hop2
        simp only [Option.map_some, List.append_nil] at hop2
        rw [hop2] at hs
        simp only at hs
        subst hs
        simp only [go_sem, strsB]
        refine aop_next_end (s := ⟨ls.toArray⟩) (i := σ.length + 2) (g := 0) (pos := ws.length) (ty := 0) rfl rfl rfl (by simp only [go_sem]) (by rw [strlen]; omega) (by simp only [go_sem]) ?_
        simp only [go_sem, strsB, arrO]
        exact ⟨by decide, by decide, retOK_app hw (by simp only [go_sem]) ⟨rfl, rfl⟩⟩
    · have hlen' : ¬ w = nameS k ∨ ¬ ws.length = ls.length := by
        by_cases h : w = nameS k
        · exact .inr fun h2 => hm ⟨h.symm, by omega⟩
        · exact .inl h
      simp only [go_sem, strsB, svb_inj, hwr, List.size_toArray]
      refine ⟨by omega, ?_⟩
      rw [if_pos hlen']
      refine ⟨k + 1, by omega, ⟨by omega, fun j hj hn hw' => ?_⟩, inc k (by omega), take_app1, by omega, wfH_row1 hw ⟨⟨trivial, trivial, trivial, trivial, trivial⟩, trivial⟩⟩
      rcases (show j < k ∨ j = k by omega) with h | rfl
      · exact hno j h hn hw'
      · exact hm ⟨hn, hw'⟩
  · obtain rfl : k = 13 := by omega
    have hlt' : ¬ ((13 : Nat) : Int) ≤ 12 := by omega
    simp only [go_sem, strsB, hlt']
    have := insA_none (w := w) (ws := ws) hno
    rw [hres] at this
    subst this
    refine vcode_sound _ ?_
    simp only [go_sem]
    exact retOK_app hw (by simp only [go_sem, zeroI, insAV]) ⟨rfl, rfl⟩
end Go.Proofs.YtdlekkhjkcbbnaaGreatDoor
