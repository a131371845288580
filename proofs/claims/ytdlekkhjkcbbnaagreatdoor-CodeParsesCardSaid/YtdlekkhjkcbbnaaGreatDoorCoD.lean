/-
  Contracts: code.line, number, operand, and the reader of numbers of the reference.
-/
import Derived.Test.YtdlekkhjkcbbnaaGreatDoorCoC
import Derived.Test.YtdlekkhjkcbbnaaGreatDoorCoP
set_option linter.unusedVariables false
set_option linter.unusedSimpArgs false
set_option maxRecDepth 8000
set_option maxHeartbeats 2000000
namespace Go.Proofs.YtdlekkhjkcbbnaaGreatDoor
open Go.Ab Go.Id Go.Wo Go

theorem opsT_at : ∀ (ls : Bytes) (ns : List Int) (k : Nat) (n : Int), k < ls.length → ns[k]? = some n → (opsT ls ns)[k]? = some (opT (ls[k]?.getD 0) n)
  | [], _, k, _, h, _ => by simp at h
  | _ :: _, [], k, _, _, h => by simp at h
  | l :: ls, m :: ns, 0, n, _, h => by simp at h; subst h; simp [opsT]
  | l :: ls, m :: ns, k + 1, n, hk, h => by
    simp only [opsT, List.getElem?_cons_succ] at h ⊢
    exact opsT_at ls ns k n (by simpa using hk) h
theorem opsT_len' : ∀ (ls : Bytes) (ns : List Int), (opsT ls ns).length = min ls.length ns.length
  | [], _ => by simp [opsT]
  | _ :: _, [] => by simp [opsT]
  | l :: ls, n :: ns => by simp only [opsT, List.length_cons, opsT_len' ls ns]; omega
theorem opsT_take (ls : Bytes) (ns : List Int) (k : Nat) (n : Int) (h : k < ls.length) (hn : ns[k]? = some n) : (opsT ls ns).take (k + 1) = (opsT ls ns).take k ++ [opT (ls[k]?.getD 0) n] := by
  rw [List.take_add_one, opsT_at ls ns k n h hn]; rfl
theorem join_words (nm : Bytes) (ws : List Bytes) : Lib.join (nm :: ws) [32] = nm ++ ws.flatMap fun w => 32 :: w := by
  unfold Lib.join
  induction ws generalizing nm with
  | nil => simp [List.intercalate]
  | cons w ws ih =>
    have := ih w
    simp only [List.intercalate, List.intersperse, List.flatten_cons, List.flatMap_cons] at this ⊢
    rw [this]
    simp
theorem pure_svL (l : List Bytes) : PureL (l.map sv) := pureL_map (f := sv) (fun _ => trivial) l
@[go_sem] theorem allIL_svL (n : Nat) (l : List Bytes) : AllIL (· < n) (l.map sv) = True := eq_true (AllIL.mono (fun _ h => h.elim) _ (pure_svL l))
@[go_sem] theorem frzL_svL (i g e : Nat) (es : List AV) (l : List Bytes) : frzL i g e es (l.map sv) = l.map sv := frzL_pure _ _ _ _ (pure_svL l)
theorem joinB_c (ws : List Bytes) (sep : Bytes) (σ : Heap) (hN : ws.length ≤ 140737488355328) (hlen : (Lib.join ws sep).length ≤ 140737488355328) :
    ACalls Tryz.prog 53 [strsB ws, sv sep] σ (fun r σ' => r = sv (Lib.join ws sep) ∧ σ' = σ) := by
  have e : (ws.map toB).map (·.data.toList) = ws := by simp [List.map_map, Function.comp_def, toB]
  have := join_c (ws.map toB) ⟨sep.toArray⟩ σ (by simpa using hN) (by rw [e]; simpa using hlen)
  rw [e] at this
  simpa [strsB, List.map_map, Function.comp_def, toB] using this

theorem line_c (x : Ins) (len : Int) (hlen : len ≤ 256) (hr : rightS x len = true) (σ : Heap) : ACalls Tryz.prog 27 [x.av] σ (fun r σ' => r = sv (lineS x) ∧ σ' = σ) := by
  obtain ⟨⟨h1, h2⟩, hok⟩ := right_okN hlen hr
  have hll72 := lineS_len hok
  obtain ⟨op, a, b, c⟩ := x
  simp only at h1 h2
  obtain ⟨k, rfl⟩ : ∃ k : Nat, op = k := ⟨op.toNat, by omega⟩
  refine acalls_awp Tryz.func27 rfl Tryz.call27 Tryz.ntmps27 Tryz.results27 (Nat.le_of_ble_eq_true rfl) fun hw => ?_
  have hres : lineS ⟨k, a, b, c⟩ = Lib.join (nameS k :: opsT (letsS k) [a, b, c]) [32] ++ [10] := by rw [join_words]; rfl
  rw [hres, List.length_append, List.length_singleton] at hll72
  rw [hres]
  have hk : k < 13 := by omega
  have hk' : (k : Int) < 13 := by omega
  have hk0 : (0 : Int) ≤ k := by omega
  have hk2 : k * 2 + 2 ≤ 26 := by omega
  have hll := letsS_len k
  refine awp_then ?_
  simp only [go_sem, Ins.av]
  refine awp_then ?_
  simp only [go_sem, eq_true hk', eq_true hk0, eq_true hk2, Int.toNat_natCast, formsC_at k hk]
  refine ⟨hk, ?_⟩
  obtain ⟨ls, hls⟩ : ∃ ls, letsS k = ls := ⟨_, rfl⟩
  obtain ⟨nm, hnm⟩ : ∃ nm, nameS k = nm := ⟨_, rfl⟩
  rw [hls] at hll hll72 ⊢
  rw [hnm] at hll72 ⊢
  obtain ⟨ns, hns⟩ : ∃ ns : List Int, [a, b, c] = ns := ⟨_, rfl⟩
  have hok' : ∀ n ∈ ns, okN n := by rw [← hns]; exact hok
  rw [hns] at hll72 ⊢
  have hnl : ns.length = 3 := by rw [← hns]; rfl
  have hnsv : [iv a, iv b, iv c] = ns.map iv := by rw [← hns]; rfl
  refine awp_then ?_
  simp only [go_sem]
  refine awp_then ?_
  simp only [go_sem]
  have hwk : ∀ (g' : Nat) (es : List Bytes), WfH (σ.length + 3) (σ ++ [.row 0 4 [.agg [iv k, iv a, iv b, iv c]], .row 0 2 [.agg [sv nm, sv ls]], .row g' 1 (es.map sv)]) := fun g' es o ho => by
    simp only [List.mem_append, List.mem_cons, List.not_mem_nil, or_false] at ho
    rcases ho with ho | rfl | rfl | rfl
    · exact AObj.allI_mono (fun i (hi : i < σ.length) => by show i < σ.length + 3; omega) (hw o ho)
    · exact ⟨⟨trivial, trivial, trivial, trivial, trivial⟩, trivial⟩
    · exact ⟨⟨trivial, trivial, trivial⟩, trivial⟩
    · exact AllIL.mono (fun _ h => h.elim) _ (pure_svL _)
  refine loop_junk (X := Nat × Nat) (fun x => [(3, ⟨true, .ptr (σ.length + 1) 0 0 0⟩), (4, ⟨true, .os (σ.length + 2) x.2 0 (x.1 + 1)⟩), (21, ⟨true, .agg [iv a, iv b, iv c]⟩), (22, ⟨true, iv x.1⟩)])
    (fun x => σ ++ [.row 0 4 [.agg [iv k, iv a, iv b, iv c]], .row 0 2 [.agg [sv nm, sv ls]], .row x.2 1 ((nm :: (opsT ls ns).take x.1).map sv)])
    (fun x => x.1 ≤ 3 ∧ x.1 ≤ ls.length) (fun x => 3 - x.1) (0, 0) ⟨by simp, by simp⟩ (by simp only [go_sem]; simp) (by simp) ?_
  rintro ⟨i, g⟩ ⟨hi, hil⟩
  simp only at hi hil
  have hol := opsT_len' ls ns
  have hlen1 : ((nm :: (opsT ls ns).take i).map sv).length = i + 1 := by rw [List.length_map, List.length_cons, List.length_take]; omega
  have hl3 : (List.take i (List.map sv (opsT ls ns))).length = i := by rw [List.length_take, List.length_map]; omega
  have fin : i = ls.length → ∀ K : Env → Heap → Prop, ∀ o : POp, ∀ E : Env, (∀ r σ', (r = sv (Lib.join (nm :: opsT ls ns) [32]) ∧ σ' = (σ ++ [.row 0 4 [.agg [iv k, iv a, iv b, iv c]], .row 0 2 [.agg [sv nm, sv ls]], .dead g])) → putK 48 o.dst ⟨true, r⟩ K E σ') →
      callN Tryz.prog 48 o 53 [.os (σ.length + 2) g 0 (i + 1), .v (.string ⟨#[32]⟩)] E (σ ++ [.row 0 4 [.agg [iv k, iv a, iv b, iv c]], .row 0 2 [.agg [sv nm, sv ls]], .row g 1 (sv nm :: List.take i (List.map sv (opsT ls ns)))]) K := by
    rintro hie K o E hk
    have e1 : List.take i (List.map sv (opsT ls ns)) = List.map sv (opsT ls ns) := List.take_of_length_le (by rw [List.length_map]; omega)
    refine callN_of (acalls_frz (i := σ.length + 2) (g := g) (e := 1) (es := sv nm :: List.take i (List.map sv (opsT ls ns))) (by simp only [go_sem]) ?_) hk
    have e2 : i + 1 = (sv nm :: List.take i (List.map sv (opsT ls ns))).length := by rw [List.length_cons, hl3]
    rw [e2, e1]
    simp only [frzL, frz, go_sem]
    have := joinB_c (nm :: opsT ls ns) [32] (σ ++ [.row 0 4 [.agg [iv k, iv a, iv b, iv c]], .row 0 2 [.agg [sv nm, sv ls]], .dead g]) (by rw [List.length_cons]; omega) (by omega)
    simpa [strsB] using this
  by_cases hlt : i < 3
  · obtain ⟨n, hni⟩ : ∃ n, ns[i]? = some n := ⟨_, List.getElem?_eq_getElem (by omega)⟩
    have hav : [iv a, iv b, iv c][i]? = some (iv n) := by rw [hnsv, List.getElem?_map, hni]; rfl
    have hi3 : (i : Int) < 3 := by omega
    have hi0 : (0 : Int) ≤ i := by omega
    have hnok := hok' n (List.mem_of_getElem? hni)
    by_cases hl : ls.length ≤ i
    · have hl' : (ls.length : Int) ≤ i := by omega
      have hie : i = ls.length := by omega
      simp only [go_sem, eq_true hi3, eq_true hi0, hlt, hav, List.size_toArray, eq_true hl']
      refine vcode_sound _ ?_
      simp only [go_sem]
      refine fin hie _ _ _ ?_
      rintro r τ ⟨rfl, rfl⟩
      simp only [go_sem, bytes_app, List.size_toArray]
      exact ⟨by omega, retOK_app hw (by simp only [go_sem]) ⟨rfl, rfl⟩⟩
    · have hl' : ¬ (ls.length : Int) ≤ i := by omega
      have hl2 : i < ls.length := by omega
      have done : ∀ w : Bytes, w = opT (ls[i]?.getD 0) n → ∀ j : Heap, (i ≤ (List.take i (List.map sv (opsT ls ns))).length ∧ (i + 1 + 1) * 16 ≤ 140737488355328 ∧ i ≤ 4611686018427387902) ∧
          ∃ y : Nat × Nat, 3 - y.fst < 3 - i ∧ (y.fst ≤ 3 ∧ y.fst ≤ ls.length) ∧ (AV.os (List.length σ + 2) (g + 1) 0 (i + 1 + 1) = AV.os (List.length σ + 2) y.snd 0 (y.fst + 1) ∧ IntKind.i64.wrap ((i : Int) + 1) = (y.fst : Int)) ∧
            List.take (List.length σ + 3) (σ ++ (.row 0 4 [.agg [iv k, iv a, iv b, iv c]] :: .row 0 2 [.agg [sv nm, sv ls]] :: .row (g + 1) 1 (sv nm :: (List.take i (List.take i (List.map sv (opsT ls ns))) ++ [sv w])) :: j)) =
              σ ++ [.row 0 4 [.agg [iv k, iv a, iv b, iv c]], .row 0 2 [.agg [sv nm, sv ls]], .row y.snd 1 (sv nm :: List.take y.fst (List.map sv (opsT ls ns)))] ∧
            (List.length σ + 1 < List.length σ + 3 ∧ List.length σ + 2 < List.length σ + 3) ∧
            WfH (List.length σ + 3) (σ ++ [.row 0 4 [.agg [iv k, iv a, iv b, iv c]], .row 0 2 [.agg [sv nm, sv ls]], .row y.snd 1 (sv nm :: List.take y.fst (List.map sv (opsT ls ns)))]) := by
        rintro _ rfl j
        have e : List.take (i + 1) (List.map sv (opsT ls ns)) = List.take i (List.take i (List.map sv (opsT ls ns))) ++ [sv (opT (ls[i]?.getD 0) n)] := by
          rw [List.take_take, Nat.min_self, ← List.map_take, ← List.map_take, opsT_take ls ns i n hl2 hni, List.map_append]; rfl
        refine ⟨⟨by omega, by omega, by omega⟩, (i + 1, g + 1), by simp only; omega, ⟨by simp only; omega, by simp only; omega⟩, ⟨rfl, inc i (by omega)⟩, ?_, ⟨by omega, by omega⟩, ?_⟩
        · rw [take_app3]; simp only [e]
        · have := hwk (g + 1) (nm :: (opsT ls ns).take (i + 1))
          simpa using this
      simp only [go_sem, eq_true hi3, eq_true hi0, hlt, hav, List.size_toArray, hl', eq_true hl2]
      refine callN_of (wformat_c n _ (okN_64 hnok)) ?_
      rintro r τ ⟨rfl, rfl⟩
      have hit := itoa_okN hnok
      by_cases h114 : (ls[i]?.getD 0).toNat = 114
      · have h114' : ((ls[i]?.getD 0).toNat : Int) = 114 := by omega
        have e : opT (ls[i]?.getD 0) n = [114] ++ Lib.itoa n := by rw [opT, if_pos h114]; rfl
        have e2 : ∀ s : Bytes, ({ data := #[114] } : ByteArray) ++ { data := s.toArray } = ⟨([114] ++ s).toArray⟩ := fun s => bytes_app [114] s
        simp only [go_sem, eq_true h114', hl2, List.size_toArray, e2]
        exact ⟨by omega, done _ e.symm _⟩
      · have h114' : ¬ ((ls[i]?.getD 0).toNat : Int) = 114 := by omega
        have e : opT (ls[i]?.getD 0) n = Lib.itoa n := by rw [opT, if_neg h114]
        simp only [go_sem, h114', hl2, List.size_toArray]
        exact done _ e.symm _
  · have hi3 : ¬ (i : Int) < 3 := by omega
    have hie : i = ls.length := by omega
    simp only [go_sem, hi3]
    refine vcode_sound _ ?_
    simp only [go_sem]
    refine fin hie _ _ _ ?_
    rintro r τ ⟨rfl, rfl⟩
    simp only [go_sem, bytes_app, List.size_toArray]
    exact ⟨by omega, retOK_app hw (by simp only [go_sem]) ⟨rfl, rfl⟩⟩

def numA (w : Bytes) : Int × Bool := ((numS w).1, decide ((numS w).2 = 0))
def operandA (l : Nat) (w : Bytes) : Int × Bool := if l ≠ 114 then numA w else if w.length = 2 ∧ w[0]? = some 114 then numA (w.drop 1) else (0, false)
theorem numA_O (w : Bytes) : numO w = if (numA w).2 = true then some (numA w).1 else none := by
  unfold numO numA
  simp only [decide_eq_true_eq]
theorem operandA_O (l : Nat) (w : Bytes) : operandO l w = if (operandA l w).2 = true then some (operandA l w).1 else none := by
  unfold operandO operandA
  split
  · exact numA_O w
  · split
    · exact numA_O _
    · rfl
theorem numberC_c (w : Bytes) (σ : Heap) (hw0 : w.length ≤ 281474976710656) : ACalls Tryz.prog 58 [sv w] σ (fun r σ' => r = .tup [iv (numA w).1, bv (numA w).2] ∧ σ' = σ) := by
  refine acalls_go Tryz.func58 rfl Tryz.call58 Tryz.ntmps58 Tryz.results58 (Nat.le_of_ble_eq_true rfl) fun hw => ?_
  simp only [go_sem]
  refine callN_of (number_c w _ hw0) ?_
  rintro r τ ⟨rfl, rfl⟩
  simp only [go_sem]
  exact retOK_same hw (by simp only [go_sem]) ⟨rfl, rfl⟩
theorem operand_c (l : UInt8) (w : Bytes) (σ : Heap) (hw0 : w.length ≤ 281474976710656) : ACalls Tryz.prog 73 [.v (.int .u8 l.toNat), sv w] σ (fun r σ' => r = .tup [iv (operandA l.toNat w).1, bv (operandA l.toNat w).2] ∧ σ' = σ) := by
  refine acalls_go Tryz.func73 rfl Tryz.call73 Tryz.ntmps73 Tryz.results73 (Nat.le_of_ble_eq_true rfl) fun hw => ?_
  unfold operandA
  by_cases h1 : l.toNat = 114
  · have h1' : (l.toNat : Int) = 114 := by omega
    rw [if_neg (by omega)]
    by_cases h2 : w.length = 2
    · have h2' : (w.length : Int) = 2 := by omega
      have h2b : (0 : Nat) < w.length := by omega
      obtain ⟨c, hc⟩ : ∃ c, w[0]? = some c := ⟨_, List.getElem?_eq_getElem h2b⟩
      by_cases h3 : c.toNat = 114
      · have h3' : (c.toNat : Int) = 114 := by omega
        have hc' : c = 114 := UInt8.toNat_inj.1 h3
        rw [if_pos ⟨h2, by rw [hc, hc']⟩]
        simp only [go_sem, eq_true h1', eq_true h2', List.size_toArray, hc, eq_true h3', show Int.toNat 1 = 1 from rfl, tail_sv' w h2b]
        refine ⟨h2b, by omega, callN_of (numberC_c (w.drop 1) _ (by rw [List.length_drop]; omega)) ?_⟩
        rintro r τ ⟨rfl, rfl⟩
        simp only [go_sem]
        exact retOK_same hw (by simp only [go_sem]) ⟨rfl, rfl⟩
      · have h3' : ¬ (c.toNat : Int) = 114 := by omega
        rw [if_neg (by rintro ⟨_, h⟩; rw [hc] at h; cases h; exact h3 rfl)]
        simp only [go_sem, eq_true h1', eq_true h2', List.size_toArray, hc, h3']
        exact ⟨h2b, retOK_same hw (by simp only [go_sem]) ⟨rfl, rfl⟩⟩
    · have h2' : ¬ (w.length : Int) = 2 := by omega
      rw [if_neg (fun h => h2 h.1)]
      simp only [go_sem, eq_true h1', h2', List.size_toArray]
      exact retOK_same hw (by simp only [go_sem]) ⟨rfl, rfl⟩
  · have h1' : ¬ (l.toNat : Int) = 114 := by omega
    rw [if_pos h1]
    simp only [go_sem, h1']
    refine callN_of (numberC_c w _ hw0) ?_
    rintro r τ ⟨rfl, rfl⟩
    simp only [go_sem]
    exact retOK_same hw (by simp only [go_sem]) ⟨rfl, rfl⟩
end Go.Proofs.YtdlekkhjkcbbnaaGreatDoor
