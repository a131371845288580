/-
  Contracts: code.fits, code.right, code.Check, and what they call of slices.
  Contracts: form, number, right, Check of the reference.
-/
import Derived.Test.YtdlekkhjkcbbnaaGreatDoorCoS
set_option linter.unusedVariables false
set_option linter.unusedSimpArgs false
set_option maxRecDepth 8000
set_option maxHeartbeats 2000000
namespace Go.Proofs.YtdlekkhjkcbbnaaGreatDoor
open Go.Ab Go.Id Go.Wo Go

def formsC : List AV := formsV.map .v
@[go_sem] theorem av_forms : GlobFacts.av 0 = some (.rp (.agg formsC)) := rfl
@[go_sem] theorem formsC_len : formsC.length = 26 := by kernel_rfl
theorem formsC_at (k : Nat) (h : k < 13) : (formsC.drop (k * 2)).take 2 = [sv (nameS k), sv (letsS k)] := by
  rcases (show k = 0 ∨ k = 1 ∨ k = 2 ∨ k = 3 ∨ k = 4 ∨ k = 5 ∨ k = 6 ∨ k = 7 ∨ k = 8 ∨ k = 9 ∨ k = 10 ∨ k = 11 ∨ k = 12 by omega) with rfl | rfl | rfl | rfl | rfl | rfl | rfl | rfl | rfl | rfl | rfl | rfl | rfl <;> kernel_rfl
theorem letsS_len (k : Nat) : (letsS k).length ≤ 3 := by
  unfold letsS
  by_cases h : k < 13
  · match k, h with
    | 0, _ | 1, _ | 2, _ | 3, _ | 4, _ | 5, _ | 6, _ | 7, _ | 8, _ | 9, _ | 10, _ | 11, _ | 12, _ => decide
  · rw [List.getElem?_eq_none (by show 13 ≤ k; omega)]; decide

theorem fits_c (l : UInt8) (n len : Int) (σ : Heap) : ACalls Tryz.prog 48 [.v (.int .u8 l.toNat), iv n, iv len] σ (fun r σ' => r = bv (fitsS l.toNat n len) ∧ σ' = σ) := by
  refine acalls_go Tryz.func48 rfl Tryz.call48 Tryz.ntmps48 Tryz.results48 (Nat.le_of_ble_eq_true rfl) fun hw => ?_
  unfold fitsS
  by_cases h1 : (l.toNat : Int) = 114
  · rw [if_pos (by omega)]
    simp only [go_sem, h1]
    exact retOK_same hw trivial ⟨rfl, rfl⟩
  · rw [if_neg (by omega)]
    by_cases h2 : (l.toNat : Int) = 110
    · rw [if_pos (by omega)]
      simp only [go_sem, h1, h2]
      exact retOK_same hw trivial ⟨rfl, rfl⟩
    · rw [if_neg (by omega)]
      by_cases h3 : (l.toNat : Int) = 116
      · rw [if_pos (by omega)]
        simp only [go_sem, h1, h2, h3]
        exact retOK_same hw trivial ⟨rfl, rfl⟩
      · rw [if_neg (by omega)]
        by_cases h4 : (l.toNat : Int) = 111
        · rw [if_pos (by omega)]
          simp only [go_sem, h1, h2, h3, h4]
          exact retOK_same hw trivial ⟨rfl, rfl⟩
        · rw [if_neg (by omega)]
          simp only [go_sem, h1, h2, h3, h4]
          exact retOK_same hw trivial ⟨rfl, rfl⟩

theorem opsOK_step (len : Int) (ls : Bytes) (ns : List Int) (k : Nat) (n : Int) (h : ns[k]? = some n) :
    opsOK len (ls.drop k) (ns.drop k) = ((if ls.length ≤ k then decide (n = 0) else fitsS (ls[k]?.getD 0).toNat n len) && opsOK len (ls.drop (k + 1)) (ns.drop (k + 1))) := by
  have hk := (List.getElem?_eq_some_iff.1 h).1
  have e1 : ns.drop k = n :: ns.drop (k + 1) := by rw [List.drop_eq_getElem_cons hk]; congr 1; exact (List.getElem?_eq_some_iff.1 h).2
  rw [e1]
  by_cases hl : ls.length ≤ k
  · rw [if_pos hl, List.drop_of_length_le hl, List.drop_of_length_le (l := ls) (i := k + 1) (by omega)]
    rfl
  · rw [if_neg hl, List.drop_eq_getElem_cons (by omega), List.getElem?_eq_getElem (by omega)]
    rfl

theorem right_c (x : Ins) (len : Int) (σ : Heap) : ACalls Tryz.prog 22 [x.av, iv len] σ (fun r σ' => r = bv (rightS x len) ∧ σ' = σ) := by
  obtain ⟨op, a, b, c⟩ := x
  refine acalls_awp Tryz.func22 rfl Tryz.call22 Tryz.ntmps22 Tryz.results22 (Nat.le_of_ble_eq_true rfl) fun hw => ?_
  unfold rightS
  refine awp_then ?_
  simp only [go_sem, Ins.av]
  refine awp_then ?_
  by_cases h1 : op < 0
  · simp only [go_sem, eq_true h1]
    exact retOK_app hw trivial ⟨by rw [decide_eq_false (by omega)]; rfl, rfl⟩
  · by_cases h2 : 13 ≤ op
    · simp only [go_sem, h1, eq_true h2]
      exact retOK_app hw trivial ⟨by rw [decide_eq_false (p := op < 13) (by omega), Bool.and_false]; rfl, rfl⟩
    · simp only [go_sem, h1, h2]
      obtain ⟨k, rfl⟩ : ∃ k : Nat, op = k := ⟨op.toNat, by omega⟩
      have hk : k < 13 := by omega
      have hk' : (k : Int) < 13 := by omega
      have hk0 : (0 : Int) ≤ k := by omega
      have hk2 : k * 2 + 2 ≤ 26 := by omega
      refine awp_then ?_
      simp only [go_sem, eq_true hk', eq_true hk0, eq_true hk2, Int.toNat_natCast, formsC_at k hk]
      refine ⟨hk, ?_⟩
      refine awp_then ?_
      simp only [go_sem]
      have hll := letsS_len k
      obtain ⟨ls, hls⟩ : ∃ ls, letsS k = ls := ⟨_, rfl⟩
      obtain ⟨nm, hnm⟩ : ∃ nm, nameS k = nm := ⟨_, rfl⟩
      rw [hls] at hll ⊢
      rw [hnm]
      obtain ⟨ns, hns⟩ : ∃ ns, Ins.nums ⟨k, a, b, c⟩ = ns := ⟨_, rfl⟩
      rw [hns]
      have hnl : ns.length = 3 := by rw [← hns]; rfl
      have hnsv : [iv a, iv b, iv c] = ns.map iv := by rw [← hns]; rfl
      have fin0 : opsOK len (ls.drop 3) (ns.drop 3) = true := by rw [List.drop_of_length_le (l := ls) (by omega), List.drop_of_length_le (l := ns) (by omega)]; rfl
      refine loop_go (X := Nat) (fun i => [(1, ⟨true, iv len⟩), (5, ⟨true, .ptr (σ.length + 1) 0 0 0⟩), (26, ⟨true, .agg [iv a, iv b, iv c]⟩), (27, ⟨true, iv i⟩)]) (fun _ => σ ++ [.row 0 4 [.agg [iv k, iv a, iv b, iv c]], .row 0 2 [.agg [sv nm, sv ls]]])
        (fun i => i ≤ 3 ∧ opsOK len ls ns = opsOK len (ls.drop i) (ns.drop i)) (fun i => 3 - i) 0 (by simp) (by simp only [go_sem]; simp) (by simp) ?_
      rintro i ⟨hi, hn⟩
      by_cases hlt : i < 3
      · obtain ⟨n, hni⟩ : ∃ n, ns[i]? = some n := ⟨_, List.getElem?_eq_getElem (by omega)⟩
        have hav : [iv a, iv b, iv c][i]? = some (iv n) := by rw [hnsv, List.getElem?_map, hni]; rfl
        rw [opsOK_step len ls ns i n hni] at hn
        have hi3 : (i : Int) < 3 := by omega
        have hi0 : (0 : Int) ≤ i := by omega
        by_cases hl : ls.length ≤ i
        · have hl' : (ls.length : Int) ≤ i := by omega
          have hl2 : ¬ i < ls.length := by omega
          rw [if_pos hl] at hn
          by_cases h0 : n = 0
          · subst h0
            simp only [go_sem, eq_true hi3, eq_true hi0, hlt, hav, List.size_toArray, eq_true hl', hl2]
            refine callG_of (bv true) (fun h => by cases h) ?_
            simp only [go_sem]
            exact ⟨i + 1, by omega, ⟨by omega, by rw [hn]; simp⟩, inc i (by omega)⟩
          · simp only [go_sem, eq_true hi3, eq_true hi0, hlt, hav, List.size_toArray, eq_true hl', h0]
            refine callG_of (bv true) (fun h => by cases h) ?_
            simp only [go_sem]
            exact retOK_app hw trivial ⟨by rw [hn]; simp [h0], rfl⟩
        · have hl' : ¬ (ls.length : Int) ≤ i := by omega
          have hl2 : i < ls.length := by omega
          rw [if_neg hl] at hn
          simp only [go_sem, eq_true hi3, eq_true hi0, hlt, hav, List.size_toArray, hl', eq_true hl2]
          refine callG_of (bv (fitsS (ls[i]?.getD 0).toNat n len)) (fun _ => fits_c _ _ _ _) ?_
          cases hf : fitsS (ls[i]?.getD 0).toNat n len with
          | true =>
            simp only [go_sem]
            exact ⟨i + 1, by omega, ⟨by omega, by rw [hn, hf]; simp⟩, inc i (by omega)⟩
          | false =>
            simp only [go_sem]
            exact retOK_app hw trivial ⟨by rw [hn, hf]; simp, rfl⟩
      · obtain rfl : i = 3 := by omega
        have hi3 : ¬ ((3 : Nat) : Int) < 3 := by omega
        simp only [go_sem, hi3]
        refine vcode_sound _ ?_
        simp only [go_sem]
        exact retOK_app hw trivial ⟨by rw [hn, fin0], rfl⟩

theorem long_c (s : Bytes) (σ : Heap) : ACalls Tryz.prog 20 [sv s] σ (fun r σ' => r = bv (decide (128 < s.length)) ∧ σ' = σ) := by
  refine acalls_go Tryz.func20 rfl Tryz.call20 Tryz.ntmps20 Tryz.results20 (Nat.le_of_ble_eq_true rfl) fun hw => ?_
  simp only [go_sem, List.size_toArray]
  refine retOK_same hw trivial ⟨?_, rfl⟩
  congr 3
  apply propext; omega

/-- the first place at which it holds, or -1 -/
def ixI {α : Type} (p : α → Bool) (l : List α) : Int := match l.findIdx? p with
  | some i => i
  | none => -1
theorem ixI_hit {α : Type} {p : α → Bool} {l : List α} {k : Nat} {x : α} (h0 : (l.take k).any p = false) (hx : l[k]? = some x) (hp : p x = true) : ixI p l = k := by
  have hk := (List.getElem?_eq_some_iff.1 hx).1
  have : l.findIdx? p = some k := by
    rw [List.findIdx?_eq_some_iff_getElem]
    refine ⟨hk, by rw [(List.getElem?_eq_some_iff.1 hx).2]; exact hp, fun j hj => ?_⟩
    have := List.any_eq_false.1 h0 (l[j]'(by omega)) (by rw [List.mem_take_iff_getElem]; exact ⟨j, by omega, rfl⟩)
    simpa using this
  rw [ixI, this]
theorem ixI_none {α : Type} {p : α → Bool} {l : List α} (h0 : l.any p = false) : ixI p l = -1 := by
  have : l.findIdx? p = none := by
    rw [List.findIdx?_eq_none_iff]
    intro x hx
    have := List.any_eq_false.1 h0 x hx
    simpa using this
  rw [ixI, this]
theorem any_take_succ {α : Type} {p : α → Bool} {l : List α} {k : Nat} {x : α} (h0 : (l.take k).any p = false) (hx : l[k]? = some x) (hp : p x = false) : (l.take (k + 1)).any p = false := by
  rw [List.take_add_one, hx, List.any_append, h0]; simp [hp]

theorem indexStr_c (l : List Bytes) (σ : Heap) (hl : l.length < 2^62) :
    ACalls Tryz.prog 47 [strsB l, .fn (.func 20) [] []] σ (fun r σ' => r = iv (ixI (fun s => decide (128 < s.length)) l) ∧ σ' = σ) := by
  refine acalls_go Tryz.func47 rfl Tryz.call47 Tryz.ntmps47 Tryz.results47 (Nat.le_of_ble_eq_true rfl) fun hw => ?_
  simp only [go_sem, strsB]
  refine loop_go (X := Nat) (fun k => [(0, ⟨true, strsB l⟩), (1, ⟨true, .fn (.func 20) [] []⟩), (7, ⟨true, iv l.length⟩), (8, ⟨true, iv k⟩)]) (fun _ => σ) (fun k => k ≤ l.length ∧ (l.take k).any (fun s => decide (128 < s.length)) = false) (fun k => l.length - k) 0 (by simp) (by simp only [go_sem, strsB]; simp) rfl ?_
  rintro k ⟨hk, hn⟩
  by_cases hlt : k < l.length
  · have hg := List.getElem?_eq_getElem hlt
    obtain ⟨s, hs⟩ : ∃ s, l[k] = s := ⟨_, rfl⟩
    rw [hs] at hg
    simp only [go_sem, strsB, hlt, hg]
    refine callN_of (long_c s _) ?_
    rintro r τ ⟨rfl, rfl⟩
    by_cases hp : 128 < s.length
    · simp only [go_sem, eq_true hp]
      exact retOK_same hw trivial ⟨by rw [ixI_hit hn hg (by simpa using hp)], rfl⟩
    · simp only [go_sem, hp]
      exact ⟨k + 1, by omega, ⟨by omega, any_take_succ hn hg (by simpa using hp)⟩, inc k (by omega)⟩
  · simp only [go_sem, strsB, hlt]
    exact retOK_same hw trivial ⟨by rw [ixI_none]; rw [List.take_of_length_le (by omega)] at hn; exact hn, rfl⟩

theorem containsStr_c (l : List Bytes) (σ : Heap) (hl : l.length < 2^62) :
    ACalls Tryz.prog 21 [strsB l, .fn (.func 20) [] []] σ (fun r σ' => r = bv (l.any fun s => decide (128 < s.length)) ∧ σ' = σ) := by
  refine acalls_go Tryz.func21 rfl Tryz.call21 Tryz.ntmps21 Tryz.results21 (Nat.le_of_ble_eq_true rfl) fun hw => ?_
  simp only [go_sem]
  refine callN_of (indexStr_c l _ hl) ?_
  rintro r τ ⟨rfl, rfl⟩
  simp only [go_sem]
  refine retOK_same hw trivial ⟨?_, rfl⟩
  congr 2
  cases ha : l.any (fun s => decide (128 < s.length)) with
  | false => rw [ixI_none ha]; rfl
  | true =>
    unfold ixI
    cases hf : l.findIdx? (fun s => decide (128 < s.length)) with
    | some i => simp
    | none =>
      rw [List.findIdx?_eq_none_iff] at hf
      rw [List.any_eq_true] at ha
      obtain ⟨x, hx, hp⟩ := ha
      have := hf x hx
      rw [hp] at this; cases this

theorem badS_step (len : Int) (l : List Ins) (k : Nat) (x : Ins) (h : l[k]? = some x) : badS len k (l.drop k) = if rightS x len = true then badS len (k + 1) (l.drop (k + 1)) else some k := by
  have hk := (List.getElem?_eq_some_iff.1 h).1
  rw [List.drop_eq_getElem_cons hk, (List.getElem?_eq_some_iff.1 h).2]
  rfl

theorem check_c (p : Prg) (σ : Heap) (hc : p.code.length < 2^62) (hs : p.strs.length < 2^62) : ACalls Tryz.prog 8 [p.av] σ (fun r σ' => r = .tup [iv (checkS p).1, iv (checkS p).2] ∧ σ' = σ) := by
  obtain ⟨code, strs, pages⟩ := p
  simp only at hc hs
  refine acalls_awp Tryz.func8 rfl Tryz.call8 Tryz.ntmps8 Tryz.results8 (Nat.le_of_ble_eq_true rfl) fun hw => ?_
  generalize hres : checkS ⟨code, strs, pages⟩ = res
  unfold checkS at hres
  simp only at hres
  refine awp_then ?_
  simp only [go_sem, Prg.av, codeAV, strsB]
  refine awp_then ?_
  simp only [go_sem]
  refine awp_then ?_
  by_cases h1 : (256 : Int) < code.length
  · rw [if_pos (.inl (by omega))] at hres
    subst hres
    simp only [go_sem, eq_true h1]
    refine callG_of (bv true) (fun h => by cases h) ?_
    simp only [go_sem]
    exact retOK_app hw (by simp only [go_sem]) ⟨rfl, rfl⟩
  · by_cases h2 : (32 : Int) < strs.length
    · rw [if_pos (.inr (.inl (by omega)))] at hres
      subst hres
      simp only [go_sem, h1, eq_true h2]
      refine callG_of (bv true) (fun h => by cases h) ?_
      simp only [go_sem]
      exact retOK_app hw (by simp only [go_sem]) ⟨rfl, rfl⟩
    · simp only [go_sem, h1, h2]
      refine callG_of (bv (strs.any fun s => decide (128 < s.length))) (fun _ => containsStr_c strs _ hs) ?_
      cases h3 : (strs.any fun s => decide (128 < s.length)) with
      | true =>
        rw [if_pos (.inr (.inr h3))] at hres
        subst hres
        simp only [go_sem]
        exact retOK_app hw (by simp only [go_sem]) ⟨rfl, rfl⟩
      | false =>
        rw [if_neg (by rw [h3]; rintro (h | h | h) <;> first | omega | cases h)] at hres
        by_cases h4 : pages < 0
        · rw [if_pos (.inl h4)] at hres
          subst hres
          simp only [go_sem, eq_true h4]
          exact retOK_app hw (by simp only [go_sem]) ⟨rfl, rfl⟩
        · by_cases h5 : 16 < pages
          · rw [if_pos (.inr h5)] at hres
            subst hres
            simp only [go_sem, h4, eq_true h5]
            exact retOK_app hw (by simp only [go_sem]) ⟨rfl, rfl⟩
          · rw [if_neg (by omega)] at hres
            simp only [go_sem, h4, h5]
            refine awp_then ?_
            simp only [go_sem]
            refine loop_junk (X := Nat) (fun k => [(1, ⟨true, .ptr σ.length 0 0 0⟩), (34, ⟨true, codeAV code⟩), (35, ⟨true, iv code.length⟩), (36, ⟨true, iv k⟩)]) (fun _ => σ ++ [.row 0 3 [.agg [codeAV code, strsB strs, iv pages]]])
              (fun k => k ≤ code.length ∧ badS code.length 0 code = badS code.length k (code.drop k)) (fun k => code.length - k) 0 (by simp) (by simp only [go_sem, codeAV]; simp) (by simp [codeAV, strsB]) ?_
            rintro k ⟨hk, hn⟩
            by_cases hlt : k < code.length
            · have hg := List.getElem?_eq_getElem hlt
              obtain ⟨⟨xo, xa, xb, xc⟩, hx⟩ : ∃ x, code[k] = x := ⟨_, rfl⟩
              rw [hx] at hg
              rw [badS_step _ _ _ _ hg] at hn
              simp only [go_sem, codeAV, hlt, hg, insAV, strsB]
              refine callN_of (right_c ⟨xo, xa, xb, xc⟩ code.length _) ?_
              rintro r τ ⟨rfl, rfl⟩
              cases hr : rightS ⟨xo, xa, xb, xc⟩ code.length with
              | true =>
                rw [hr, if_pos rfl] at hn
                simp only [go_sem, codeAV]
                refine ⟨k + 1, by omega, ⟨by omega, hn⟩, inc k (by omega), take_app1, by omega, wfH_row1 hw ⟨⟨pure_codeL _, pure_strL _, trivial, trivial⟩, trivial⟩⟩
              | false =>
                rw [hr, if_neg (by simp)] at hn
                rw [hn] at hres
                subst hres
                simp only [go_sem]
                exact retOK_app hw (by simp only [go_sem]) ⟨rfl, rfl⟩
            · obtain rfl : k = code.length := by omega
              rw [List.drop_length] at hn
              rw [hn] at hres
              subst hres
              simp only [go_sem, hlt]
              refine vcode_sound _ ?_
              simp only [go_sem]
              exact retOK_app hw (by simp only [go_sem]) ⟨rfl, rfl⟩
end Go.Proofs.YtdlekkhjkcbbnaaGreatDoor
set_option linter.unusedVariables false
set_option linter.unusedSimpArgs false
set_option maxRecDepth 8000
set_option maxHeartbeats 2000000
namespace Go.Proofs.YtdlekkhjkcbbnaaGreatDoor
open Go.Ab Go.Id Go.Wo Go

/-- the reference's letters -/
def rletsB : List Bytes := [[], [114, 110], [114, 114], [114, 114, 114], [114, 114, 114], [114, 114, 114], [114, 114, 114], [114, 114, 114], [116], [114, 116], [114, 114, 110], [114, 114, 110], [110]]
def rletsS (k : Nat) : Bytes := rletsB[k]?.getD []
def rnumS (op n : Int) : Bool := if op = 1 then decide (-9007199254740992 ≤ n) && decide (n ≤ 9007199254740992) else if op = 12 then decide (1 ≤ n) && decide (n ≤ 24) else decide (0 ≤ n) && decide (n ≤ 256)
def nameI (op : Int) : Bytes := if op < 0 ∨ 13 ≤ op then [] else nameS op.toNat
def rletsI (op : Int) : Bytes := if op < 0 ∨ 13 ≤ op then [] else rletsS op.toNat

theorem rnum_c (op n : Int) (σ : Heap) : ACalls Tryz.prog 49 [iv op, iv n] σ (fun r σ' => r = bv (rnumS op n) ∧ σ' = σ) := by
  refine acalls_go Tryz.func49 rfl Tryz.call49 Tryz.ntmps49 Tryz.results49 (Nat.le_of_ble_eq_true rfl) fun hw => ?_
  unfold rnumS
  by_cases h1 : op = 1
  · rw [if_pos h1]; subst h1
    simp only [go_sem]
    exact retOK_same hw trivial ⟨rfl, rfl⟩
  · rw [if_neg h1]
    by_cases h2 : op = 12
    · rw [if_pos h2]; subst h2
      simp only [go_sem]
      exact retOK_same hw trivial ⟨rfl, rfl⟩
    · rw [if_neg h2]
      simp only [go_sem, h1, h2]
      exact retOK_same hw trivial ⟨rfl, rfl⟩

theorem form_c (op : Int) (σ : Heap) : ACalls Tryz.prog 31 [iv op] σ (fun r σ' => r = .tup [sv (nameI op), sv (rletsI op)] ∧ σ' = σ) := by
  refine acalls_awp Tryz.func31 rfl Tryz.call31 Tryz.ntmps31 Tryz.results31 (Nat.le_of_ble_eq_true rfl) fun hw => ?_
  refine awp_then ?_
  simp only [go_sem]
  refine awp_then ?_
  simp only [go_sem]
  refine awp_then ?_
  simp only [go_sem]
  unfold nameI rletsI
  by_cases h1 : op < 0
  · rw [if_pos (.inl h1), if_pos (.inl h1)]
    refine awp_then ?_
    simp only [go_sem, eq_true h1, Int.reduceToNat]
    exact retOK_app hw (by simp only [go_sem]) ⟨rfl, rfl⟩
  · by_cases h2 : 13 ≤ op
    · rw [if_pos (.inr h2), if_pos (.inr h2)]
      refine awp_then ?_
      simp only [go_sem, h1, Int.cast_ofNat_Int, eq_true h2]
      exact retOK_app hw (by simp only [go_sem]) ⟨rfl, rfl⟩
    · rw [if_neg (by omega), if_neg (by omega)]
      refine awp_then ?_
      simp only [go_sem, h1, Int.cast_ofNat_Int, h2]
      rcases (show op = 0 ∨ op = 1 ∨ op = 2 ∨ op = 3 ∨ op = 4 ∨ op = 5 ∨ op = 6 ∨ op = 7 ∨ op = 8 ∨ op = 9 ∨ op = 10 ∨ op = 11 ∨ op = 12 by omega) with rfl | rfl | rfl | rfl | rfl | rfl | rfl | rfl | rfl | rfl | rfl | rfl | rfl
      all_goals
        refine vcode_sound _ ?_
        simp only [go_sem]
        refine awp_draw Tryz.mixed (by kernel_rfl) ?_
        simp only [go_sem, Int.cast_ofNat_Int, Int.reduceToNat, Int.reduceLE, Int.reduceLT, Nat.reduceAdd, Nat.reduceLT]
        exact retOK_app hw (by simp only [go_sem]) ⟨rfl, rfl⟩

theorem rlets_len (k : Nat) : (rletsS k).length = (letsS k).length := by
  unfold rletsS letsS
  by_cases h : k < 13
  · match k, h with
    | 0, _ | 1, _ | 2, _ | 3, _ | 4, _ | 5, _ | 6, _ | 7, _ | 8, _ | 9, _ | 10, _ | 11, _ | 12, _ => decide
  · rw [List.getElem?_eq_none (by show 13 ≤ k; omega), List.getElem?_eq_none (by show 13 ≤ k; omega)]; decide
theorem rlets_three {k i : Nat} (h : k < 13) (hi : i < (letsS k).length) : (rletsS k)[i]?.getD 0 = 114 ∨ (rletsS k)[i]?.getD 0 = 116 ∨ (rletsS k)[i]?.getD 0 = 110 := by
  have := letsS_len k
  have h3 : i < 3 := by omega
  revert hi; revert i; revert k
  have : ∀ k < 13, ∀ i < 3, i < (letsS k).length → ((rletsS k)[i]?.getD 0 = 114 ∨ (rletsS k)[i]?.getD 0 = 116 ∨ (rletsS k)[i]?.getD 0 = 110) := by decide
  intro k hk _ i h3 hi
  exact this k hk i h3 hi
def rfitsS (op : Int) (l : Nat) (n len : Int) : Bool := if l = 114 then decide (0 ≤ n) && decide (n < 8) else if l = 116 then decide (0 ≤ n) && decide (n ≤ len) else rnumS op n
def keyB (k i : Nat) : Bool :=
  let l := ((letsS k)[i]?.getD 0).toNat
  let r := ((rletsS k)[i]?.getD 0).toNat
  (decide (l = 114) && decide (r = 114)) || (decide (l = 116) && decide (r = 116)) || (decide (r = 110) && decide (l = 110) && decide (k = 1)) || (decide (r = 110) && decide (l = 99) && decide (k = 12)) || (decide (r = 110) && decide (l = 111) && !decide (k = 1) && !decide (k = 12))
theorem keyB_all : ∀ k < 13, ∀ i < 3, i < (letsS k).length → keyB k i = true := by decide
theorem rfits_eq {k i : Nat} (h : k < 13) (hi : i < (letsS k).length) (n len : Int) : fitsS ((letsS k)[i]?.getD 0).toNat n len = rfitsS k ((rletsS k)[i]?.getD 0).toNat n len := by
  have := letsS_len k
  have h3 : i < 3 := by omega
  have key := keyB_all k h i h3 hi
  unfold keyB at key
  simp only [Bool.or_eq_true, Bool.and_eq_true, decide_eq_true_eq, Bool.not_eq_true', decide_eq_false_iff_not] at key
  unfold fitsS rfitsS rnumS
  rcases key with (((⟨e1, e2⟩ | ⟨e1, e2⟩) | ⟨⟨e2, e1⟩, e3⟩) | ⟨⟨e2, e1⟩, e3⟩) | ⟨⟨⟨e2, e1⟩, e3⟩, e4⟩
  · simp [e1, e2]
  · simp [e1, e2]
  · subst e3; simp [e1, e2]
  · subst e3; simp [e1, e2]
  · have h5 : ¬ (k : Int) = 1 := by omega
    have h6 : ¬ (k : Int) = 12 := by omega
    simp [e1, e2, h5, h6]

theorem nameS_ne (k : Nat) (h : k < 13) : nameS k ≠ [] := by
  revert k
  have : ∀ k < 13, nameS k ≠ [] := by decide
  exact this

theorem rright_c (x : Ins) (len : Int) (σ : Heap) : ACalls Tryz.prog 23 [x.av, iv len] σ (fun r σ' => r = bv (rightS x len) ∧ σ' = σ) := by
  obtain ⟨op, a, b, c⟩ := x
  refine acalls_awp Tryz.func23 rfl Tryz.call23 Tryz.ntmps23 Tryz.results23 (Nat.le_of_ble_eq_true rfl) fun hw => ?_
  unfold rightS
  refine awp_then ?_
  simp only [go_sem, Ins.av]
  refine awp_then ?_
  simp only [go_sem]
  refine callN_of (form_c op _) ?_
  rintro r τ ⟨rfl, rfl⟩
  unfold nameI rletsI
  by_cases h1 : op < 0
  · rw [if_pos (.inl h1), if_pos (.inl h1)]
    simp only [go_sem]
    refine awp_then ?_
    simp only [go_sem]
    exact retOK_app hw trivial ⟨by rw [decide_eq_false (by omega)]; rfl, rfl⟩
  · by_cases h2 : 13 ≤ op
    · rw [if_pos (.inr h2), if_pos (.inr h2)]
      simp only [go_sem]
      refine awp_then ?_
      simp only [go_sem]
      exact retOK_app hw trivial ⟨by rw [decide_eq_false (p := op < 13) (by omega), Bool.and_false]; rfl, rfl⟩
    · rw [if_neg (by omega), if_neg (by omega)]
      obtain ⟨k, rfl⟩ : ∃ k : Nat, op = k := ⟨op.toNat, by omega⟩
      have hk : k < 13 := by omega
      have hk' : (k : Int) < 13 := by omega
      have hk0 : (0 : Int) ≤ k := by omega
      have hne : ¬ (ByteArray.mk (nameS k).toArray = ⟨#[]⟩) := by
        intro e
        have := congrArg (fun s : ByteArray => s.data.toList) e
        exact nameS_ne k hk (by simpa using this)
      simp only [go_sem, Int.toNat_natCast]
      refine awp_then ?_
      simp only [go_sem, hne]
      refine awp_then ?_
      simp only [go_sem]
      have hll := letsS_len k
      have hrl := rlets_len k
      obtain ⟨rls, hrls⟩ : ∃ rls, rletsS k = rls := ⟨_, rfl⟩
      obtain ⟨nm, hnm⟩ : ∃ nm, nameS k = nm := ⟨_, rfl⟩
      rw [hrls]
      obtain ⟨ls, hls⟩ : ∃ ls, letsS k = ls := ⟨_, rfl⟩
      have three : ∀ i, i < ls.length → (rls[i]?.getD 0 = 114 ∨ rls[i]?.getD 0 = 116 ∨ rls[i]?.getD 0 = 110) := fun i hi => by rw [← hrls]; exact rlets_three hk (by rw [hls]; exact hi)
      have feq : ∀ i, i < ls.length → ∀ n, fitsS (ls[i]?.getD 0).toNat n len = rfitsS k (rls[i]?.getD 0).toNat n len := fun i hi n => by rw [← hrls, ← hls]; exact rfits_eq hk (by rw [hls]; exact hi) n len
      rw [hls] at hll hrl ⊢
      rw [hrls] at hrl
      obtain ⟨ns, hns⟩ : ∃ ns, Ins.nums ⟨k, a, b, c⟩ = ns := ⟨_, rfl⟩
      rw [hns, decide_eq_true hk', Bool.true_and]
      have hnl : ns.length = 3 := by rw [← hns]; rfl
      have hnsv : [iv a, iv b, iv c] = ns.map iv := by rw [← hns]; rfl
      have fin0 : opsOK len (ls.drop 3) (ns.drop 3) = true := by rw [List.drop_of_length_le (l := ls) (by omega), List.drop_of_length_le (l := ns) (by omega)]; rfl
      refine loop_go (X := Nat) (fun i => [(1, ⟨true, iv len⟩), (2, ⟨true, .ptr σ.length 0 0 0⟩), (6, ⟨true, sv rls⟩), (23, ⟨true, .os (σ.length + 1) 0 0 3⟩), (24, ⟨true, iv (3 : Nat)⟩), (25, ⟨true, iv i⟩)]) (fun _ => σ ++ [.row 0 4 [.agg [iv k, iv a, iv b, iv c]], .row 0 1 [iv a, iv b, iv c]])
        (fun i => i ≤ 3 ∧ opsOK len ls ns = opsOK len (ls.drop i) (ns.drop i)) (fun i => 3 - i) 0 (by simp) (by simp only [go_sem]; simp) (by simp) ?_
      rintro i ⟨hi, hn⟩
      by_cases hlt : i < 3
      · obtain ⟨n, hni⟩ : ∃ n, ns[i]? = some n := ⟨_, List.getElem?_eq_getElem (by omega)⟩
        have hav : [iv a, iv b, iv c][i]? = some (iv n) := by rw [hnsv, List.getElem?_map, hni]; rfl
        rw [opsOK_step len ls ns i n hni] at hn
        have hi3 : (i : Int) < 3 := by omega
        have hi0 : (0 : Int) ≤ i := by omega
        by_cases hl : ls.length ≤ i
        · have hl' : (rls.length : Int) ≤ i := by omega
          rw [if_pos hl] at hn
          by_cases h0 : n = 0
          · subst h0
            simp only [go_sem, Int.cast_ofNat_Int, eq_true hi3, eq_true hi0, hlt, hav, List.size_toArray, eq_true hl']
            exact ⟨i + 1, by omega, ⟨by omega, by rw [hn]; simp⟩, inc i (by omega)⟩
          · simp only [go_sem, Int.cast_ofNat_Int, eq_true hi3, eq_true hi0, hlt, hav, List.size_toArray, eq_true hl', h0]
            exact retOK_app hw trivial ⟨by rw [hn]; simp [h0], rfl⟩
        · have hl' : ¬ (rls.length : Int) ≤ i := by omega
          have hl2 : i < rls.length := by omega
          rw [if_neg hl, feq i (by omega)] at hn
          rcases three i (by omega) with he | he | he
          · have e1 : (114 : UInt8).toNat = 114 := rfl
            rw [he, e1] at hn
            unfold rfitsS at hn
            rw [if_pos rfl] at hn
            simp only [go_sem, Int.cast_ofNat_Int, eq_true hi3, eq_true hi0, hlt, hav, List.size_toArray, hl', eq_true hl2, he, e1, Int.reduceEq]
            by_cases hb : n < 0 ∨ 8 ≤ n
            · rw [if_pos hb, if_pos hb]
              refine retOK_app hw trivial ⟨?_, rfl⟩
              rw [hn]
              rcases hb with hb | hb
              · rw [decide_eq_false (p := 0 ≤ n) (by omega)]; rfl
              · rw [decide_eq_false (p := n < 8) (by omega), Bool.and_false]; rfl
            · rw [if_neg hb]
              refine callG_of (bv true) (fun h => by cases h) ?_
              simp only [go_sem]
              exact ⟨i + 1, by omega, ⟨by omega, by rw [hn, decide_eq_true (by omega), decide_eq_true (by omega)]; simp⟩, inc i (by omega)⟩
          · have e1 : (116 : UInt8).toNat = 116 := rfl
            rw [he, e1] at hn
            unfold rfitsS at hn
            rw [if_neg (by decide), if_pos rfl] at hn
            simp only [go_sem, Int.cast_ofNat_Int, eq_true hi3, eq_true hi0, hlt, hav, List.size_toArray, hl', eq_true hl2, he, e1, Int.reduceEq]
            by_cases hb : n < 0 ∨ len < n
            · rw [if_pos hb, if_pos hb]
              refine retOK_app hw trivial ⟨?_, rfl⟩
              rw [hn]
              rcases hb with hb | hb
              · rw [decide_eq_false (p := 0 ≤ n) (by omega)]; rfl
              · rw [decide_eq_false (p := n ≤ len) (by omega), Bool.and_false]; rfl
            · rw [if_neg hb]
              refine callG_of (bv true) (fun h => by cases h) ?_
              simp only [go_sem]
              exact ⟨i + 1, by omega, ⟨by omega, by rw [hn, decide_eq_true (by omega), decide_eq_true (by omega)]; simp⟩, inc i (by omega)⟩
          · have e1 : (110 : UInt8).toNat = 110 := rfl
            rw [he, e1] at hn
            unfold rfitsS at hn
            rw [if_neg (by decide), if_neg (by decide)] at hn
            simp only [go_sem, Int.cast_ofNat_Int, eq_true hi3, eq_true hi0, hlt, hav, List.size_toArray, hl', eq_true hl2, he, e1, Int.reduceEq]
            refine callG_of (bv (rnumS k n)) (fun _ => rnum_c _ _ _) ?_
            cases hf : rnumS k n with
            | true =>
              simp only [go_sem]
              exact ⟨i + 1, by omega, ⟨by omega, by rw [hn, hf]; simp⟩, inc i (by omega)⟩
            | false =>
              simp only [go_sem]
              exact retOK_app hw trivial ⟨by rw [hn, hf]; simp, rfl⟩
      · obtain rfl : i = 3 := by omega
        have hi3 : ¬ ((3 : Nat) : Int) < 3 := by omega
        simp only [go_sem, hi3]
        refine vcode_sound _ ?_
        simp only [go_sem]
        exact retOK_app hw trivial ⟨by rw [hn, fin0], rfl⟩

theorem rcheck_c (p : Prg) (σ : Heap) (hc : p.code.length < 2^62) (hs : p.strs.length < 2^62) : ACalls Tryz.prog 9 [p.av] σ (fun r σ' => r = .tup [iv (checkS p).1, iv (checkS p).2] ∧ σ' = σ) := by
  obtain ⟨code, strs, pages⟩ := p
  simp only at hc hs
  refine acalls_awp Tryz.func9 rfl Tryz.call9 Tryz.ntmps9 Tryz.results9 (Nat.le_of_ble_eq_true rfl) fun hw => ?_
  generalize hres : checkS ⟨code, strs, pages⟩ = res
  unfold checkS at hres
  simp only at hres
  refine awp_then ?_
  simp only [go_sem, Prg.av, codeAV, strsB]
  refine awp_then ?_
  by_cases h1 : (256 : Int) < code.length
  · rw [if_pos (.inl (by omega))] at hres
    subst hres
    simp only [go_sem, eq_true h1]
    exact retOK_app hw (by simp only [go_sem]) ⟨rfl, rfl⟩
  · by_cases h2 : (32 : Int) < strs.length
    · rw [if_pos (.inr (.inl (by omega)))] at hres
      subst hres
      simp only [go_sem, h1, eq_true h2]
      exact retOK_app hw (by simp only [go_sem]) ⟨rfl, rfl⟩
    · simp only [go_sem, h1, h2]
      refine awp_then ?_
      simp only [go_sem]
      refine loop_go (X := Nat) (fun k => [(1, ⟨true, .ptr σ.length 0 0 0⟩), (19, ⟨true, strsB strs⟩), (20, ⟨true, iv strs.length⟩), (21, ⟨true, iv k⟩)]) (fun _ => σ ++ [.row 0 3 [.agg [codeAV code, strsB strs, iv pages]]])
        (fun k => k ≤ strs.length ∧ (strs.take k).any (fun s => decide (128 < s.length)) = false) (fun k => strs.length - k) 0 (by simp) (by simp only [go_sem, strsB]; simp) (by simp [codeAV, strsB]) ?_
      rintro k ⟨hk, hn⟩
      by_cases hlt : k < strs.length
      · have hg := List.getElem?_eq_getElem hlt
        obtain ⟨s, hs'⟩ : ∃ s, strs[k] = s := ⟨_, rfl⟩
        rw [hs'] at hg
        by_cases hp : 128 < s.length
        · have hp' : (128 : Int) < s.length := by omega
          simp only [go_sem, strsB, hlt, hg, List.size_toArray, eq_true hp']
          rw [if_pos (.inr (.inr (List.any_eq_true.2 ⟨s, by rw [← hs']; exact List.getElem_mem hlt, by simpa using hp⟩)))] at hres
          subst hres
          exact retOK_app hw (by simp only [go_sem]) ⟨rfl, rfl⟩
        · have hp' : ¬ (128 : Int) < s.length := by omega
          simp only [go_sem, strsB, hlt, hg, List.size_toArray, hp']
          exact ⟨k + 1, by omega, ⟨by omega, any_take_succ hn hg (by simpa using hp)⟩, inc k (by omega)⟩
      · obtain rfl : k = strs.length := by omega
        rw [List.take_length] at hn
        simp only [go_sem, hlt, codeAV, strsB]
        rw [if_neg (by rw [hn]; rintro (h | h | h) <;> first | omega | cases h)] at hres
        refine awp_then ?_
        by_cases h4 : pages < 0
        · rw [if_pos (.inl h4)] at hres
          subst hres
          simp only [go_sem, eq_true h4]
          exact retOK_app hw (by simp only [go_sem]) ⟨rfl, rfl⟩
        · by_cases h5 : 16 < pages
          · rw [if_pos (.inr h5)] at hres
            subst hres
            simp only [go_sem, h4, eq_true h5]
            exact retOK_app hw (by simp only [go_sem]) ⟨rfl, rfl⟩
          · rw [if_neg (by omega)] at hres
            simp only [go_sem, h4, h5]
            refine awp_then ?_
            simp only [go_sem]
            refine loop_junk (X := Nat) (fun k => [(1, ⟨true, .ptr σ.length 0 0 0⟩), (38, ⟨true, codeAV code⟩), (39, ⟨true, iv code.length⟩), (40, ⟨true, iv k⟩)]) (fun _ => σ ++ [.row 0 3 [.agg [codeAV code, strsB strs, iv pages]]])
              (fun k => k ≤ code.length ∧ badS code.length 0 code = badS code.length k (code.drop k)) (fun k => code.length - k) 0 (by simp) (by simp only [go_sem, codeAV]; simp) (by simp [codeAV, strsB]) ?_
            rintro k ⟨hk, hn⟩
            by_cases hlt : k < code.length
            · have hg := List.getElem?_eq_getElem hlt
              obtain ⟨⟨xo, xa, xb, xc⟩, hx⟩ : ∃ x, code[k] = x := ⟨_, rfl⟩
              rw [hx] at hg
              rw [badS_step _ _ _ _ hg] at hn
              simp only [go_sem, codeAV, hlt, hg, insAV, strsB]
              refine callN_of (rright_c ⟨xo, xa, xb, xc⟩ code.length _) ?_
              rintro r τ ⟨rfl, rfl⟩
              cases hr : rightS ⟨xo, xa, xb, xc⟩ code.length with
              | true =>
                rw [hr, if_pos rfl] at hn
                simp only [go_sem, codeAV]
                refine ⟨k + 1, by omega, ⟨by omega, hn⟩, inc k (by omega), take_app1, by omega, wfH_row1 hw ⟨⟨pure_codeL _, pure_strL _, trivial, trivial⟩, trivial⟩⟩
              | false =>
                rw [hr, if_neg (by simp)] at hn
                rw [hn] at hres
                subst hres
                simp only [go_sem]
                exact retOK_app hw (by simp only [go_sem]) ⟨rfl, rfl⟩
            · obtain rfl : k = code.length := by omega
              rw [List.drop_length] at hn
              rw [hn] at hres
              subst hres
              simp only [go_sem, hlt]
              refine vcode_sound _ ?_
              simp only [go_sem]
              exact retOK_app hw (by simp only [go_sem]) ⟨rfl, rfl⟩
end Go.Proofs.YtdlekkhjkcbbnaaGreatDoor
