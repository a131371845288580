/-
  Contracts: Parse of the program, of identifiers.
-/
import Derived.Test.YtbinpbjeeiedhaaDoorWoM
import Derived.Test.YtbinpbjeeiedhaaDoorIdT
import Derived.Test.YtbinpbjeeiedhaaDoorIdD
set_option linter.unusedVariables false
set_option linter.unusedSimpArgs false
set_option maxRecDepth 8000
set_option maxHeartbeats 2000000
namespace Go.Proofs.YtbinpbjeeiedhaaDoor
open Go.Ab Go.Id Go.Wo Go

theorem strsB_strs' (l : List Bytes) : strsB l = strs (l.map toB) := by simp [strsB, strs, toB, List.map_map, Function.comp_def]
theorem dots_c (s : ByteArray) (σ : Heap) (hs : s.size < 4294967281) : ACalls Tryd.prog 48 [sw s, .v (.string ⟨#[46]⟩)] σ (fun r σ' => r = strsB (cutD s.data.toList) ∧ σ' = σ) := by
  rw [strsB_strs', ← splitDot]
  exact split_c' s ⟨#[46]⟩ σ hs (by decide)

theorem part_zero {x : Bytes} (h : partBad x = false) : (numS x).2 ≠ 5 ∧ 0 < x.length ∧ ¬ (x[0]?.getD 0).toNat = 45 := by
  unfold partBad negS at h
  simp only [Bool.or_eq_false_iff, decide_eq_false_iff_not] at h
  have hne : 0 < x.length := by
    cases x with
    | nil => exact absurd (by rw [numS_nil]) h.1
    | cons => simp
  refine ⟨h.1, hne, fun h' => h.2 ?_⟩
  rw [List.getElem?_eq_getElem hne] at h' ⊢
  simpa using h'
theorem part_neg {x : Bytes} (h5 : (numS x).2 ≠ 5) (h : partBad x = true) : 0 < x.length ∧ (x[0]?.getD 0).toNat = 45 := by
  unfold partBad negS at h
  simp only [Bool.or_eq_true, decide_eq_true_eq, h5, false_or] at h
  cases x with
  | nil => simp at h
  | cons c r => simp at h ⊢; exact h

theorem cutD_len : ∀ (l x : Bytes), x ∈ cutD l → x.length ≤ l.length
  | [], x, h => by simp [cutD] at h; subst h; simp
  | c :: l, x, h => by
    rw [cutD] at h
    by_cases hc : c = 46
    · rw [if_pos hc] at h
      rcases List.mem_cons.1 h with rfl | h
      · simp
      · have := cutD_len l x h; simp only [List.length_cons]; omega
    · rw [if_neg hc] at h
      cases hl : cutD l with
      | nil => exact absurd hl (cutD_ne l)
      | cons y r =>
        rw [hl] at h
        simp only [consH] at h
        rcases List.mem_cons.1 h with rfl | h
        · have := cutD_len l y (by rw [hl]; simp); simp only [List.length_cons]; omega
        · have := cutD_len l x (by rw [hl]; simp [h]); simp only [List.length_cons]; omega

/-- the numbers that were read, and the error so far -/
def arrS (a b c : Bytes) (k : Nat) : AV := .agg [iv (if 0 < k then (numS a).1 else 0), iv (if 1 < k then (numS b).1 else 0), iv (if 2 < k then (numS c).1 else 0)]
def errS (a b c : Bytes) (k : Nat) : Int := if (0 < k → (numS a).2 = 0) ∧ (1 < k → (numS b).2 = 0) ∧ (2 < k → (numS c).2 = 0) then 0 else 2

theorem parse_c (s : ByteArray) (σ : Heap) (hs : s.size < 4294967281) : ACalls Tryd.prog 39 [sw s] σ (fun r σ' => r = .tup [uv (parseS s.data.toList).1, iv (parseS s.data.toList).2] ∧ σ' = σ) := by
  refine acalls_awp Tryd.func39 rfl Tryd.call39 Tryd.ntmps39 Tryd.results39 (Nat.le_of_ble_eq_true rfl) fun hw => ?_
  generalize hres : parseS s.data.toList = res
  unfold parseS at hres
  refine awp_then ?_
  simp only [go_sem]
  refine awp_then ?_
  simp only [go_sem]
  refine callN_of (dots_c s _ hs) ?_
  rintro r τ ⟨rfl, rfl⟩
  have hsub : ∀ x ∈ cutD s.data.toList, x.length ≤ 281474976710656 := by
    intro x hx
    have := cutD_len _ _ hx
    rw [Array.length_toList] at this
    have e : s.data.size = s.size := rfl
    exact Nat.le_trans this (Nat.le_trans (Nat.le_of_eq e) (by omega))
  generalize cutD s.data.toList = ps at *
  simp only [go_sem, strsB]
  refine awp_then ?_
  by_cases h3 : ps.length = 3
  · obtain ⟨a, b, c, rfl⟩ : ∃ a b c, ps = [a, b, c] := by
      match ps, h3 with
      | [a, b, c], _ => exact ⟨a, b, c, rfl⟩
    simp only at hres
    simp only [go_sem, Int.cast_ofNat_Int, Int.reduceEq]
    refine awp_then ?_
    simp only [go_sem]
    refine awp_then ?_
    simp only [go_sem]
    refine awp_then ?_
    simp only [go_sem]
    have bad : (partBad a || partBad b || partBad c) = true → ∀ l : Heap, RetOK τ.length (.tup [uv 0, iv 5]) (τ ++ l) (fun r σ' => r = .tup [uv res.1, iv res.2] ∧ σ' = τ) := by
      intro h l
      rw [if_pos h] at hres
      subst hres
      exact retOK_app hw (by simp only [go_sem]) ⟨rfl, rfl⟩
    have e2 : ∀ x, (numS x).2 ≠ 5 → ¬ (numS x).2 = 0 → (numS x).2 = 2 := fun x h1 h2 => by rcases numS_err x with h | h | h <;> omega
    refine loop_go (X := Nat) (fun k => [(5, ⟨true, .ptr τ.length 0 0 0⟩), (6, ⟨true, iv (errS a b c k)⟩), (16, ⟨true, strsB [a, b, c]⟩), (17, ⟨true, iv 3⟩), (18, ⟨true, iv k⟩)]) (fun k => τ ++ [.row 0 3 [arrS a b c k]])
      (fun k => k ≤ 3 ∧ (0 < k → partBad a = false) ∧ (1 < k → partBad b = false) ∧ (2 < k → partBad c = false)) (fun k => 3 - k) 0 ⟨by omega, by omega, by omega, by omega⟩ (by simp only [go_sem, strsB]; simp [errS]) (by simp [arrS]) ?_
    rintro k ⟨hk, ha, hb, hc⟩
    rcases (show k = 0 ∨ k = 1 ∨ k = 2 ∨ k = 3 by omega) with rfl | rfl | rfl | rfl
    · have hla := hsub a (by simp)
      simp only [go_sem, strsB, arrS, Int.cast_ofNat_Int, Int.natCast_zero, Int.natCast_one, Int.reduceLT, Int.reduceToNat, Int.toNat_natCast, List.getElem?_cons_succ, List.getElem?_cons_zero, Nat.lt_irrefl]
      refine callN_of (number_c a _ hla) ?_
      rintro r τ' ⟨rfl, rfl⟩
      by_cases h5 : (numS a).2 = 5
      · simp only [go_sem, eq_true h5]
        exact bad (by unfold partBad; rw [decide_eq_true h5]; simp) _
      · cases hx : partBad a with
        | true =>
          obtain ⟨hp, h45⟩ := part_neg h5 hx
          have h45' : ((a[0]?.getD 0).toNat : Int) = 45 := by omega
          simp only [go_sem, h5, List.size_toArray, hp, eq_true h45']
          exact bad (by rw [hx]; simp) _
        | false =>
          obtain ⟨_, hp, h45⟩ := part_zero hx
          have h45' : ¬ ((a[0]?.getD 0).toNat : Int) = 45 := by omega
          by_cases h0 : (numS a).2 = 0
          · simp only [go_sem, h5, List.size_toArray, hp, h45', h0, Int.reduceEq, Int.reduceLT, Int.reduceToNat, Nat.lt_irrefl]
            exact ⟨1, by omega, ⟨by omega, fun h => by omega, fun h => by omega⟩, ⟨by simp [errS, h0], rfl⟩, rfl⟩
          · have h2 := e2 a h5 h0
            simp only [go_sem, h2, List.size_toArray, hp, h45', Int.reduceEq, Int.reduceLT, Int.reduceToNat, Nat.lt_irrefl]
            exact ⟨1, by omega, ⟨by omega, fun h => by omega, fun h => by omega⟩, ⟨by simp [errS, h0], rfl⟩, rfl⟩
    · have hlb := hsub b (by simp)
      simp only [go_sem, strsB, arrS, Int.cast_ofNat_Int, Int.natCast_zero, Int.natCast_one, Int.reduceLT, Int.reduceToNat, Int.toNat_natCast, List.getElem?_cons_succ, List.getElem?_cons_zero, Nat.lt_irrefl]
      refine callN_of (number_c b _ hlb) ?_
      rintro r τ' ⟨rfl, rfl⟩
      by_cases h5 : (numS b).2 = 5
      · simp only [go_sem, eq_true h5]
        exact bad (by unfold partBad; rw [decide_eq_true h5]; simp) _
      · cases hx : partBad b with
        | true =>
          obtain ⟨hp, h45⟩ := part_neg h5 hx
          have h45' : ((b[0]?.getD 0).toNat : Int) = 45 := by omega
          simp only [go_sem, h5, List.size_toArray, hp, eq_true h45']
          exact bad (by rw [hx]; simp) _
        | false =>
          obtain ⟨_, hp, h45⟩ := part_zero hx
          have h45' : ¬ ((b[0]?.getD 0).toNat : Int) = 45 := by omega
          by_cases h0 : (numS b).2 = 0
          · simp only [go_sem, h5, List.size_toArray, hp, h45', h0, Int.reduceEq, Int.reduceLT, Int.reduceToNat, Nat.lt_irrefl]
            exact ⟨by decide, 2, by omega, ⟨by omega, fun _ => ha (by omega), fun h => by omega⟩, ⟨by simp [errS, h0], rfl⟩, rfl⟩
          · have h2 := e2 b h5 h0
            simp only [go_sem, h2, List.size_toArray, hp, h45', Int.reduceEq, Int.reduceLT, Int.reduceToNat, Nat.lt_irrefl]
            exact ⟨by decide, 2, by omega, ⟨by omega, fun _ => ha (by omega), fun h => by omega⟩, ⟨by simp [errS, h0], rfl⟩, rfl⟩
    · have hlc := hsub c (by simp)
      simp only [go_sem, strsB, arrS, Int.cast_ofNat_Int, Int.natCast_zero, Int.natCast_one, Int.reduceLT, Int.reduceToNat, Int.toNat_natCast, List.getElem?_cons_succ, List.getElem?_cons_zero, Nat.lt_irrefl]
      refine callN_of (number_c c _ hlc) ?_
      rintro r τ' ⟨rfl, rfl⟩
      by_cases h5 : (numS c).2 = 5
      · simp only [go_sem, eq_true h5]
        exact bad (by unfold partBad; rw [decide_eq_true h5]; simp) _
      · cases hx : partBad c with
        | true =>
          obtain ⟨hp, h45⟩ := part_neg h5 hx
          have h45' : ((c[0]?.getD 0).toNat : Int) = 45 := by omega
          simp only [go_sem, h5, List.size_toArray, hp, eq_true h45']
          exact bad (by rw [hx]; simp) _
        | false =>
          obtain ⟨_, hp, h45⟩ := part_zero hx
          have h45' : ¬ ((c[0]?.getD 0).toNat : Int) = 45 := by omega
          by_cases h0 : (numS c).2 = 0
          · simp only [go_sem, h5, List.size_toArray, hp, h45', h0, Int.reduceEq, Int.reduceLT, Int.reduceToNat, Nat.lt_irrefl]
            exact ⟨by decide, 3, by omega, ⟨by omega, fun _ => ha (by omega), fun _ => hb (by omega)⟩, ⟨by simp [errS, h0], rfl⟩, rfl⟩
          · have h2 := e2 c h5 h0
            simp only [go_sem, h2, List.size_toArray, hp, h45', Int.reduceEq, Int.reduceLT, Int.reduceToNat, Nat.lt_irrefl]
            exact ⟨by decide, 3, by omega, ⟨by omega, fun _ => ha (by omega), fun _ => hb (by omega)⟩, ⟨by simp [errS, h0], rfl⟩, rfl⟩
    · have hba := ha (by omega)
      have hbb := hb (by omega)
      have hbc := hc (by omega)
      rw [if_neg (by rw [hba, hbb, hbc]; simp)] at hres
      simp only [go_sem, strsB, arrS, Int.cast_ofNat_Int, Int.reduceLT]
      refine vcode_sound _ ?_
      simp only [go_sem, arrS, Int.reduceLT, Int.reduceToNat]
      have he : (errS a b c 3 = 0) = ((numS a).2 = 0 ∧ (numS b).2 = 0 ∧ (numS c).2 = 0) := by
        unfold errS
        simp
      refine ⟨fun _ => by decide, ?_⟩
      by_cases hE : errS a b c 3 = 0
      · rw [if_pos (by rw [← he]; exact hE)] at hres
        by_cases h127 : 127 < (numS a).1
        · rw [if_pos (.inl (.inr h127))]
          have hmk : makeS (numS a).1 (numS b).1 (numS c).1 = (0, 2) := by
            rw [makeS, if_neg]
            rintro ⟨hwi, _⟩
            simp only [within, Bool.and_eq_true, decide_eq_true_eq] at hwi
            omega
          rw [hmk] at hres
          subst hres
          exact retOK_app hw (by simp only [go_sem]) ⟨rfl, rfl⟩
        · by_cases h65 : 65535 < (numS b).1
          · rw [if_pos (.inr h65)]
            have hmk : makeS (numS a).1 (numS b).1 (numS c).1 = (0, 2) := by
              rw [makeS, if_neg]
              rintro ⟨hwi, _⟩
              simp only [within, Bool.and_eq_true, decide_eq_true_eq] at hwi
              omega
            rw [hmk] at hres
            subst hres
            exact retOK_app hw (by simp only [go_sem]) ⟨rfl, rfl⟩
          · rw [if_neg (by rintro ((h | h) | h) <;> contradiction)]
            refine ⟨by decide, by decide, ?_⟩
            refine callN_of (make_c _ _ _ _) ?_
            rw [hres]
            rintro r τ' ⟨rfl, rfl⟩
            simp only [go_sem]
            exact retOK_app hw (by simp only [go_sem]) ⟨rfl, rfl⟩
      · rw [if_pos (.inl (.inl hE))]
        rw [if_neg (by rw [← he]; exact hE)] at hres
        subst hres
        exact retOK_app hw (by simp only [go_sem]) ⟨rfl, rfl⟩
  · have h3' : ¬ (ps.length : Int) = 3 := by omega
    have : res = (0, 5) := by
      rw [← hres]
      match ps, h3 with
      | [], _ => rfl
      | [_], _ => rfl
      | [_, _], _ => rfl
      | [_, _, _], h => exact absurd rfl h
      | _ :: _ :: _ :: _ :: _, _ => rfl
    subst this
    simp only [go_sem, h3']
    exact retOK_same hw (by simp only [go_sem]) ⟨rfl, rfl⟩
end Go.Proofs.YtbinpbjeeiedhaaDoor
