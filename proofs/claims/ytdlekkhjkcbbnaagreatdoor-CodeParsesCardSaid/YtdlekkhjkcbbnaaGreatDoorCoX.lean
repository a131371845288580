/-
  Contracts: New, Paths, Program of the dice, made of the law.
-/
import Derived.Test.YtdlekkhjkcbbnaaGreatDoorCoU
set_option linter.unusedVariables false
set_option linter.unusedSimpArgs false
set_option maxRecDepth 8000
set_option maxHeartbeats 4000000
namespace Go.Proofs.YtdlekkhjkcbbnaaGreatDoor
open Go.Ab Go.Id Go.Wo Go

theorem new_c (l : Bytes) (σ : Heap) (hl : l.length < 2^62) : ACalls Tryz.prog 16 [.sl 1 (l.map byteV)] σ (fun r σ' => r = .ptr σ.length 0 0 0 ∧ σ' = σ ++ [diceO (l.take 400)]) := by
  refine acalls_go Tryz.func16 rfl Tryz.call16 Tryz.ntmps16 Tryz.results16 (Nat.le_of_ble_eq_true rfl) fun hw => ?_
  have fin : ∀ l' : Bytes, l' = l.take 400 → RetOK σ.length (.ptr σ.length 0 0 0) (σ ++ [.row 0 1 [.agg [.sl 1 (l'.map byteV)]]]) (fun r σ' => r = .ptr σ.length 0 0 0 ∧ σ' = σ ++ [diceO (l.take 400)]) := by
    rintro _ rfl
    exact retOK_new hw (AllIL.mono (V := fun _ => False) (fun _ h => h.elim) _ (pure_dice (l.take 400))) (by show σ.length < _; omega) ⟨rfl, rfl⟩
  by_cases h : (400 : Int) < l.length
  · have h2 : (400 : Int) ≤ l.length := by omega
    simp only [go_sem, eq_true h, eq_true h2]
    rw [show Int.toNat 400 = 400 from rfl, ← List.map_take]
    exact fin _ rfl
  · simp only [go_sem, h]
    exact fin _ (List.take_of_length_le (by omega)).symm

def pathsS : List Bytes := [[47, 100, 101, 118], [47, 102], [47, 112, 111, 114, 116], [47, 115, 101, 109], [47, 115, 104, 109], [47, 103], [98, 97, 100], [47, 102, 47, 103]]
theorem paths_c (σ : Heap) : ACalls Tryz.prog 43 [] σ (fun r σ' => r = strsB pathsS ∧ σ' = σ) := by
  refine acalls_go Tryz.func43 rfl Tryz.call43 Tryz.ntmps43 Tryz.results43 (Nat.le_of_ble_eq_true rfl) fun hw => ?_
  simp only [go_sem]
  exact retOK_os (i := σ.length) (g := 0) (e := 1) (es := pathsS.map sv) (by simp only [go_sem]; rfl) (pure_svL _) (Nat.le_refl _) (by rw [List.take_left]; exact hw) ⟨rfl, by rw [List.take_left]⟩

/-- a program under way -/
def GoodC (code : List Ins) : Prop := ∀ x ∈ code, RightAt code.length x
theorem GoodC.app {code new : List Ins} (h : GoodC code) (hn : ∀ x ∈ new, RightAt code.length x) : GoodC (code ++ new) := by
  intro x hx
  have hle : (code.length : Int) ≤ ((code ++ new).length : Int) := by rw [List.length_append]; omega
  rcases List.mem_append.1 hx with hx | hx
  · exact (h x hx).mono hle
  · exact (hn x hx).mono hle
def zeroPA : AV := .agg [.v (.slice none 0 0), .v (.slice none 0 0), iv 0]
theorem nilP (n : Nat) (a c : AV) : NilTo (n + 3) 0 (.agg [.v (.slice none 0 0), a, c]) (.agg [.os (n + 3) 0 0 0, a, c]) := .agg (.cons (.nil _ _) (.cons (.refl _ _ _) (.cons (.refl _ _ _) (.nil _ _))))

theorem program_c (l : Bytes) (σ : Heap) : ACalls Tryz.prog 17 [.ptr σ.length 0 0 0] (σ ++ [diceO l]) (fun r σ' => ∃ l' code g pages X Y, ((GoodC code ∧ code.length ≤ 61 ∧ 0 ≤ pages ∧ pages < 3) ∧ X.allI (· < σ.length + 4) ∧ Y.allI (· < σ.length + 4)) ∧
    r = .agg [.os (σ.length + 3) g 0 code.length, strsB pathsS, iv pages] ∧ σ' = σ ++ [diceO l', X, Y, .row g 4 (code.map Ins.av)]) := by
  refine acalls_awp Tryz.func17 rfl Tryz.call17 Tryz.ntmps17 Tryz.results17 (Nat.le_of_ble_eq_true rfl) fun hw => ?_
  refine awp_then ?_
  simp only [go_sem]
  refine awp_then ?_
  simp only [go_sem]
  refine callN_of (paths_c _) ?_
  rintro r τ ⟨rfl, rfl⟩
  simp only [go_sem]
  refine callN_of (next_c σ.length l 3 _ (by simp only [go_sem]) (by decide)) ?_
  rintro r τ ⟨rfl, rfl⟩
  have hpg := nextS_range 3 l (by decide)
  generalize nextS 3 l = op at hpg ⊢
  obtain ⟨pages, l1⟩ := op
  simp only at hpg
  simp only [go_sem, strsB]
  refine awp_nilNew (i := σ.length + 2) 4 (by simp only [go_sem]; rfl) (by simp only [List.length_append, List.length_cons, List.length_nil]; exact nilP σ.length _ _) ?_
  simp only [go_sem]
  refine awp_then ?_
  simp only [go_sem]
  refine callN_of (next_c σ.length l1 9 _ (by simp only [go_sem]) (by decide)) ?_
  rintro r τ ⟨rfl, rfl⟩
  have hn := nextS_range 9 l1 (by decide)
  generalize nextS 9 l1 = op at hn ⊢
  obtain ⟨n, l2⟩ := op
  simp only at hn
  have hnw : IntKind.i64.wrap (2 + n) = 2 + n := wrap_i64 (by omega) (by omega)
  obtain ⟨m, hm⟩ : ∃ m : Nat, 2 + n = m := ⟨(2 + n).toNat, by omega⟩
  rw [hm] at hnw
  simp only [go_sem, hm, hnw]
  have hwk : ∀ (l : Bytes) (code : List Ins) (g : Nat), WfH (σ.length + 4) (σ ++ [diceO l, .row 0 3 [zeroPA], .row 0 3 [.agg [.os (σ.length + 3) g 0 code.length, strsB pathsS, iv pages]], .row g 4 (code.map Ins.av)]) := fun l' code g o ho => by
    simp only [List.mem_append, List.mem_cons, List.not_mem_nil, or_false] at ho
    rcases ho with ho | rfl | rfl | rfl | rfl
    · exact AObj.allI_mono (fun i (hi : i < (σ ++ [diceO l]).length) => by rw [List.length_append, List.length_singleton] at hi; show i < σ.length + 4; omega) (hw o (List.mem_append_left _ ho))
    · exact dice_allI _ _
    · exact ⟨⟨trivial, trivial, trivial, trivial⟩, trivial⟩
    · exact ⟨⟨by show σ.length + 3 < _; omega, AllIL.mono (fun _ h => h.elim) _ (pure_strL _), trivial, trivial⟩, trivial⟩
    · exact AllIL.mono (fun _ h => h.elim) _ (pure_codeL _)
  simp only [zeroPA] at hwk
  refine loop_junk (X := Nat × Bytes × List Ins × Nat) (fun x => [(0, ⟨true, .ptr σ.length 0 0 0⟩), (2, ⟨true, .ptr (σ.length + 1) 0 0 0⟩), (3, ⟨true, .ptr (σ.length + 2) 0 0 0⟩), (4, ⟨true, iv x.1⟩)])
    (fun x => σ ++ [diceO x.2.1, .row 0 3 [zeroPA], .row 0 3 [.agg [.os (σ.length + 3) x.2.2.2 0 x.2.2.1.length, strsB pathsS, iv pages]], .row x.2.2.2 4 (x.2.2.1.map Ins.av)])
    (fun x => x.1 ≤ 10 ∧ GoodC x.2.2.1 ∧ x.2.2.1.length + 6 * x.1 ≤ 60) (fun x => x.1) (m, l2, [], 0) ⟨(by simp only; omega), (by intro x hx; cases hx), (by simp only [List.length_nil]; omega)⟩
    (by simp only [go_sem]) (by simp [zeroPA, strsB]) ?_
  clear hm hnw hn
  rintro ⟨m, l, code, g⟩ ⟨hm, hg, hcl⟩
  simp only at hm hg hcl
  by_cases hm0 : (0 : Int) < m
  · have next : ∀ (l' : Bytes) (code' : List Ins) (g' : Nat) (es : List AV) (n' : Nat) (j : Heap), GoodC code' → code'.length ≤ code.length + 6 → es = code'.map Ins.av → n' = code'.length → ∃ y : Nat × Bytes × List Ins × Nat, y.fst < m ∧
        (y.fst ≤ 10 ∧ GoodC y.snd.snd.fst ∧ y.snd.snd.fst.length + 6 * y.fst ≤ 60) ∧ IntKind.i64.wrap ((m : Int) - 1) = (y.fst : Int) ∧
        List.take (σ.length + 4) (σ ++ (diceO l' :: .row 0 3 [.agg [.v (.slice none 0 0), .v (.slice none 0 0), iv 0]] :: .row 0 3 [.agg [.os (σ.length + 3) g' 0 n', .sl 1 (List.map sv pathsS), iv pages]] :: .row g' 4 es :: j)) =
          σ ++ [diceO y.snd.fst, .row 0 3 [.agg [.v (.slice none 0 0), .v (.slice none 0 0), iv 0]], .row 0 3 [.agg [.os (σ.length + 3) y.snd.snd.snd 0 y.snd.snd.fst.length, .sl 1 (List.map sv pathsS), iv pages]], .row y.snd.snd.snd 4 (List.map Ins.av y.snd.snd.fst)] ∧
        (σ.length < σ.length + 4 ∧ σ.length + 1 < σ.length + 4 ∧ σ.length + 2 < σ.length + 4) ∧
        WfH (σ.length + 4) (σ ++ [diceO y.snd.fst, .row 0 3 [.agg [.v (.slice none 0 0), .v (.slice none 0 0), iv 0]], .row 0 3 [.agg [.os (σ.length + 3) y.snd.snd.snd 0 y.snd.snd.fst.length, .sl 1 (List.map sv pathsS), iv pages]], .row y.snd.snd.snd 4 (List.map Ins.av y.snd.snd.fst)]) := by
      rintro l' code' g' _ _ j h1 h2 rfl rfl
      exact ⟨(m - 1, l', code', g'), by simp only; omega, ⟨by simp only; omega, h1, by simp only; omega⟩, by rw [wrap_i64 (by omega) (by omega)]; omega, take_app4, ⟨by omega, by omega, by omega⟩, hwk l' code' g'⟩
    simp only [go_sem, eq_true hm0, zeroPA]
    refine awp_draw Tryz.mixed (by kernel_rfl) ?_
    simp only [go_sem]
    refine callW_of (codeAV (blockS l).1) σ.length 0 1 (diceA l) (diceA (blockS l).2) (by simp only [go_sem]; rfl) (fun σ' h => block_c σ.length l σ' h) ?_
    simp only [go_sem, rowDice, codeAV]
    have hb := block_right l
    generalize blockS l = ob at hb ⊢
    obtain ⟨bl, l3⟩ := ob
    obtain ⟨hb1, hb2⟩ := hb
    simp only at hb1 hb2
    have hbg : GoodC (code ++ bl) := hg.app fun x hx => (hb2 x hx).mono (by omega)
    have tk : List.take code.length (List.map Ins.av code) = List.map Ins.av code := List.take_of_length_le (by simp)
    refine ⟨⟨by simp only; omega, by simp only; omega⟩, callN_of (next_c σ.length l3 3 _ (by simp only [go_sem]) (by decide)) ?_⟩
    rintro r τ ⟨rfl, rfl⟩
    have hx3 := nextS_range 3 l3 (by decide)
    generalize nextS 3 l3 = o3 at hx3 ⊢
    obtain ⟨c3, l4⟩ := o3
    simp only at hx3
    have e1 : code.length + bl.length = (code ++ bl).length := by rw [List.length_append]
    have e2 : List.take code.length (List.map Ins.av code) ++ List.map Ins.av bl = List.map Ins.av (code ++ bl) := by rw [tk, List.map_append]
    simp only [go_sem, e1, e2]
    have hbl : (code ++ bl).length ≤ code.length + 4 := by rw [List.length_append]; omega
    generalize code ++ bl = code1 at hbg hbl ⊢
    by_cases h0 : c3 = 0
    · simp only [go_sem, eq_true h0]
      refine awp_draw Tryz.mixed (by kernel_rfl) ?_
      simp only [go_sem, codeAV, strsB]
      have hq := nextS_range 2 l4 (by decide)
      refine callW_of (iv (nextS 2 l4).1) σ.length 0 1 (diceA l4) (diceA (nextS 2 l4).2) (by simp only [go_sem]; rfl) (fun σ' h => next_c σ.length l4 2 σ' h (by decide)) ?_
      generalize nextS 2 l4 = oq at hq ⊢
      obtain ⟨q, l7⟩ := oq
      simp only at hq
      obtain ⟨q, rfl⟩ : ∃ m : Nat, q = m := ⟨q.toNat, by omega⟩
      have q0 : (0 : Int) ≤ q := by omega
      have q1 : (q : Int) < (2 : Nat) := by omega
      have q2 : q < 2 := by omega
      have qv := ints_at [10, 11] q q2
      rw [show ([10, 11] : List Int)[q]?.getD 0 = at_ [10, 11] q from rfl] at qv
      have hwq : at_ [10, 11] q = 10 ∨ at_ [10, 11] q = 11 := by rcases (show q = 0 ∨ q = 1 by omega) with rfl | rfl <;> decide
      generalize at_ [10, 11] q = wq at qv hwq
      simp only [List.map_cons, List.map_nil] at qv
      have a51 : σ.length + 5 + 1 = σ.length + 6 := rfl
      have a52 : σ.length + 5 + 2 = σ.length + 7 := rfl
      have a53 : σ.length + 5 + 3 = σ.length + 8 := rfl
      simp only [go_sem, rowDice, codeAV, strsB, a51, a52, a53, eq_true q0, eq_true q1, q2, Int.toNat_natCast, qv]
      have hc8 := nextS_range 34 l7 (by decide)
      refine callW_of (iv (nextS 34 l7).1) σ.length 0 1 (diceA l7) (diceA (nextS 34 l7).2) (by simp only [go_sem]; rfl) (fun σ' h => next_c σ.length l7 34 σ' h (by decide)) ?_
      generalize nextS 34 l7 = oc8 at hc8 ⊢
      obtain ⟨c8, l8⟩ := oc8
      simp only at hc8
      have tk1 : List.take code1.length (List.map Ins.av code1) ++ [AV.agg [iv wq, iv 4, iv 7, iv c8]] = List.map Ins.av (code1 ++ [⟨wq, 4, 7, c8⟩]) := by rw [List.take_of_length_le (by simp), List.map_append]; rfl
      have tk2 : code1.length + 1 = (code1 ++ [(⟨wq, 4, 7, c8⟩ : Ins)]).length := by simp
      simp only [go_sem, rowDice, codeAV, strsB, tk1, tk2, a51, a52, a53]
      have hbg := hbg.app (new := [⟨wq, 4, 7, c8⟩]) fun x hx => by
        rw [List.mem_singleton.1 hx]
        rcases hwq with rfl | rfl
        · exact (rt_10 (by decide) (by decide) (by omega)).mono (by omega)
        · exact (rt_11 (by decide) (by decide) (by omega)).mono (by omega)
      have hbl2 : (code1 ++ [(⟨wq, 4, 7, c8⟩ : Ins)]).length ≤ code.length + 5 := by simp only [List.length_append, List.length_singleton]; omega
      refine ⟨⟨by simp only [← tk2]; omega, by omega⟩, ?_⟩
      clear tk1 tk2
      generalize code1 ++ [(⟨wq, 4, 7, c8⟩ : Ins)] = code2 at hbg hbl2 ⊢
      refine callN_of (next_c σ.length l8 8 _ (by simp only [go_sem]) (by decide)) ?_
      rintro r τ ⟨rfl, rfl⟩
      have hx5 := nextS_range 8 l8 (by decide)
      generalize nextS 8 l8 = o5 at hx5 ⊢
      obtain ⟨c5, l5⟩ := o5
      simp only at hx5
      by_cases h1 : c5 = 0
      · simp only [go_sem, eq_true h1, codeAV, strsB]
        refine callN_of (dins_c σ.length l5 code2.length _ (by simp only [go_sem]) (by omega) (by omega)) ?_
        rintro r τ ⟨rfl, rfl⟩
        have hx6 := dins_right code2.length l5 (by omega) (by omega)
        generalize dinsS code2.length l5 = o6 at hx6 ⊢
        obtain ⟨⟨xo, xa, xb, xc⟩, l6⟩ := o6
        simp only at hx6
        have tk1 : List.take code2.length (List.map Ins.av code2) ++ [AV.agg [iv xo, iv xa, iv xb, iv xc]] = List.map Ins.av (code2 ++ [⟨xo, xa, xb, xc⟩]) := by rw [List.take_of_length_le (by simp), List.map_append]; rfl
        have tk2 : code2.length + 1 = (code2 ++ [(⟨xo, xa, xb, xc⟩ : Ins)]).length := by simp
        simp only [go_sem, insAV]
        exact ⟨⟨by omega, by omega⟩, next l6 (code2 ++ [⟨xo, xa, xb, xc⟩]) (g + 1 + 1 + 1) _ _ _ (hbg.app fun x hx => by rw [List.mem_singleton.1 hx]; exact hx6) (by simp only [List.length_append, List.length_singleton]; omega) tk1 tk2⟩
      · simp only [go_sem, h1, codeAV, strsB]
        exact next l5 code2 (g + 1 + 1) _ _ _ hbg (by omega) rfl rfl
    · simp only [go_sem, h0, codeAV, strsB]
      refine callN_of (next_c σ.length l4 8 _ (by simp only [go_sem]) (by decide)) ?_
      rintro r τ ⟨rfl, rfl⟩
      have hx5 := nextS_range 8 l4 (by decide)
      generalize nextS 8 l4 = o5 at hx5 ⊢
      obtain ⟨c5, l5⟩ := o5
      simp only at hx5
      by_cases h1 : c5 = 0
      · simp only [go_sem, eq_true h1, codeAV, strsB]
        refine callN_of (dins_c σ.length l5 code1.length _ (by simp only [go_sem]) (by omega) (by omega)) ?_
        rintro r τ ⟨rfl, rfl⟩
        have hx6 := dins_right code1.length l5 (by omega) (by omega)
        generalize dinsS code1.length l5 = o6 at hx6 ⊢
        obtain ⟨⟨xo, xa, xb, xc⟩, l6⟩ := o6
        simp only at hx6
        have tk1 : List.take code1.length (List.map Ins.av code1) ++ [AV.agg [iv xo, iv xa, iv xb, iv xc]] = List.map Ins.av (code1 ++ [⟨xo, xa, xb, xc⟩]) := by rw [List.take_of_length_le (by simp), List.map_append]; rfl
        have tk2 : code1.length + 1 = (code1 ++ [(⟨xo, xa, xb, xc⟩ : Ins)]).length := by simp
        simp only [go_sem, insAV]
        exact ⟨⟨by omega, by omega⟩, next l6 (code1 ++ [⟨xo, xa, xb, xc⟩]) (g + 1 + 1) _ _ _ (hbg.app fun x hx => by rw [List.mem_singleton.1 hx]; exact hx6) (by simp only [List.length_append, List.length_singleton]; omega) tk1 tk2⟩
      · simp only [go_sem, h1, codeAV, strsB]
        exact next l5 code1 (g + 1) _ _ _ hbg (by omega) rfl rfl
  · have fin : ∀ (l' : Bytes) (code' : List Ins) (g' : Nat) (es : List AV) (X : AObj) (n' : Nat) (j : Heap), GoodC code' → code'.length ≤ 61 → es = code'.map Ins.av → n' = code'.length → X.allI (· < σ.length + 4) →
        RetOK (σ.length + 1) (.agg [.os (σ.length + 3) g' 0 n', .sl 1 (List.map sv pathsS), iv pages]) (σ ++ (diceO l' :: X :: .row 0 3 [.agg [.os (σ.length + 3) g' 0 n', .sl 1 (List.map sv pathsS), iv pages]] :: .row g' 4 es :: j))
          (fun r σ' => ∃ l' code g pages X Y, ((GoodC code ∧ code.length ≤ 61 ∧ 0 ≤ pages ∧ pages < 3) ∧ X.allI (· < σ.length + 4) ∧ Y.allI (· < σ.length + 4)) ∧ r = .agg [.os (σ.length + 3) g 0 code.length, .sl 1 (List.map sv pathsS), iv pages] ∧ σ' = σ ++ [diceO l', X, Y, .row g 4 (code.map Ins.av)]) := by
      rintro l' code' g' _ X _ j h1 h2 rfl rfl h3
      refine retOK_take (σ.length + 4) (by omega) ⟨by show σ.length + 3 < _; omega, AllIL.mono (fun _ h => h.elim) _ (pure_strL _), trivial, trivial⟩ ?_ ?_
      · rw [take_app4]
        intro o ho
        have hk := hwk l' code' g'
        simp only [List.mem_append, List.mem_cons, List.not_mem_nil, or_false] at ho
        rcases ho with ho | rfl | rfl | rfl | rfl
        · exact hk o (by simp [ho])
        · exact hk _ (by simp)
        · exact h3
        · exact hk _ (by simp [strsB])
        · exact hk _ (by simp)
      · rw [take_app4]
        exact ⟨l', code', g', pages, X, .row 0 3 [.agg [.os (σ.length + 3) g' 0 code'.length, .sl 1 (List.map sv pathsS), iv pages]], ⟨⟨h1, h2, hpg⟩, h3, ⟨⟨by show σ.length + 3 < _; omega, AllIL.mono (fun _ h => h.elim) _ (pure_strL _), trivial, trivial⟩, trivial⟩⟩, rfl, rfl⟩
    simp only [go_sem, hm0, zeroPA]
    refine awp_then ?_
    simp only [go_sem]
    refine callN_of (next_c σ.length l 4 _ (by simp only [go_sem]) (by decide)) ?_
    rintro r τ ⟨rfl, rfl⟩
    generalize nextS 4 l = o4
    obtain ⟨c4, l4⟩ := o4
    by_cases h4 : 0 < c4
    · have tk1 : List.take code.length (List.map Ins.av code) ++ [AV.agg [iv 8, iv 0, iv 0, iv 0]] = List.map Ins.av (code ++ [⟨8, 0, 0, 0⟩]) := by rw [List.take_of_length_le (by simp), List.map_append]; rfl
      have tk2 : code.length + 1 = (code ++ [(⟨8, 0, 0, 0⟩ : Ins)]).length := by simp
      simp only [go_sem, eq_true h4, strsB]
      refine ⟨⟨by omega, by omega⟩, ?_⟩
      refine vcode_sound _ ?_
      simp only [go_sem]
      exact fin l4 (code ++ [⟨8, 0, 0, 0⟩]) (g + 1) _ _ _ _ (hg.app fun x hx => by rw [List.mem_singleton.1 hx]; exact rt_8 ⟨by omega, by omega⟩) (by rw [← tk2]; omega) tk1 tk2 ⟨⟨by show σ.length + 3 < _; omega, AllIL.mono (fun _ h => h.elim) _ (pure_strL _), trivial, trivial⟩, trivial⟩
    · simp only [go_sem, h4, strsB]
      refine vcode_sound _ ?_
      simp only [go_sem]
      exact fin l4 code g _ _ _ _ hg (by omega) rfl rfl ⟨⟨by show σ.length + 3 < _; omega, AllIL.mono (fun _ h => h.elim) _ (pure_strL _), trivial, trivial⟩, trivial⟩

theorem take_app6 {σ junk : Heap} {a b c d e f : AObj} : List.take (σ.length + 6) (σ ++ (a :: b :: c :: d :: e :: f :: junk)) = σ ++ [a, b, c, d, e, f] := by
  rw [List.take_append, List.take_of_length_le (by omega)]; simp

/-- a program that the law makes -/
def MadeP (p : Prg) : Prop := OkP p ∧ (∀ x ∈ p.code, x.b ≤ 1000) ∧ p.strs = pathsS
theorem made_ok {code : List Ins} {pages : Int} (hg : GoodC code) (hl : code.length ≤ 256) (hp : 0 ≤ pages ∧ pages < 3) : MadeP ⟨code, pathsS, pages⟩ :=
  ⟨⟨hl, by show pathsS.length ≤ 32; decide, by show ∀ s ∈ pathsS, s.length ≤ 128; decide, by simp only; omega, fun x hx => (hg x hx).1 _ (Int.le_refl _)⟩, fun x hx => (hg x hx).2, rfl⟩

theorem made_c (l : Bytes) (σ : Heap) (hl : l.length < 2^62) : ACalls Tryz.prog 7 [.sl 1 (l.map byteV)] σ (fun r σ' => ∃ p, MadeP p ∧ r = p.av ∧ σ' = σ) := by
  refine acalls_awp Tryz.func7 rfl Tryz.call7 Tryz.ntmps7 Tryz.results7 (Nat.le_of_ble_eq_true rfl) fun hw => ?_
  refine awp_then ?_
  simp only [go_sem]
  refine awp_then ?_
  simp only [go_sem]
  refine callN_of (new_c l _ hl) ?_
  rintro r τ ⟨rfl, rfl⟩
  simp only [go_sem]
  refine awp_then ?_
  simp only [go_sem]
  have hP := program_c (l.take 400) (σ ++ [.row 0 3 [zeroPA]])
  have a13 : σ.length + 1 + 3 = σ.length + 4 := rfl
  have a14 : σ.length + 1 + 4 = σ.length + 5 := rfl
  simp only [zeroPA, List.length_append, List.length_singleton, List.append_assoc, List.singleton_append, List.cons_append, List.nil_append, a13, a14] at hP
  refine callN_of hP ?_
  rintro r τ ⟨l1, code, g, pages, X, Y, ⟨⟨hg, hcl, hpg⟩, hX, hY⟩, rfl, rfl⟩
  simp only [go_sem, strsB]
  refine awp_then ?_
  simp only [go_sem]
  refine callN_of (next_c (σ.length + 1) l1 20 _ (by simp only [go_sem]) (by decide)) ?_
  rintro r τ ⟨rfl, rfl⟩
  have hn := nextS_range 20 l1 (by decide)
  generalize nextS 20 l1 = op at hn ⊢
  obtain ⟨n, l2⟩ := op
  simp only at hn
  obtain ⟨m, rfl⟩ : ∃ m : Nat, n = m := ⟨n.toNat, by omega⟩
  simp only [go_sem]
  have hwk : ∀ (l : Bytes) (code : List Ins) (g : Nat), WfH (σ.length + 6) (σ ++ [.row 0 3 [.agg [.v (.slice none 0 0), .v (.slice none 0 0), iv 0]], diceO l, X, Y, .row g 4 (code.map Ins.av), .row 0 3 [.agg [.os (σ.length + 4) g 0 code.length, .sl 1 (List.map sv pathsS), iv pages]]]) := fun l' code g o ho => by
    simp only [List.mem_append, List.mem_cons, List.not_mem_nil, or_false] at ho
    rcases ho with ho | rfl | rfl | rfl | rfl | rfl | rfl
    · exact AObj.allI_mono (fun i (hi : i < σ.length) => by show i < σ.length + 6; omega) (hw o ho)
    · exact ⟨⟨trivial, trivial, trivial, trivial⟩, trivial⟩
    · exact dice_allI _ _
    · exact AObj.allI_mono (fun i (hi : i < σ.length + 5) => by show i < σ.length + 6; omega) hX
    · exact AObj.allI_mono (fun i (hi : i < σ.length + 5) => by show i < σ.length + 6; omega) hY
    · exact AllIL.mono (fun _ h => h.elim) _ (pure_codeL _)
    · exact ⟨⟨by show σ.length + 4 < _; omega, AllIL.mono (fun _ h => h.elim) _ (pure_strL _), trivial, trivial⟩, trivial⟩
  refine loop_junk (X := Nat × Bytes × List Ins × Nat) (fun x => [(2, ⟨true, .ptr σ.length 0 0 0⟩), (3, ⟨true, .ptr (σ.length + 1) 0 0 0⟩), (4, ⟨true, .ptr (σ.length + 5) 0 0 0⟩), (5, ⟨true, iv x.1⟩)])
    (fun x => σ ++ [.row 0 3 [.agg [.v (.slice none 0 0), .v (.slice none 0 0), iv 0]], diceO x.2.1, X, Y, .row x.2.2.2 4 (x.2.2.1.map Ins.av), .row 0 3 [.agg [.os (σ.length + 4) x.2.2.2 0 x.2.2.1.length, .sl 1 (List.map sv pathsS), iv pages]]])
    (fun x => GoodC x.2.2.1 ∧ x.1 ≤ 19 ∧ x.2.2.1.length + x.1 ≤ 80) (fun x => x.1) (m, l2, code, g) ⟨hg, (by simp only; omega), (by simp only; omega)⟩
    (by simp only [go_sem]) (by simp) ?_
  clear hn hcl hg
  rintro ⟨m, l, code, g⟩ ⟨hg, hm, hcl⟩
  simp only at hm hg hcl
  by_cases hm0 : (0 : Int) < m
  · simp only [go_sem, eq_true hm0]
    refine awp_draw Tryz.mixed (by kernel_rfl) ?_
    simp only [go_sem]
    have hx6 := dins_right code.length l (by omega) (by omega)
    refine callW_of (dinsS code.length l).1.av (σ.length + 1) 0 1 (diceA l) (diceA (dinsS code.length l).2) (by simp only [go_sem]; rfl) (fun σ' h => dins_c (σ.length + 1) l code.length σ' h (by omega) (by omega)) ?_
    generalize dinsS code.length l = o6 at hx6 ⊢
    obtain ⟨⟨xo, xa, xb, xc⟩, l6⟩ := o6
    simp only at hx6
    have tk1 : List.take code.length (List.map Ins.av code) ++ [AV.agg [iv xo, iv xa, iv xb, iv xc]] = List.map Ins.av (code ++ [⟨xo, xa, xb, xc⟩]) := by rw [List.take_of_length_le (by simp), List.map_append]; rfl
    have tk2 : code.length + 1 = (code ++ [(⟨xo, xa, xb, xc⟩ : Ins)]).length := by simp
    simp only [go_sem, rowDice, insAV, tk1, tk2]
    refine ⟨⟨by rw [← tk2]; omega, by omega⟩, (m - 1, l6, code ++ [⟨xo, xa, xb, xc⟩], g + 1), by simp only; omega, ⟨hg.app fun x hx => by rw [List.mem_singleton.1 hx]; exact hx6, by simp only; omega, by simp only [← tk2]; omega⟩, by rw [wrap_i64 (by omega) (by omega)]; omega, take_app6, ⟨by omega, by omega, by omega⟩, hwk l6 _ (g + 1)⟩
  · simp only [go_sem, hm0]
    refine vcode_sound _ ?_
    simp only [go_sem]
    have tk : List.take code.length (List.map Ins.av code) = List.map Ins.av code := List.take_of_length_le (by simp)
    refine retOK_frz (i := σ.length + 4) (g := g) (e := 4) (es := code.map Ins.av) (by simp only [go_sem]) ?_
    rw [show code.length = (code.map Ins.av).length by simp]
    simp only [frz, frzL, go_sem, tk]
    refine retOK_app hw (AllIL.mono (V := fun _ => False) (fun _ h => h.elim) [_, _, _] ⟨pure_codeL _, pure_strL _, trivial, trivial⟩) ⟨⟨code, pathsS, pages⟩, made_ok hg (by omega) hpg, rfl, rfl⟩
end Go.Proofs.YtdlekkhjkcbbnaaGreatDoor
