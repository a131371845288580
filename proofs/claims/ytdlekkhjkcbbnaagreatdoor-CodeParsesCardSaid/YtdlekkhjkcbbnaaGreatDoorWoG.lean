/-
  Contracts: the reader of lines of the program (push, take).
  Contracts: Split of the program.
-/
import Derived.Test.YtdlekkhjkcbbnaaGreatDoorAbY
import Derived.Test.YtdlekkhjkcbbnaaGreatDoorWoT
import Derived.Test.YtdlekkhjkcbbnaaGreatDoorWoB
import Derived.Test.YtdlekkhjkcbbnaaGreatDoorCoIda
set_option linter.unusedVariables false
set_option linter.unusedSimpArgs false
set_option maxRecDepth 8000
set_option maxHeartbeats 2000000
namespace Go.Proofs.YtdlekkhjkcbbnaaGreatDoor
open Go.Ab Go.Id Go.Wo Go

/-- a reader in the heap: the reader, its word's row, its words' row -/
def rdE (n st gw lw gs ls : Nat) : AV := .agg [iv st, .os (n + 1) gw 0 lw, .os (n + 2) gs 0 ls]
def rdO (n st gw : Nat) (wd : Bytes) (gs : Nat) (ws : List Bytes) : Heap := [.row 0 3 [rdE n st gw wd.length gs ws.length], .row gw 1 (wd.map byteV), .row gs 1 (ws.map sv)]

@[go_sem] theorem bytes_wd (wd : Bytes) : bytesOf (List.take wd.length (wd.map byteV)) = some wd := by rw [List.take_of_length_le (by simp), bytesOf_map]
@[go_sem] theorem bytes_wd' (wd : Bytes) : bytesOf (wd.map byteV) = some wd := bytesOf_map wd
@[go_sem] theorem strOf_eq (l : Bytes) : strOf l = ⟨l.toArray⟩ := rfl
@[go_sem] theorem take_wd (wd : Bytes) : List.take wd.length (wd.map byteV) = wd.map byteV := List.take_of_length_le (by simp)
@[go_sem] theorem take_ws (ws : List Bytes) : List.take ws.length (ws.map sv) = ws.map sv := List.take_of_length_le (by simp)
@[go_sem] theorem take_one {α : Type} (a : α) : List.take 1 [a] = [a] := rfl
theorem nilTo_wd (n gw : Nat) (a c : AV) : NilTo (n + 1) (gw + 1) (.agg [a, .v (.slice none 0 0), c]) (.agg [a, .os (n + 1) (gw + 1) 0 0, c]) := .agg (.cons (.refl _ _ _) (.cons (.nil _ _) (.cons (.refl _ _ _) (.nil _ _))))

theorem rdO_wf {σ τ : Heap} (hw : WfH (σ.length + 3) (σ ++ τ)) (st gw : Nat) (wd : Bytes) (gs : Nat) (ws : List Bytes) : WfH (σ.length + 3) (σ ++ rdO σ.length st gw wd gs ws) := by
  intro o ho
  rcases List.mem_append.1 ho with h | h
  · exact hw o (List.mem_append_left _ h)
  · simp only [rdO, List.mem_cons, List.not_mem_nil, or_false] at h
    rcases h with rfl | rfl | rfl
    · simp only [AObj.allI, AllIL, rdE, AllI]
      exact ⟨⟨trivial, by omega, by omega, trivial⟩, trivial⟩
    · exact AllIL.mono (fun _ h => h.elim) _ (pureL_map (f := byteV) (fun _ => trivial) _)
    · exact AllIL.mono (fun _ h => h.elim) _ (pureL_map (f := sv) (fun _ => trivial) _)

theorem retOK_rd {σ τ junk : Heap} (hw : WfH (σ.length + 3) (σ ++ τ)) (st gw : Nat) (wd : Bytes) (gs : Nat) (ws : List Bytes) {r : AV} (hr : AllI (· < σ.length + 3) r) {R : AV → Heap → Prop} {o1 o2 o3 : AObj}
    (e1 : o1 = .row 0 3 [rdE σ.length st gw wd.length gs ws.length]) (e2 : o2 = .row gw 1 (wd.map byteV)) (e3 : o3 = .row gs 1 (ws.map sv)) (h : R r (σ ++ rdO σ.length st gw wd gs ws)) : RetOK (σ.length + 3) r (σ ++ (o1 :: o2 :: o3 :: junk)) R := by
  subst e1; subst e2; subst e3
  have e : ∀ a b c : AObj, σ ++ (a :: b :: c :: junk) = (σ ++ [a, b, c]) ++ junk := fun a b c => by simp
  rw [e]
  exact retOK_left (by simp) (rdO_wf hw st gw wd gs ws) hr h

theorem push_c (σ : Heap) (st gw : Nat) (wd : Bytes) (gs : Nat) (ws : List Bytes) (hst : st < 5) (hwd : wd.length ≤ 10000) (hws : ws.length ≤ 10000) :
    ACalls Tryz.prog 57 [.ptr σ.length 0 0 0] (σ ++ rdO σ.length st gw wd gs ws) (fun r σ' => r = .tup [] ∧ σ' = σ ++ rdO σ.length 0 (gw + 1) [] (gs + 1) (ws ++ [wd])) := by
  refine acalls_go Tryz.func57 rfl Tryz.call57 Tryz.ntmps57 Tryz.results57 (Nat.le_of_ble_eq_true rfl) fun hw => ?_
  simp only [go_sem, rdO, rdE] at hw ⊢
  refine awp_draw Tryz.mixed (by kernel_rfl) ?_
  simp only [go_sem, List.length_append, List.length_singleton]
  refine ⟨⟨by omega, by omega⟩, ?_⟩
  refine retOK_nilOld (i := σ.length) (j := σ.length + 1) (g := 0) (e := 3) (by simp only [go_sem]; rfl) (by simp only [go_sem]; rfl) (by omega) (nilTo_wd _ _ _ _) ?_
  simp only [go_sem]
  exact retOK_rd hw 0 (gw + 1) [] (gs + 1) (ws ++ [wd]) (r := .tup []) (by simp only [go_sem]) (by simp [rdE]) rfl (by simp) ⟨rfl, by simp [rdO, rdE]⟩

theorem mean_B (c : UInt8) : meaningS c.toNat = (((meanB c).1.toNat : Int), (meanB c).2) := by
  unfold meaningS meanB
  by_cases h1 : c.toNat = 34 ∨ c.toNat = 92
  · rw [if_pos (by omega), if_pos h1]
  · rw [if_neg (by omega), if_neg h1]
    by_cases h2 : c.toNat = 110
    · rw [if_pos (by omega), if_pos h2]; rfl
    · rw [if_neg (by omega), if_neg h2]
      by_cases h3 : c.toNat = 114
      · rw [if_pos (by omega), if_pos h3]; rfl
      · rw [if_neg (by omega), if_neg h3]; rfl
theorem simple_B (c : UInt8) : simpleB c.toNat = simB c := by
  unfold simpleB simB
  congr 1
  · congr 1
    · congr 1
      · rw [decide_eq_decide]; omega
      · rw [decide_eq_decide]; omega
    · congr 1; rw [decide_eq_decide]; omega
  · congr 1; rw [decide_eq_decide]; omega

def rdH (n : Nat) (gw gs : Nat) (r : Rd) : Heap := rdO n r.st gw r.wd gs r.ws

def takeR (σ : Heap) (r : Rd) (c : UInt8) : AV → Heap → Prop := fun x σ' => x = bv (takeS r c).2 ∧ ∃ gw' gs', σ' = σ ++ rdH σ.length gw' gs' (takeS r c).1
theorem take_fin {σ τ junk : Heap} (hw : WfH (σ.length + 3) (σ ++ τ)) (gw gs : Nat) {r r' : Rd} {c : UInt8} {b : Bool} (h : takeS r c = (r', b)) {o1 o2 o3 : AObj}
    (e1 : o1 = .row 0 3 [rdE σ.length r'.st gw r'.wd.length gs r'.ws.length]) (e2 : o2 = .row gw 1 (r'.wd.map byteV)) (e3 : o3 = .row gs 1 (r'.ws.map sv)) : RetOK (σ.length + 3) (.v (.bool b)) (σ ++ (o1 :: o2 :: o3 :: junk)) (takeR σ r c) :=
  retOK_rd hw r'.st gw r'.wd gs r'.ws (r := .v (.bool b)) (by simp only [go_sem]) e1 e2 e3 ⟨by rw [h], gw, gs, by rw [h]; rfl⟩

theorem take_c (σ : Heap) (gw gs : Nat) (r : Rd) (c : UInt8) (hst : r.st < 5) (hwd : r.wd.length ≤ 10000) (hws : r.ws.length ≤ 10000) :
    ACalls Tryz.prog 56 [.ptr σ.length 0 0 0, byteV c] (σ ++ rdH σ.length gw gs r) (takeR σ r c) := by
  obtain ⟨st, wd, ws⟩ := r
  simp only at hst hwd hws
  refine acalls_go Tryz.func56 rfl Tryz.call56 Tryz.ntmps56 Tryz.results56 (Nat.le_of_ble_eq_true rfl) fun hw => ?_
  have hw' := hw
  simp only [go_sem, rdH, rdO, rdE, byteV] at hw ⊢
  have hl : (wd.length ≤ 140737488355327 ∧ wd.length ≤ 4611686018427387903) = True := eq_true (by omega)
  have hs := simple_B c
  have hm := mean_B c
  by_cases h0 : st = 0
  · subst h0
    by_cases h1 : c.toNat = 34
    · have h1' : ((c.toNat : Nat) : Int) = 34 := by omega
      simp only [go_sem, h1', Int.reduceEq, Int.natCast_zero]
      exact take_fin hw _ _ (r' := ⟨2, wd, ws⟩) (by simp [takeS, h1]) rfl rfl rfl
    · have h1' : ¬ ((c.toNat : Nat) : Int) = 34 := by omega
      simp only [go_sem, h1', Int.reduceEq, Int.natCast_zero, hl]
      refine callN_of (simple_c _ _) ?_
      rintro x τ ⟨rfl, rfl⟩
      simp only [go_sem]
      exact take_fin hw (gw + 1) gs (r' := ⟨1, wd ++ [c], ws⟩) (by simp [takeS, h1, hs]) (by simp [rdE]) (by simp [byteV]) rfl
  · have h0' : ¬ (st : Int) = 0 := by omega
    by_cases h14 : st = 1 ∨ st = 4
    · by_cases h32 : c.toNat = 32
      · have h32' : ((c.toNat : Nat) : Int) = 32 := by omega
        have fin : ∀ τ, τ = σ ++ rdO σ.length 0 (gw + 1) [] (gs + 1) (ws ++ [wd]) → RetOK (σ.length + 3) (.v (.bool true)) τ (takeR σ ⟨st, wd, ws⟩ c) := by
          rintro τ rfl
          exact take_fin hw _ _ (r' := ⟨0, [], ws ++ [wd]⟩) (by simp [takeS, h0, h14, h32, pushS]) rfl rfl rfl
        rcases h14 with h | h
        · have h' : (st : Int) = 1 := by omega
          simp only [go_sem, h', h32', Int.reduceEq]
          rw [← h']
          refine callN_of (push_c σ st gw wd gs ws hst hwd hws) ?_
          rintro x τ ⟨rfl, hτ⟩
          simp only [go_sem]
          exact fin τ hτ
        · have h' : (st : Int) = 4 := by omega
          simp only [go_sem, h', h32', Int.reduceEq]
          rw [← h']
          refine callN_of (push_c σ st gw wd gs ws hst hwd hws) ?_
          rintro x τ ⟨rfl, hτ⟩
          simp only [go_sem]
          exact fin τ hτ
      · have h32' : ¬ ((c.toNat : Nat) : Int) = 32 := by omega
        rcases h14 with h | h
        · subst h
          simp only [go_sem, h32', Int.reduceEq, Int.cast_ofNat_Int, hl]
          refine callG_of (bv (simB c)) (fun _ => by rw [← hs]; exact simple_c _ _) ?_
          simp only [go_sem]
          exact take_fin hw (gw + 1) gs (r' := ⟨1, wd ++ [c], ws⟩) (by simp [takeS, h32]) (by simp [rdE]) (by simp [byteV]) rfl
        · subst h
          simp only [go_sem, h32', Int.reduceEq, Int.cast_ofNat_Int, hl]
          refine callG_of (bv (simB c)) (fun _ => by rw [← hs]; exact simple_c _ _) ?_
          simp only [go_sem]
          exact take_fin hw (gw + 1) gs (r' := ⟨4, wd ++ [c], ws⟩) (by simp [takeS, h32]) (by simp [rdE]) (by simp [byteV]) rfl
    · have h1' : ¬ (st : Int) = 1 := by omega
      have h4' : ¬ (st : Int) = 4 := by omega
      by_cases h2 : st = 2
      · subst h2
        by_cases c34 : c.toNat = 34
        · have c34' : ((c.toNat : Nat) : Int) = 34 := by omega
          simp only [go_sem, c34', Int.reduceEq, Int.cast_ofNat_Int]
          exact take_fin hw _ _ (r' := ⟨4, wd, ws⟩) (by simp [takeS, c34]) rfl rfl rfl
        · have c34' : ¬ ((c.toNat : Nat) : Int) = 34 := by omega
          by_cases c92 : c.toNat = 92
          · have c92' : ((c.toNat : Nat) : Int) = 92 := by omega
            simp only [go_sem, c92', Int.reduceEq, Int.cast_ofNat_Int]
            exact take_fin hw _ _ (r' := ⟨3, wd, ws⟩) (by simp [takeS, c92]) rfl rfl rfl
          · have c92' : ¬ ((c.toNat : Nat) : Int) = 92 := by omega
            by_cases c10 : c.toNat = 10
            · have c10' : ((c.toNat : Nat) : Int) = 10 := by omega
              simp only [go_sem, c10', Int.reduceEq, Int.cast_ofNat_Int]
              exact take_fin hw _ _ (r' := ⟨2, wd, ws⟩) (by simp [takeS, c10]) rfl rfl rfl
            · have c10' : ¬ ((c.toNat : Nat) : Int) = 10 := by omega
              by_cases c13 : c.toNat = 13
              · have c13' : ((c.toNat : Nat) : Int) = 13 := by omega
                simp only [go_sem, c13', Int.reduceEq, Int.cast_ofNat_Int]
                exact take_fin hw _ _ (r' := ⟨2, wd, ws⟩) (by simp [takeS, c13]) rfl rfl rfl
              · have c13' : ¬ ((c.toNat : Nat) : Int) = 13 := by omega
                simp only [go_sem, c34', c92', c10', c13', Int.reduceEq, Int.cast_ofNat_Int, hl]
                exact take_fin hw (gw + 1) gs (r' := ⟨2, wd ++ [c], ws⟩) (by simp [takeS, c34, c92, c10, c13]) (by simp [rdE]) (by simp [byteV]) rfl
      · have h2' : ¬ (st : Int) = 2 := by omega
        simp only [go_sem, h0', h1', h2', h4']
        refine callN_of (meaning_c _ _) ?_
        rw [hm]
        rintro x τ ⟨rfl, rfl⟩
        simp only [go_sem, hl]
        exact take_fin hw (gw + 1) gs (r' := ⟨2, wd ++ [(meanB c).1], ws⟩) (by simp [takeS, h0, h14, h2]) (by simp [rdE]) (by simp [byteV]) rfl
end Go.Proofs.YtdlekkhjkcbbnaaGreatDoor
set_option linter.unusedVariables false
set_option linter.unusedSimpArgs false
set_option maxRecDepth 8000
set_option maxHeartbeats 2000000
namespace Go.Proofs.YtdlekkhjkcbbnaaGreatDoor
open Go.Ab Go.Id Go.Wo Go

def strsB (l : List Bytes) : AV := .sl 1 (l.map sv)
@[go_sem] theorem allIL_svs (n : Nat) (l : List Bytes) : AllIL (· < n) (l.map sv) = True := eq_true (AllIL.mono (fun _ h => h.elim) _ (pureL_map (f := sv) (fun _ => trivial) l))
@[go_sem] theorem frzL_svs (i g e : Nat) (es : List AV) (l : List Bytes) : frzL i g e es (l.map sv) = l.map sv := frzL_pure _ _ _ _ (pureL_map (f := sv) (fun _ => trivial) l)

theorem takeS_st (r : Rd) (c : UInt8) (h : r.st < 5) : (takeS r c).1.st < 5 ∧ (takeS r c).1.wd.length ≤ r.wd.length + 1 ∧ (takeS r c).1.ws.length ≤ r.ws.length + 1 := by
  unfold takeS pushS
  repeat' split
  all_goals simp
  all_goals omega
theorem nilTo_1 (n : Nat) (a c : AV) : NilTo (n + 1) 0 (.agg [a, .v (.slice none 0 0), c]) (.agg [a, .os (n + 1) 0 0 0, c]) := .agg (.cons (.refl _ _ _) (.cons (.nil _ _) (.cons (.refl _ _ _) (.nil _ _))))
theorem nilTo_2 (n : Nat) (a c : AV) : NilTo (n + 2) 0 (.agg [a, c, .v (.slice none 0 0)]) (.agg [a, c, .os (n + 2) 0 0 0]) := .agg (.cons (.refl _ _ _) (.cons (.refl _ _ _) (.cons (.nil _ _) (.nil _ _))))
theorem fin_none {n : Nat} {σ : Heap} {c : Int} {l : Heap} {R : AV → Heap → Prop} (hn : σ.length = n) (hw : WfH σ.length σ) (h : R (.tup [strsB [], iv c]) σ) :
    RetOK n (.tup [.v (.slice none 0 0), iv c]) (σ ++ l) R := by
  subst hn
  exact retOK_le (AVle.tup (.cons (AVle.nil 1) (.cons (.refl _) .nil))) (retOK_app hw (by simp only [go_sem]) h)

theorem fin_none0 {n : Nat} {σ : Heap} {c : Int} {R : AV → Heap → Prop} (hn : σ.length = n) (hw : WfH σ.length σ) (h : R (.tup [strsB [], iv c]) σ) : RetOK n (.tup [.v (.slice none 0 0), iv c]) σ R := by
  have := fin_none (l := []) hn hw h
  rwa [List.append_nil] at this
theorem rdH_len (n gw gs : Nat) (r : Rd) : (rdH n gw gs r).length = 3 := rfl
theorem rdH_wf {σ : Heap} (hw : WfH σ.length σ) (gw gs : Nat) (r : Rd) : WfH (σ ++ rdH σ.length gw gs r).length (σ ++ rdH σ.length gw gs r) := by
  rw [List.length_append, rdH_len]
  refine rdO_wf (τ := []) (fun o ho => ?_) r.st gw r.wd gs r.ws
  rw [List.append_nil] at ho
  have := hw o ho
  exact AObj.allI_mono (fun i (hi : i < σ.length) => by show i < σ.length + 3; omega) this
theorem retOK_words {σ : Heap} (hw : WfH σ.length σ) {o1 o2 : AObj} (g : Nat) (l : List Bytes) (c : Int) {R : AV → Heap → Prop} (h : R (.tup [strsB l, iv c]) σ) :
    RetOK σ.length (.tup [.os (σ.length + 2) g 0 l.length, iv c]) (σ ++ [o1, o2, .row g 1 (l.map sv)]) R := by
  refine retOK_frz (i := σ.length + 2) (g := g) (e := 1) (es := l.map sv) (by simp only [go_sem]) ?_
  simp only [frz, frzL, go_sem, List.drop_zero]
  exact retOK_app hw (by simp only [go_sem]) h
def spX (l : Bytes) (x : Nat × Rd × Nat × Nat) : Prop := x.1 ≤ l.length ∧ runM (l.drop x.1) x.2.1 = runM l ⟨0, [], []⟩ ∧ x.2.1.st < 5 ∧ x.2.1.wd.length ≤ x.1 ∧ x.2.1.ws.length ≤ x.1

theorem wsplit_c (s : ByteArray) (σ : Heap) (hs : s.size < 2^62) :
    ACalls Tryz.prog 37 [sw s] σ (fun r σ' => r = .tup [strsB (splitS s.data.toList).1, iv (splitS s.data.toList).2] ∧ σ' = σ) := by
  refine acalls_awp Tryz.func37 rfl Tryz.call37 Tryz.ntmps37 Tryz.results37 (Nat.le_of_ble_eq_true rfl) fun hw => ?_
  have hsz : s.data.toList.length = s.size := by rw [Array.length_toList]; rfl
  generalize hres : splitS s.data.toList = res
  unfold splitS at hres
  rw [hsz] at hres
  refine awp_then ?_
  simp only [go_sem]
  refine awp_then ?_
  simp only [go_sem]
  by_cases h1 : 4096 < s.size
  · have h1' : (4096 : Int) < (s.size : Int) := by omega
    rw [if_pos h1] at hres
    subst hres
    simp only [go_sem, eq_true h1']
    exact fin_none0 rfl hw ⟨rfl, rfl⟩
  · have h1' : ¬ (4096 : Int) < (s.size : Int) := by omega
    rw [if_neg h1] at hres
    simp only [go_sem, h1']
    refine awp_then ?_
    by_cases h2 : s = ⟨#[]⟩
    · have h2' : s.data.toList = [] := by rw [h2]
      rw [if_pos h2'] at hres
      subst hres
      simp only [go_sem, eq_true h2]
      exact fin_none0 rfl hw ⟨rfl, rfl⟩
    · have h2' : ¬ s.data.toList = [] := fun h => h2 (by cases s; rename_i d; cases d; rename_i l; simp at h; subst h; rfl)
      rw [if_neg h2'] at hres
      simp only [go_sem, h2]
      refine awp_then ?_
      simp only [go_sem]
      refine awp_nilNew (i := σ.length) 1 (by simp only [go_sem]; rfl) (by simp only [List.length_append, List.length_singleton]; exact nilTo_1 _ _ _) ?_
      simp only [go_sem]
      refine awp_nilNew (i := σ.length) 1 (by simp only [go_sem]; rfl) (by simp only [List.length_append, List.length_singleton]; exact nilTo_2 _ _ _) ?_
      simp only [go_sem]
      refine awp_then ?_
      simp only [go_sem]
      have hlen : s.size ≤ 4096 := by omega
      refine loop_junk (X := Nat × Rd × Nat × Nat) (fun x => [(0, ⟨true, sw s⟩), (4, ⟨true, .ptr σ.length 0 0 0⟩), (14, ⟨true, iv s.size⟩), (15, ⟨true, iv x.1⟩)])
        (fun x => σ ++ rdH σ.length x.2.2.1 x.2.2.2 x.2.1) (spX s.data.toList) (fun x => s.size - x.1) (0, ⟨0, [], []⟩, 0, 0) ⟨by simp, rfl, by simp, by simp, by simp⟩ (by simp only [go_sem]; simp) (by simp [rdH, rdO, rdE]) ?_
      rintro ⟨k, r, gw, gs⟩ ⟨hk, hrun, hst, hwd, hws⟩
      simp only at hk hrun hst hwd hws
      by_cases hlt : k < s.size
      · simp only [go_sem, hlt]
        have hkl : k < s.data.toList.length := by omega
        obtain ⟨c, hc⟩ : ∃ c, s.data.toList[k]?.getD 0 = c := ⟨_, rfl⟩
        have hd : s.data.toList.drop k = c :: s.data.toList.drop (k + 1) := by rw [List.drop_eq_getElem_cons hkl, ← hc, List.getElem?_eq_getElem hkl]; rfl
        obtain ⟨b1, b2, b3⟩ := takeS_st r c hst
        rw [hd, runM] at hrun
        rw [hc]
        refine callN_of (take_c σ gw gs r c hst (by omega) (by omega)) ?_
        rintro x τ ⟨rfl, gw', gs', rfl⟩
        cases hb : (takeS r c).2 with
        | true =>
          rw [hb, if_pos rfl] at hrun
          simp only [go_sem]
          refine ⟨(k + 1, (takeS r c).1, gw', gs'), ⟨by simp only; omega, by simp [rdH_len]⟩, ⟨by simp only; omega, hrun, b1, by simp only; omega, by simp only; omega⟩, inc k (by omega), ?_, ?_, rdH_wf hw gw' gs' _⟩
          · exact List.take_of_length_le (by simp [rdH_len])
          · simp only [List.length_append, rdH_len]; omega
        | false =>
          rw [hb, if_neg (by simp)] at hrun
          rw [← hrun] at hres
          simp only [finM] at hres
          subst hres
          simp only [go_sem]
          exact fin_none rfl hw ⟨rfl, rfl⟩
      · obtain rfl : k = s.data.toList.length := by omega
        rw [List.drop_length, runM] at hrun
        rw [← hrun] at hres
        simp only [go_sem, hlt]
        obtain ⟨st, wd, ws⟩ := r
        simp only at hst hwd hws hres
        refine awp_then ?_
        simp only [finM] at hres
        by_cases hend : st = 1 ∨ st = 4
        · rw [if_pos hend] at hres
          simp only at hres
          have hp := push_c σ st gw wd gs ws hst (by omega) (by omega)
          rcases hend with rfl | rfl
          · simp only [go_sem, rdH, rdO, rdE, Int.cast_ofNat_Int, Int.reduceEq]
            refine awp_then ?_
            simp only [go_sem]
            refine callN_of hp ?_
            rintro x τ ⟨rfl, rfl⟩
            simp only [go_sem]
            refine awp_then ?_
            simp only [go_sem, rdO, rdE]
            generalize ws ++ [wd] = wl at hres ⊢
            by_cases h64 : 64 < wl.length
            · have h64' : (64 : Int) < (wl.length : Int) := by omega
              rw [if_pos h64] at hres
              subst hres
              simp only [eq_true h64', if_true]
              exact fin_none rfl hw ⟨rfl, rfl⟩
            · have h64' : ¬ (64 : Int) < (wl.length : Int) := by omega
              rw [if_neg h64] at hres
              subst hres
              simp only [h64', if_false]
              refine vcode_sound _ ?_
              simp only [go_sem]
              exact retOK_words hw _ _ _ ⟨rfl, rfl⟩
          · simp only [go_sem, rdH, rdO, rdE, Int.cast_ofNat_Int, Int.reduceEq]
            refine awp_then ?_
            simp only [go_sem]
            refine callN_of hp ?_
            rintro x τ ⟨rfl, rfl⟩
            simp only [go_sem]
            refine awp_then ?_
            simp only [go_sem, rdO, rdE]
            generalize ws ++ [wd] = wl at hres ⊢
            by_cases h64 : 64 < wl.length
            · have h64' : (64 : Int) < (wl.length : Int) := by omega
              rw [if_pos h64] at hres
              subst hres
              simp only [eq_true h64', if_true]
              exact fin_none rfl hw ⟨rfl, rfl⟩
            · have h64' : ¬ (64 : Int) < (wl.length : Int) := by omega
              rw [if_neg h64] at hres
              subst hres
              simp only [h64', if_false]
              refine vcode_sound _ ?_
              simp only [go_sem]
              exact retOK_words hw _ _ _ ⟨rfl, rfl⟩
        · rw [if_neg hend] at hres
          simp only at hres
          subst hres
          have e1 : ¬ (st : Int) = 1 := by omega
          have e4 : ¬ (st : Int) = 4 := by omega
          simp only [go_sem, rdH, rdO, rdE, e1, e4]
          exact fin_none rfl hw ⟨rfl, rfl⟩
end Go.Proofs.YtdlekkhjkcbbnaaGreatDoor
