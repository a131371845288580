/-
  Contracts: code.Parse.
-/
import Derived.Test.YtdlekkhjkcbbnaaGreatDoorCoG
import Derived.Test.YtdlekkhjkcbbnaaGreatDoorCoP
set_option linter.unusedVariables false
set_option linter.unusedSimpArgs false
set_option maxRecDepth 8000
set_option maxHeartbeats 4000000
namespace Go.Proofs.YtdlekkhjkcbbnaaGreatDoor
open Go.Ab Go.Id Go.Wo Go

theorem takeS_inv (r : Rd) (c : UInt8) : (takeS r c).1 = pushS r ∨ ((takeS r c).1.ws = r.ws ∧ (takeS r c).1.wd.length ≤ r.wd.length + 1) := by
  unfold takeS
  repeat' split
  all_goals first | exact .inl rfl | exact .inr ⟨rfl, by simp⟩
theorem runM_len {B : Nat} : ∀ (l : Bytes) (r r' : Rd), runM l r = some r' → (∀ w ∈ r.ws, w.length ≤ B) → r.wd.length + l.length ≤ B → (∀ w ∈ r'.ws, w.length ≤ B) ∧ r'.wd.length ≤ B
  | [], r, r', h, h1, h2 => by
    rw [runM] at h
    cases h
    exact ⟨h1, by simpa using h2⟩
  | c :: l, r, r', h, h1, h2 => by
    rw [runM] at h
    split at h
    · simp only [List.length_cons] at h2
      rcases takeS_inv r c with e | ⟨e1, e2⟩
      · rw [e] at h
        refine runM_len l _ r' h (fun w hw => ?_) (by simp only [pushS, List.length_nil]; omega)
        simp only [pushS, List.mem_append, List.mem_singleton] at hw
        rcases hw with hw | rfl
        · exact h1 w hw
        · omega
      · exact runM_len l _ r' h (fun w hw => h1 w (e1 ▸ hw)) (by omega)
    · cases h
theorem split_words (l : Bytes) : ∀ w ∈ (splitS l).1, w.length ≤ 4096 := by
  unfold splitS
  split
  · intro w hw; cases hw
  · split
    · intro w hw; cases hw
    · split
      · intro w hw; cases hw
      · rename_i h1 h2 ws hf
        split
        · intro w hw; cases hw
        · intro w hw
          unfold finM at hf
          cases hr : runM l ⟨0, [], []⟩ with
          | none => rw [hr] at hf; cases hf
          | some r =>
            rw [hr] at hf
            simp only at hf
            split at hf
            · obtain ⟨h3, h4⟩ := runM_len (B := 4096) l _ r hr (fun w hw => by cases hw) (by simp only [List.length_nil]; omega)
              cases hf
              rcases List.mem_append.1 hw with hw | hw
              · exact h3 w hw
              · rw [List.mem_singleton.1 hw]; exact h4
            · cases hf
theorem AVle.agg' {l l' : List AV} (h : AVleL l l') : AVle (.agg l) (.agg l') := fun w L x ⟨xs, e, hr, hc⟩ => ⟨xs, e, h w L xs hr, hc⟩
theorem split_B (s : Bytes) (σ : Heap) (hs : s.length < 2^62) : ACalls Tryz.prog 37 [sv s] σ (fun r σ' => r = .tup [strsB (splitS s).1, iv (splitS s).2] ∧ σ' = σ) := by
  have := wsplit_c ⟨s.toArray⟩ σ (by rw [strlen]; exact hs)
  simpa using this
theorem lines_B' (s : Bytes) (σ : Heap) (hs : s.length < 4294967281) : ACalls Tryz.prog 36 [sv s] σ (fun r σ' => r = strsB (linesL s) ∧ σ' = σ) := by
  have := lines_B ⟨s.toArray⟩ σ (by rw [strlen]; exact hs)
  simpa using this

theorem readL_step {i : Nat} {l : List Bytes} {x : Bytes} (h : l[i]? = some x) (s : Prg × Bool) : readL i (l.drop i) s = if x = [] ∨ x[0]? = some 35 then readL (i + 1) (l.drop (i + 1)) s else
    if (splitS x).2 ≠ 0 then .inr ((i : Int) + 1, (splitS x).2) else match takeO s (splitS x).1 with
    | none => .inr ((i : Int) + 1, 5)
    | some s' => readL (i + 1) (l.drop (i + 1)) s' := by
  have hi := (List.getElem?_eq_some_iff.1 h).1
  rw [List.drop_eq_getElem_cons hi, (List.getElem?_eq_some_iff.1 h).2]
  rfl
theorem takeO_len {s s' : Prg × Bool} {l : List Bytes} (h : takeO s l = some s') : s'.1.code.length ≤ s.1.code.length + 1 ∧ s'.1.strs.length ≤ s.1.strs.length + 1 := by
  unfold takeO at h
  split at h
  · cases h
  · split at h
    · split at h
      · obtain ⟨n, _, rfl⟩ := Option.map_eq_some_iff.1 h
        simp
      · cases h
    · split at h
      · split at h
        · cases h; simp
        · cases h
      · obtain ⟨n, _, rfl⟩ := Option.map_eq_some_iff.1 h
        simp

theorem cutL_short : ∀ (l : Bytes), ∀ x ∈ cutL l, x.length ≤ l.length
  | [], x, h => by rw [cutL] at h; rw [List.mem_singleton.1 h]; exact Nat.le_refl _
  | c :: l, x, h => by
    rw [cutL] at h
    split at h
    · rcases List.mem_cons.1 h with rfl | h
      · simp
      · have := cutL_short l x h; simp only [List.length_cons]; omega
    · cases hl : cutL l with
      | nil => exact absurd hl (cutL_ne l)
      | cons y r =>
        rw [hl] at h
        simp only [consH] at h
        rcases List.mem_cons.1 h with rfl | h
        · have := cutL_short l y (by rw [hl]; simp); simp only [List.length_cons]; omega
        · have := cutL_short l x (by rw [hl]; simp [h]); simp only [List.length_cons]; omega
theorem linesL_short (l : Bytes) : ∀ x ∈ linesL l, x.length ≤ l.length := by
  intro x h
  unfold linesL at h
  split at h
  · exact cutL_short l x ((List.dropLast_subset _ h))
  · exact cutL_short l x h

def zeroA : AV := .agg [.v (.slice none 0 0), .v (.slice none 0 0), iv 0]
theorem zero_le (a b : AV) : AVle (.tup [zeroA, a, b]) (.tup [zeroP.av, a, b]) := AVle.tup (.cons (AVle.agg' (.cons (AVle.nil 4) (.cons (AVle.nil 1) (.cons (AVle.refl _) .nil)))) (.cons (AVle.refl _) (.cons (AVle.refl _) .nil)))

def readH1 (n gc gs : Nat) (s : Prg × Bool) : Heap := [.row 0 4 [.agg [.os (n + 2) gc 0 s.1.code.length, .os (n + 3) gs 0 s.1.strs.length, iv s.1.pages, bv s.2]], .row gc 4 (s.1.code.map Ins.av), .row gs 1 (s.1.strs.map sv)]
theorem readH1_eq (σ : Heap) (o : AObj) (gc gs : Nat) (s : Prg × Bool) : (σ ++ [o]) ++ readH (σ ++ [o]).length gc gs s = σ ++ (o :: readH1 σ.length gc gs s) := by
  simp only [readH, readH1, List.length_append, List.length_singleton, List.append_assoc, List.singleton_append]
theorem take1_c (σ : Heap) (o : AObj) (gc gs : Nat) (s : Prg × Bool) (l : List Bytes) (hl : l.length ≤ 100) (hls : ∀ x ∈ l, x.length ≤ 281474976710656) (hc : s.1.code.length < 2^40) (hs : s.1.strs.length < 2^40) :
    ACalls Tryz.prog 38 [.ptr (σ.length + 1) 0 0 0, strsB l] (σ ++ (o :: readH1 σ.length gc gs s))
      (fun r σ' => ∃ gc gs s', σ' = σ ++ (o :: readH1 σ.length gc gs s') ∧ ((takeO s l = some s' ∧ r = bv true) ∨ (takeO s l = none ∧ r = bv false))) := by
  have h := takeC_c (σ ++ [o]) gc gs s l hl hls hc hs
  rw [readH1_eq, List.length_append, List.length_singleton] at h
  refine h.mono ?_
  rintro r σ' ⟨gc', gs', s', rfl, h⟩
  exact ⟨gc', gs', s', readH1_eq _ _ _ _ _, h⟩
theorem nilRd_1 (n : Nat) (a c d : AV) : NilTo (n + 2) 0 (.agg [.v (.slice none 0 0), a, c, d]) (.agg [.os (n + 2) 0 0 0, a, c, d]) := .agg (.cons (.nil _ _) (.cons (.refl _ _ _) (.cons (.refl _ _ _) (.cons (.refl _ _ _) (.nil _ _)))))
theorem nilRd_2 (n : Nat) (a c d : AV) : NilTo (n + 3) 0 (.agg [a, .v (.slice none 0 0), c, d]) (.agg [a, .os (n + 3) 0 0 0, c, d]) := .agg (.cons (.refl _ _ _) (.cons (.nil _ _) (.cons (.refl _ _ _) (.cons (.refl _ _ _) (.nil _ _)))))

theorem parse_c (t : Bytes) (σ : Heap) (ht : t.length < 2^62) : ACalls Tryz.prog 14 [sv t] σ (fun r σ' => r = .tup [(parseS t).1.av, iv (parseS t).2.1, iv (parseS t).2.2] ∧ σ' = σ) := by
  refine acalls_awp Tryz.func14 rfl Tryz.call14 Tryz.ntmps14 Tryz.results14 (Nat.le_of_ble_eq_true rfl) fun hw => ?_
  generalize hres : parseS t = res
  unfold parseS at hres
  have fin0 : ∀ (a b : Int) (l : Heap), res = (zeroP, a, b) → RetOK σ.length (.tup [zeroA, iv a, iv b]) (σ ++ l) (fun r σ' => r = .tup [res.1.av, iv res.2.1, iv res.2.2] ∧ σ' = σ) := by
    rintro a b l rfl
    refine retOK_le (zero_le _ _) (retOK_app hw (by simp only [go_sem, zeroP, Prg.av, codeAV, strsB, List.map_nil]) ⟨rfl, rfl⟩)
  simp only [zeroA] at fin0
  refine awp_then ?_
  simp only [go_sem]
  refine awp_then ?_
  by_cases hl : 65536 < t.length
  · rw [if_pos hl] at hres
    have hl' : (65536 : Int) < (t.length : Int) := by omega
    simp only [go_sem, List.size_toArray, eq_true hl']
    exact fin0 _ _ _ hres.symm
  · rw [if_neg hl] at hres
    have hl' : ¬ (65536 : Int) < (t.length : Int) := by omega
    simp only [go_sem, List.size_toArray, hl']
    refine awp_then ?_
    simp only [go_sem]
    refine awp_nilNew (i := σ.length + 1) 4 (by simp only [go_sem]; rfl) (by simp only [List.length_append, List.length_cons, List.length_nil]; exact nilRd_1 σ.length _ _ _) ?_
    simp only [go_sem]
    refine awp_nilNew (i := σ.length + 1) 1 (by simp only [go_sem]; rfl) (by simp only [List.length_append, List.length_cons, List.length_nil]; exact nilRd_2 σ.length _ _ _) ?_
    simp only [go_sem]
    refine awp_then ?_
    simp only [go_sem]
    refine callN_of (lines_B' t _ (by omega)) ?_
    rintro r τ ⟨rfl, rfl⟩
    have hll := linesL_len t
    simp only [go_sem, strsB]
    obtain ⟨ls, hls⟩ : ∃ ls, linesL t = ls := ⟨_, rfl⟩
    rw [hls] at hll hres ⊢
    have hwk : ∀ gc gs s, WfH (σ.length + 4) (σ ++ [.row 0 3 [zeroA]] ++ readH1 σ.length gc gs s) := fun gc gs s o ho => by
      simp only [readH1, List.mem_append, List.mem_cons, List.not_mem_nil, or_false] at ho
      rcases ho with (ho | rfl) | rfl | rfl | rfl
      · exact AObj.allI_mono (fun i (hi : i < σ.length) => by show i < σ.length + 4; omega) (hw o ho)
      · exact ⟨⟨trivial, trivial, trivial, trivial⟩, trivial⟩
      · exact ⟨⟨by show σ.length + 2 < _; omega, by show σ.length + 3 < _; omega, trivial, trivial, trivial⟩, trivial⟩
      · exact AllIL.mono (fun _ h => h.elim) _ (pure_codeL _)
      · exact AllIL.mono (fun _ h => h.elim) _ (pure_svL _)
    simp only [readH1, zeroA, List.append_assoc, List.cons_append, List.nil_append, List.singleton_append] at hwk
    refine loop_junk (X := Nat × Nat × Nat × (Prg × Bool)) (fun x => [(2, ⟨true, .ptr σ.length 0 0 0⟩), (5, ⟨true, .ptr (σ.length + 1) 0 0 0⟩), (19, ⟨true, strsB ls⟩), (20, ⟨true, iv ls.length⟩), (21, ⟨true, iv x.1⟩)])
      (fun x => σ ++ (.row 0 3 [zeroA] :: readH1 σ.length x.2.1 x.2.2.1 x.2.2.2))
      (fun x => x.1 ≤ ls.length ∧ readL 0 ls (zeroP, false) = readL x.1 (ls.drop x.1) x.2.2.2 ∧ x.2.2.2.1.code.length ≤ x.1 ∧ x.2.2.2.1.strs.length ≤ x.1) (fun x => ls.length - x.1) (0, 0, 0, (zeroP, false)) ⟨by simp, by simp, by simp [zeroP], by simp [zeroP]⟩
      (by simp only [go_sem, strsB]; simp) (by simp [readH1, zeroP, zeroA]) ?_
    rintro ⟨k, gc, gs, s⟩ ⟨hk, hr, hcl, hsl⟩
    simp only at hk hr hcl hsl
    by_cases hlt : k < ls.length
    · obtain ⟨x, hx⟩ : ∃ x, ls[k]? = some x := ⟨_, List.getElem?_eq_getElem hlt⟩
      rw [readL_step hx] at hr
      have hxl : x.length < 2^62 := by have := linesL_short t x (by rw [hls]; exact List.mem_of_getElem? hx); omega
      have next : ∀ (gc gs : Nat) (s' : Prg × Bool) (j : Heap), readL 0 ls (zeroP, false) = readL (k + 1) (ls.drop (k + 1)) s' → s'.1.code.length ≤ k + 1 → s'.1.strs.length ≤ k + 1 → ∃ y : Nat × Nat × Nat × (Prg × Bool), ls.length - y.fst < ls.length - k ∧
          (y.fst ≤ ls.length ∧ readL 0 ls (zeroP, false) = readL y.fst (List.drop y.fst ls) y.snd.snd.snd ∧ y.snd.snd.snd.fst.code.length ≤ y.fst ∧ y.snd.snd.snd.fst.strs.length ≤ y.fst) ∧ IntKind.i64.wrap ((k : Int) + 1) = (y.fst : Int) ∧
          List.take (σ.length + 4) (σ ++ (.row 0 3 [zeroA] :: (readH1 σ.length gc gs s' ++ j))) = σ ++ (.row 0 3 [zeroA] :: readH1 σ.length y.2.1 y.2.2.1 y.2.2.2) ∧ (σ.length < σ.length + 4 ∧ σ.length + 1 < σ.length + 4) ∧ WfH (σ.length + 4) (σ ++ (.row 0 3 [zeroA] :: readH1 σ.length y.2.1 y.2.2.1 y.2.2.2)) := by
        intro gc gs s' j h1 h2 h3
        refine ⟨(k + 1, gc, gs, s'), by simp only; omega, ⟨by simp only; omega, h1, h2, h3⟩, inc k (by omega), ?_, ⟨by omega, by omega⟩, ?_⟩
        · simp only [readH1, List.cons_append, List.nil_append]; exact take_app4
        · have := hwk gc gs s'
          simpa only [readH1, zeroA] using this
      simp only [readH1, zeroA, List.cons_append, List.nil_append] at next
      by_cases h0 : x = []
      · rw [if_pos (.inl h0)] at hr
        subst h0
        simp only [go_sem, strsB, hlt, hx, readH1, zeroA]
        exact next gc gs s [] hr (by omega) (by omega)
      · have h0' : ¬ (ByteArray.mk x.toArray = ByteArray.mk #[]) := by rw [sv_nil]; exact h0
        have hpos : 0 < x.length := List.length_pos_iff.2 h0
        obtain ⟨c, hc⟩ : ∃ c, x[0]? = some c := ⟨_, List.getElem?_eq_getElem hpos⟩
        by_cases h35 : c.toNat = 35
        · have h35' : (c.toNat : Int) = 35 := by omega
          rw [if_pos (.inr (by rw [hc, UInt8.toNat_inj.1 (show c.toNat = (35 : UInt8).toNat from h35)]))] at hr
          simp only [go_sem, strsB, hlt, hx, readH1, zeroA, h0', hc, List.size_toArray, eq_true h35']
          exact ⟨hpos, next gc gs s [] hr (by omega) (by omega)⟩
        · have h35' : ¬ (c.toNat : Int) = 35 := by omega
          rw [if_neg (by rintro (h | h); exact h0 h; rw [hc] at h; cases h; exact h35 rfl)] at hr
          simp only [go_sem, strsB, hlt, hx, readH1, zeroA, h0', hc, List.size_toArray, h35']
          refine ⟨hpos, callN_of (split_B x _ hxl) ?_⟩
          rintro r τ ⟨rfl, rfl⟩
          by_cases he : (splitS x).2 = 0
          · rw [if_neg (by simpa using he)] at hr
            have hT := take1_c σ (.row 0 3 [zeroA]) gc gs s (splitS x).1 (by have := split_ws_len' x; omega) (fun w hw => by have := split_words x w hw; omega) (by omega) (by omega)
            simp only [readH1, zeroA] at hT
            simp only [go_sem, strsB, eq_true he]
            refine callT_of hT ?_
            rintro r τ ⟨gc', gs', s', rfl, ⟨h1, rfl⟩ | ⟨h1, rfl⟩⟩
            · rw [h1] at hr
              simp only at hr
              have hlen := takeO_len h1
              simp only [go_sem, strsB, eq_true he]
              exact next gc' gs' s' [] hr (by omega) (by omega)
            · rw [h1] at hr
              simp only at hr
              rw [hr] at hres
              simp only [go_sem, strsB, Int.reduceEq]
              exact fin0 _ _ _ (by rw [← hres, inc k (by omega)]; rfl)
          · rw [if_pos he] at hr
            rw [hr] at hres
            simp only [go_sem, strsB, he]
            refine callG_of (bv true) (fun h => by cases h) ?_
            simp only [go_sem, strsB, he]
            exact fin0 _ _ _ (by rw [← hres, inc k (by omega)]; rfl)
    · obtain rfl : k = ls.length := by omega
      rw [List.drop_length, readL] at hr
      rw [hr] at hres
      simp only at hres
      simp only [go_sem, strsB, hlt, readH1, zeroA]
      refine awp_then ?_
      simp only [go_sem]
      obtain ⟨⟨code, strs, pages⟩, paged⟩ := s
      simp only at hcl hsl hres ⊢
      have ec : code.length = (List.map Ins.av code).length := by rw [List.length_map]
      have es : strs.length = (List.map sv strs).length := by rw [List.length_map]
      have tc : List.take code.length (List.map Ins.av code) = List.map Ins.av code := List.take_of_length_le (by simp)
      have ts : List.take strs.length (List.map sv strs) = List.map sv strs := List.take_of_length_le (by simp)
      refine callN_of (acalls_lend (args' := [Prg.av ⟨code, strs, pages⟩]) (R := fun r σ' => r = .tup [iv (checkS ⟨code, strs, pages⟩).1, iv (checkS ⟨code, strs, pages⟩).2] ∧ σ' = (σ ++ [.row 0 3 [.agg [.v (.slice none 0 0), .v (.slice none 0 0), iv 0]], .row 0 4 [.agg [.os (σ.length + 2) gc 0 code.length, .os (σ.length + 3) gs 0 strs.length, iv pages, bv paged]], .row gc 4 (code.map Ins.av), .row gs 1 (strs.map sv)])) ?_ ?_) ?_
      · rw [ec, es]
        refine lend_frz (i := σ.length + 2) (g := gc) (e := 4) (es := code.map Ins.av) (by simp only [go_sem]) ?_
        simp only [frzL, frz, go_sem, tc]
        refine lend_frz (i := σ.length + 3) (g := gs) (e := 1) (es := strs.map sv) (by simp only [go_sem]) ?_
        simp only [frzL, frz, go_sem, ts]
        exact lend_pure (args := [Prg.av ⟨code, strs, pages⟩]) ⟨⟨pure_codeL _, pure_svL _, trivial, trivial⟩, trivial⟩
      · refine (check_c ⟨code, strs, pages⟩ [] (by simp only; omega) (by simp only; omega)).mono ?_
        rintro r σ' ⟨rfl, rfl⟩
        exact ⟨rfl, rfl, rfl⟩
      · rintro r τ ⟨rfl, rfl⟩
        by_cases hok : (checkS ⟨code, strs, pages⟩).2 = 0
        · rw [if_pos hok] at hres
          simp only [go_sem, eq_true hok]
          refine vcode_sound _ ?_
          simp only [go_sem]
          refine retOK_frz (i := σ.length + 2) (g := gc) (e := 4) (es := code.map Ins.av) (by simp only [go_sem]) ?_
          rw [ec, es]
          simp only [frzL, frz, go_sem, tc]
          refine retOK_frz (i := σ.length + 3) (g := gs) (e := 1) (es := strs.map sv) (by simp only [go_sem]) ?_
          simp only [frzL, frz, go_sem, ts]
          subst hres
          exact retOK_app hw (by simp only [go_sem]) ⟨rfl, rfl⟩
        · rw [if_neg hok] at hres
          simp only [go_sem, hok]
          exact fin0 _ _ _ hres.symm
end Go.Proofs.YtdlekkhjkcbbnaaGreatDoor
