/-
  Contracts: Parse of the reference; CodeParses.
  Contract: CodeParses.
-/
import Derived.Test.YtdlekkhjkcbbnaaGreatDoorCoR
import Derived.Test.YtdlekkhjkcbbnaaGreatDoorCoY
import Derived.Lib.ConvBytes
set_option linter.unusedVariables false
set_option linter.unusedSimpArgs false
set_option maxRecDepth 8000
set_option maxHeartbeats 4000000
namespace Go.Proofs.YtdlekkhjkcbbnaaGreatDoor
open Go.Ab Go.Id Go.Wo Go

theorem rsplit_B (s : Bytes) (σ : Heap) (hs : s.length < 2^62) : ACalls Tryz.prog 40 [sv s] σ (fun r σ' => r = .tup [strsB (splitS s).1, iv (splitS s).2] ∧ σ' = σ) := by
  have := rsplit_c ⟨s.toArray⟩ σ (by rw [strlen]; exact hs)
  rw [split_same]
  simpa using this
theorem rlines_B' (s : Bytes) (σ : Heap) (hs : s.length < 2^40) : ACalls Tryz.prog 39 [sv s] σ (fun r σ' => r = strsB (linesL s) ∧ σ' = σ) := by
  have := rlines_B ⟨s.toArray⟩ σ (by rw [strlen]; exact hs)
  simpa using this
theorem split_ne {x : Bytes} (h0 : x ≠ []) (he : (splitS x).2 = 0) : (splitS x).1 ≠ [] := by
  unfold splitS at he ⊢
  by_cases h1 : 4096 < x.length
  · rw [if_pos h1] at he; simp at he
  rw [if_neg h1, if_neg h0] at he ⊢
  cases hf : finM (runM x ⟨0, [], []⟩) with
  | none => rw [hf] at he; simp at he
  | some ws =>
    rw [hf] at he
    simp only at he ⊢
    by_cases h2 : 64 < ws.length
    · rw [if_pos h2] at he; simp at he
    · rw [if_neg h2]
      unfold finM at hf
      cases hr : runM x ⟨0, [], []⟩ with
      | none => rw [hr] at hf; cases hf
      | some r =>
        rw [hr] at hf
        simp only at hf
        split at hf
        · cases hf; simp
        · cases hf
/-- the reference's cases of a line -/
def isPages (s : Prg × Bool) (w : Bytes) (ws : List Bytes) : Prop := w = [112, 97, 103, 101, 115] ∧ ws.length = 1 ∧ (readR 110 (ws[0]?.getD [])).2 = true ∧ s.2 = false ∧ s.1.strs = [] ∧ s.1.code = []
def isString (s : Prg × Bool) (w : Bytes) (ws : List Bytes) : Prop := w = [115, 116, 114, 105, 110, 103] ∧ ws.length = 1 ∧ s.1.code = []
theorem numO_read (w : Bytes) : numO w = if (readR 110 w).2 = true then some (readR 110 w).1 else none := by
  have := readR_operand 110 w
  unfold operandO at this
  rw [if_pos (by decide)] at this
  exact this
theorem take_pages {s : Prg × Bool} {w : Bytes} {ws : List Bytes} (h : isPages s w ws) : takeO s (w :: ws) = some (⟨s.1.code, s.1.strs, (readR 110 (ws[0]?.getD [])).1⟩, true) := by
  obtain ⟨h1, h2, h3, h4, h5, h6⟩ := h
  unfold takeO
  simp only
  rw [if_pos h1, if_pos ⟨h2, h4, h5, h6⟩, numO_read, if_pos h3]
  rfl
theorem take_string {s : Prg × Bool} {w : Bytes} {ws : List Bytes} (h : isString s w ws) : takeO s (w :: ws) = some (⟨s.1.code, s.1.strs ++ [ws[0]?.getD []], s.1.pages⟩, s.2) := by
  obtain ⟨h1, h2, h3⟩ := h
  unfold takeO
  simp only
  rw [if_neg (by rw [h1]; decide), if_pos h1, if_pos ⟨h2, h3⟩]
theorem take_else {s : Prg × Bool} {w : Bytes} {ws : List Bytes} (h : ¬ isPages s w ws) (h' : ¬ isString s w ws) : takeO s (w :: ws) = if (insA (w :: ws)).2 = true then some (⟨s.1.code ++ [(insA (w :: ws)).1], s.1.strs, s.1.pages⟩, s.2) else none := by
  have hi : (instrO (w :: ws)).map (fun x => ((⟨s.1.code ++ [x], s.1.strs, s.1.pages⟩, s.2) : Prg × Bool)) = if (insA (w :: ws)).2 = true then some (⟨s.1.code ++ [(insA (w :: ws)).1], s.1.strs, s.1.pages⟩, s.2) else none := by
    unfold insA
    cases instrO (w :: ws) <;> rfl
  have hno : ∀ v : Bytes, opIx v = none → w = v → instrO (w :: ws) = none := by
    rintro v hv rfl
    unfold instrO
    simp only [hv]
  rw [← hi]
  unfold takeO
  simp only
  by_cases h1 : w = [112, 97, 103, 101, 115]
  · rw [if_pos h1, hno _ (by decide) h1]
    by_cases h2 : ws.length = 1 ∧ s.2 = false ∧ s.1.strs = [] ∧ s.1.code = []
    · rw [if_pos h2, numO_read, if_neg (fun h3 => h ⟨h1, h2.1, h3, h2.2.1, h2.2.2.1, h2.2.2.2⟩)]
      rfl
    · rw [if_neg h2]; rfl
  · rw [if_neg h1]
    by_cases h2 : w = [115, 116, 114, 105, 110, 103]
    · rw [if_pos h2, hno _ (by decide) h2, if_neg (fun h3 => h' ⟨h2, h3.1, h3.2⟩)]
      rfl
    · rw [if_neg h2]

def readP (n gc gs : Nat) (s : Prg) : Heap := [.row 0 3 [.agg [.os (n + 2) gc 0 s.code.length, .os (n + 3) gs 0 s.strs.length, iv s.pages]], .row gc 4 (s.code.map Ins.av), .row gs 1 (s.strs.map sv)]
theorem nilPg_1 (n : Nat) (a c : AV) : NilTo (n + 2) 0 (.agg [.v (.slice none 0 0), a, c]) (.agg [.os (n + 2) 0 0 0, a, c]) := .agg (.cons (.nil _ _) (.cons (.refl _ _ _) (.cons (.refl _ _ _) (.nil _ _))))
theorem nilPg_2 (n : Nat) (a c : AV) : NilTo (n + 3) 0 (.agg [a, .v (.slice none 0 0), c]) (.agg [a, .os (n + 3) 0 0 0, c]) := .agg (.cons (.refl _ _ _) (.cons (.nil _ _) (.cons (.refl _ _ _) (.nil _ _))))

theorem rparse_c (t : Bytes) (σ : Heap) (ht : t.length < 2^40) : ACalls Tryz.prog 15 [sv t] σ (fun r σ' => r = .tup [(parseS t).1.av, iv (parseS t).2.1, iv (parseS t).2.2] ∧ σ' = σ) := by
  refine acalls_awp Tryz.func15 rfl Tryz.call15 Tryz.ntmps15 Tryz.results15 (Nat.le_of_ble_eq_true rfl) fun hw => ?_
  generalize hres : parseS t = res
  unfold parseS at hres
  have fin0 : ∀ (a b : Int) (l : Heap), res = (zeroP, a, b) → RetOK σ.length (.tup [zeroA, iv a, iv b]) (σ ++ l) (fun r σ' => r = .tup [res.1.av, iv res.2.1, iv res.2.2] ∧ σ' = σ) := by
    rintro a b l rfl
    refine retOK_le (zero_le _ _) (retOK_app hw (by simp only [go_sem, zeroP, Prg.av, codeAV, strsB, List.map_nil]) ⟨rfl, rfl⟩)
  simp only [zeroA] at fin0
  refine awp_then ?_
  simp only [go_sem]
  refine awp_then ?_
  by_cases hl : 65536 < t.length
  · rw [if_pos hl] at hres
    have hl' : (65536 : Int) < (t.length : Int) := by omega
    simp only [go_sem, List.size_toArray, eq_true hl']
    exact fin0 _ _ _ hres.symm
  · rw [if_neg hl] at hres
    have hl' : ¬ (65536 : Int) < (t.length : Int) := by omega
    simp only [go_sem, List.size_toArray, hl']
    refine awp_then ?_
    simp only [go_sem]
    refine awp_nilNew (i := σ.length + 1) 4 (by simp only [go_sem]; rfl) (by simp only [List.length_append, List.length_cons, List.length_nil]; exact nilPg_1 σ.length _ _) ?_
    simp only [go_sem]
    refine awp_nilNew (i := σ.length + 1) 1 (by simp only [go_sem]; rfl) (by simp only [List.length_append, List.length_cons, List.length_nil]; exact nilPg_2 σ.length _ _) ?_
    simp only [go_sem]
    refine awp_then ?_
    simp only [go_sem]
    refine awp_then ?_
    simp only [go_sem]
    refine callN_of (rlines_B' t _ ht) ?_
    rintro r τ ⟨rfl, rfl⟩
    have hll := linesL_len t
    simp only [go_sem, strsB]
    obtain ⟨ls, hls⟩ : ∃ ls, linesL t = ls := ⟨_, rfl⟩
    rw [hls] at hll hres ⊢
    have hwk : ∀ gc gs p, WfH (σ.length + 4) (σ ++ [.row 0 3 [zeroA]] ++ readP σ.length gc gs p) := fun gc gs s o ho => by
      simp only [readP, List.mem_append, List.mem_cons, List.not_mem_nil, or_false] at ho
      rcases ho with (ho | rfl) | rfl | rfl | rfl
      · exact AObj.allI_mono (fun i (hi : i < σ.length) => by show i < σ.length + 4; omega) (hw o ho)
      · exact ⟨⟨trivial, trivial, trivial, trivial⟩, trivial⟩
      · exact ⟨⟨by show σ.length + 2 < _; omega, by show σ.length + 3 < _; omega, trivial, trivial⟩, trivial⟩
      · exact AllIL.mono (fun _ h => h.elim) _ (pure_codeL _)
      · exact AllIL.mono (fun _ h => h.elim) _ (pure_svL _)
    simp only [readP, zeroA, List.append_assoc, List.cons_append, List.nil_append, List.singleton_append] at hwk
    refine loop_junk (X := Nat × Nat × Nat × (Prg × Bool)) (fun x => [(2, ⟨true, .ptr σ.length 0 0 0⟩), (5, ⟨true, .ptr (σ.length + 1) 0 0 0⟩), (6, ⟨true, bv x.2.2.2.2⟩), (22, ⟨true, strsB ls⟩), (23, ⟨true, iv ls.length⟩), (24, ⟨true, iv x.1⟩)])
      (fun x => σ ++ (.row 0 3 [zeroA] :: readP σ.length x.2.1 x.2.2.1 x.2.2.2.1))
      (fun x => x.1 ≤ ls.length ∧ readL 0 ls (zeroP, false) = readL x.1 (ls.drop x.1) x.2.2.2 ∧ x.2.2.2.1.code.length ≤ x.1 ∧ x.2.2.2.1.strs.length ≤ x.1) (fun x => ls.length - x.1) (0, 0, 0, (zeroP, false)) ⟨by simp, by simp, by simp [zeroP], by simp [zeroP]⟩
      (by simp only [go_sem, strsB]; simp) (by simp [readP, zeroP, zeroA]) ?_
    rintro ⟨k, gc, gs, ⟨code, strs, pages⟩, paged⟩ ⟨hk, hr, hcl, hsl⟩
    simp only at hk hr hcl hsl
    by_cases hlt : k < ls.length
    · obtain ⟨x, hx⟩ : ∃ x, ls[k]? = some x := ⟨_, List.getElem?_eq_getElem hlt⟩
      rw [readL_step hx] at hr
      have hxl : x.length < 2^62 := by have := linesL_short t x (by rw [hls]; exact List.mem_of_getElem? hx); omega
      have next : ∀ (gc gs : Nat) (code : List Ins) (strs : List Bytes) (pages : Int) (paged : Bool) (j : Heap), readL 0 ls (zeroP, false) = readL (k + 1) (ls.drop (k + 1)) (⟨code, strs, pages⟩, paged) → code.length ≤ k + 1 → strs.length ≤ k + 1 → ∃ y : Nat × Nat × Nat × (Prg × Bool), ls.length - y.fst < ls.length - k ∧
          (y.fst ≤ ls.length ∧ readL 0 ls (zeroP, false) = readL y.fst (List.drop y.fst ls) y.snd.snd.snd ∧ y.snd.snd.snd.fst.code.length ≤ y.fst ∧ y.snd.snd.snd.fst.strs.length ≤ y.fst) ∧ (paged = y.2.2.2.2 ∧ IntKind.i64.wrap ((k : Int) + 1) = (y.fst : Int)) ∧
          List.take (σ.length + 4) (σ ++ (.row 0 3 [zeroA] :: (readP σ.length gc gs ⟨code, strs, pages⟩ ++ j))) = σ ++ (.row 0 3 [zeroA] :: readP σ.length y.2.1 y.2.2.1 y.2.2.2.1) ∧ (σ.length < σ.length + 4 ∧ σ.length + 1 < σ.length + 4) ∧ WfH (σ.length + 4) (σ ++ (.row 0 3 [zeroA] :: readP σ.length y.2.1 y.2.2.1 y.2.2.2.1)) := by
        intro gc gs code strs pages paged j h1 h2 h3
        refine ⟨(k + 1, gc, gs, ⟨code, strs, pages⟩, paged), by simp only; omega, ⟨by simp only; omega, h1, h2, h3⟩, ⟨rfl, inc k (by omega)⟩, ?_, ⟨by omega, by omega⟩, ?_⟩
        · simp only [readP, List.cons_append, List.nil_append]; exact take_app4
        · have := hwk gc gs ⟨code, strs, pages⟩
          simpa only [readP, zeroA] using this
      simp only [readP, zeroA, List.cons_append, List.nil_append] at next
      by_cases h0 : x = []
      · rw [if_pos (.inl h0)] at hr
        subst h0
        simp only [go_sem, strsB, hlt, hx, readP, zeroA]
        exact next gc gs _ _ _ _ [] hr (by omega) (by omega)
      · have h0' : ¬ (ByteArray.mk x.toArray = ByteArray.mk #[]) := by rw [sv_nil]; exact h0
        have hpos : 0 < x.length := List.length_pos_iff.2 h0
        obtain ⟨c, hc⟩ : ∃ c, x[0]? = some c := ⟨_, List.getElem?_eq_getElem hpos⟩
        by_cases h35 : c.toNat = 35
        · have h35' : (c.toNat : Int) = 35 := by omega
          rw [if_pos (.inr (by rw [hc, UInt8.toNat_inj.1 (show c.toNat = (35 : UInt8).toNat from h35)]))] at hr
          simp only [go_sem, strsB, hlt, hx, readP, zeroA, h0', hc, List.size_toArray, eq_true h35']
          exact ⟨hpos, next gc gs _ _ _ _ [] hr (by omega) (by omega)⟩
        · have h35' : ¬ (c.toNat : Int) = 35 := by omega
          rw [if_neg (by rintro (h | h); exact h0 h; rw [hc] at h; cases h; exact h35 rfl)] at hr
          simp only [go_sem, strsB, hlt, hx, readP, zeroA, h0', hc, List.size_toArray, h35']
          refine ⟨hpos, callN_of (rsplit_B x _ hxl) ?_⟩
          rintro r τ ⟨rfl, rfl⟩
          by_cases he : (splitS x).2 = 0
          · rw [if_neg (by simpa using he)] at hr
            have hne := split_ne h0 he
            have hwl := split_ws_len' x
            have hwb := split_words x
            obtain ⟨w, ws, hws⟩ : ∃ w ws, (splitS x).1 = w :: ws := by
              cases h : (splitS x).1 with
              | nil => exact absurd h hne
              | cons a b => exact ⟨a, b, rfl⟩
            rw [hws] at hr hwl hwb ⊢
            simp only [List.length_cons] at hwl
            have hwn : IntKind.i64.wrap (((ws.length + 1 : Nat) : Int) - 1) = (ws.length : Int) := by rw [wrap_i64 (by omega) (by omega)]; omega
            obtain ⟨la, hla⟩ : ∃ la, (w :: ws)[ws.length]? = some la := ⟨_, List.getElem?_eq_getElem (by simp)⟩
            have hla' : (sv w :: List.map sv ws)[ws.length]? = some (sv la) := by rw [← List.map_cons, List.getElem?_map, hla]; rfl
            have hlal : la.length ≤ 281474976710656 := by have := hwb la (List.mem_of_getElem? hla); omega
            have hlw : ws.length = 1 → la = ws[0]?.getD [] := fun h => by
              match ws, h with
              | [y], _ => simpa using hla.symm
            simp only [go_sem, strsB, eq_true he, hwn, Int.toNat_natCast, hla']
            refine ⟨by omega, callN_of (read_c 110 la _ hlal) ?_⟩
            rintro r τ ⟨rfl, rfl⟩
            obtain ⟨rd, hrd⟩ : ∃ rd, readR (110 : UInt8).toNat la = rd := ⟨_, rfl⟩
            rw [hrd]
            obtain ⟨n, ok⟩ := rd
            simp only [go_sem, strsB]
            refine ⟨by omega, ?_⟩
            have hwcs : IntKind.i64.wrap ((strs.length : Int) + code.length) = (strs.length : Int) + code.length := wrap_i64 (by omega) (by omega)
            have lenz : ∀ {α : Type} (l : List α), (l.length : Int) = 0 ↔ l = [] := fun l => by rw [← List.length_eq_zero_iff]; omega
            by_cases hP : isPages (⟨code, strs, pages⟩, paged) w ws
            · have hP' := hP
              obtain ⟨h1, h2, h3, h4, h5, h6⟩ := hP'
              simp only at h4 h5 h6
              rw [take_pages hP] at hr
              simp only at hr
              have hla2 := hlw h2
              rw [← hla2] at h3 hr
              have hrd' : readR 110 la = (n, ok) := hrd
              rw [hrd'] at h3 hr
              simp only at h3 hr
              rw [if_pos ⟨⟨⟨⟨by rw [h1], by omega⟩, h3⟩, h4⟩, by rw [hwcs, h5, h6]; rfl⟩]
              exact next gc gs code strs n true [] hr (by omega) (by omega)
            · rw [if_neg (by
                rintro ⟨⟨⟨⟨h1, h2⟩, h3⟩, h4⟩, h5⟩
                have h1 : w = [112, 97, 103, 101, 115] := (svb_inj w [112, 97, 103, 101, 115]).mp h1
                rw [hwcs] at h5
                refine hP ⟨h1, by omega, ?_, h4, (lenz strs).1 (by omega), (lenz code).1 (by omega)⟩
                rw [← hlw (by omega), show readR 110 la = (n, ok) from hrd]
                exact h3)]
              refine ⟨by omega, ?_⟩
              by_cases hS : isString (⟨code, strs, pages⟩, paged) w ws
              · have hS' := hS
                obtain ⟨h1, h2, h3⟩ := hS'
                simp only at h3
                rw [take_string hS] at hr
                simp only at hr
                rw [if_pos ⟨⟨by rw [h1], by omega⟩, by rw [h3]; rfl⟩]
                obtain ⟨y, rfl⟩ : ∃ y, ws = [y] := List.length_eq_one_iff.1 h2
                simp only [List.getElem?_cons_zero, Option.getD_some] at hr
                refine awp_draw Tryz.mixed (by kernel_rfl) ?_
                simp only [go_sem, strsB, List.map_cons, List.map_nil]
                have hN := next gc (gs + 1) code (strs ++ [y]) pages paged [.row 0 1 [sv y], .hole] hr (by omega) (by simp; omega)
                simp only [List.length_append, List.length_singleton, List.map_append, List.map_cons, List.map_nil] at hN
                refine ⟨by decide, ⟨by omega, by omega⟩, ?_⟩
                exact hN
              · rw [if_neg (by
                  rintro ⟨⟨h1, h2⟩, h3⟩
                  have h1 : w = [115, 116, 114, 105, 110, 103] := (svb_inj w [115, 116, 114, 105, 110, 103]).mp h1
                  exact hS ⟨h1, by omega, (lenz code).1 h3⟩)]
                rw [take_else hP hS] at hr
                refine callN_of (rinstr_c w ws _ (by omega) (fun v hv => by have := hwb v (List.mem_cons_of_mem _ hv); omega)) ?_
                rintro r τ ⟨rfl, rfl⟩
                obtain ⟨ri, hri⟩ : ∃ ri, insA (w :: ws) = ri := ⟨_, rfl⟩
                rw [hri] at hr ⊢
                obtain ⟨⟨xo, xa, xb, xc⟩, okI⟩ := ri
                cases okI with
                | false =>
                  simp only [Bool.false_eq_true, if_false] at hr
                  rw [hr] at hres
                  simp only [go_sem, strsB, insAV]
                  exact fin0 _ _ _ (by rw [← hres, inc k (by omega)]; rfl)
                | true =>
                  simp only [if_true] at hr
                  simp only [go_sem, strsB, insAV]
                  have tk : List.take code.length (List.map Ins.av code) ++ [AV.agg [iv xo, iv xa, iv xb, iv xc]] = List.map Ins.av (code ++ [⟨xo, xa, xb, xc⟩]) := by rw [List.take_of_length_le (by simp), List.map_append]; rfl
                  have hN := next (gc + 1) gs (code ++ [⟨xo, xa, xb, xc⟩]) strs pages paged [.row 0 4 [.agg [iv xo, iv xa, iv xb, iv xc]], .row 0 4 [.agg [iv xo, iv xa, iv xb, iv xc]]] hr (by simp; omega) (by omega)
                  rw [← tk] at hN
                  simp only [List.length_append, List.length_singleton] at hN
                  exact ⟨⟨by omega, by omega⟩, hN⟩
          · rw [if_pos he] at hr
            rw [hr] at hres
            simp only [go_sem, strsB, he]
            exact fin0 _ _ _ (by rw [← hres, inc k (by omega)]; rfl)
    · obtain rfl : k = ls.length := by omega
      rw [List.drop_length, readL] at hr
      rw [hr] at hres
      simp only at hres
      simp only [go_sem, strsB, hlt, readP, zeroA]
      refine awp_then ?_
      simp only [go_sem]
      have ec : code.length = (List.map Ins.av code).length := by rw [List.length_map]
      have es : strs.length = (List.map sv strs).length := by rw [List.length_map]
      have tc : List.take code.length (List.map Ins.av code) = List.map Ins.av code := List.take_of_length_le (by simp)
      have ts : List.take strs.length (List.map sv strs) = List.map sv strs := List.take_of_length_le (by simp)
      refine callN_of (acalls_lend (args' := [Prg.av ⟨code, strs, pages⟩]) (R := fun r σ' => r = .tup [iv (checkS ⟨code, strs, pages⟩).1, iv (checkS ⟨code, strs, pages⟩).2] ∧ σ' = (σ ++ [.row 0 3 [.agg [.v (.slice none 0 0), .v (.slice none 0 0), iv 0]], .row 0 3 [.agg [.os (σ.length + 2) gc 0 code.length, .os (σ.length + 3) gs 0 strs.length, iv pages]], .row gc 4 (code.map Ins.av), .row gs 1 (strs.map sv)])) ?_ ?_) ?_
      · rw [ec, es]
        refine lend_frz (i := σ.length + 2) (g := gc) (e := 4) (es := code.map Ins.av) (by simp only [go_sem]) ?_
        simp only [frzL, frz, go_sem, tc]
        refine lend_frz (i := σ.length + 3) (g := gs) (e := 1) (es := strs.map sv) (by simp only [go_sem]) ?_
        simp only [frzL, frz, go_sem, ts]
        exact lend_pure (args := [Prg.av ⟨code, strs, pages⟩]) ⟨⟨pure_codeL _, pure_svL _, trivial, trivial⟩, trivial⟩
      · refine (rcheck_c ⟨code, strs, pages⟩ [] (by simp only; omega) (by simp only; omega)).mono ?_
        rintro r σ' ⟨rfl, rfl⟩
        exact ⟨rfl, rfl, rfl⟩
      · rintro r τ ⟨rfl, rfl⟩
        by_cases hok : (checkS ⟨code, strs, pages⟩).2 = 0
        · rw [if_pos hok] at hres
          simp only [go_sem, eq_true hok]
          refine vcode_sound _ ?_
          simp only [go_sem]
          refine retOK_frz (i := σ.length + 2) (g := gc) (e := 4) (es := code.map Ins.av) (by simp only [go_sem]) ?_
          rw [ec, es]
          simp only [frzL, frz, go_sem, tc]
          refine retOK_frz (i := σ.length + 3) (g := gs) (e := 1) (es := strs.map sv) (by simp only [go_sem]) ?_
          simp only [frzL, frz, go_sem, ts]
          subst hres
          exact retOK_app hw (by simp only [go_sem]) ⟨rfl, rfl⟩
        · rw [if_neg hok] at hres
          simp only [go_sem, hok]
          exact fin0 _ _ _ hres.symm
end Go.Proofs.YtdlekkhjkcbbnaaGreatDoor
set_option linter.unusedVariables false
set_option linter.unusedSimpArgs false
set_option linter.unusedSectionVars false
namespace Go.Ab
open Go Go.Lib
variable [GlobFacts]
/-- The bytes of a string, as a new row. -/
theorem aop_strBytes {P : Program} {N : Nat} {o : POp} {E : Env} {σ : Heap} {K : Env → Heap → Prop} {src dst e : TypeId} {ts td te : TI} {x : Operand} {s : ByteArray} (hg : gcond E o = some true) (ho : o.op = .convert src dst x) (hts : tinf P src = some ts) (htd : tinf P dst = some td) (hk : td.kind = .sl e)
    (hte : tinf P e = some te) (hke : te.kind = .int .u8) (hx : (lk E x).a = .v (.string s)) (hs : opsC E o.op.operands.toList) (hK : putK N o.dst ⟨true, .os σ.length 0 0 s.data.toList.length⟩ K E (σ ++ [.row 0 1 (s.data.toList.map byteV)])) : AOp P N o E σ K := by
  intro a w ρ hst
  rw [gcond_sound hst hg]
  have hc := opsC_iff.1 hs
  have hx' := hst.val x (hc x (by simp [ho, Op.operands]))
  rw [hx] at hx'
  simp only [Rep] at hx'
  obtain ⟨d1, hu1, _, _⟩ := tinf_underlying hts w
  obtain ⟨d2, hu2, hd2, _⟩ := tinf_underlying htd w
  obtain ⟨d3, hu3, hd3, _⟩ := tinf_underlying hte w
  have e2 := tk_sl (hd2.symm.trans hk); subst e2
  have e3 := tk_int (hd3.symm.trans hke); subst e3
  have hconv := Go.Lib.run_convert_string_bytes (P := P) w src dst e s hu1 hu2 hu3
  have hsz : s.data.toList.length = s.size := by rw [Array.length_toList]; rfl
  have hge := grownCap_ge w s.size 0 e
  obtain ⟨xs, hxs⟩ : ∃ xs : List Value, s.data.toList.map (fun b => Value.int .u8 b.toNat) = xs := ⟨_, rfl⟩
  obtain ⟨ys, hys⟩ : ∃ ys : List Value, List.replicate (grownCap w s.size 0 e - s.size) (.int .u8 0) = ys := ⟨_, rfl⟩
  have hcells : bytesCells w e s = (xs ++ ys).toArray := by
    rw [← hxs, ← hys]
    unfold bytesCells
    apply Array.ext'
    simp
  have hlen : (xs ++ ys).length = grownCap w s.size 0 e := by rw [← hxs, ← hys]; simp; omega
  obtain ⟨h5, h6, h7⟩ := hst.heap.newRow 1 (s.data.toList.map byteV) xs ys e ((xs ++ ys).length, (xs ++ ys).length + 1) (fun off ho => by simp only; omega) (by rw [← hxs]; exact repE_bytes _)
  have hw : ∀ b : Nat, (bytesWorld w e s).heap[b]? = (w.alloc (.cells (xs ++ ys).toArray e ((xs ++ ys).length, (xs ++ ys).length + 1))).heap[b]? := fun b => by
    rcases Nat.lt_trichotomy b w.heap.size with h | h | h
    · rw [bytesWorld_at_old w e s b h, RowKit.Below.heap_alloc w _ b h]
    · subst h
      rw [bytesWorld_at_new, hcells]
      show _ = (w.heap.push _)[w.heap.size]?
      simp
    · rw [Array.getElem?_eq_none (by rw [bytesWorld_size]; omega)]
      show _ = (w.heap.push _)[b]?
      rw [Array.getElem?_eq_none (by simp; omega)]
  have hos : (bytesWorld w e s).os = w.os := by simp [bytesWorld, World.freeze, World.alloc, World.drew, -World.alloc_eq, -World.drew_eq]
  have hout : (bytesWorld w e s).output = w.output := by simp [bytesWorld, World.freeze, World.alloc, World.drew, -World.alloc_eq, -World.drew_eq]
  have htr : Tr w (lm σ ρ) (bytesWorld w e s) (lm (σ ++ [.row 0 1 (s.data.toList.map byteV)]) (ρ ++ [some (w.heap.size, (xs ++ ys).length)])) :=
    ⟨hos, hout, by rw [bytesWorld_size]; omega, fun b hb ho => by rw [hw]; exact h6.keep b hb ho, h6.own, h6.loc⟩
  have htr2 : Tr (w.alloc (.cells (xs ++ ys).toArray e ((xs ++ ys).length, (xs ++ ys).length + 1))) (lm (σ ++ [.row 0 1 (s.data.toList.map byteV)]) (ρ ++ [some (w.heap.size, (xs ++ ys).length)])) (bytesWorld w e s) (lm (σ ++ [.row 0 1 (s.data.toList.map byteV)]) (ρ ++ [some (w.heap.size, (xs ++ ys).length)])) :=
    ⟨by rw [hos]; rfl, by rw [hout]; rfl, by rw [bytesWorld_size]; show (w.heap.push _).size ≤ _; simp, fun b hb ho => hw b, fun _ h => .inl h, fun _ _ _ _ => .inl rfl⟩
  have hh : HeapOK (bytesWorld w e s) (σ ++ [.row 0 1 (s.data.toList.map byteV)]) (ρ ++ [some (w.heap.size, (xs ++ ys).length)]) :=
    ⟨h5.len, fun i o r ho hr => (h5.obj i o r ho hr).trV htr2 (by
      cases o with
      | dead g => trivial
      | hole => trivial
      | row g e es => exact AllIL.all (fun _ => trivial) es
      | tro g t e es => exact AllIL.all (fun _ => trivial) es
      | it g s n => trivial
      | map g es => exact fun x _ => AllI.all (fun _ => trivial) x.2) (fun b s _ => hw b), h5.inj, h5.glob.tr htr2⟩
  have hrun : (execOp a.eval o.oper).run P w = .ok (.value (.slice (some ⟨w.heap.size, 0, none⟩) s.size (grownCap w s.size 0 e))) (bytesWorld w e s) := by
    simp [execOp, POp.oper, ho, hx', hconv]
  simp only [if_true, Oper.wp, hrun, Oper.upon]
  refine OpQ.of hst (Tr.refl _ _) htr hh ?_ hK
  simp only [EV.ok, if_true, Rep, h7, osAt, hsz]
  exact .inl ⟨_, by simp, hge, by rw [hlen]; omega⟩
end Go.Ab
set_option maxRecDepth 8000
set_option maxHeartbeats 4000000
namespace Go.Proofs.YtdlekkhjkcbbnaaGreatDoor
open Go.Ab Go.Id Go.Wo Go

theorem format_ok {p : Prg} (h : OkP p) : formatP p = (textS p, 0) := by
  unfold formatP
  rw [checkS_ok h]; rfl
theorem check_cnt {p : Prg} (h : (checkS p).2 = 0) : Cnt p := by
  unfold checkS at h
  by_cases h1 : 256 < p.code.length ∨ 32 < p.strs.length ∨ (p.strs.any fun s => decide (128 < s.length)) = true
  · rw [if_pos h1] at h; simp at h
  · exact ⟨by omega, by omega⟩
theorem parse_cnt (t : Bytes) : Cnt (parseS t).1 := by
  have hz : Cnt zeroP := ⟨by decide, by decide⟩
  unfold parseS
  split
  · exact hz
  · split
    · exact hz
    · split
      · rename_i h; exact check_cnt h
      · exact hz

theorem parses_c (raw seeds : Bytes) (at' : Int) (by' : UInt8) (σ : Heap) (hs : seeds.length < 2^62) (ha : 0 ≤ at' ∧ at' ≤ 65535) :
    ACalls Tryz.prog 4 [sv raw, .sl 1 (seeds.map byteV), .v (.int .u16 at'), .v (.int .u8 by'.toNat)] σ (fun r σ' => r = bv true ∧ σ' = σ) := by
  refine acalls_awp Tryz.func4 rfl Tryz.call4 Tryz.ntmps4 Tryz.results4 (Nat.le_of_ble_eq_true rfl) fun hw => ?_
  refine awp_then ?_
  simp only [go_sem]
  refine awp_then ?_
  simp only [go_sem]
  refine callN_of (saneC_c _) ?_
  rintro r σ ⟨rfl, rfl⟩
  simp only [go_sem]
  refine awp_then ?_
  simp only [go_sem]
  by_cases hraw : 3000 < raw.length
  · have hraw' : (3000 : Int) < (raw.length : Int) := by omega
    simp only [go_sem, List.size_toArray, eq_true hraw']
    exact retOK_same hw trivial ⟨rfl, rfl⟩
  · have hraw' : ¬ (3000 : Int) < (raw.length : Int) := by omega
    simp only [go_sem, List.size_toArray, hraw']
    refine awp_then ?_
    simp only [go_sem]
    refine callN_of (made_c seeds _ hs) ?_
    rintro r σ ⟨p, ⟨hp, _⟩, rfl, rfl⟩
    simp only [go_sem]
    have hlen := textS_len hp
    have hf := rformatP_c p σ (by have := hp.code; omega) (by have := hp.strs; omega)
    rw [format_ok hp] at hf
    obtain ⟨t, ht⟩ : ∃ t, textS p = t := ⟨_, rfl⟩
    rw [ht] at hf hlen
    refine callN_of hf ?_
    rintro r σ ⟨rfl, rfl⟩
    simp only [go_sem]
    refine awp_then ?_
    simp only [go_sem]
    refine aop_strBytes (s := ⟨t.toArray⟩) rfl rfl Tryz.ty9 Tryz.ty26 rfl Tryz.ty5 rfl rfl (by simp only [go_sem]) ?_
    simp only [go_sem, List.toList_toArray]
    refine awp_meet (T := Bytes) (fun q => [(0, ⟨true, sv raw⟩), (9, ⟨true, sv t⟩), (11, ⟨true, .os σ.length 0 0 q.length⟩)]) (fun q => σ ++ [.row 0 1 (q.map byteV)]) (fun q => q.length = t.length) ?_ ?_
    · by_cases h0 : (0 : Int) < t.length
      · simp only [go_sem, eq_true h0]
        have h0' : 0 < t.length := by omega
        obtain ⟨k, hk⟩ : ∃ k, at'.toNat % t.length = k := ⟨_, rfl⟩
        have hkl : k < t.length := by rw [← hk]; exact Nat.mod_lt _ h0'
        obtain ⟨c, hc⟩ : ∃ c, t[k]? = some c := ⟨_, List.getElem?_eq_getElem hkl⟩
        have hwa : IntKind.i64.wrap at' = at' := wrap_i64 (by omega) (by omega)
        have hrem : at'.tmod (t.length : Int) = (k : Int) := by
          obtain ⟨m, rfl⟩ : ∃ m : Nat, at' = m := ⟨at'.toNat, by omega⟩
          rw [Int.tmod_eq_emod_of_nonneg (by omega), ← hk]
          rfl
        have hcb := c.toNat_lt
        have hbb := by'.toNat_lt
        have hwb : IntKind.u8.wrap ((c.toNat : Int) + by'.toNat) = ((c + by').toNat : Int) := by
          rw [UInt8.toNat_add]
          simp only [IntKind.wrap, IntKind.bits, IntKind.signed]
          simp
        have hset : ∀ y : UInt8, (List.map byteV t).set k (.v (.int .u8 y.toNat)) = List.map byteV (t.set k y) := fun y => by rw [List.map_set]; rfl
        simp only [go_sem, byteV, hwa, hrem, hc, hwb, hset, Int.toNat_natCast]
        refine ⟨by omega, hkl, hkl, hkl, hkl, t.set k (c + by'), List.length_set, ?_⟩
        rw [List.length_set]
        exact ⟨rfl, rfl⟩
      · simp only [go_sem, h0]
        exact ⟨t, rfl, rfl, rfl⟩
    rintro q hq
    refine awp_then ?_
    simp only [go_sem, bytesOf_map]
    obtain ⟨xl, hxl⟩ : ∃ xl : List Bytes, [raw, t, q] = xl := ⟨_, rfl⟩
    have hx3 : xl.length = 3 := by rw [← hxl]; rfl
    have hx : ∀ x ∈ xl, x.length ≤ 33000 := by
      intro x hx
      rw [← hxl] at hx
      simp only [List.mem_cons, List.not_mem_nil, or_false] at hx
      rcases hx with rfl | rfl | rfl <;> omega
    have hwk : WfH (σ.length + 2) (σ ++ [.row 0 1 (q.map byteV), .row 0 1 (xl.map sv)]) := wfH_row2 hw (pureL_map (f := byteV) (fun _ => trivial) q) (pure_svL _)
    refine loop_junk (X := Nat) (fun k => [(51, ⟨true, .os (σ.length + 1) 0 0 3⟩), (52, ⟨true, iv (3 : Nat)⟩), (53, ⟨true, iv k⟩)])
      (fun _ => σ ++ [.row 0 1 (q.map byteV), .row 0 1 (xl.map sv)]) (fun k => k ≤ 3) (fun k => 3 - k) 0 (by decide) (by simp only [go_sem]; simp) (by rw [← hxl]; rfl) ?_
    rintro k hk
    by_cases hlt : k < 3
    · obtain ⟨x, hg⟩ : ∃ x, xl[k]? = some x := ⟨_, List.getElem?_eq_getElem (by omega)⟩
      have hxb := hx x (List.mem_of_getElem? hg)
      have hlt' : (k : Int) < 3 := by omega
      have hk0 : (0 : Int) ≤ k := by omega
      simp only [go_sem, Int.cast_ofNat_Int, eq_true hlt', eq_true hk0, hlt, hg]
      have hkx : k < xl.length := by omega
      have hpc := parse_cnt x
      have h1 := parse_c x (σ ++ [.row 0 1 (q.map byteV), .row 0 1 (xl.map sv)]) (by omega)
      have h2 := rparse_c x (σ ++ [.row 0 1 (q.map byteV), .row 0 1 (xl.map sv), .row 0 3 [(parseS x).1.av]]) (by omega)
      obtain ⟨⟨⟨pc, ps, pp⟩, pi, pe⟩, hpx⟩ : ∃ r, parseS x = r := ⟨_, rfl⟩
      rw [hpx] at h1 h2 hpc
      refine ⟨hkx, callN_of h1 ?_⟩
      rintro r τ ⟨rfl, rfl⟩
      simp only [go_sem, Prg.av, codeAV, strsB]
      refine callN_of h2 ?_
      rintro r τ ⟨rfl, rfl⟩
      simp only [go_sem, Prg.av, codeAV, strsB]
      refine callG_of (bv true) (fun _ => by have := rsameC_c ⟨pc, ps, pp⟩ ⟨pc, ps, pp⟩ (σ ++ [.row 0 1 (q.map byteV), .row 0 1 (xl.map sv), .row 0 3 [Prg.av ⟨pc, ps, pp⟩], .row 0 3 [Prg.av ⟨pc, ps, pp⟩]]) hpc hpc; rw [decide_eq_true rfl] at this; exact this) ?_
      simp only [go_sem, Prg.av, codeAV, strsB]
      exact ⟨k + 1, by omega, by omega, inc k (by omega), take_app2, by omega, hwk⟩
    · obtain rfl : k = 3 := by omega
      have hlt' : ¬ ((3 : Nat) : Int) < 3 := by omega
      simp only [go_sem, hlt']
      refine vcode_sound _ ?_
      simp only [go_sem]
      exact retOK_app hw trivial ⟨rfl, rfl⟩
end Go.Proofs.YtdlekkhjkcbbnaaGreatDoor
