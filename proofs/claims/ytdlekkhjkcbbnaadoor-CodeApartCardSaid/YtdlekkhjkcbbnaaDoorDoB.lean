/-
  Contract: CodeApart.
-/
import Derived.Test.YtdlekkhjkcbbnaaDoorCoY
import Derived.Test.YtdlekkhjkcbbnaaDoorCoQ
set_option linter.unusedVariables false
set_option linter.unusedSimpArgs false
set_option maxRecDepth 8000
set_option maxHeartbeats 4000000
namespace Go.Proofs.YtdlekkhjkcbbnaaDoor
open Go.Ab Go.Id Go.Wo Go

theorem cnt_ok {p : Prg} (h : OkP p) : Cnt p := ⟨by have := h.code; omega, by have := h.strs; omega⟩
theorem format_ok {p : Prg} (h : OkP p) : formatP p = (textS p, 0) := by
  unfold formatP
  rw [checkS_ok h]; rfl

theorem set_right {x : Ins} {len : Int} (h : rightS x len = true) (ho : x.op = 1) (hb : x.b ≤ 1000) (k : Nat) (hk : k ≤ 255) : rightS ⟨x.op, x.a, x.b + k, x.c⟩ len = true := by
  obtain ⟨o, a, b, c⟩ := x
  simp only at ho hb
  subst ho
  simp [rightS, letsS, formsB, opsOK, Ins.nums, fitsS] at h ⊢
  omega
theorem set_ok {code : List Ins} {strs : List Bytes} {pages : Int} (h : OkP ⟨code, strs, pages⟩) (hb : ∀ x ∈ code, x.b ≤ 1000) {i : Nat} {x : Ins} (hx : code[i]? = some x) (ho : x.op = 1) (k : Nat) (hk : k ≤ 255) :
    OkP ⟨code.set i ⟨x.op, x.a, x.b + k, x.c⟩, strs, pages⟩ := by
  obtain ⟨h1, h2, h3, h4, h5⟩ := h
  simp only at h1 h2 h3 h4 h5
  refine ⟨by simpa using h1, h2, h3, h4, fun y hy => ?_⟩
  simp only [List.length_set]
  rcases List.mem_or_eq_of_mem_set hy with hy | rfl
  · exact h5 y hy
  · exact set_right (h5 x (List.mem_of_getElem? hx)) ho (hb x (List.mem_of_getElem? hx)) k hk
theorem text_iff {p q : Prg} (hp : OkP p) (hq : OkP q) : decide (textS p = textS q) = decide (p = q) := by
  by_cases h : p = q
  · subst h; simp
  · have : ¬ textS p = textS q := fun h' => h (textS_inj hp hq h')
    simp [h, this]

theorem apart_c (a b : Bytes) (at' by' : UInt8) (σ : Heap) (ha : a.length < 2^62) (hb : b.length < 2^62) :
    ACalls Tryd.prog 5 [.sl 1 (a.map byteV), .sl 1 (b.map byteV), .v (.int .u8 at'.toNat), .v (.int .u8 by'.toNat)] σ (fun r σ' => r = bv true ∧ σ' = σ) := by
  refine acalls_awp Tryd.func5 rfl Tryd.call5 Tryd.ntmps5 Tryd.results5 (Nat.le_of_ble_eq_true rfl) fun hw => ?_
  refine awp_then ?_
  simp only [go_sem]
  refine awp_then ?_
  simp only [go_sem]
  refine callN_of (saneC_c _) ?_
  rintro r σ ⟨rfl, rfl⟩
  simp only [go_sem]
  refine awp_then ?_
  simp only [go_sem]
  refine callN_of (made_c a _ ha) ?_
  rintro r σ ⟨p, ⟨hp, hpb⟩, rfl, rfl⟩
  simp only [go_sem]
  refine callN_of (made_c b _ hb) ?_
  rintro r σ ⟨q, ⟨hq, hqb⟩, rfl, rfl⟩
  have hpl := hp.code
  have hps := hp.strs
  have hcp := cnt_ok hp
  have hcq := cnt_ok hq
  obtain ⟨code, strs, pages⟩ := p
  obtain ⟨qc, qs, qp⟩ := q
  simp only at hpl hps hpb
  simp only [go_sem, Prg.av, codeAV, strsB]
  refine awp_then ?_
  simp only [go_sem]
  refine awp_then ?_
  simp only [go_sem]
  refine ⟨⟨by omega, by omega⟩, ?_⟩
  refine awp_meet (T := List Ins) (fun _ => [(9, ⟨true, .ptr σ.length 0 0 0⟩), (10, ⟨true, .ptr (σ.length + 1) 0 0 0⟩), (11, ⟨true, .ptr (σ.length + 2) 0 0 0⟩)])
    (fun t => σ ++ [.row 0 3 [.agg [.sl 4 (List.map Ins.av code), .sl 1 (List.map sv strs), iv pages]], .row 0 3 [.agg [.sl 4 (List.map Ins.av qc), .sl 1 (List.map sv qs), iv qp]],
      .row 0 3 [.agg [.os (σ.length + 3) 0 0 t.length, .sl 1 (List.map sv strs), iv pages]], .row 0 4 (List.map Ins.av t)]) (fun t => OkP ⟨t, strs, pages⟩) ?_ ?_
  · by_cases hc0 : (0 : Int) < code.length
    · simp only [go_sem, eq_true hc0]
      have hcp : 0 < code.length := by omega
      obtain ⟨k, hkk⟩ : ∃ k, at'.toNat % code.length = k := ⟨_, rfl⟩
      have hkl : k < code.length := by rw [← hkk]; exact Nat.mod_lt _ hcp
      obtain ⟨⟨xo, xa, xb, xc⟩, hg⟩ : ∃ x, code[k]? = some x := ⟨_, List.getElem?_eq_getElem hkl⟩
      have hatb := at'.toNat_lt
      have hbyb := by'.toNat_lt
      have hwa : IntKind.i64.wrap (at'.toNat : Int) = at'.toNat := wrap_i64 (by omega) (by omega)
      have hwb : IntKind.i64.wrap (by'.toNat : Int) = by'.toNat := wrap_i64 (by omega) (by omega)
      have hrem : (at'.toNat : Int).tmod (code.length : Int) = (k : Int) := by rw [u8_rem _ _ hcp, hkk]
      have hne0 : ((code.length : Int) ≠ 0) := by omega
      have hk0 : (0 : Int) ≤ k := by omega
      have hk1 : (k : Int) < (code.length : Int) := by omega
      refine awp_draw Tryd.mixed (by kernel_rfl) ?_
      simp only [go_sem, hwa, hwb, hrem, hg, insAV, Int.cast_ofNat_Int, Int.reduceEq]
      refine ⟨hne0, hkl, ?_⟩
      by_cases ho : xo = 1
      · simp only [go_sem, hwa, hwb, hrem, hg, insAV, eq_true ho]
        have hr := right_okN (by show ((code.length : Nat) : Int) ≤ 256; omega) (hp.right _ (List.mem_of_getElem? hg))
        have hxb : okN xb := hr.2 xb (by simp [Ins.nums])
        unfold okN at hxb
        rw [show IntKind.i64.wrap (xb + (by'.toNat : Int)) = xb + (by'.toNat : Int) from wrap_i64 (by omega) (by omega)]
        refine ⟨hkl, hkl, hkl, code.set k ⟨xo, xa, xb + by'.toNat, xc⟩, set_ok (x := ⟨xo, xa, xb, xc⟩) hp hpb hg ho by'.toNat (by omega), ?_⟩
        rw [List.length_set, List.map_set]
        rfl
      · simp only [go_sem, hwa, hwb, hrem, hg, insAV, ho]
        exact ⟨hkl, code, hp, rfl⟩
    · simp only [go_sem, hc0]
      exact ⟨code, hp, rfl⟩
  rintro rc hr
  have tc : List.take rc.length (List.map Ins.av rc) = List.map Ins.av rc := List.take_of_length_le (by simp)
  have hcr := cnt_ok hr
  refine awp_frzH (k := 3) hw rfl ?_
  simp only [frzE, frzO, frz, frzL, go_sem, List.map_cons, List.map_nil, tc]
  refine awp_then ?_
  simp only [go_sem]
  have f1 := format_c ⟨code, strs, pages⟩ (σ ++ [.row 0 3 [.agg [.sl 4 (List.map Ins.av code), .sl 1 (List.map sv strs), iv pages]], .row 0 3 [.agg [.sl 4 (List.map Ins.av qc), .sl 1 (List.map sv qs), iv qp]],
      .row 0 3 [.agg [.sl 4 (List.map Ins.av rc), .sl 1 (List.map sv strs), iv pages]], .dead 0]) hcp.1 hcp.2
  have f2 := format_c ⟨qc, qs, qp⟩ (σ ++ [.row 0 3 [.agg [.sl 4 (List.map Ins.av code), .sl 1 (List.map sv strs), iv pages]], .row 0 3 [.agg [.sl 4 (List.map Ins.av qc), .sl 1 (List.map sv qs), iv qp]],
      .row 0 3 [.agg [.sl 4 (List.map Ins.av rc), .sl 1 (List.map sv strs), iv pages]], .dead 0]) hcq.1 hcq.2
  have f3 := format_c ⟨rc, strs, pages⟩ (σ ++ [.row 0 3 [.agg [.sl 4 (List.map Ins.av code), .sl 1 (List.map sv strs), iv pages]], .row 0 3 [.agg [.sl 4 (List.map Ins.av qc), .sl 1 (List.map sv qs), iv qp]],
      .row 0 3 [.agg [.sl 4 (List.map Ins.av rc), .sl 1 (List.map sv strs), iv pages]], .dead 0]) hcr.1 hcr.2
  rw [format_ok hp] at f1
  rw [format_ok hq] at f2
  rw [format_ok hr] at f3
  have i1 := text_iff hp hq
  have i2 := text_iff hp hr
  generalize textS ⟨code, strs, pages⟩ = t1 at f1 i1 i2
  generalize textS ⟨qc, qs, qp⟩ = t2 at f2 i1
  generalize textS ⟨rc, strs, pages⟩ = t3 at f3 i2
  refine callN_of f1 ?_
  rintro r τ ⟨rfl, rfl⟩
  simp only [go_sem, Prg.av, codeAV, strsB]
  refine awp_then ?_
  simp only [go_sem]
  refine callN_of f2 ?_
  rintro r τ ⟨rfl, rfl⟩
  simp only [go_sem, Prg.av, codeAV, strsB]
  refine awp_then ?_
  simp only [go_sem]
  refine callN_of f3 ?_
  rintro r τ ⟨rfl, rfl⟩
  simp only [go_sem, Prg.av, codeAV, strsB]
  refine awp_then ?_
  refine awp_draw Tryd.mixed (by kernel_rfl) ?_
  simp only [go_sem, Prg.av, codeAV, strsB, abinT, Int.cast_ofNat_Int, Int.reduceEq]
  have j0 : ∀ s t : Bytes, decide (({ data := s.toArray } : ByteArray) = { data := t.toArray }) = decide (s = t) := fun s t => by
    by_cases h : s = t
    · subst h; simp
    · have : ¬ (({ data := s.toArray } : ByteArray) = { data := t.toArray }) := fun h' => h (by simpa using congrArg (fun x => x.data.toList) h')
      simp [h, this]
  have j1 := (j0 t1 t2).trans i1
  have j2 := (j0 t1 t3).trans i2
  have k3 : decide ((⟨qc, qs, qp⟩ : Prg) = ⟨code, strs, pages⟩) = decide ((⟨code, strs, pages⟩ : Prg) = ⟨qc, qs, qp⟩) := decide_eq_decide.2 ⟨Eq.symm, Eq.symm⟩
  obtain ⟨x1, k1⟩ : ∃ x, decide ((⟨code, strs, pages⟩ : Prg) = ⟨qc, qs, qp⟩) = x := ⟨_, rfl⟩
  obtain ⟨x2, k2⟩ : ∃ x, decide ((⟨code, strs, pages⟩ : Prg) = ⟨rc, strs, pages⟩) = x := ⟨_, rfl⟩
  rw [k1] at k3 j1
  rw [k2] at j2
  refine callD_of (bv x1) (fun _ σ' => by have := sameC_c ⟨code, strs, pages⟩ ⟨qc, qs, qp⟩ σ' hcp hcq; rw [k1] at this; exact this) ?_
  simp only [go_sem, Prg.av, codeAV, strsB, abinT, Int.cast_ofNat_Int, Int.reduceEq, j1, j2, decide_true]
  refine callD_of (bv x2) (fun _ σ' => by have := sameC_c ⟨code, strs, pages⟩ ⟨rc, strs, pages⟩ σ' hcp hcr; rw [k2] at this; exact this) ?_
  simp only [go_sem, Prg.av, codeAV, strsB, abinT, Int.cast_ofNat_Int, Int.reduceEq, j1, j2, decide_true]
  refine callD_of (bv x1) (fun _ σ' => by have := sameC_c ⟨code, strs, pages⟩ ⟨qc, qs, qp⟩ σ' hcp hcq; rw [k1] at this; exact this) ?_
  simp only [go_sem, Prg.av, codeAV, strsB, abinT, Int.cast_ofNat_Int, Int.reduceEq, j1, j2, decide_true]
  refine callD_of (bv x1) (fun _ σ' => by have := sameC_c ⟨qc, qs, qp⟩ ⟨code, strs, pages⟩ σ' hcq hcp; rw [k3] at this; exact this) ?_
  simp only [go_sem, Prg.av, codeAV, strsB, abinT, Int.cast_ofNat_Int, Int.reduceEq, j1, j2, decide_true]
  refine vcode_sound _ ?_
  simp only [go_sem]
  exact retOK_app hw trivial ⟨rfl, rfl⟩
end Go.Proofs.YtdlekkhjkcbbnaaDoor
