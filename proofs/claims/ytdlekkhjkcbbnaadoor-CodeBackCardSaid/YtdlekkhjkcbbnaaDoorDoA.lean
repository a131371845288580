/-
  Contract: CodeBack.
-/
import Derived.Test.YtdlekkhjkcbbnaaDoorCoY
import Derived.Test.YtdlekkhjkcbbnaaDoorCoQ
set_option linter.unusedVariables false
set_option linter.unusedSimpArgs false
set_option maxRecDepth 8000
set_option maxHeartbeats 4000000
namespace Go.Proofs.YtdlekkhjkcbbnaaDoor
open Go.Ab Go.Id Go.Wo Go

theorem cnt_ok {p : Prg} (h : OkP p) : Cnt p := ⟨by have := h.code; omega, by have := h.strs; omega⟩
theorem format_ok {p : Prg} (h : OkP p) : formatP p = (textS p, 0) := by
  unfold formatP
  rw [checkS_ok h]; rfl

theorem back_c (l : Bytes) (σ : Heap) (hs : l.length < 2^62) :
    ACalls Tryd.prog 3 [.sl 1 (l.map byteV)] σ (fun r σ' => r = bv true ∧ σ' = σ) := by
  refine acalls_awp Tryd.func3 rfl Tryd.call3 Tryd.ntmps3 Tryd.results3 (Nat.le_of_ble_eq_true rfl) fun hw => ?_
  refine awp_then ?_
  simp only [go_sem]
  refine awp_then ?_
  simp only [go_sem]
  refine callN_of (saneC_c _) ?_
  rintro r τ ⟨rfl, rfl⟩
  simp only [go_sem]
  refine awp_then ?_
  simp only [go_sem]
  refine callN_of (made_c l _ hs) ?_
  rintro r τ ⟨p, ⟨hp, _⟩, rfl, rfl⟩
  have hcp := cnt_ok hp
  obtain ⟨code, strs, pages⟩ := p
  simp only [go_sem, Prg.av, codeAV, strsB]
  refine awp_then ?_
  simp only [go_sem]
  have h1 := format_c ⟨code, strs, pages⟩ (τ ++ [.row 0 3 [Prg.av ⟨code, strs, pages⟩]]) hcp.1 hcp.2
  rw [format_ok hp] at h1
  refine callN_of h1 ?_
  rintro r τ' ⟨rfl, rfl⟩
  obtain ⟨t, ht⟩ : ∃ t, textS ⟨code, strs, pages⟩ = t := ⟨_, rfl⟩
  have hpt := parse_text hp
  have hpc := parse_comments hp (a := [35, 32, 97, 32, 112, 114, 111, 103, 114, 97, 109]) (e := [35, 32, 101, 110, 100]) (by decide) (by decide) rfl rfl (by decide)
  have hlen := textS_len hp
  rw [ht] at hpt hpc hlen
  rw [ht]
  simp only [go_sem, Prg.av, codeAV, strsB]
  refine awp_then ?_
  simp only [go_sem]
  have h2 := parse_c t (τ ++ [.row 0 3 [Prg.av ⟨code, strs, pages⟩]]) (by omega)
  rw [hpt] at h2
  refine callN_of h2 ?_
  rintro r τ'' ⟨rfl, rfl⟩
  simp only [go_sem, Prg.av, codeAV, strsB]
  refine awp_then ?_
  simp only [go_sem]
  have e1 : ∀ s : Bytes, ({ data := #[35, 32, 97, 32, 112, 114, 111, 103, 114, 97, 109, 10, 10] } : ByteArray) ++ { data := s.toArray } = ⟨([35, 32, 97, 32, 112, 114, 111, 103, 114, 97, 109, 10, 10] ++ s).toArray⟩ := fun s => bytes_app [35, 32, 97, 32, 112, 114, 111, 103, 114, 97, 109, 10, 10] s
  have e2 : ∀ s : Bytes, ({ data := s.toArray } : ByteArray) ++ { data := #[35, 32, 101, 110, 100] } = ⟨(s ++ [35, 32, 101, 110, 100]).toArray⟩ := fun s => bytes_app s [35, 32, 101, 110, 100]
  rw [e1, e2]
  have h3 := parse_c ([35, 32, 97, 32, 112, 114, 111, 103, 114, 97, 109] ++ [10, 10] ++ t ++ [35, 32, 101, 110, 100]) (τ ++ [.row 0 3 [Prg.av ⟨code, strs, pages⟩], .row 0 3 [Prg.av ⟨code, strs, pages⟩]]) (by simp only [List.length_append, List.length_cons, List.length_nil]; omega)
  rw [hpc] at h3
  refine ⟨by simp; omega, by simp; omega, callN_of h3 ?_⟩
  rintro r τ'' ⟨rfl, rfl⟩
  simp only [go_sem, Prg.av, codeAV, strsB]
  refine vcode_sound _ ?_
  simp only [go_sem, abinT, aints, Int.cast_ofNat_Int, Int.reduceEq]
  refine callG_of (bv true) (fun _ => by have := sameC_c ⟨code, strs, pages⟩ ⟨code, strs, pages⟩ (τ ++ [.row 0 3 [Prg.av ⟨code, strs, pages⟩], .row 0 3 [Prg.av ⟨code, strs, pages⟩], .row 0 3 [Prg.av ⟨code, strs, pages⟩]]) hcp hcp; rw [decide_eq_true rfl] at this; exact this) ?_
  simp only [go_sem]
  refine callG_of (bv true) (fun _ => by have := sameC_c ⟨code, strs, pages⟩ ⟨code, strs, pages⟩ (τ ++ [.row 0 3 [Prg.av ⟨code, strs, pages⟩], .row 0 3 [Prg.av ⟨code, strs, pages⟩], .row 0 3 [Prg.av ⟨code, strs, pages⟩]]) hcp hcp; rw [decide_eq_true rfl] at this; exact this) ?_
  simp only [go_sem]
  exact retOK_app hw trivial ⟨rfl, rfl⟩
end Go.Proofs.YtdlekkhjkcbbnaaDoor
