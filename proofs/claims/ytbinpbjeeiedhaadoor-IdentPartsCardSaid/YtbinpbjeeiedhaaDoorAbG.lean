/-
  Operations that leave memory alone, one by one, and all of them: apure_sound.
-/
import Derived.Test.YtbinpbjeeiedhaaDoorAbF
set_option linter.unusedVariables false
set_option linter.unusedSimpArgs false
set_option linter.unusedSectionVars false
namespace Go.Ab
open Go
variable [GlobFacts]

theorem tk_sl {d : TypeDesc} {e : TypeId} (h : TK.of d = .sl e) : d = .slice e := by cases d <;> simp [TK.of] at h <;> simp [h]
theorem tk_arr {d : TypeDesc} {n : Nat} {e : TypeId} (h : TK.of d = .arr n e) : d = .array n e := by cases d <;> simp [TK.of] at h <;> simp [h]
theorem tk_str {d : TypeDesc} (h : TK.of d = .str) : d = .string := by cases d <;> simp [TK.of] at h <;> rfl
theorem tk_int {d : TypeDesc} {k : IntKind} (h : TK.of d = .int k) : d = .int k := by cases d <;> simp [TK.of] at h <;> simp [h]
theorem tk_map {d : TypeDesc} {k e : TypeId} (h : TK.of d = .map k e) : d = .map k e := by cases d <;> simp [TK.of] at h <;> simp [h]
theorem tk_st {d : TypeDesc} {fs : List (Nat × TypeId)} (h : TK.of d = .st fs) : ∃ F, d = .struct F ∧ fs = F.toList.map fun f => (f.offset, f.type) := by
  cases d <;> simp [TK.of] at h
  exact ⟨_, rfl, h.symm⟩

theorem run_tinf {P : Program} {t : TypeId} {ti : TI} (h : tinf P t = some ti) (w : World) : ∃ d, ti.kind = TK.of d ∧ (underlying t).run P w = .ok d w :=
  let ⟨d, _, h2, h3⟩ := tinf_underlying h w
  ⟨d, h2, h3⟩

section
variable {P : Program} {σ : Heap} {w : World} {ρ : Locs}

theorem cells_sub {b base off : Nat} {y z : Value} {ti : TI} (hz : IsSub ti y off z) (hc : Cells w b base y.cells.toList) : Cells w b (base + off) z.cells.toList := by
  cases ha : ti.agg with
  | true =>
    have h1 := hz.agg ha
    have h2 := hz.len.resolve_right (by simp [ha])
    subst h1
    intro j hj
    simp only [cells_agg] at hj ⊢
    simp at hj
    have h3 := hc (off + j) (by simp; omega)
    rw [Nat.add_assoc, h3]
    simp [List.getElem?_take, List.getElem?_drop]
    intro h; omega
  | false =>
    rw [(hz.one ha).2]
    intro j hj
    simp at hj
    subst hj
    have h1 := (hz.one ha).1
    have h2 := (Array.getElem?_eq_some_iff.1 h1).1
    have h3 := hc off (by simpa using h2)
    simp only [Array.getElem?_toList, h1] at h3
    simpa using h3

theorem does_nilCheck (hh : HeapOK w σ ρ) {ec : Operand → Value} {o : Oper} {x : Operand} (ho : o.op = .nilCheck x) {a r : AV} {s : Prop}
    (h : (match a with | .ptr i g k off => if alive σ i g then some (True, AV.ptr i g k off) else none | .rp a => some (True, .rp a) | _ => none) = some (s, r)) (hx : Rep w (lm σ ρ) a (ec x)) :
    ∃ z, (execOp ec o).run P w = .ok (.value z) w ∧ Rep w (lm σ ρ) r z := by
  split at h
  · split at h
    · rename_i hal
      cases h
      obtain ⟨b, e, sz, _, hp⟩ := rep_ptr_alive hh hal hx
      exact ⟨ec x, by simp [execOp, ho, hp], hx⟩
    · cases h
  · cases h
    have h0 := hx
    simp only [Rep] at hx
    obtain ⟨b, off, hp, _⟩ := hx
    exact ⟨ec x, by simp [execOp, ho, hp], h0⟩
  · cases h

theorem does_fieldAddr (hh : HeapOK w σ ρ) {t : TypeId} {x r : AV} {f : Nat} {s : Prop} (h : afieldAddr P σ t x f = some (s, r)) (hs : s) {u : Value} (hx : Rep w (lm σ ρ) x u) :
    Does P w (lm σ ρ) (Instr.fieldAt t u f) r := by
  unfold afieldAddr at h
  split at h
  · rename_i ti ht
    obtain ⟨d, hd, hu⟩ := run_tinf ht w
    split at h
    · rename_i fs hk
      obtain ⟨F, rfl, rfl⟩ := tk_st (hd.symm.trans hk)
      split at h
      · rename_i o ft hf
        have hf' : ∃ fl, F[f]? = some fl ∧ fl.offset = o ∧ fl.type = ft := by
          simp at hf
          obtain ⟨fl, h1, h2, h3⟩ := hf
          exact ⟨fl, h1, h2, h3⟩
        obtain ⟨fl, hfl, rfl, rfl⟩ := hf'
        split at h
        · rename_i tf htf
          split at h
          · cases h
          · rename_i hsz
            have hrun : ∀ a : Addr, u = .pointer (some a) → (Instr.fieldAt t u f).run P w = .ok (.pointer (some (a.add fl.offset))) w := by
              rintro a rfl
              simp [Instr.fieldAt, hu, hfl, Instr.sureAddr, fieldPlace, tinf_size htf, hsz]
            split at h
            · rename_i i g k off
              split at h
              · rename_i hal
                cases h
                obtain ⟨b, e, sz, hl, hp⟩ := rep_ptr_alive hh hal hx
                refine ⟨_, hrun _ hp, ?_⟩
                simp only [Rep, hl, ptrAt, addr_add]
                simp [Nat.add_assoc]
              · cases h
            · rename_i a
              cases hb : asub tf a fl.offset with
              | none => simp [hb] at h
              | some q =>
                obtain ⟨s', r'⟩ := q
                simp only [hb] at h
                cases h
                simp only [Rep] at hx
                obtain ⟨b, off, hp, hb1, hb2, y, hy, hc⟩ := hx
                obtain ⟨z, hz, hr⟩ := asub_sound hb hs hy
                refine ⟨_, hrun _ hp, ?_⟩
                simp only [Rep, addr_add]
                exact ⟨b, off + fl.offset, rfl, hb1, hb2, z, hr, cells_sub hz hc⟩
            · cases h
        · cases h
      · cases h
    · cases h
  · cases h

end
end Go.Ab
