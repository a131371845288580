/-
  Contracts: the law's bad.
-/
import Derived.Test.YtkpdjbklnjjedaaJuI
import Derived.Test.YtkpdjbklnjjedaaJuQ
import Derived.Test.YtkpdjbklnjjedaaAbU
set_option linter.unusedVariables false
set_option linter.unusedSimpArgs false
set_option maxRecDepth 8000
set_option maxHeartbeats 2000000
namespace Go.Proofs.Ytkpdjbklnjjedaa
open Go.Ab Go.Ju Go

theorem mod_nat (v : Int) {n : Nat} (h : n ≠ 0) (hn : n < 2^62) : ∃ i : Nat, modS v n = i ∧ i < n := by
  have := modS_bound (v := v) (n := (n : Int)) (by omega) (by omega)
  exact ⟨(modS v n).toNat, by omega, by omega⟩

theorem fits_set {l : List Acc} {i : Nat} {a : Acc} (h : FitsL l) (ha : Fits a) : FitsL (l.set i a) := fun b hb => by
  rcases List.mem_or_eq_of_mem_set hb with hb | rfl
  · exact h b hb
  · exact ha

theorem bad_fin {l l' : List Acc} {σ : Heap} (hw : WfH σ.length σ) (hl : l'.length = l.length) (hf : FitsL l → FitsL l') {junk : Heap} :
    RetOK σ.length (.os σ.length 1 0 l.length) (σ ++ (.row 1 4 (l'.map Acc.av) :: junk)) (fun r σ' => ∃ l', l'.length = l.length ∧ (FitsL l → FitsL l') ∧ r = accs l' ∧ σ' = σ) := by
  have := retOK_os (n := σ.length) (τ := σ ++ (.row 1 4 (l'.map Acc.av) :: junk)) (i := σ.length) (g := 1) (e := 4) (es := l'.map Acc.av) (R := fun r σ' => ∃ l', l'.length = l.length ∧ (FitsL l → FitsL l') ∧ r = accs l' ∧ σ' = σ) (by simp) (pure_accs l') (Nat.le_refl _) (by rw [List.take_left]; exact hw) (by rw [List.take_left]; exact ⟨l', hl, hf, rfl, rfl⟩)
  rw [List.length_map, hl] at this
  exact this

theorem bad_c (l : List Acc) (what at_ : Int) (σ : Heap) (hl : l.length ≤ 20) : ACalls Try.prog 9 [accs l, iv what, iv at_] σ (fun r σ' => ∃ l', l'.length = l.length ∧ (FitsL l → FitsL l') ∧ r = accs l' ∧ σ' = σ) := by
  refine acalls_go Try.func9 rfl Try.call9 Try.ntmps9 Try.results9 (Nat.le_of_ble_eq_true rfl) fun hw => ?_
  have hb : l.length * 32 ≤ 140737488355328 ∧ l.length ≤ 4611686018427387904 := by omega
  by_cases h0 : l.length = 0
  · have h0' : (l.length : Int) = 0 := by omega
    simp only [go_sem, accs, h0']
    refine ⟨by omega, bad_fin (l := l) (l' := l) (σ := σ) (junk := []) hw rfl id⟩
  · have h0' : ¬ (l.length : Int) = 0 := by omega
    simp only [go_sem, accs, h0']
    refine ⟨by omega, callN_of (mod_c at_ l.length _ h0') ?_⟩
    rintro r τ ⟨rfl, rfl⟩
    obtain ⟨i, hi, hil⟩ := mod_nat at_ h0 (by omega)
    simp only [go_sem, hi, h0']
    refine ⟨by omega, callN_of (mod_c _ l.length _ h0') ?_⟩
    rintro r τ ⟨rfl, rfl⟩
    obtain ⟨k, hk, hkl⟩ := mod_nat (IntKind.i64.wrap (at_.tdiv 7)) h0 (by omega)
    simp only [go_sem, hk]
    refine callN_of (mod_c what 6 _ (by omega)) ?_
    rintro r τ ⟨rfl, rfl⟩
    have gi := List.getElem?_eq_getElem hil
    have gk := List.getElem?_eq_getElem hkl
    have fi : FitsL l → Fits l[i] := fun h => h _ (List.getElem_mem hil)
    have fk : FitsL l → Fits l[k] := fun h => h _ (List.getElem_mem hkl)
    by_cases c0 : modS what 6 = 0
    · simp only [go_sem, c0]
      refine awp_draw Try.mixed (by kernel_rfl) ?_
      simp only [go_sem, gi, gk, hil, hkl, Acc.av]
      have := bad_fin (l := l) (l' := (l.set i l[k]).set k l[i]) (σ := σ) (junk := []) hw (by simp) (fun h => fits_set (fits_set h (fk h)) (fi h))
      rw [List.map_set, List.map_set] at this
      exact this
    by_cases c1 : modS what 6 = 1
    · simp only [go_sem, c1, gi, hil, Acc.av, Int.reduceEq]
      have := bad_fin (l := l) (l' := l.set i { l[i] with s := 1 }) (σ := σ) (junk := []) hw (by simp) (fun h => fits_set h ⟨by constructor <;> simp, (fi h).m⟩)
      rw [List.map_set] at this
      exact this
    by_cases c2 : modS what 6 = 2
    · simp only [go_sem, c2, gi, hil, Acc.av, Int.reduceEq]
      have := bad_fin (l := l) (l' := l.set i { l[i] with p := 1 }) (σ := σ) (junk := []) hw (by simp) (fun h => fits_set h ⟨(fi h).s, (fi h).m⟩)
      rw [List.map_set] at this
      exact this
    by_cases c3 : modS what 6 = 3
    · simp only [go_sem, c3, gi, hil, Acc.av, Int.reduceEq]
      have := bad_fin (l := l) (l' := l.set i { l[i] with m := 0 }) (σ := σ) (junk := []) hw (by simp) (fun h => fits_set h ⟨(fi h).s, by constructor <;> simp⟩)
      rw [List.map_set] at this
      exact this
    by_cases c4 : modS what 6 = 4
    · simp only [go_sem, c4, gi, hil, Acc.av, Int.reduceEq]
      have := bad_fin (l := l) (l' := l.set i { l[i] with s := w64 (l[i].s + 1) }) (σ := σ) (junk := []) hw (by simp) (fun h => fits_set h ⟨i64_w64 _, (fi h).m⟩)
      rw [List.map_set] at this
      exact this
    · simp only [go_sem, c0, c1, c2, c3, c4]
      exact bad_fin (l := l) (l' := l) (σ := σ) (junk := []) hw rfl id
end Go.Proofs.Ytkpdjbklnjjedaa
