/-
  Contracts: FormatInt and Join of the library (by the kit's shelf), words.Format, ident.Format.
-/
import Derived.Test.YtbinpbjeeiedhaaDoorIdB
import Derived.Test.YtbinpbjeeiedhaaDoorShelf
import Derived.Lib.ItoaLen
set_option linter.unusedVariables false
set_option linter.unusedSimpArgs false
set_option maxRecDepth 8000
set_option maxHeartbeats 2000000
namespace Go.Proofs.YtbinpbjeeiedhaaDoor
open Go.Ab Go.Id Go

theorem formatInt_c (n : Int) (σ : Heap) (h0 : -9223372036854775808 ≤ n) (h1 : n ≤ 9223372036854775807) : ACalls Tryd.prog 53 [iv n, iv 10] σ (fun r σ' => r = sv (Lib.itoa n) ∧ σ' = σ) := by
  refine acalls_calls Tryd.call53 ?_
  rintro vs w ρ hh ⟨y, ys, rfl, hy, z, zs, rfl, hz, rfl⟩
  simp only [Rep] at hy hz
  subst hy; subst hz
  refine (Tryd.strconv_FormatInt_10 n h0 h1 w (glob_tab hh)).mono ?_
  rintro e w' ⟨rfl, k, os, hw⟩
  exact ⟨_, rfl, Old.of_grow hw, fun _ => rfl⟩

theorem join_c (xs : List ByteArray) (sep : ByteArray) (σ : Heap) (hN : xs.length ≤ 140737488355328) (hlen : (Lib.join (xs.map (·.data.toList)) sep.data.toList).length ≤ 140737488355328) :
    ACalls Tryd.prog 44 [.sl 1 (xs.map fun s => .v (.string s)), .v (.string sep)] σ (fun r σ' => r = sv (Lib.join (xs.map (·.data.toList)) sep.data.toList) ∧ σ' = σ) := by
  refine acalls_calls Tryd.call44 ?_
  rintro vs w ρ hh ⟨y, ys, rfl, hy, z, zs, rfl, hz, rfl⟩
  simp only [Rep] at hy hz
  subst hz
  rcases hy with ⟨he, rfl⟩ | ⟨b, off, cap, rfl, hcap, hb, hown, cs, hcs, hcells⟩
  · obtain rfl : xs = [] := by simpa using he
    refine (Tryd.strings_Join_none none 0 sep w).mono ?_
    rintro e w' ⟨rfl, rfl⟩
    exact ⟨_, rfl, Old.refl _, fun _ => rfl⟩
  · have h := repE_v1 (vs := xs.map Value.string) (by intro v hv; obtain ⟨s, _, rfl⟩ := List.mem_map.1 hv; rfl) (by simpa [List.map_map, Function.comp_def] using hcs)
    subst h
    rw [List.length_map] at hcap ⊢
    refine (Tryd.strings_Join b off cap xs sep w (fun j x hx => ?_) hb hN hcap hlen).mono ?_
    · rw [hcells j (by rw [List.length_map]; exact (List.getElem?_eq_some_iff.1 hx).1), List.getElem?_map, hx]; rfl
    · rintro e w' ⟨rfl, hbel⟩
      exact ⟨_, rfl, Old.of_below hbel, fun _ => rfl⟩

theorem i64_of (n : Int) (h : -9223372036854775808 ≤ n ∧ n ≤ 9223372036854775807) : -9223372036854775808 ≤ n := h.1

theorem wformat_c (n : Int) (σ : Heap) (h : -9223372036854775808 ≤ n ∧ n ≤ 9223372036854775807) : ACalls Tryd.prog 33 [iv n] σ (fun r σ' => r = sv (Lib.itoa n) ∧ σ' = σ) := by
  refine acalls_go Tryd.func33 rfl Tryd.call33 Tryd.ntmps33 Tryd.results33 (Nat.le_of_ble_eq_true rfl) fun hw => ?_
  simp only [go_sem]
  refine callN_of (formatInt_c n _ h.1 h.2) ?_
  rintro r τ ⟨rfl, rfl⟩
  simp only [go_sem]
  exact retOK_same hw trivial ⟨rfl, rfl⟩

theorem wrap_i64_range (n : Int) : -9223372036854775808 ≤ IntKind.i64.wrap n ∧ IntKind.i64.wrap n ≤ 9223372036854775807 := by
  constructor <;> simp [IntKind.wrap, IntKind.bits, IntKind.signed] <;> split <;> omega

theorem format_c (id : Int) (σ : Heap) : ACalls Tryd.prog 21 [uv id] σ (fun r σ' => r = sv (formatS id) ∧ σ' = σ) := by
  refine acalls_go Tryd.func21 rfl Tryd.call21 Tryd.ntmps21 Tryd.results21 (Nat.le_of_ble_eq_true rfl) fun hw => ?_
  simp only [go_sem]
  refine callN_of (split_c id _) ?_
  rintro r τ ⟨rfl, rfl⟩
  have r1 : -9223372036854775808 ≤ nodeOf id ∧ nodeOf id ≤ 9223372036854775807 := wrap_i64_range _
  have r2 : -9223372036854775808 ≤ bootOf id ∧ bootOf id ≤ 9223372036854775807 := wrap_i64_range _
  have r3 : -9223372036854775808 ≤ serOf id ∧ serOf id ≤ 9223372036854775807 := wrap_i64_range _
  simp only [go_sem]
  refine callN_of (wformat_c _ _ r1) ?_
  rintro r τ' ⟨rfl, rfl⟩
  simp only [go_sem]
  refine callN_of (wformat_c _ _ r2) ?_
  rintro r τ' ⟨rfl, rfl⟩
  simp only [go_sem]
  refine callN_of (wformat_c _ _ r3) ?_
  rintro r τ' ⟨rfl, rfl⟩
  simp only [go_sem]
  have l1 := Lib.itoa_length_le _ r1.1 r1.2
  have l2 := Lib.itoa_length_le _ r2.1 r2.2
  have l3 := Lib.itoa_length_le _ r3.1 r3.2
  have hj := join_c [⟨(Lib.itoa (nodeOf id)).toArray⟩, ⟨(Lib.itoa (bootOf id)).toArray⟩, ⟨(Lib.itoa (serOf id)).toArray⟩] ⟨#[46]⟩ (τ' ++ [.dead 0]) (by simp) (by simp [Lib.join, List.intercalate]; omega)
  refine callN_of (acalls_frz (i := τ'.length) (g := 0) (e := 1) (es := [sv (Lib.itoa (nodeOf id)), sv (Lib.itoa (bootOf id)), sv (Lib.itoa (serOf id))]) (by simp only [go_sem]) (by simp only [frzL, frz, go_sem]; exact hj)) ?_
  rintro r τ ⟨rfl, rfl⟩
  simp only [go_sem]
  exact retOK_app hw trivial ⟨rfl, rfl⟩
end Go.Proofs.YtbinpbjeeiedhaaDoor
