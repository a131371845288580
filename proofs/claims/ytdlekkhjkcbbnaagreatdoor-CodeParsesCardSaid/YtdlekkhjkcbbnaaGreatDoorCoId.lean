/-
  FormatInt and Join of the library (by the kit's shelf), words.Format.
-/
import Derived.Test.YtdlekkhjkcbbnaaGreatDoorAbY
import Derived.Test.YtdlekkhjkcbbnaaGreatDoorCoGl
import Derived.Test.YtdlekkhjkcbbnaaGreatDoorIdS
import Derived.Test.YtdlekkhjkcbbnaaGreatDoorShelf
import Derived.Lib.ItoaLen
set_option linter.unusedVariables false
set_option linter.unusedSimpArgs false
set_option maxRecDepth 8000
set_option maxHeartbeats 2000000
namespace Go.Proofs.YtdlekkhjkcbbnaaGreatDoor
open Go.Ab Go.Id Go

theorem formatInt_c (n : Int) (σ : Heap) (h0 : -9223372036854775808 ≤ n) (h1 : n ≤ 9223372036854775807) : ACalls Tryz.prog 51 [iv n, iv 10] σ (fun r σ' => r = sv (Lib.itoa n) ∧ σ' = σ) := by
  refine acalls_calls Tryz.call51 ?_
  rintro vs w ρ hh ⟨y, ys, rfl, hy, z, zs, rfl, hz, rfl⟩
  simp only [Rep] at hy hz
  subst hy; subst hz
  refine (Tryz.strconv_FormatInt_10 n h0 h1 w (glob_tab hh)).mono ?_
  rintro e w' ⟨rfl, k, os, hw⟩
  exact ⟨_, rfl, Old.of_grow hw, fun _ => rfl⟩


theorem join_c (xs : List ByteArray) (sep : ByteArray) (σ : Heap) (hN : xs.length ≤ 140737488355328) (hlen : (Lib.join (xs.map (·.data.toList)) sep.data.toList).length ≤ 140737488355328) :
    ACalls Tryz.prog 53 [.sl 1 (xs.map fun s => .v (.string s)), .v (.string sep)] σ (fun r σ' => r = sv (Lib.join (xs.map (·.data.toList)) sep.data.toList) ∧ σ' = σ) := by
  refine acalls_calls Tryz.call53 ?_
  rintro vs w ρ hh ⟨y, ys, rfl, hy, z, zs, rfl, hz, rfl⟩
  simp only [Rep] at hy hz
  subst hz
  rcases hy with ⟨he, rfl⟩ | ⟨b, off, cap, rfl, hcap, hb, hown, cs, hcs, hcells⟩
  · obtain rfl : xs = [] := by simpa using he
    refine (Tryz.strings_Join_none none 0 sep w).mono ?_
    rintro e w' ⟨rfl, rfl⟩
    exact ⟨_, rfl, Old.refl _, fun _ => rfl⟩
  · have h := repE_v1 (vs := xs.map Value.string) (by intro v hv; obtain ⟨s, _, rfl⟩ := List.mem_map.1 hv; rfl) (by simpa [List.map_map, Function.comp_def] using hcs)
    subst h
    rw [List.length_map] at hcap ⊢
    refine (Tryz.strings_Join b off cap xs sep w (fun j x hx => ?_) hb hN hcap hlen).mono ?_
    · rw [hcells j (by rw [List.length_map]; exact (List.getElem?_eq_some_iff.1 hx).1), List.getElem?_map, hx]; rfl
    · rintro e w' ⟨rfl, hbel⟩
      exact ⟨_, rfl, Old.of_below hbel, fun _ => rfl⟩


theorem wformat_c (n : Int) (σ : Heap) (h : -9223372036854775808 ≤ n ∧ n ≤ 9223372036854775807) : ACalls Tryz.prog 25 [iv n] σ (fun r σ' => r = sv (Lib.itoa n) ∧ σ' = σ) := by
  refine acalls_go Tryz.func25 rfl Tryz.call25 Tryz.ntmps25 Tryz.results25 (Nat.le_of_ble_eq_true rfl) fun hw => ?_
  simp only [go_sem]
  refine callN_of (formatInt_c n _ h.1 h.2) ?_
  rintro r τ ⟨rfl, rfl⟩
  simp only [go_sem]
  exact retOK_same hw trivial ⟨rfl, rfl⟩


theorem wrap_i64_range (n : Int) : -9223372036854775808 ≤ IntKind.i64.wrap n ∧ IntKind.i64.wrap n ≤ 9223372036854775807 := by
  constructor <;> simp [IntKind.wrap, IntKind.bits, IntKind.signed] <;> split <;> omega


end Go.Proofs.YtdlekkhjkcbbnaaGreatDoor
