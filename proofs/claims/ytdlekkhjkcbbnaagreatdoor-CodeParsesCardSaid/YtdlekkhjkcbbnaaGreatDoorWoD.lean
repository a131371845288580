/-
  Contracts: TrimPrefix and Split of the library (by the kit's shelf).
  Contracts: the lines of words.
-/
import Derived.Test.YtdlekkhjkcbbnaaGreatDoorWoB
import Derived.Test.YtdlekkhjkcbbnaaGreatDoorShelf
import Derived.Lib.SplitLaws
set_option linter.unusedVariables false
set_option linter.unusedSimpArgs false
set_option maxRecDepth 8000
namespace Go.Proofs.YtdlekkhjkcbbnaaGreatDoor
open Go.Ab Go.Id Go.Wo Go

/-- From a law about the world alone, the result represented in the world behind the call. -/
theorem acalls_calls' {P : Program} {f : FuncId} {args : List AV} {σ : Heap} {r : AV} (hc : ∀ (xs : Array Value) w, (callFunc f xs).run P w = .ok (.enter f xs) w)
    (h : ∀ vs w ρ, HeapOK w σ ρ → RepL w (lm σ ρ) args vs → Calls P f vs.toArray w fun e w' => ∃ v, e = .returned v ∧ Old w w' ∧ Rep w' (lm σ ρ) r v) : ACalls P f args σ (fun r' σ' => r' = r ∧ σ' = σ) :=
  ⟨hc, fun vs w ρ hh hr => (h vs w ρ hh hr).mono fun e w' ⟨v, he, ho, hv⟩ => ⟨v, r, σ, ρ, he, hh.old ho, ho.tr _, hv, rfl, rfl⟩⟩

theorem trim_c (s p : ByteArray) (σ : Heap) : ACalls Tryz.prog 84 [sw s, sw p] σ (fun r σ' => r = sw ⟨(Lib.trimPrefix s.data.toList p.data.toList).toArray⟩ ∧ σ' = σ) := by
  refine acalls_calls Tryz.call84 ?_
  rintro vs w ρ hh ⟨y, ys, rfl, hy, z, zs, rfl, hz, rfl⟩
  simp only [Rep] at hy hz
  subst hy; subst hz
  refine (Tryz.strings_TrimPrefix s p w).mono ?_
  rintro e w' ⟨rfl, rfl⟩
  exact ⟨_, rfl, Old.refl _, fun _ => rfl⟩

theorem Old.alloc (w : World) (o : Obj) : Old w (w.alloc o) := ⟨rfl, rfl, by simp, fun k hk => Go.RowKit.Below.heap_alloc _ _ _ hk⟩

theorem split_parts_c (s sep : ByteArray) (σ : Heap) (hs : s.size < 4294967281) (h1 : 1 ≤ sep.size) (hl : (Lib.splitB sep 0 (Lib.countB s sep) s).length = Lib.countB s sep + 1) :
    ACalls Tryz.prog 55 [sw s, sw sep] σ (fun r σ' => r = strs (Lib.splitB sep 0 (Lib.countB s sep) s) ∧ σ' = σ) := by
  refine acalls_calls' Tryz.call55 ?_
  rintro vs w ρ hh ⟨y, ys, rfl, hy, z, zs, rfl, hz, rfl⟩
  simp only [Rep] at hy hz
  subst hy; subst hz
  obtain ⟨m, hm⟩ := glob_max hh
  refine (Tryz.strings_Split s sep m w hs hm h1).mono ?_
  rintro e w' ⟨rfl, rfl⟩
  refine ⟨_, rfl, Old.alloc _ _, ?_⟩
  unfold strs
  simp only [Rep]
  refine .inr ⟨w.heap.size, 0, Lib.countB s sep + 1, by rw [List.length_map, hl], by rw [List.length_map, hl]; exact Nat.le_refl _, by simp, ?_, (Lib.splitB sep 0 (Lib.countB s sep) s).map Value.string, ?_, ?_⟩
  · intro ho
    obtain ⟨i, sz, hi⟩ := owned_lm ho
    have := hh.lt hi
    omega
  · have := repE_v (w := w.alloc (.cells ((Lib.splitB sep 0 (Lib.countB s sep) s).map Value.string).toArray 9)) (L := lm σ ρ) (vs := (Lib.splitB sep 0 (Lib.countB s sep) s).map Value.string) (by intro v hv; obtain ⟨x, _, rfl⟩ := List.mem_map.1 hv; exact ⟨rfl, rfl⟩)
    simpa [List.map_map, Function.comp_def] using this
  · intro j hj
    rw [World.cell?_alloc_new]
    simp
theorem split_c' (s sep : ByteArray) (σ : Heap) (hs : s.size < 4294967281) (h1 : 1 ≤ sep.size) :
    ACalls Tryz.prog 55 [sw s, sw sep] σ (fun r σ' => r = strs (Lib.splitB sep 0 (Lib.countB s sep) s) ∧ σ' = σ) :=
  split_parts_c s sep σ hs h1 (Lib.splitB_all sep h1 0 _ s rfl)
end Go.Proofs.YtdlekkhjkcbbnaaGreatDoor
set_option linter.unusedVariables false
set_option linter.unusedSimpArgs false
set_option maxRecDepth 8000
set_option maxHeartbeats 1000000
namespace Go.Proofs.YtdlekkhjkcbbnaaGreatDoor
open Go.Ab Go.Id Go.Wo Go

def nl : ByteArray := ⟨#[10]⟩
def splitN (s : ByteArray) : List ByteArray := Lib.splitB nl 0 (Lib.countB s nl) s
def linesW (s : ByteArray) : List ByteArray := if (splitN s).getLast?.getD ⟨#[]⟩ = ⟨#[]⟩ then (splitN s).dropLast else splitN s
theorem splitN_length (s : ByteArray) : (splitN s).length = Lib.countB s nl + 1 := Lib.splitB_all nl (by decide) 0 _ s rfl

theorem lines_c (s : ByteArray) (σ : Heap) (hs : s.size < 4294967281) (hN : (splitN s).length < 2^62) : ACalls Tryz.prog 36 [sw s] σ (fun r σ' => r = strs (linesW s) ∧ σ' = σ) := by
  refine acalls_go Tryz.func36 rfl Tryz.call36 Tryz.ntmps36 Tryz.results36 (Nat.le_of_ble_eq_true rfl) fun hw => ?_
  simp only [go_sem]
  refine callN_of (split_c' s nl _ hs (by decide)) ?_
  rintro r τ ⟨rfl, rfl⟩
  have hl := splitN_length s
  have hp : 0 < (splitN s).length := by omega
  have e0 : Lib.splitB nl 0 (Lib.countB s nl) s = splitN s := rfl
  have ew : IntKind.i64.wrap (((splitN s).length : Int) - 1) = (((splitN s).length - 1 : Nat) : Int) := by rw [show ((splitN s).length : Int) - 1 = (((splitN s).length - 1 : Nat) : Int) by omega]; exact wrap_i64 (by omega) (by omega)
  have hg : (splitN s)[(splitN s).length - 1]? = some ((splitN s).getLast?.getD ⟨#[]⟩) := by
    rw [← List.getLast?_eq_getElem?]
    cases h : (splitN s).getLast? with
    | none => rw [List.getLast?_eq_none_iff] at h; rw [h] at hp; simp at hp
    | some x => rfl
  rw [e0]
  simp only [go_sem, strs, ew, hg]
  refine ⟨by omega, ?_⟩
  unfold linesW
  split
  · refine ⟨by omega, retOK_same hw ?_ ⟨?_, rfl⟩⟩
    · show AllIL _ _
      rw [← List.map_take, allIL_strs]; trivial
    · rw [← List.map_take, List.dropLast_eq_take]
  · exact retOK_same hw (by simp only [go_sem]) ⟨rfl, rfl⟩
end Go.Proofs.YtdlekkhjkcbbnaaGreatDoor
