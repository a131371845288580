/-
  What the program's variables hold: the table of powers of ten.
-/
import Derived.Test.YtbinpbjeeiedhaaDoorTy
import Derived.Test.YtbinpbjeeiedhaaDoorIdS
set_option linter.unusedVariables false
namespace Go.Proofs.YtbinpbjeeiedhaaDoor
open Go.Ab Go

def tab10 : Array Value := (Lib.pow10Tab.map fun z => Value.int .u64 z).toArray
/-- block 2: the table; block 3 (bytealg.MaxLen): a number; block 1 (strconv.ErrRange): an error -/
instance globFacts : GlobFacts where
  blocks := [1, 2, 3]
  fact l := ∃ t1 f1 tp p t2 f2 t3 f3 m, l = [some (.cells #[.iface tp p] t1 f1), some (.cells tab10 t2 f2), some (.cells #[.int .i64 m] t3 f3)]
theorem gTab : Tryd.prog.globalNamed "internal/strconv.uint64pow10" = some 2 := by kernel_rfl
theorem gMax : Tryd.prog.globalNamed "internal/bytealg.MaxLen" = some 3 := by kernel_rfl
theorem gErr : Tryd.prog.globalNamed "strconv.ErrRange" = some 1 := by kernel_rfl
theorem glob_all {w : World} {σ : Heap} {ρ : Locs} (h : HeapOK w σ ρ) : ∃ t1 f1 tp p t2 f2 t3 f3 m, w.heap[1]? = some (.cells #[.iface tp p] t1 f1) ∧ w.heap[2]? = some (.cells tab10 t2 f2) ∧ w.heap[3]? = some (.cells #[.int .i64 m] t3 f3) := by
  obtain ⟨t1, f1, tp, p, t2, f2, t3, f3, m, he⟩ := h.glob.2
  simp only [GlobFacts.blocks, List.map_cons, List.map_nil, List.cons.injEq, and_true] at he
  exact ⟨t1, f1, tp, p, t2, f2, t3, f3, m, he.1, he.2.1, he.2.2⟩
theorem glob_tab {w : World} {σ : Heap} {ρ : Locs} (h : HeapOK w σ ρ) : Lib.TabIs Tryd.prog w "internal/strconv.uint64pow10" .u64 Lib.pow10Tab := by
  obtain ⟨t1, f1, tp, p, t2, f2, t3, f3, m, _, h2, _⟩ := glob_all h
  exact tab_is gTab h2 rfl
theorem glob_max {w : World} {σ : Heap} {ρ : Locs} (h : HeapOK w σ ρ) : ∃ m, w.cell? ⟨3, 0, none⟩ = some (.int .i64 m) := by
  obtain ⟨t1, f1, tp, p, t2, f2, t3, f3, m, _, _, h3⟩ := glob_all h
  exact ⟨m, by simp [World.cell?, h3]⟩
theorem glob_err {w : World} {σ : Heap} {ρ : Locs} (h : HeapOK w σ ρ) : ∃ tp p, w.var? Tryd.prog "strconv.ErrRange" = some #[.iface tp p] := by
  obtain ⟨t1, f1, tp, p, t2, f2, t3, f3, m, h1, _, _⟩ := glob_all h
  exact ⟨tp, p, by simp [World.var?, gErr, h1]⟩
end Go.Proofs.YtbinpbjeeiedhaaDoor
