/-
  What the program's variables hold: the table of powers of ten, the forms of instructions.
-/
import Derived.Test.YtdlekkhjkcbbnaaGreatDoorTy
import Derived.Test.YtdlekkhjkcbbnaaGreatDoorIdS
set_option linter.unusedVariables false
namespace Go.Proofs.YtdlekkhjkcbbnaaGreatDoor
open Go.Ab Go.Id Go

def tab10 : Array Value := (Lib.pow10Tab.map fun z => Value.int .u64 z).toArray
/-- the forms of the instructions: name, letters of the operands -/
def formsB : List (List UInt8 × List UInt8) := [([110, 111, 112], []), ([115, 101, 116], [114, 110]), ([109, 111, 118, 101], [114, 114]), ([97, 100, 100], [114, 114, 114]), ([115, 117, 98], [114, 114, 114]), ([109, 117, 108], [114, 114, 114]), ([108, 101, 115, 115], [114, 114, 114]),
  ([101, 113, 117, 97, 108], [114, 114, 114]), ([106, 117, 109, 112], [116]), ([105, 102], [114, 116]), ([108, 111, 97, 100], [114, 114, 111]), ([115, 116, 111, 114, 101], [114, 114, 111]), ([99, 97, 108, 108], [99])]
def formsV : List Value := formsB.flatMap fun f => [.string ⟨f.1.toArray⟩, .string ⟨f.2.toArray⟩]
def formsAV : AV := .rp (.agg (formsV.map .v))
theorem pureL_v : ∀ l : List Value, PureL (l.map .v)
  | [] => trivial
  | _ :: l => ⟨trivial, pureL_v l⟩
/-- the table; bytealg.MaxLen: a number; strconv.ErrRange: an error; the forms -/
instance globFacts : GlobFacts where
  blocks := [8, 1, 2]
  fact l := ∃ t1 f1 tp p t2 f2 t3 f3 m, l = [some (.cells #[.iface tp p] t1 f1), some (.cells tab10 t2 f2), some (.cells #[.int .i64 m] t3 f3)]
  av g := if g = 0 then some formsAV else none
  pure g a h := by
    split at h
    · cases h; exact pureL_v _
    · cases h
theorem gTab : Tryz.prog.globalNamed "internal/strconv.uint64pow10" = some 1 := by kernel_rfl
theorem gMax : Tryz.prog.globalNamed "internal/bytealg.MaxLen" = some 2 := by kernel_rfl
theorem gErr : Tryz.prog.globalNamed "strconv.ErrRange" = some 8 := by kernel_rfl
theorem gForms : Tryz.prog.globalNamed "clusterkernel/code.forms" = some 0 := by kernel_rfl
theorem glob_all {w : World} {σ : Heap} {ρ : Locs} (h : HeapOK w σ ρ) : ∃ t1 f1 tp p t2 f2 t3 f3 m, w.heap[8]? = some (.cells #[.iface tp p] t1 f1) ∧ w.heap[1]? = some (.cells tab10 t2 f2) ∧ w.heap[2]? = some (.cells #[.int .i64 m] t3 f3) := by
  obtain ⟨t1, f1, tp, p, t2, f2, t3, f3, m, he⟩ := h.glob.2.1
  simp only [GlobFacts.blocks, List.map_cons, List.map_nil, List.cons.injEq, and_true] at he
  exact ⟨t1, f1, tp, p, t2, f2, t3, f3, m, he.1, he.2.1, he.2.2⟩
theorem glob_tab {w : World} {σ : Heap} {ρ : Locs} (h : HeapOK w σ ρ) : Lib.TabIs Tryz.prog w "internal/strconv.uint64pow10" .u64 Lib.pow10Tab := by
  obtain ⟨t1, f1, tp, p, t2, f2, t3, f3, m, _, h2, _⟩ := glob_all h
  exact tab_is gTab h2 rfl
theorem glob_max {w : World} {σ : Heap} {ρ : Locs} (h : HeapOK w σ ρ) : ∃ m, w.cell? ⟨2, 0, none⟩ = some (.int .i64 m) := by
  obtain ⟨t1, f1, tp, p, t2, f2, t3, f3, m, _, _, h3⟩ := glob_all h
  exact ⟨m, by simp [World.cell?, h3]⟩
theorem glob_err {w : World} {σ : Heap} {ρ : Locs} (h : HeapOK w σ ρ) : ∃ tp p, w.var? Tryz.prog "strconv.ErrRange" = some #[.iface tp p] := by
  obtain ⟨t1, f1, tp, p, t2, f2, t3, f3, m, h1, _, _⟩ := glob_all h
  exact ⟨tp, p, by simp [World.var?, gErr, h1]⟩
end Go.Proofs.YtdlekkhjkcbbnaaGreatDoor
