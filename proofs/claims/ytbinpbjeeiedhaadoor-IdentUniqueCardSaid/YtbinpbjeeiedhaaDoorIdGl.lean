/-
  What the program's variables hold.
-/
import Derived.Test.YtbinpbjeeiedhaaDoorTy
import Derived.Test.YtbinpbjeeiedhaaDoorIdS
set_option linter.unusedVariables false
namespace Go.Proofs.YtbinpbjeeiedhaaDoor
open Go.Ab Go

def tab10 : List AV := Lib.pow10Tab.map fun z => .v (.int .u64 z)
instance globFacts : GlobFacts where
  data g := if g = 2 then some (1, tab10) else none
  pure g e es h := by
    split at h
    · cases h
      exact Id.pureL_map (f := fun z => .v (.int .u64 z)) (fun _ => trivial) _
    · cases h
theorem gTab : Tryd.prog.globalNamed "internal/strconv.uint64pow10" = some 2 := by kernel_rfl
theorem glob_tab {w : World} {σ : Heap} {ρ : Locs} (h : HeapOK w σ ρ) : Lib.TabIs Tryd.prog w "internal/strconv.uint64pow10" .u64 Lib.pow10Tab := tab_is h gTab rfl
end Go.Proofs.YtbinpbjeeiedhaaDoor
