/-
  No cell of these rows narrows 'for every input' (looked for: loops, veiled, ifaces, maps, wideKeys, modest, calm, conditions, laid).
  DERIVED. THE GIVEN ROWS OF THIS SEAT. 4 by the template 'for every input the law returns true; each argument reads behind the call as it read before'; 0 by the template 'total and deterministic' (their statements: YtkpdjbklnjjedaaTotals.lean).
  GIVEN WITH THE SEED: the statements are not yours to turn. If you find one false, say at which input.
  Laid BY PROGRAM, IN A SANDBOX (cutbox-rows.mjs): the forced cells as the released guide's own fill.sh prints them over the translation 1267c21fbd039dfa… (all of the seat's roots in one cut). By AI agents, Wed Nov 11 2026. No macro, syntax, notation, axiom, sorry.
-/
import Derived.Test.YtkpdjbklnjjedaaChecked
import GoSem.Claim
import GoSem.ClaimJoined
import GoSem.ClaimMapViews
import Derived.JoinedTies
import Derived.KernelRfl
namespace Go.Proofs.Ytkpdjbklnjjedaa
/- THE CELL 'sum', in the pinned program and in every row, IS THE sha256 OF THE DUMP (.gsa) THAT YtkpdjbklnjjedaaProg.lean LOADS. Nothing in Lean hashes anything: it is a label: what it is worth is what the hold of that sum in a sandbox is worth. -/
noncomputable def Try.pinned : Pinned := { name := "ytkpdjbklnjjedaa", sum := "1267c21fbd039dfaac31cd22baadce0dee87cd3530dc6aca276cdc392a3666bc", checked := Try.checked }
namespace Rows
def none {H : Type} : Left H := { results := [], args := [] }

/-- 'clusterkernellaw24.JudgeOrders': WHATEVER THE INPUT: true; the input reads as it did. -/
def judgeOrdersSpec : ChangeSpec := { name := "judgeOrders", fn := fun _ => fun
  | [d1, d2, d3, d4, d5, d6] => { results := [.lit (.bool true)], args := [d1, d2, d3, d4, d5, d6] }
  | _ => none }
def judgeOrdersRow : OpenClaim := { program := "ytkpdjbklnjjedaa", sum := "1267c21fbd039dfaac31cd22baadce0dee87cd3530dc6aca276cdc392a3666bc", func := "clusterkernel/clusterkernellaw24.JudgeOrders", spec := "judgeOrders", plainKeys := false, apart := false }
def JudgeOrdersSaid : Prop := judgeOrdersRow.holds Try.pinned (OpenSpec.ofChange judgeOrdersSpec)

/-- ITS FALSE NEIGHBOUR: 'it returns false'. Refute it at one input. -/
def judgeOrdersWrong : ChangeSpec := { name := "judgeOrders", fn := fun _ => fun
  | [d1, d2, d3, d4, d5, d6] => { results := [.lit (.bool false)], args := [d1, d2, d3, d4, d5, d6] }
  | _ => none }
def JudgeOrdersWrongFalsely : Prop := judgeOrdersRow.holds Try.pinned (OpenSpec.ofChange judgeOrdersWrong)

/-- 'clusterkernellaw24.JudgeAccepts': WHATEVER THE INPUT: true; the input reads as it did. -/
def judgeAcceptsSpec : ChangeSpec := { name := "judgeAccepts", fn := fun _ => fun
  | [d] => { results := [.lit (.bool true)], args := [d] }
  | _ => none }
def judgeAcceptsRow : OpenClaim := { program := "ytkpdjbklnjjedaa", sum := "1267c21fbd039dfaac31cd22baadce0dee87cd3530dc6aca276cdc392a3666bc", func := "clusterkernel/clusterkernellaw24.JudgeAccepts", spec := "judgeAccepts", plainKeys := false, apart := false }
def JudgeAcceptsSaid : Prop := judgeAcceptsRow.holds Try.pinned (OpenSpec.ofChange judgeAcceptsSpec)

/-- ITS FALSE NEIGHBOUR: 'it returns false'. Refute it at one input. -/
def judgeAcceptsWrong : ChangeSpec := { name := "judgeAccepts", fn := fun _ => fun
  | [d] => { results := [.lit (.bool false)], args := [d] }
  | _ => none }
def JudgeAcceptsWrongFalsely : Prop := judgeAcceptsRow.holds Try.pinned (OpenSpec.ofChange judgeAcceptsWrong)

/-- 'clusterkernellaw24.JudgeExact': WHATEVER THE INPUT: true; the input reads as it did. -/
def judgeExactSpec : ChangeSpec := { name := "judgeExact", fn := fun _ => fun
  | [d1, d2, d3, d4] => { results := [.lit (.bool true)], args := [d1, d2, d3, d4] }
  | _ => none }
def judgeExactRow : OpenClaim := { program := "ytkpdjbklnjjedaa", sum := "1267c21fbd039dfaac31cd22baadce0dee87cd3530dc6aca276cdc392a3666bc", func := "clusterkernel/clusterkernellaw24.JudgeExact", spec := "judgeExact", plainKeys := false, apart := false }
def JudgeExactSaid : Prop := judgeExactRow.holds Try.pinned (OpenSpec.ofChange judgeExactSpec)

/-- ITS FALSE NEIGHBOUR: 'it returns false'. Refute it at one input. -/
def judgeExactWrong : ChangeSpec := { name := "judgeExact", fn := fun _ => fun
  | [d1, d2, d3, d4] => { results := [.lit (.bool false)], args := [d1, d2, d3, d4] }
  | _ => none }
def JudgeExactWrongFalsely : Prop := judgeExactRow.holds Try.pinned (OpenSpec.ofChange judgeExactWrong)

/-- 'clusterkernellaw24.JudgeParts': WHATEVER THE INPUT: true; the input reads as it did. -/
def judgePartsSpec : ChangeSpec := { name := "judgeParts", fn := fun _ => fun
  | [d1, d2, d3] => { results := [.lit (.bool true)], args := [d1, d2, d3] }
  | _ => none }
def judgePartsRow : OpenClaim := { program := "ytkpdjbklnjjedaa", sum := "1267c21fbd039dfaac31cd22baadce0dee87cd3530dc6aca276cdc392a3666bc", func := "clusterkernel/clusterkernellaw24.JudgeParts", spec := "judgeParts", plainKeys := false, apart := false }
def JudgePartsSaid : Prop := judgePartsRow.holds Try.pinned (OpenSpec.ofChange judgePartsSpec)

/-- ITS FALSE NEIGHBOUR: 'it returns false'. Refute it at one input. -/
def judgePartsWrong : ChangeSpec := { name := "judgeParts", fn := fun _ => fun
  | [d1, d2, d3] => { results := [.lit (.bool false)], args := [d1, d2, d3] }
  | _ => none }
def JudgePartsWrongFalsely : Prop := judgePartsRow.holds Try.pinned (OpenSpec.ofChange judgePartsWrong)

/- THE SECOND FORM. 'bulk': how many values and letters a reading holds, each counted each time it is reached (what is shared counts as often as it is met; a slice's spare places count too). A statement '..UptoSaid' is the law's where the arguments, and the package variables that the reading takes, are together of bulk at most 1048576: NARROWER than '..Said'. Prove '..Said' where nothing that the law and all that it calls make is longer than what came in: it says more and counts as full. Else prove '..UptoSaid'. A law counts once. -/
mutual
def uptoBulk {H : Type} : DataW H → Nat
  | .lit (.string bytes) => bytes.length + 1
  | .lit _ => 1
  | .nil => 1
  | .ptr d => uptoBulk d + 1
  | .slice elems spare => uptoBulkAll elems + uptoBulkAll spare + 1
  | .agg parts => uptoBulkAll parts + 1
  | .iface _ d => uptoBulk d + 1
  | .map entries => uptoBulkEntries entries + 1
  | .held _ => 1
def uptoBulkAll {H : Type} : List (DataW H) → Nat
  | [] => 0
  | d :: r => uptoBulk d + uptoBulkAll r
def uptoBulkEntries {H : Type} : List (Lit × DataW H) → Nat
  | [] => 0
  | x :: r => uptoBulkEntry x + uptoBulkEntries r
def uptoBulkEntry {H : Type} : Lit × DataW H → Nat
  | (.string bytes, d) => bytes.length + uptoBulk d + 1
  | (_, d) => uptoBulk d + 1
 end
def uptoSmall : (H : Type) → List (DataW H) → Bool := fun _ ds => decide (uptoBulkAll ds ≤ 1048576)
def OpenSpec.upto (s : _root_.Go.ChangeSpec) : _root_.Go.OpenSpec := { _root_.Go.OpenSpec.ofChange s with cond := some uptoSmall }

/-- 'clusterkernellaw24.JudgeOrders', WHERE WHAT IT READS IS OF BULK AT MOST 1048576: true; the input reads as it did. -/
def judgeOrdersUptoRow : OpenClaim := { program := "ytkpdjbklnjjedaa", sum := "1267c21fbd039dfaac31cd22baadce0dee87cd3530dc6aca276cdc392a3666bc", func := "clusterkernel/clusterkernellaw24.JudgeOrders", spec := "judgeOrders", plainKeys := false, apart := false, narrowed := true }
def JudgeOrdersUptoSaid : Prop := judgeOrdersUptoRow.holds Try.pinned (OpenSpec.upto judgeOrdersSpec)

/-- 'clusterkernellaw24.JudgeAccepts', WHERE WHAT IT READS IS OF BULK AT MOST 1048576: true; the input reads as it did. -/
def judgeAcceptsUptoRow : OpenClaim := { program := "ytkpdjbklnjjedaa", sum := "1267c21fbd039dfaac31cd22baadce0dee87cd3530dc6aca276cdc392a3666bc", func := "clusterkernel/clusterkernellaw24.JudgeAccepts", spec := "judgeAccepts", plainKeys := false, apart := false, narrowed := true }
def JudgeAcceptsUptoSaid : Prop := judgeAcceptsUptoRow.holds Try.pinned (OpenSpec.upto judgeAcceptsSpec)

/-- 'clusterkernellaw24.JudgeExact', WHERE WHAT IT READS IS OF BULK AT MOST 1048576: true; the input reads as it did. -/
def judgeExactUptoRow : OpenClaim := { program := "ytkpdjbklnjjedaa", sum := "1267c21fbd039dfaac31cd22baadce0dee87cd3530dc6aca276cdc392a3666bc", func := "clusterkernel/clusterkernellaw24.JudgeExact", spec := "judgeExact", plainKeys := false, apart := false, narrowed := true }
def JudgeExactUptoSaid : Prop := judgeExactUptoRow.holds Try.pinned (OpenSpec.upto judgeExactSpec)

/-- 'clusterkernellaw24.JudgeParts', WHERE WHAT IT READS IS OF BULK AT MOST 1048576: true; the input reads as it did. -/
def judgePartsUptoRow : OpenClaim := { program := "ytkpdjbklnjjedaa", sum := "1267c21fbd039dfaac31cd22baadce0dee87cd3530dc6aca276cdc392a3666bc", func := "clusterkernel/clusterkernellaw24.JudgeParts", spec := "judgeParts", plainKeys := false, apart := false, narrowed := true }
def JudgePartsUptoSaid : Prop := judgePartsUptoRow.holds Try.pinned (OpenSpec.upto judgePartsSpec)

end Rows
end Go.Proofs.Ytkpdjbklnjjedaa
