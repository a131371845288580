/-
  Small facts about heaps.
-/
import Derived.Test.YtdlekkhjkcbbnaaGreatDoorAbY
import Derived.Test.YtdlekkhjkcbbnaaGreatDoorCoGl
import Derived.Test.YtdlekkhjkcbbnaaGreatDoorIdS
set_option linter.unusedVariables false
set_option linter.unusedSimpArgs false
set_option maxRecDepth 8000
set_option maxHeartbeats 2000000
namespace Go.Proofs.YtdlekkhjkcbbnaaGreatDoor
open Go.Ab Go.Id Go

theorem take_app3 {σ junk : Heap} {o o' o'' : AObj} : List.take (σ.length + 3) (σ ++ (o :: o' :: o'' :: junk)) = σ ++ [o, o', o''] :=
  (congrArg (List.take _) (List.append_assoc σ [o, o', o''] junk).symm).trans (List.take_left' (by simp))

theorem wfH_row3 {σ : Heap} {g e g' e' g'' e'' : Nat} {es es' es'' : List AV} (hw : WfH σ.length σ) (hp : PureL es) (hp' : PureL es') (hp'' : PureL es'') : WfH (σ.length + 3) (σ ++ [.row g e es, .row g' e' es', .row g'' e'' es'']) := wfH_app (l := [.row g e es, .row g' e' es', .row g'' e'' es'']) hw fun o ho => by
  simp only [List.mem_cons, List.not_mem_nil, or_false] at ho
  rcases ho with rfl | rfl | rfl
  · exact AllIL.mono (fun _ h => h.elim) _ hp
  · exact AllIL.mono (fun _ h => h.elim) _ hp'
  · exact AllIL.mono (fun _ h => h.elim) _ hp''

theorem take_app4 {σ junk : Heap} {o o' o'' o3 : AObj} : List.take (σ.length + 4) (σ ++ (o :: o' :: o'' :: o3 :: junk)) = σ ++ [o, o', o'', o3] :=
  (congrArg (List.take _) (List.append_assoc σ [o, o', o'', o3] junk).symm).trans (List.take_left' (by simp))

theorem wfH_row4 {σ : Heap} {g e g' e' g'' e'' g3 e3 : Nat} {es es' es'' es3 : List AV} (hw : WfH σ.length σ) (hp : PureL es) (hp' : PureL es') (hp'' : PureL es'') (hp3 : PureL es3) : WfH (σ.length + 4) (σ ++ [.row g e es, .row g' e' es', .row g'' e'' es'', .row g3 e3 es3]) := wfH_app (l := [.row g e es, .row g' e' es', .row g'' e'' es'', .row g3 e3 es3]) hw fun o ho => by
  simp only [List.mem_cons, List.not_mem_nil, or_false] at ho
  rcases ho with rfl | rfl | rfl | rfl
  · exact AllIL.mono (fun _ h => h.elim) _ hp
  · exact AllIL.mono (fun _ h => h.elim) _ hp'
  · exact AllIL.mono (fun _ h => h.elim) _ hp''
  · exact AllIL.mono (fun _ h => h.elim) _ hp3


end Go.Proofs.YtdlekkhjkcbbnaaGreatDoor
