/- Closed facts of the card of TopReplay. -/
import Derived.Test.YteihocdmbflkiaaGreatDoorPartFive
set_option linter.all false
namespace Go.Pf
open Go Go.Ev Go.Proofs Go.RowKit Go.ChangeShapes Go.WideShapes Go.Proofs.YteihocdmbflkiaaGreatDoor
set_option maxRecDepth 100000 in
theorem fi3:Rows.topReplayRow.wfByText (OpenSpec.ofChange Rows.topReplaySpec)=true:=by kernel_rfl
set_option maxRecDepth 100000 in
theorem fj3 : Tryz.pinned.checked.prog.mainIs = some ((true, "8120b902fa763b603f6253c1ed2b372408bb82e39bfa2f6efb065b4fa25dcc5b").1, (true, "8120b902fa763b603f6253c1ed2b372408bb82e39bfa2f6efb065b4fa25dcc5b").2.toList) := by kernel_rfl
end Go.Pf
