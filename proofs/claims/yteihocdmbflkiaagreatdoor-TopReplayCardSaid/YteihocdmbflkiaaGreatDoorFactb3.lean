/- Closed facts of the row of TopReplay. -/
import Derived.Test.YteihocdmbflkiaaGreatDoorPartFive
set_option linter.all false
namespace Go.Pf
open Go Go.Ev Go.Proofs Go.RowKit Go.ChangeShapes Go.WideShapes Go.Proofs.YteihocdmbflkiaaGreatDoor Go.Proofs.Tryz
set_option maxRecDepth 100000 in
theorem fc3:(Rows.topReplayRow.recurses==prog.recurses 3)=true:=by kernel_rfl
set_option maxRecDepth 100000 in
theorem fd3:(Rows.topReplayRow.named==prog.varsNamed 3)=true:=by kernel_rfl
end Go.Pf
