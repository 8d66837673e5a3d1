/- Closed facts of the row of ProverHalves. -/
import Derived.Test.YtanjbjjkofhanaaGreatDoorPartSix
set_option linter.all false
namespace Go.Pf
open Go Go.Ev Go.Proofs Go.RowKit Go.ChangeShapes Go.WideShapes Go.Proofs.YtanjbjjkofhanaaGreatDoor
set_option maxRecDepth 100000 in
theorem fk6:false=Rows.proverHalvesRow.goesBy Tryz.pinned.checked.prog:=by kernel_rfl
end Go.Pf
