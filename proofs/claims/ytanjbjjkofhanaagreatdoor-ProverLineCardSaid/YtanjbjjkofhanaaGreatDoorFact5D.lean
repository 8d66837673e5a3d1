/- Closed facts of the row of ProverLine. -/
import Derived.Test.YtanjbjjkofhanaaGreatDoorPartSix
set_option linter.all false
namespace Go.Pf
open Go Go.Ev Go.Proofs Go.RowKit Go.ChangeShapes Go.WideShapes Go.Proofs.YtanjbjjkofhanaaGreatDoor
set_option maxRecDepth 100000 in
theorem fk5:false=Rows.proverLineRow.goesBy Tryz.pinned.checked.prog:=by kernel_rfl
end Go.Pf
