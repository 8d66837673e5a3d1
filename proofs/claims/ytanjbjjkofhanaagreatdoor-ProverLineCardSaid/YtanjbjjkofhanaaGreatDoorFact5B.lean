/- Closed facts of the row of ProverLine. -/
import Derived.Test.YtanjbjjkofhanaaGreatDoorPartSix
set_option linter.all false
namespace Go.Pf
open Go Go.Ev Go.Proofs Go.RowKit Go.ChangeShapes Go.WideShapes Go.Proofs.YtanjbjjkofhanaaGreatDoor
set_option maxRecDepth 100000 in
theorem fa5:(Rows.proverLineRow.inPlace==Tryz.prog.inPlace 5)=true:=by kernel_rfl
set_option maxRecDepth 100000 in
theorem fb5:(Rows.proverLineRow.unfollowed==Tryz.prog.unfollowed 5)=true:=by kernel_rfl
end Go.Pf
