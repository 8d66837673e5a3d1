/- Closed facts of the row of ProverHalves. -/
import Derived.Test.YtanjbjjkofhanaaGreatDoorPartSix
set_option linter.all false
namespace Go.Pf
open Go Go.Ev Go.Proofs Go.RowKit Go.ChangeShapes Go.WideShapes Go.Proofs.YtanjbjjkofhanaaGreatDoor
set_option maxRecDepth 100000 in
theorem fa6:(Rows.proverHalvesRow.inPlace==Tryz.prog.inPlace 6)=true:=by kernel_rfl
set_option maxRecDepth 100000 in
theorem fb6:(Rows.proverHalvesRow.unfollowed==Tryz.prog.unfollowed 6)=true:=by kernel_rfl
end Go.Pf
