/- Closed facts of the row of ProverLast. -/
import Derived.Test.YtjchdgaomencbaaGreatDoorPartFive
set_option linter.all false
namespace Go.Pf
open Go Go.Ev Go.Proofs Go.RowKit Go.ChangeShapes Go.WideShapes Go.Proofs.YtjchdgaomencbaaGreatDoor
set_option maxRecDepth 100000 in
theorem fa8:(Rows.proverLastRow.inPlace==Tryz.prog.inPlace 8)=true:=by kernel_rfl
set_option maxRecDepth 100000 in
theorem fb8:(Rows.proverLastRow.unfollowed==Tryz.prog.unfollowed 8)=true:=by kernel_rfl
end Go.Pf
