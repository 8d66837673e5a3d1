/- Closed facts of the row of ProverUndone. -/
import Derived.Test.YtjchdgaomencbaaGreatDoorPartFive
set_option linter.all false
namespace Go.Pf
open Go Go.Ev Go.Proofs Go.RowKit Go.ChangeShapes Go.WideShapes Go.Proofs.YtjchdgaomencbaaGreatDoor
set_option maxRecDepth 100000 in
theorem fa5:(Rows.proverUndoneRow.inPlace==Tryz.prog.inPlace 5)=true:=by kernel_rfl
set_option maxRecDepth 100000 in
theorem fb5:(Rows.proverUndoneRow.unfollowed==Tryz.prog.unfollowed 5)=true:=by kernel_rfl
end Go.Pf
