/- Closed facts of the row of ProverOrder. -/
import Derived.Test.YtjchdgaomencbaaGreatDoorPartFive
set_option linter.all false
namespace Go.Pf
open Go Go.Ev Go.Proofs Go.RowKit Go.ChangeShapes Go.WideShapes Go.Proofs.YtjchdgaomencbaaGreatDoor
set_option maxRecDepth 100000 in
theorem fa7:(Rows.proverOrderRow.inPlace==Tryz.prog.inPlace 7)=true:=by kernel_rfl
set_option maxRecDepth 100000 in
theorem fb7:(Rows.proverOrderRow.unfollowed==Tryz.prog.unfollowed 7)=true:=by kernel_rfl
end Go.Pf
