/- Closed facts of the row of ProverAsked. -/
import Derived.Test.YtjchdgaomencbaaGreatDoorPartFive
set_option linter.all false
namespace Go.Pf
open Go Go.Ev Go.Proofs Go.RowKit Go.ChangeShapes Go.WideShapes Go.Proofs.YtjchdgaomencbaaGreatDoor
set_option maxRecDepth 100000 in
theorem fa4:(Rows.proverAskedRow.inPlace==Tryz.prog.inPlace 4)=true:=by kernel_rfl
set_option maxRecDepth 100000 in
theorem fb4:(Rows.proverAskedRow.unfollowed==Tryz.prog.unfollowed 4)=true:=by kernel_rfl
end Go.Pf
