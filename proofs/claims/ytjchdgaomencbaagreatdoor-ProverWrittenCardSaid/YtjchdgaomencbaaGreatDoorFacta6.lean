/- Closed facts of the row of ProverWritten. -/
import Derived.Test.YtjchdgaomencbaaGreatDoorPartFive
set_option linter.all false
namespace Go.Pf
open Go Go.Ev Go.Proofs Go.RowKit Go.ChangeShapes Go.WideShapes Go.Proofs.YtjchdgaomencbaaGreatDoor
set_option maxRecDepth 100000 in
theorem fa6:(Rows.proverWrittenRow.inPlace==Tryz.prog.inPlace 6)=true:=by kernel_rfl
set_option maxRecDepth 100000 in
theorem fb6:(Rows.proverWrittenRow.unfollowed==Tryz.prog.unfollowed 6)=true:=by kernel_rfl
end Go.Pf
