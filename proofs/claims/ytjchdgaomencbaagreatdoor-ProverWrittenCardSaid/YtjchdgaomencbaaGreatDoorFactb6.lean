/- Closed facts of the row of ProverWritten. -/
import Derived.Test.YtjchdgaomencbaaGreatDoorPartFive
set_option linter.all false
namespace Go.Pf
open Go Go.Ev Go.Proofs Go.RowKit Go.ChangeShapes Go.WideShapes Go.Proofs.YtjchdgaomencbaaGreatDoor
set_option maxRecDepth 100000 in
theorem fc6:(Rows.proverWrittenRow.recurses==Tryz.prog.recurses 6)=true:=by kernel_rfl
set_option maxRecDepth 100000 in
theorem fd6:(Rows.proverWrittenRow.named==Tryz.prog.varsNamed 6)=true:=by kernel_rfl
end Go.Pf
