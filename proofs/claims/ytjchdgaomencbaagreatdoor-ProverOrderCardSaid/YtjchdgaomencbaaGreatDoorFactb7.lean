/- Closed facts of the row of ProverOrder. -/
import Derived.Test.YtjchdgaomencbaaGreatDoorPartFive
set_option linter.all false
namespace Go.Pf
open Go Go.Ev Go.Proofs Go.RowKit Go.ChangeShapes Go.WideShapes Go.Proofs.YtjchdgaomencbaaGreatDoor
set_option maxRecDepth 100000 in
theorem fc7:(Rows.proverOrderRow.recurses==Tryz.prog.recurses 7)=true:=by kernel_rfl
set_option maxRecDepth 100000 in
theorem fd7:(Rows.proverOrderRow.named==Tryz.prog.varsNamed 7)=true:=by kernel_rfl
end Go.Pf
