/- Closed facts of the row of ProverUndone. -/
import Derived.Test.YtjchdgaomencbaaGreatDoorPartFive
set_option linter.all false
namespace Go.Pf
open Go Go.Ev Go.Proofs Go.RowKit Go.ChangeShapes Go.WideShapes Go.Proofs.YtjchdgaomencbaaGreatDoor
set_option maxRecDepth 100000 in
theorem fc5:(Rows.proverUndoneRow.recurses==Tryz.prog.recurses 5)=true:=by kernel_rfl
set_option maxRecDepth 100000 in
theorem fd5:(Rows.proverUndoneRow.named==Tryz.prog.varsNamed 5)=true:=by kernel_rfl
end Go.Pf
