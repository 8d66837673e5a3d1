/- Closed facts of the row of ProverLast. -/
import Derived.Test.YtjchdgaomencbaaGreatDoorPartFive
set_option linter.all false
namespace Go.Pf
open Go Go.Ev Go.Proofs Go.RowKit Go.ChangeShapes Go.WideShapes Go.Proofs.YtjchdgaomencbaaGreatDoor
set_option maxRecDepth 100000 in
theorem fc8:(Rows.proverLastRow.recurses==Tryz.prog.recurses 8)=true:=by kernel_rfl
set_option maxRecDepth 100000 in
theorem fd8:(Rows.proverLastRow.named==Tryz.prog.varsNamed 8)=true:=by kernel_rfl
end Go.Pf
