/- Closed facts of the row of ProverLine. -/
import Derived.Test.YtanjbjjkofhanaaGreatDoorPartSix
set_option linter.all false
namespace Go.Pf
open Go Go.Ev Go.Proofs Go.RowKit Go.ChangeShapes Go.WideShapes Go.Proofs.YtanjbjjkofhanaaGreatDoor
set_option maxRecDepth 100000 in
theorem fc5:(Rows.proverLineRow.recurses==Tryz.prog.recurses 5)=true:=by kernel_rfl
set_option maxRecDepth 100000 in
theorem fd5:(Rows.proverLineRow.named==Tryz.prog.varsNamed 5)=true:=by kernel_rfl
end Go.Pf
