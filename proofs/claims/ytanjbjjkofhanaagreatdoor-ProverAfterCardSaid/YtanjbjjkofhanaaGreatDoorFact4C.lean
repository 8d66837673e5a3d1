/- Closed facts of the row of ProverAfter. -/
import Derived.Test.YtanjbjjkofhanaaGreatDoorPartSix
set_option linter.all false
namespace Go.Pf
open Go Go.Ev Go.Proofs Go.RowKit Go.ChangeShapes Go.WideShapes Go.Proofs.YtanjbjjkofhanaaGreatDoor
set_option maxRecDepth 100000 in
theorem fc4:(Rows.proverAfterRow.recurses==Tryz.prog.recurses 4)=true:=by kernel_rfl
set_option maxRecDepth 100000 in
theorem fd4:(Rows.proverAfterRow.named==Tryz.prog.varsNamed 4)=true:=by kernel_rfl
end Go.Pf
