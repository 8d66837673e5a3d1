/- Closed facts of the row of ProverAnswers. -/
import Derived.Test.YtanjbjjkofhanaaGreatDoorPartSix
set_option linter.all false
namespace Go.Pf
open Go Go.Ev Go.Proofs Go.RowKit Go.ChangeShapes Go.WideShapes Go.Proofs.YtanjbjjkofhanaaGreatDoor
set_option maxRecDepth 100000 in
theorem fc3:(Rows.proverAnswersRow.recurses==Tryz.prog.recurses 3)=true:=by kernel_rfl
set_option maxRecDepth 100000 in
theorem fd3:(Rows.proverAnswersRow.named==Tryz.prog.varsNamed 3)=true:=by kernel_rfl
end Go.Pf
