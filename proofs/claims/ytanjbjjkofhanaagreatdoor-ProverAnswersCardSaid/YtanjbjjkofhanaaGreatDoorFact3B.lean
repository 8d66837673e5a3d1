/- Closed facts of the row of ProverAnswers. -/
import Derived.Test.YtanjbjjkofhanaaGreatDoorPartSix
set_option linter.all false
namespace Go.Pf
open Go Go.Ev Go.Proofs Go.RowKit Go.ChangeShapes Go.WideShapes Go.Proofs.YtanjbjjkofhanaaGreatDoor
set_option maxRecDepth 100000 in
theorem fa3:(Rows.proverAnswersRow.inPlace==Tryz.prog.inPlace 3)=true:=by kernel_rfl
set_option maxRecDepth 100000 in
theorem fb3:(Rows.proverAnswersRow.unfollowed==Tryz.prog.unfollowed 3)=true:=by kernel_rfl
end Go.Pf
