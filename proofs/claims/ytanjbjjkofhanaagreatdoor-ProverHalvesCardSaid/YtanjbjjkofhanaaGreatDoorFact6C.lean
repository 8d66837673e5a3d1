/- Closed facts of the row of ProverHalves. -/
import Derived.Test.YtanjbjjkofhanaaGreatDoorPartSix
set_option linter.all false
namespace Go.Pf
open Go Go.Ev Go.Proofs Go.RowKit Go.ChangeShapes Go.WideShapes Go.Proofs.YtanjbjjkofhanaaGreatDoor
set_option maxRecDepth 100000 in
theorem fc6:(Rows.proverHalvesRow.recurses==Tryz.prog.recurses 6)=true:=by kernel_rfl
set_option maxRecDepth 100000 in
theorem fd6:(Rows.proverHalvesRow.named==Tryz.prog.varsNamed 6)=true:=by kernel_rfl
end Go.Pf
