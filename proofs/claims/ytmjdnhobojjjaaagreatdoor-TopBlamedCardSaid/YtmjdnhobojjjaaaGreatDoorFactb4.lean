/- Closed facts of the row of TopBlamed. -/
import Derived.Test.YtmjdnhobojjjaaaGreatDoorPartFive
set_option linter.all false
namespace Go.Pf
open Go Go.Ev Go.Proofs Go.RowKit Go.ChangeShapes Go.WideShapes Go.Proofs.YtmjdnhobojjjaaaGreatDoor
set_option maxRecDepth 100000 in
theorem fc4:(Rows.topBlamedRow.recurses==Tryz.prog.recurses 4)=true:=by kernel_rfl
set_option maxRecDepth 100000 in
theorem fd4:(Rows.topBlamedRow.named==Tryz.prog.varsNamed 4)=true:=by kernel_rfl
end Go.Pf
