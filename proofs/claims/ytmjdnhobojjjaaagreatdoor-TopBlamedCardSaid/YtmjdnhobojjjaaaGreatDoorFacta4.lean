/- Closed facts of the row of TopBlamed. -/
import Derived.Test.YtmjdnhobojjjaaaGreatDoorPartFive
set_option linter.all false
namespace Go.Pf
open Go Go.Ev Go.Proofs Go.RowKit Go.ChangeShapes Go.WideShapes Go.Proofs.YtmjdnhobojjjaaaGreatDoor
set_option maxRecDepth 100000 in
theorem fa4:(Rows.topBlamedRow.inPlace==Tryz.prog.inPlace 4)=true:=by kernel_rfl
set_option maxRecDepth 100000 in
theorem fb4:(Rows.topBlamedRow.unfollowed==Tryz.prog.unfollowed 4)=true:=by kernel_rfl
end Go.Pf
