/- Closed facts of the row of TopCable. -/
import Derived.Test.YtenlhiebmnojhaaGreatDoorCabFive
set_option linter.all false
namespace Go.Pf
open Go Go.Ev Go.Proofs Go.RowKit Go.ChangeShapes Go.WideShapes Go.Proofs.YtenlhiebmnojhaaGreatDoor Go.Proofs.Tryz
set_option maxRecDepth 100000 in
theorem fa4:(Rows.topCableRow.inPlace==prog.inPlace 4)=true:=by kernel_rfl
set_option maxRecDepth 100000 in
theorem fb4:(Rows.topCableRow.unfollowed==prog.unfollowed 4)=true:=by kernel_rfl
end Go.Pf
