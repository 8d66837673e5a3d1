/- Closed facts of the card of BooksHouse. -/
import Derived.Test.YtcdbenehbakjgaaGreatDoorPartFive
set_option linter.all false
namespace Go.Pf
open Go Go.Ev Go.Proofs Go.RowKit Go.ChangeShapes Go.WideShapes Go.Proofs.YtcdbenehbakjgaaGreatDoor
set_option maxRecDepth 100000 in
theorem fi3:Rows.booksHouseRow.wfByText (OpenSpec.ofChange Rows.booksHouseSpec)=true:=by kernel_rfl
set_option maxRecDepth 100000 in
theorem fj3 : Tryz.pinned.checked.prog.mainIs = some ((true, "7a96464e1bed91cf2420f3091084554315a195a65c06ccd70c5cdd01b077dd75").1, (true, "7a96464e1bed91cf2420f3091084554315a195a65c06ccd70c5cdd01b077dd75").2.toList) := by kernel_rfl
end Go.Pf
