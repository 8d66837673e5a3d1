/- Closed facts of the card of BooksReplay. -/
import Derived.Test.YtpiohpigfaahcaaGreatDoorPartFive
set_option linter.all false
namespace Go.Pf
open Go Go.Ev Go.Proofs Go.RowKit Go.ChangeShapes Go.WideShapes Go.Proofs.YtpiohpigfaahcaaGreatDoor
set_option maxRecDepth 100000 in
theorem fi3:Rows.booksReplayRow.wfByText (OpenSpec.ofChange Rows.booksReplaySpec)=true:=by kernel_rfl
set_option maxRecDepth 100000 in
theorem fj3 : Tryz.pinned.checked.prog.mainIs = some ((true, "463c8234730a52e7550edfe3027c4b17fcc05193e7e3f7ef6e6690c83bbcd42d").1, (true, "463c8234730a52e7550edfe3027c4b17fcc05193e7e3f7ef6e6690c83bbcd42d").2.toList) := by kernel_rfl
end Go.Pf
