/- Closed facts of the row of BooksReplay. -/
import Derived.Test.YtpiohpigfaahcaaGreatDoorPartFive
set_option linter.all false
namespace Go.Pf
open Go Go.Ev Go.Proofs Go.RowKit Go.ChangeShapes Go.WideShapes Go.Proofs.YtpiohpigfaahcaaGreatDoor Go.Proofs.Tryz
set_option maxRecDepth 100000 in
theorem fc3:(Rows.booksReplayRow.recurses==prog.recurses 3)=true:=by kernel_rfl
set_option maxRecDepth 100000 in
theorem fd3:(Rows.booksReplayRow.named==prog.varsNamed 3)=true:=by kernel_rfl
end Go.Pf
