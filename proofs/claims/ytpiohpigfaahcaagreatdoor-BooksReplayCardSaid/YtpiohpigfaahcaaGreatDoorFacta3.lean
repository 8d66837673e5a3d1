/- Closed facts of the row of BooksReplay. -/
import Derived.Test.YtpiohpigfaahcaaGreatDoorPartFive
set_option linter.all false
namespace Go.Pf
open Go Go.Ev Go.Proofs Go.RowKit Go.ChangeShapes Go.WideShapes Go.Proofs.YtpiohpigfaahcaaGreatDoor Go.Proofs.Tryz
set_option maxRecDepth 100000 in
theorem fa3:(Rows.booksReplayRow.inPlace==prog.inPlace 3)=true:=by kernel_rfl
set_option maxRecDepth 100000 in
theorem fb3:(Rows.booksReplayRow.unfollowed==prog.unfollowed 3)=true:=by kernel_rfl
end Go.Pf
