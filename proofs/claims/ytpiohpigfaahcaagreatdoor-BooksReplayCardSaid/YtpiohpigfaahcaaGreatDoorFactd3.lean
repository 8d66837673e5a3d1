/- A closed fact of the card of BooksReplay. -/
import Derived.Test.YtpiohpigfaahcaaGreatDoorPartSeven
set_option linter.all false
namespace Go.Pf
open Go Go.Ev Go.Proofs Go.RowKit Go.ChangeShapes Go.WideShapes Go.Proofs.YtpiohpigfaahcaaGreatDoor
theorem fk3:false=Rows.booksReplayRow.goesBy Tryz.pinned.checked.prog:=Qj2 QIT _
end Go.Pf
