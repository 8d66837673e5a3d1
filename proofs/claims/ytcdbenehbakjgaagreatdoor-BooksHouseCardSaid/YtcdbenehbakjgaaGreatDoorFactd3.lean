/- A closed fact of the card of BooksHouse. -/
import Derived.Test.YtcdbenehbakjgaaGreatDoorPartSix
set_option linter.all false
namespace Go.Pf
open Go Go.Ev Go.Proofs Go.RowKit Go.ChangeShapes Go.WideShapes Go.Proofs.YtcdbenehbakjgaaGreatDoor
theorem fk3:false=Rows.booksHouseRow.goesBy Tryz.pinned.checked.prog:=Qio QDN _
end Go.Pf
