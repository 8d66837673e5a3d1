/- A closed fact of the card of TopWords. -/
import Derived.Test.YtmjdnhobojjjaaaGreatDoorPartFive
set_option linter.all false
namespace Go.Pf
open Go Go.Ev Go.Proofs Go.RowKit Go.ChangeShapes Go.WideShapes Go.Proofs.YtmjdnhobojjjaaaGreatDoor
theorem fk3:false=Rows.topWordsRow.goesBy Tryz.pinned.checked.prog:=Qcy Qtb _
end Go.Pf
