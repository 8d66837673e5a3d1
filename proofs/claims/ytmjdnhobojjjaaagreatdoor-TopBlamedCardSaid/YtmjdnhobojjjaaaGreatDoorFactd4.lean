/- A closed fact of the card of TopBlamed. -/
import Derived.Test.YtmjdnhobojjjaaaGreatDoorPartSix
set_option linter.all false
namespace Go.Pf
open Go Go.Ev Go.Proofs Go.RowKit Go.ChangeShapes Go.WideShapes Go.Proofs.YtmjdnhobojjjaaaGreatDoor
theorem fk4:false=Rows.topBlamedRow.goesBy Tryz.pinned.checked.prog:=QdT QvN _
end Go.Pf
