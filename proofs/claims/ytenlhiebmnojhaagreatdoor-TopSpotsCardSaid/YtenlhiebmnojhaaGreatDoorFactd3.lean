/- A closed fact of the card of TopSpots. -/
import Derived.Test.YtenlhiebmnojhaaGreatDoorPartSix
set_option linter.all false
namespace Go.Pf
open Go Go.Ev Go.Proofs Go.RowKit Go.ChangeShapes Go.WideShapes Go.Proofs.YtenlhiebmnojhaaGreatDoor
theorem fk3:false=Rows.topSpotsRow.goesBy Tryz.pinned.checked.prog:=QjG QEE _
end Go.Pf
