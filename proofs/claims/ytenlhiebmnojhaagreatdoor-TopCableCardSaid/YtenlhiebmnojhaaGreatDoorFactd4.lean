/- A closed fact of the card of TopCable. -/
import Derived.Test.YtenlhiebmnojhaaGreatDoorCabSix
set_option linter.all false
namespace Go.Pf
open Go Go.Ev Go.Proofs Go.RowKit Go.ChangeShapes Go.WideShapes Go.Proofs.YtenlhiebmnojhaaGreatDoor
theorem fk4:false=Rows.topCableRow.goesBy Tryz.pinned.checked.prog:=Qjn QDW _
end Go.Pf
