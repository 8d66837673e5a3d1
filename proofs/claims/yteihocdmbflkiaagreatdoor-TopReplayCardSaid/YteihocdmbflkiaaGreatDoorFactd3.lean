/- A closed fact of the card of TopReplay. -/
import Derived.Test.YteihocdmbflkiaaGreatDoorPartSix
set_option linter.all false
namespace Go.Pf
open Go Go.Ev Go.Proofs Go.RowKit Go.ChangeShapes Go.WideShapes Go.Proofs.YteihocdmbflkiaaGreatDoor
theorem fk3:false=Rows.topReplayRow.goesBy Tryz.pinned.checked.prog:=QiC QEc _
end Go.Pf
