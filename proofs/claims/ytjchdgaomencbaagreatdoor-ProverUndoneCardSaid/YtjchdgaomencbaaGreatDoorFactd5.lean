/- A closed fact of the card of ProverUndone. -/
import Derived.Test.YtjchdgaomencbaaGreatDoorPartSix
set_option linter.all false
namespace Go.Pf
open Go Go.Ev Go.Proofs Go.RowKit Go.ChangeShapes Go.WideShapes Go.Proofs.YtjchdgaomencbaaGreatDoor
theorem fk5:false=Rows.proverUndoneRow.goesBy Tryz.pinned.checked.prog:=X5 QlC _
end Go.Pf
