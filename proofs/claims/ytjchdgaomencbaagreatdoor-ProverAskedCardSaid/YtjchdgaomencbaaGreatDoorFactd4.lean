/- A closed fact of the card of ProverAsked. -/
import Derived.Test.YtjchdgaomencbaaGreatDoorPartSix
set_option linter.all false
namespace Go.Pf
open Go Go.Ev Go.Proofs Go.RowKit Go.ChangeShapes Go.WideShapes Go.Proofs.YtjchdgaomencbaaGreatDoor
theorem fk4:false=Rows.proverAskedRow.goesBy Tryz.pinned.checked.prog:=X5 QlC _
end Go.Pf
