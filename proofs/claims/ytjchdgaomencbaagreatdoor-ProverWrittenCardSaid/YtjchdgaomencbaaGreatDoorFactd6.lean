/- A closed fact of the card of ProverWritten. -/
import Derived.Test.YtjchdgaomencbaaGreatDoorPartSix
set_option linter.all false
namespace Go.Pf
open Go Go.Ev Go.Proofs Go.RowKit Go.ChangeShapes Go.WideShapes Go.Proofs.YtjchdgaomencbaaGreatDoor
theorem fk6:false=Rows.proverWrittenRow.goesBy Tryz.pinned.checked.prog:=X5 QlC _
end Go.Pf
