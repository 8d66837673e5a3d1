/- A closed fact of the card of TopCertificate. -/
import Derived.Test.YtobhncljgnlaiaaGreatDoorPartFive
set_option linter.all false
namespace Go.Pf
open Go Go.Ev Go.Proofs Go.RowKit Go.ChangeShapes Go.WideShapes Go.Proofs.YtobhncljgnlaiaaGreatDoor
theorem fk3:false=Rows.topCertificateRow.goesBy Tryz.pinned.checked.prog:=Qc9 Qus _
end Go.Pf
