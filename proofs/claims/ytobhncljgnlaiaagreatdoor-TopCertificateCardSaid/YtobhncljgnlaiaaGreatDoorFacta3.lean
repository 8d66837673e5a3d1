/- Closed facts of the row of TopCertificate. -/
import Derived.Test.YtobhncljgnlaiaaGreatDoorPartFour
set_option linter.all false
namespace Go.Pf
open Go Go.Ev Go.Proofs Go.RowKit Go.ChangeShapes Go.WideShapes Go.Proofs.YtobhncljgnlaiaaGreatDoor
set_option maxRecDepth 100000 in
theorem fa3:(Rows.topCertificateRow.inPlace==Tryz.prog.inPlace 3)=true:=by kernel_rfl
set_option maxRecDepth 100000 in
theorem fb3:(Rows.topCertificateRow.unfollowed==Tryz.prog.unfollowed 3)=true:=by kernel_rfl
end Go.Pf
