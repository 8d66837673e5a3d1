/- Closed facts of the card of TopCertificate. -/
import Derived.Test.YtobhncljgnlaiaaGreatDoorPartFour
set_option linter.all false
namespace Go.Pf
open Go Go.Ev Go.Proofs Go.RowKit Go.ChangeShapes Go.WideShapes Go.Proofs.YtobhncljgnlaiaaGreatDoor
set_option maxRecDepth 100000 in
theorem fi3:Rows.topCertificateRow.wfByText (OpenSpec.ofChange Rows.topCertificateSpec)=true:=by kernel_rfl
set_option maxRecDepth 100000 in
theorem fj3 : Tryz.pinned.checked.prog.mainIs = some ((true, "ff05f0434a4edeaac931ff820b72c4dd57aca1b82db1b8e1da222ae8fa2a1d8f").1, (true, "ff05f0434a4edeaac931ff820b72c4dd57aca1b82db1b8e1da222ae8fa2a1d8f").2.toList) := by kernel_rfl
end Go.Pf
