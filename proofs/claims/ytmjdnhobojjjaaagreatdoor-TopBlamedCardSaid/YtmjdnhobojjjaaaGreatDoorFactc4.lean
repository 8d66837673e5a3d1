/- Closed facts of the card of TopBlamed. -/
import Derived.Test.YtmjdnhobojjjaaaGreatDoorPartFive
set_option linter.all false
namespace Go.Pf
open Go Go.Ev Go.Proofs Go.RowKit Go.ChangeShapes Go.WideShapes Go.Proofs.YtmjdnhobojjjaaaGreatDoor
set_option maxRecDepth 100000 in
theorem fi4:Rows.topBlamedRow.wfByText (OpenSpec.ofChange Rows.topBlamedSpec)=true:=by kernel_rfl
set_option maxRecDepth 100000 in
theorem fj4 : Tryz.pinned.checked.prog.mainIs = some ((true, "156ba645e880ec91aa7bc437a7bc6982c301c986d9ae49b48d29b94aef0ba8c9").1, (true, "156ba645e880ec91aa7bc437a7bc6982c301c986d9ae49b48d29b94aef0ba8c9").2.toList) := by kernel_rfl
end Go.Pf
