/- Closed facts of the card of TopSpots. -/
import Derived.Test.YtenlhiebmnojhaaGreatDoorPartFive
set_option linter.all false
namespace Go.Pf
open Go Go.Ev Go.Proofs Go.RowKit Go.ChangeShapes Go.WideShapes Go.Proofs.YtenlhiebmnojhaaGreatDoor
set_option maxRecDepth 100000 in
theorem fi3:Rows.topSpotsRow.wfByText (OpenSpec.ofChange Rows.topSpotsSpec)=true:=by kernel_rfl
set_option maxRecDepth 100000 in
theorem fj3 : Tryz.pinned.checked.prog.mainIs = some ((true, "87aac49d19b258d56a9d0e16ed47fb19dc1ec5f81ac78c3dfa202eeef445e1a8").1, (true, "87aac49d19b258d56a9d0e16ed47fb19dc1ec5f81ac78c3dfa202eeef445e1a8").2.toList) := by kernel_rfl
end Go.Pf
