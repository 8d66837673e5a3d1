/- Closed facts of the card of ProverWritten. -/
import Derived.Test.YtjchdgaomencbaaGreatDoorPartFive
set_option linter.all false
namespace Go.Pf
open Go Go.Ev Go.Proofs Go.RowKit Go.ChangeShapes Go.WideShapes Go.Proofs.YtjchdgaomencbaaGreatDoor
set_option maxRecDepth 100000 in
theorem fi6:Rows.proverWrittenRow.wfByText (OpenSpec.ofChange Rows.proverWrittenSpec)=true:=by kernel_rfl
set_option maxRecDepth 100000 in
theorem fj6 : Tryz.pinned.checked.prog.mainIs = some ((true, "4be904c19a29827892f087a7091e0980331caee00edb45aaaff9a7ab0d5951f2").1, (true, "4be904c19a29827892f087a7091e0980331caee00edb45aaaff9a7ab0d5951f2").2.toList) := by kernel_rfl
end Go.Pf
