/- Closed facts of the row of TopWords. -/
import Derived.Test.YtmjdnhobojjjaaaGreatDoorPartFive
set_option linter.all false
namespace Go.Pf
open Go Go.Ev Go.Proofs Go.RowKit Go.ChangeShapes Go.WideShapes Go.Proofs.YtmjdnhobojjjaaaGreatDoor
set_option maxRecDepth 100000 in
theorem fc3:(Rows.topWordsRow.recurses==Tryz.prog.recurses 3)=true:=by kernel_rfl
set_option maxRecDepth 100000 in
theorem fd3:(Rows.topWordsRow.named==Tryz.prog.varsNamed 3)=true:=by kernel_rfl
end Go.Pf
