/- The card of the law TopReplay. -/
import Derived.Test.YteihocdmbflkiaaGreatDoorFactl3
import Derived.Test.YteihocdmbflkiaaGreatDoorFacta3
import Derived.Test.YteihocdmbflkiaaGreatDoorFactb3
import Derived.Test.YteihocdmbflkiaaGreatDoorFactc3
import Derived.Test.YteihocdmbflkiaaGreatDoorFactd3
set_option linter.all false
namespace Go.Pf
open Go Go.Ev Go.Proofs Go.RowKit Go.ChangeShapes Go.WideShapes Go.Proofs.YteihocdmbflkiaaGreatDoor Go.Proofs.Tryz
set_option maxRecDepth 100000 in
theorem fe3:joinedFacts prog 3 Tryz.f3 Rows.topReplaySpec Rows.topReplayRow=true :=
 QnO (by kernel_rfl) QnL QEf (by kernel_rfl) (by kernel_rfl) (by kernel_rfl) QEe (by kernel_rfl) QEd fa3 fb3 fc3 fd3 (by kernel_rfl) (by kernel_rfl) (by kernel_rfl) (by kernel_rfl) (by kernel_rfl) (by kernel_rfl) (by kernel_rfl) (by kernel_rfl) (by kernel_rfl)
  QEb (by kernel_rfl) QxO QBO QBN QEa (by kernel_rfl) (by kernel_rfl) (by kernel_rfl) (by kernel_rfl)
set_option maxRecDepth 100000 in
theorem ff3:prog.funcNamed Rows.topReplayRow.func=some 3:=by kernel_rfl
set_option maxRecDepth 100000 in
theorem fg3:Tryz.f3.isInstance prog Rows.topReplayRow.origin Rows.topReplayRow.targs:=of_decide_eq_true (by kernel_rfl)
set_option maxRecDepth 100000 in
theorem fh3:Tryz.f3.isWrapper prog Rows.topReplayRow.wrapper Rows.topReplayRow.mainSum:=by
 unfold Func.isWrapper
 first | (rw[if_pos (by decide +kernel)];kernel_rfl) | (rw[if_neg (by decide +kernel)];exact ⟨rfl,rfl⟩)
set_option maxRecDepth 100000 in
theorem said3:Rows.TopReplaySaid :=
 OpenClaim.holds_of_cond 3 Tryz.f3 rfl rfl rfl rfl rfl rfl rfl ⟨rfl,rfl,rfl,rfl,rfl⟩ rfl rfl rfl rfl rfl ff3 func3 fe3 fg3 fh3
  (fun os started H enc _ F=>by rw[OpenClaim.pre_eq_preRow];exact QvC os started H enc F)
set_option maxRecDepth 100000 in
theorem QAO (f:FuncId) (fn:Func) (hf:Tryz.pinned.checked.prog.funcNamed Rows.topReplayRow.func=some f) (hfn:Tryz.pinned.checked.prog.funcs[f]?=some fn) :
  true=Tryz.pinned.checked.prog.looks []/\∀ (j:Nat) t,fn.params[j]?=some t->Tryz.pinned.checked.prog.wantsStandIn t=false:=by
 obtain rfl:f=3:=Option.some.inj (ff3.symm.trans hf) |>.symm
 obtain rfl:fn=Tryz.f3:=(Option.some.inj (func3.symm.trans hfn)).symm;refine ⟨QBM.symm,fun j t ht=>?_⟩
 rw[params3] at ht;have xf:∀ t∈[40,41,42],prog.wantsStandIn t=false:=by decide +kernel
 exact xf t (by simpa using QK4 (show [40,41,42][j]?=some t by simpa using ht))
end Go.Pf
namespace Go.Proofs.YteihocdmbflkiaaGreatDoor
open Go Go.Ev Go.Proofs Go.RowKit Go.Pf
set_option maxRecDepth 100000 in
theorem card3:Rows.TopReplayCardSaid :=
 Claim7.holds_tied_plain_at .later [] _ _ _ _ said3 (fun _ h=>by cases h) fi3 (fun _ h=>by cases h) topReplay_row_tie rfl ⟨rfl,rfl⟩ fj3 rfl QAO fk3
end Go.Proofs.YteihocdmbflkiaaGreatDoor
#print axioms Go.Proofs.YteihocdmbflkiaaGreatDoor.card3
