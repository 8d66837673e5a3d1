/- The card of the law ProverUndone. -/
import Derived.Test.YtjchdgaomencbaaGreatDoorFactl5
import Derived.Test.YtjchdgaomencbaaGreatDoorFacta5
import Derived.Test.YtjchdgaomencbaaGreatDoorFactb5
import Derived.Test.YtjchdgaomencbaaGreatDoorFactc5
import Derived.Test.YtjchdgaomencbaaGreatDoorFactd5
set_option linter.all false
namespace Go.Pf
open Go Go.Ev Go.Proofs Go.RowKit Go.ChangeShapes Go.WideShapes Go.Proofs.YtjchdgaomencbaaGreatDoor
set_option maxRecDepth 100000 in
theorem fe5:joinedFacts Tryz.prog 5 Tryz.f5 Rows.proverUndoneSpec Rows.proverUndoneRow=true :=
 JJ (by kernel_rfl) Ym QlF (by kernel_rfl) (by kernel_rfl) (by kernel_rfl) QlE (by kernel_rfl) QlD fa5 fb5 fc5 fd5 (by kernel_rfl) (by kernel_rfl) (by kernel_rfl) (by kernel_rfl) (by kernel_rfl) (by kernel_rfl) (by kernel_rfl) (by kernel_rfl) (by kernel_rfl)
  QlB (by kernel_rfl) qt Qdj QlA Qlz (by kernel_rfl) (by kernel_rfl) (by kernel_rfl) (by kernel_rfl)
set_option maxRecDepth 100000 in
theorem ff5:Tryz.prog.funcNamed Rows.proverUndoneRow.func=some 5:=by kernel_rfl
set_option maxRecDepth 100000 in
theorem fg5:Tryz.f5.isInstance Tryz.prog Rows.proverUndoneRow.origin Rows.proverUndoneRow.targs:=of_decide_eq_true (by kernel_rfl)
set_option maxRecDepth 100000 in
theorem fh5:Tryz.f5.isWrapper Tryz.prog Rows.proverUndoneRow.wrapper Rows.proverUndoneRow.mainSum:=by
 unfold Func.isWrapper
 first | (rw[if_pos (by decide +kernel)];kernel_rfl) | (rw[if_neg (by decide +kernel)];exact ⟨rfl,rfl⟩)
set_option maxRecDepth 100000 in
theorem said5:Rows.ProverUndoneSaid :=
 OpenClaim.holds_of_cond 5 Tryz.f5 rfl rfl rfl rfl rfl rfl rfl ⟨rfl,rfl,rfl,rfl,rfl⟩ rfl rfl rfl rfl rfl ff5 Tryz.func5 fe5 fg5 fh5
  (fun os started H enc _ F=>by rw[OpenClaim.pre_eq_preRow];exact QvB os started H enc F)
set_option maxRecDepth 100000 in
theorem QA4 (f:FuncId) (fn:Func) (hf:Tryz.pinned.checked.prog.funcNamed Rows.proverUndoneRow.func=some f) (hfn:Tryz.pinned.checked.prog.funcs[f]?=some fn) :
  true=Tryz.pinned.checked.prog.looks []/\∀ (j:Nat) t,fn.params[j]?=some t->Tryz.pinned.checked.prog.wantsStandIn t=false:=by
 obtain rfl:f=5:=Option.some.inj (ff5.symm.trans hf) |>.symm
 obtain rfl:fn=Tryz.f5:=(Option.some.inj (Tryz.func5.symm.trans hfn)).symm;refine ⟨Qdi.symm,fun j t ht=>?_⟩
 rw[Tryz.params5] at ht;have hall:∀ t∈[40,41,9],Tryz.prog.wantsStandIn t=false:=by decide +kernel
 exact hall t (by simpa using QL2 (show [40,41,9][j]?=some t by simpa using ht))
end Go.Pf
namespace Go.Proofs.YtjchdgaomencbaaGreatDoor
open Go Go.Ev Go.Proofs Go.RowKit Go.Pf
set_option maxRecDepth 100000 in
theorem card5:Rows.ProverUndoneCardSaid :=
 Claim7.holds_tied_plain_at .later [] _ _ _ _ said5 (fun _ h=>by cases h) fi5 (fun _ h=>by cases h) proverUndone_row_tie rfl ⟨rfl,rfl⟩ fj5 rfl QA4 fk5
end Go.Proofs.YtjchdgaomencbaaGreatDoor
#print axioms Go.Proofs.YtjchdgaomencbaaGreatDoor.card5
