/- The card of the law ProverAsked. -/
import Derived.Test.YtjchdgaomencbaaGreatDoorFactl4
import Derived.Test.YtjchdgaomencbaaGreatDoorFacta4
import Derived.Test.YtjchdgaomencbaaGreatDoorFactb4
import Derived.Test.YtjchdgaomencbaaGreatDoorFactc4
import Derived.Test.YtjchdgaomencbaaGreatDoorFactd4
set_option linter.all false
namespace Go.Pf
open Go Go.Ev Go.Proofs Go.RowKit Go.ChangeShapes Go.WideShapes Go.Proofs.YtjchdgaomencbaaGreatDoor
set_option maxRecDepth 100000 in
theorem fe4:joinedFacts Tryz.prog 4 Tryz.f4 Rows.proverAskedSpec Rows.proverAskedRow=true :=
 JJ (by kernel_rfl) Ym QlF (by kernel_rfl) (by kernel_rfl) (by kernel_rfl) QlE (by kernel_rfl) QlD fa4 fb4 fc4 fd4 (by kernel_rfl) (by kernel_rfl) (by kernel_rfl) (by kernel_rfl) (by kernel_rfl) (by kernel_rfl) (by kernel_rfl) (by kernel_rfl) (by kernel_rfl)
  QlB (by kernel_rfl) qt Qdj QlA Qlz (by kernel_rfl) (by kernel_rfl) (by kernel_rfl) (by kernel_rfl)
set_option maxRecDepth 100000 in
theorem ff4:Tryz.prog.funcNamed Rows.proverAskedRow.func=some 4:=by kernel_rfl
set_option maxRecDepth 100000 in
theorem fg4:Tryz.f4.isInstance Tryz.prog Rows.proverAskedRow.origin Rows.proverAskedRow.targs:=of_decide_eq_true (by kernel_rfl)
set_option maxRecDepth 100000 in
theorem fh4:Tryz.f4.isWrapper Tryz.prog Rows.proverAskedRow.wrapper Rows.proverAskedRow.mainSum:=by
 unfold Func.isWrapper
 first | (rw[if_pos (by decide +kernel)];kernel_rfl) | (rw[if_neg (by decide +kernel)];exact ⟨rfl,rfl⟩)
set_option maxRecDepth 100000 in
theorem said4:Rows.ProverAskedSaid :=
 OpenClaim.holds_of_cond 4 Tryz.f4 rfl rfl rfl rfl rfl rfl rfl ⟨rfl,rfl,rfl,rfl,rfl⟩ rfl rfl rfl rfl rfl ff4 Tryz.func4 fe4 fg4 fh4
  (fun os started H enc _ F=>by rw[OpenClaim.pre_eq_preRow];exact QvC os started H enc F)
set_option maxRecDepth 100000 in
theorem QA5 (f:FuncId) (fn:Func) (hf:Tryz.pinned.checked.prog.funcNamed Rows.proverAskedRow.func=some f) (hfn:Tryz.pinned.checked.prog.funcs[f]?=some fn) :
  true=Tryz.pinned.checked.prog.looks []/\∀ (j:Nat) t,fn.params[j]?=some t->Tryz.pinned.checked.prog.wantsStandIn t=false:=by
 obtain rfl:f=4:=Option.some.inj (ff4.symm.trans hf) |>.symm
 obtain rfl:fn=Tryz.f4:=(Option.some.inj (Tryz.func4.symm.trans hfn)).symm;refine ⟨Qdi.symm,fun j t ht=>?_⟩
 rw[Tryz.params4] at ht;have hall:∀ t∈[40,41,53],Tryz.prog.wantsStandIn t=false:=by decide +kernel
 exact hall t (by simpa using QL2 (show [40,41,53][j]?=some t by simpa using ht))
end Go.Pf
namespace Go.Proofs.YtjchdgaomencbaaGreatDoor
open Go Go.Ev Go.Proofs Go.RowKit Go.Pf
set_option maxRecDepth 100000 in
theorem card4:Rows.ProverAskedCardSaid :=
 Claim7.holds_tied_plain_at .later [] _ _ _ _ said4 (fun _ h=>by cases h) fi4 (fun _ h=>by cases h) proverAsked_row_tie rfl ⟨rfl,rfl⟩ fj4 rfl QA5 fk4
end Go.Proofs.YtjchdgaomencbaaGreatDoor
#print axioms Go.Proofs.YtjchdgaomencbaaGreatDoor.card4
