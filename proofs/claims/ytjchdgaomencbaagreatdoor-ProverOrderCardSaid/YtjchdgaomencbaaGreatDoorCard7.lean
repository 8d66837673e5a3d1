/- The card of the law ProverOrder. -/
import Derived.Test.YtjchdgaomencbaaGreatDoorFactl7
import Derived.Test.YtjchdgaomencbaaGreatDoorFacta7
import Derived.Test.YtjchdgaomencbaaGreatDoorFactb7
import Derived.Test.YtjchdgaomencbaaGreatDoorFactc7
import Derived.Test.YtjchdgaomencbaaGreatDoorFactd7
set_option linter.all false
namespace Go.Pf
open Go Go.Ev Go.Proofs Go.RowKit Go.ChangeShapes Go.WideShapes Go.Proofs.YtjchdgaomencbaaGreatDoor
set_option maxRecDepth 100000 in
theorem fe7:joinedFacts Tryz.prog 7 Tryz.f7 Rows.proverOrderSpec Rows.proverOrderRow=true :=
 JJ (by kernel_rfl) Ym QlF (by kernel_rfl) (by kernel_rfl) (by kernel_rfl) QlE (by kernel_rfl) QlD fa7 fb7 fc7 fd7 (by kernel_rfl) (by kernel_rfl) (by kernel_rfl) (by kernel_rfl) (by kernel_rfl) (by kernel_rfl) (by kernel_rfl) (by kernel_rfl) (by kernel_rfl)
  QlB (by kernel_rfl) qt Qdj QlA Qlz (by kernel_rfl) (by kernel_rfl) (by kernel_rfl) (by kernel_rfl)
set_option maxRecDepth 100000 in
theorem ff7:Tryz.prog.funcNamed Rows.proverOrderRow.func=some 7:=by kernel_rfl
set_option maxRecDepth 100000 in
theorem fg7:Tryz.f7.isInstance Tryz.prog Rows.proverOrderRow.origin Rows.proverOrderRow.targs:=of_decide_eq_true (by kernel_rfl)
set_option maxRecDepth 100000 in
theorem fh7:Tryz.f7.isWrapper Tryz.prog Rows.proverOrderRow.wrapper Rows.proverOrderRow.mainSum:=by
 unfold Func.isWrapper
 first | (rw[if_pos (by decide +kernel)];kernel_rfl) | (rw[if_neg (by decide +kernel)];exact ⟨rfl,rfl⟩)
set_option maxRecDepth 100000 in
theorem said7:Rows.ProverOrderSaid :=
 OpenClaim.holds_of_cond 7 Tryz.f7 rfl rfl rfl rfl rfl rfl rfl ⟨rfl,rfl,rfl,rfl,rfl⟩ rfl rfl rfl rfl rfl ff7 Tryz.func7 fe7 fg7 fh7
  (fun os started H enc _ F=>by rw[OpenClaim.pre_eq_preRow];exact Qvz os started H enc F)
set_option maxRecDepth 100000 in
theorem QA2 (f:FuncId) (fn:Func) (hf:Tryz.pinned.checked.prog.funcNamed Rows.proverOrderRow.func=some f) (hfn:Tryz.pinned.checked.prog.funcs[f]?=some fn) :
  true=Tryz.pinned.checked.prog.looks []/\∀ (j:Nat) t,fn.params[j]?=some t->Tryz.pinned.checked.prog.wantsStandIn t=false:=by
 obtain rfl:f=7:=Option.some.inj (ff7.symm.trans hf) |>.symm
 obtain rfl:fn=Tryz.f7:=(Option.some.inj (Tryz.func7.symm.trans hfn)).symm;refine ⟨Qdi.symm,fun j t ht=>?_⟩
 rw[Tryz.params7] at ht;have hall:∀ t∈[40,3,53],Tryz.prog.wantsStandIn t=false:=by decide +kernel
 exact hall t (by simpa using QL2 (show [40,3,53][j]?=some t by simpa using ht))
end Go.Pf
namespace Go.Proofs.YtjchdgaomencbaaGreatDoor
open Go Go.Ev Go.Proofs Go.RowKit Go.Pf
set_option maxRecDepth 100000 in
theorem card7:Rows.ProverOrderCardSaid :=
 Claim7.holds_tied_plain_at .later [] _ _ _ _ said7 (fun _ h=>by cases h) fi7 (fun _ h=>by cases h) proverOrder_row_tie rfl ⟨rfl,rfl⟩ fj7 rfl QA2 fk7
end Go.Proofs.YtjchdgaomencbaaGreatDoor
#print axioms Go.Proofs.YtjchdgaomencbaaGreatDoor.card7
