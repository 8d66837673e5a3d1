/- The card of the law ProverLine. -/
import Derived.Test.YtanjbjjkofhanaaGreatDoorFact5A
import Derived.Test.YtanjbjjkofhanaaGreatDoorFact5B
import Derived.Test.YtanjbjjkofhanaaGreatDoorFact5C
import Derived.Test.YtanjbjjkofhanaaGreatDoorFact5D
set_option linter.all false
namespace Go.Pf
open Go Go.Ev Go.Proofs Go.RowKit Go.ChangeShapes Go.WideShapes Go.Proofs.YtanjbjjkofhanaaGreatDoor
set_option maxRecDepth 100000 in
theorem fe5:joinedFacts Tryz.prog 5 Tryz.f5 Rows.proverLineSpec Rows.proverLineRow=true :=
 Wt (by kernel_rfl) VJ QrA (by kernel_rfl) (by kernel_rfl) (by kernel_rfl) Qrz (by kernel_rfl) Qry fa5 fb5 fc5 fd5 (by kernel_rfl) (by kernel_rfl) (by kernel_rfl) (by kernel_rfl) (by kernel_rfl) (by kernel_rfl) (by kernel_rfl) (by kernel_rfl) (by kernel_rfl)
  Qrx (by kernel_rfl) QeA Qlq Qrw Qrv (by kernel_rfl) (by kernel_rfl) (by kernel_rfl) (by kernel_rfl)
set_option maxRecDepth 100000 in
theorem ff5:Tryz.prog.funcNamed Rows.proverLineRow.func=some 5:=by kernel_rfl
set_option maxRecDepth 100000 in
theorem fg5:Tryz.f5.isInstance Tryz.prog Rows.proverLineRow.origin Rows.proverLineRow.targs:=of_decide_eq_true (by kernel_rfl)
set_option maxRecDepth 100000 in
theorem fh5:Tryz.f5.isWrapper Tryz.prog Rows.proverLineRow.wrapper Rows.proverLineRow.mainSum:=by
 unfold Func.isWrapper
 first | (rw[if_pos (by decide +kernel)];kernel_rfl) | (rw[if_neg (by decide +kernel)];exact ⟨rfl,rfl⟩)
set_option maxRecDepth 100000 in
theorem said5:Rows.ProverLineSaid :=
 OpenClaim.holds_of_cond 5 Tryz.f5 rfl rfl rfl rfl rfl rfl rfl ⟨rfl,rfl,rfl,rfl,rfl⟩ rfl rfl rfl rfl rfl ff5 Tryz.func5 fe5 fg5 fh5
  (fun os started H enc _ F=>by rw[OpenClaim.pre_eq_preRow];exact Qun os started H enc F)
set_option maxRecDepth 100000 in
theorem QBv (f:FuncId) (fn:Func) (hf:Tryz.pinned.checked.prog.funcNamed Rows.proverLineRow.func=some f) (hfn:Tryz.pinned.checked.prog.funcs[f]?=some fn) :
  true=Tryz.pinned.checked.prog.looks []/\∀ (j:Nat) t,fn.params[j]?=some t->Tryz.pinned.checked.prog.wantsStandIn t=false:=by
 obtain rfl:f=5:=Option.some.inj (ff5.symm.trans hf) |>.symm
 obtain rfl:fn=Tryz.f5:=(Option.some.inj (Tryz.func5.symm.trans hfn)).symm;refine ⟨Qlp.symm,fun j t ht=>?_⟩
 rw[Tryz.params5] at ht;have hall:∀ t∈[40,9],Tryz.prog.wantsStandIn t=false:=by decide +kernel
 exact hall t (by simpa using QKw (show [40,9][j]?=some t by simpa using ht))
end Go.Pf
namespace Go.Proofs.YtanjbjjkofhanaaGreatDoor
open Go Go.Ev Go.Proofs Go.RowKit Go.Pf
set_option maxRecDepth 100000 in
theorem card5:Rows.ProverLineCardSaid :=
 Claim7.holds_tied_plain_at .later [] _ _ _ _ said5 (fun _ h=>by cases h) fi5 (fun _ h=>by cases h) proverLine_row_tie rfl ⟨rfl,rfl⟩ fj5 rfl QBv fk5
end Go.Proofs.YtanjbjjkofhanaaGreatDoor
#print axioms Go.Proofs.YtanjbjjkofhanaaGreatDoor.card5
