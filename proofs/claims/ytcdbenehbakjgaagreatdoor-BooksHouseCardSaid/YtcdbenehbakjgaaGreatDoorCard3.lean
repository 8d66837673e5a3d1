/- The card of the law BooksHouse. -/
import Derived.Test.YtcdbenehbakjgaaGreatDoorFactl3
import Derived.Test.YtcdbenehbakjgaaGreatDoorFacta3
import Derived.Test.YtcdbenehbakjgaaGreatDoorFactb3
import Derived.Test.YtcdbenehbakjgaaGreatDoorFactc3
import Derived.Test.YtcdbenehbakjgaaGreatDoorFactd3
set_option linter.all false
namespace Go.Pf
open Go Go.Ev Go.Proofs Go.RowKit Go.ChangeShapes Go.WideShapes Go.Proofs.YtcdbenehbakjgaaGreatDoor Go.Proofs.Tryz
set_option maxRecDepth 100000 in
theorem fe3:joinedFacts prog 3 Tryz.f3 Rows.booksHouseSpec Rows.booksHouseRow=true :=
 QnA (by kernel_rfl) Qnx QDQ (by kernel_rfl) (by kernel_rfl) (by kernel_rfl) QDP (by kernel_rfl) QDO fa3 fb3 fc3 fd3 (by kernel_rfl) (by kernel_rfl) (by kernel_rfl) (by kernel_rfl) (by kernel_rfl) (by kernel_rfl) (by kernel_rfl) (by kernel_rfl) (by kernel_rfl)
  QDM (by kernel_rfl) Qxx QBu QDL QDK (by kernel_rfl) (by kernel_rfl) (by kernel_rfl) (by kernel_rfl)
set_option maxRecDepth 100000 in
theorem ff3:prog.funcNamed Rows.booksHouseRow.func=some 3:=by kernel_rfl
set_option maxRecDepth 100000 in
theorem fg3:Tryz.f3.isInstance prog Rows.booksHouseRow.origin Rows.booksHouseRow.targs:=of_decide_eq_true (by kernel_rfl)
set_option maxRecDepth 100000 in
theorem fh3:Tryz.f3.isWrapper prog Rows.booksHouseRow.wrapper Rows.booksHouseRow.mainSum:=by
 unfold Func.isWrapper
 first | (rw[if_pos (by decide +kernel)];kernel_rfl) | (rw[if_neg (by decide +kernel)];exact ⟨rfl,rfl⟩)
set_option maxRecDepth 100000 in
theorem said3:Rows.BooksHouseSaid :=
 OpenClaim.holds_of_cond 3 Tryz.f3 rfl rfl rfl rfl rfl rfl rfl ⟨rfl,rfl,rfl,rfl,rfl⟩ rfl rfl rfl rfl rfl ff3 func3 fe3 fg3 fh3
  (fun os started H enc _ F=>by rw[OpenClaim.pre_eq_preRow];exact Qvy os started H enc F)
set_option maxRecDepth 100000 in
theorem QAq (f:FuncId) (fn:Func) (hf:Tryz.pinned.checked.prog.funcNamed Rows.booksHouseRow.func=some f) (hfn:Tryz.pinned.checked.prog.funcs[f]?=some fn) :
  true=Tryz.pinned.checked.prog.looks []/\∀ (j:Nat) t,fn.params[j]?=some t->Tryz.pinned.checked.prog.wantsStandIn t=false:=by
 obtain rfl:f=3:=Option.some.inj (ff3.symm.trans hf) |>.symm
 obtain rfl:fn=Tryz.f3:=(Option.some.inj (func3.symm.trans hfn)).symm;refine ⟨QBt.symm,fun j t ht=>?_⟩
 rw[params3] at ht;have xg:∀ t∈[40,41],prog.wantsStandIn t=false:=by decide +kernel
 exact xg t (by simpa using QKd (show [40,41][j]?=some t by simpa using ht))
end Go.Pf
namespace Go.Proofs.YtcdbenehbakjgaaGreatDoor
open Go Go.Ev Go.Proofs Go.RowKit Go.Pf
set_option maxRecDepth 100000 in
theorem card3:Rows.BooksHouseCardSaid :=
 Claim7.holds_tied_plain_at .later [] _ _ _ _ said3 (fun _ h=>by cases h) fi3 (fun _ h=>by cases h) booksHouse_row_tie rfl ⟨rfl,rfl⟩ fj3 rfl QAq fk3
end Go.Proofs.YtcdbenehbakjgaaGreatDoor
#print axioms Go.Proofs.YtcdbenehbakjgaaGreatDoor.card3
