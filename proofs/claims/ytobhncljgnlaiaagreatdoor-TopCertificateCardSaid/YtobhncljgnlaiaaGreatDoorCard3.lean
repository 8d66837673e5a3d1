/- The card of the law TopCertificate. -/
import Derived.Test.YtobhncljgnlaiaaGreatDoorFactl3
import Derived.Test.YtobhncljgnlaiaaGreatDoorFacta3
import Derived.Test.YtobhncljgnlaiaaGreatDoorFactb3
import Derived.Test.YtobhncljgnlaiaaGreatDoorFactc3
import Derived.Test.YtobhncljgnlaiaaGreatDoorFactd3
set_option linter.all false
namespace Go.Pf
open Go Go.Ev Go.Proofs Go.RowKit Go.ChangeShapes Go.WideShapes Go.Proofs.YtobhncljgnlaiaaGreatDoor
set_option maxRecDepth 100000 in
theorem fe3:joinedFacts Tryz.prog 3 Tryz.f3 Rows.topCertificateSpec Rows.topCertificateRow=true :=
 Qgz (by kernel_rfl) Qgy Quv (by kernel_rfl) (by kernel_rfl) (by kernel_rfl) Quu (by kernel_rfl) Qut fa3 fb3 fc3 fd3 (by kernel_rfl) (by kernel_rfl) (by kernel_rfl) (by kernel_rfl) (by kernel_rfl) (by kernel_rfl) (by kernel_rfl) (by kernel_rfl) (by kernel_rfl)
  Qur (by kernel_rfl) Qnz QrT Je Quq (by kernel_rfl) (by kernel_rfl) (by kernel_rfl) (by kernel_rfl)
set_option maxRecDepth 100000 in
theorem ff3:Tryz.prog.funcNamed Rows.topCertificateRow.func=some 3:=by kernel_rfl
set_option maxRecDepth 100000 in
theorem fg3:Tryz.f3.isInstance Tryz.prog Rows.topCertificateRow.origin Rows.topCertificateRow.targs:=of_decide_eq_true (by kernel_rfl)
set_option maxRecDepth 100000 in
theorem fh3:Tryz.f3.isWrapper Tryz.prog Rows.topCertificateRow.wrapper Rows.topCertificateRow.mainSum:=by
 unfold Func.isWrapper
 first | (rw[if_pos (by decide +kernel)];kernel_rfl) | (rw[if_neg (by decide +kernel)];exact ⟨rfl,rfl⟩)
set_option maxRecDepth 100000 in
theorem said3:Rows.TopCertificateSaid :=
 OpenClaim.holds_of_cond 3 Tryz.f3 rfl rfl rfl rfl rfl rfl rfl ⟨rfl,rfl,rfl,rfl,rfl⟩ rfl rfl rfl rfl rfl ff3 Tryz.func3 fe3 fg3 fh3
  (fun os started H enc _ F=>by rw[OpenClaim.pre_eq_preRow];exact Qmu os started H enc F)
set_option maxRecDepth 100000 in
theorem QqY (f:FuncId) (fn:Func) (hf:Tryz.pinned.checked.prog.funcNamed Rows.topCertificateRow.func=some f) (hfn:Tryz.pinned.checked.prog.funcs[f]?=some fn) :
  true=Tryz.pinned.checked.prog.looks []/\∀ (j:Nat) t,fn.params[j]?=some t->Tryz.pinned.checked.prog.wantsStandIn t=false:=by
 obtain rfl:f=3:=Option.some.inj (ff3.symm.trans hf) |>.symm
 obtain rfl:fn=Tryz.f3:=(Option.some.inj (Tryz.func3.symm.trans hfn)).symm;refine ⟨QrR.symm,fun j t ht=>?_⟩
 rw[Tryz.params3] at ht;have hall:∀ t∈[24,3,22],Tryz.prog.wantsStandIn t=false:=by decide +kernel
 exact hall t (by simpa using QBd (show [24,3,22][j]?=some t by simpa using ht))
end Go.Pf
namespace Go.Proofs.YtobhncljgnlaiaaGreatDoor
open Go Go.Ev Go.Proofs Go.RowKit Go.Pf
set_option maxRecDepth 100000 in
theorem card3:Rows.TopCertificateCardSaid :=
 Claim7.holds_tied_plain_at .later [] _ _ _ _ said3 (fun _ h=>by cases h) fi3 (fun _ h=>by cases h) topCertificate_row_tie rfl ⟨rfl,rfl⟩ fj3 rfl QqY fk3
end Go.Proofs.YtobhncljgnlaiaaGreatDoor
#print axioms Go.Proofs.YtobhncljgnlaiaaGreatDoor.card3
