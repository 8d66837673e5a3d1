/- The card of the law ProverAfter. -/
import Derived.Test.YtanjbjjkofhanaaGreatDoorFact4A
import Derived.Test.YtanjbjjkofhanaaGreatDoorFact4B
import Derived.Test.YtanjbjjkofhanaaGreatDoorFact4C
import Derived.Test.YtanjbjjkofhanaaGreatDoorFact4D
set_option linter.all false
namespace Go.Pf
open Go Go.Ev Go.Proofs Go.RowKit Go.ChangeShapes Go.WideShapes Go.Proofs.YtanjbjjkofhanaaGreatDoor
set_option maxRecDepth 100000 in
theorem fe4:joinedFacts Tryz.prog 4 Tryz.f4 Rows.proverAfterSpec Rows.proverAfterRow=true :=
 Wt (by kernel_rfl) VJ QrA (by kernel_rfl) (by kernel_rfl) (by kernel_rfl) Qrz (by kernel_rfl) Qry fa4 fb4 fc4 fd4 (by kernel_rfl) (by kernel_rfl) (by kernel_rfl) (by kernel_rfl) (by kernel_rfl) (by kernel_rfl) (by kernel_rfl) (by kernel_rfl) (by kernel_rfl)
  Qrx (by kernel_rfl) QeA Qlq Qrw Qrv (by kernel_rfl) (by kernel_rfl) (by kernel_rfl) (by kernel_rfl)
set_option maxRecDepth 100000 in
theorem ff4:Tryz.prog.funcNamed Rows.proverAfterRow.func=some 4:=by kernel_rfl
set_option maxRecDepth 100000 in
theorem fg4:Tryz.f4.isInstance Tryz.prog Rows.proverAfterRow.origin Rows.proverAfterRow.targs:=of_decide_eq_true (by kernel_rfl)
set_option maxRecDepth 100000 in
theorem fh4:Tryz.f4.isWrapper Tryz.prog Rows.proverAfterRow.wrapper Rows.proverAfterRow.mainSum:=by
 unfold Func.isWrapper
 first | (rw[if_pos (by decide +kernel)];kernel_rfl) | (rw[if_neg (by decide +kernel)];exact ⟨rfl,rfl⟩)
set_option maxRecDepth 100000 in
theorem said4:Rows.ProverAfterSaid :=
 OpenClaim.holds_of_cond 4 Tryz.f4 rfl rfl rfl rfl rfl rfl rfl ⟨rfl,rfl,rfl,rfl,rfl⟩ rfl rfl rfl rfl rfl ff4 Tryz.func4 fe4 fg4 fh4
  (fun os started H enc _ F=>by rw[OpenClaim.pre_eq_preRow];exact Quo os started H enc F)
set_option maxRecDepth 100000 in
theorem QBw (f:FuncId) (fn:Func) (hf:Tryz.pinned.checked.prog.funcNamed Rows.proverAfterRow.func=some f) (hfn:Tryz.pinned.checked.prog.funcs[f]?=some fn) :
  true=Tryz.pinned.checked.prog.looks []/\∀ (j:Nat) t,fn.params[j]?=some t->Tryz.pinned.checked.prog.wantsStandIn t=false:=by
 obtain rfl:f=4:=Option.some.inj (ff4.symm.trans hf) |>.symm
 obtain rfl:fn=Tryz.f4:=(Option.some.inj (Tryz.func4.symm.trans hfn)).symm;refine ⟨Qlp.symm,fun j t ht=>?_⟩
 rw[Tryz.params4] at ht;have hall:∀ t∈[40,41],Tryz.prog.wantsStandIn t=false:=by decide +kernel
 exact hall t (by simpa using QKw (show [40,41][j]?=some t by simpa using ht))
end Go.Pf
namespace Go.Proofs.YtanjbjjkofhanaaGreatDoor
open Go Go.Ev Go.Proofs Go.RowKit Go.Pf
set_option maxRecDepth 100000 in
theorem card4:Rows.ProverAfterCardSaid :=
 Claim7.holds_tied_plain_at .later [] _ _ _ _ said4 (fun _ h=>by cases h) fi4 (fun _ h=>by cases h) proverAfter_row_tie rfl ⟨rfl,rfl⟩ fj4 rfl QBw fk4
end Go.Proofs.YtanjbjjkofhanaaGreatDoor
#print axioms Go.Proofs.YtanjbjjkofhanaaGreatDoor.card4
