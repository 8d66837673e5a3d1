/- The card of the law ProverHalves. -/
import Derived.Test.YtanjbjjkofhanaaGreatDoorFact6A
import Derived.Test.YtanjbjjkofhanaaGreatDoorFact6B
import Derived.Test.YtanjbjjkofhanaaGreatDoorFact6C
import Derived.Test.YtanjbjjkofhanaaGreatDoorFact6D
set_option linter.all false
namespace Go.Pf
open Go Go.Ev Go.Proofs Go.RowKit Go.ChangeShapes Go.WideShapes Go.Proofs.YtanjbjjkofhanaaGreatDoor
set_option maxRecDepth 100000 in
theorem fe6:joinedFacts Tryz.prog 6 Tryz.f6 Rows.proverHalvesSpec Rows.proverHalvesRow=true :=
 Wt (by kernel_rfl) VJ QrA (by kernel_rfl) (by kernel_rfl) (by kernel_rfl) Qrz (by kernel_rfl) Qry fa6 fb6 fc6 fd6 (by kernel_rfl) (by kernel_rfl) (by kernel_rfl) (by kernel_rfl) (by kernel_rfl) (by kernel_rfl) (by kernel_rfl) (by kernel_rfl) (by kernel_rfl)
  Qrx (by kernel_rfl) QeA Qlq Qrw Qrv (by kernel_rfl) (by kernel_rfl) (by kernel_rfl) (by kernel_rfl)
set_option maxRecDepth 100000 in
theorem ff6:Tryz.prog.funcNamed Rows.proverHalvesRow.func=some 6:=by kernel_rfl
set_option maxRecDepth 100000 in
theorem fg6:Tryz.f6.isInstance Tryz.prog Rows.proverHalvesRow.origin Rows.proverHalvesRow.targs:=of_decide_eq_true (by kernel_rfl)
set_option maxRecDepth 100000 in
theorem fh6:Tryz.f6.isWrapper Tryz.prog Rows.proverHalvesRow.wrapper Rows.proverHalvesRow.mainSum:=by
 unfold Func.isWrapper
 first | (rw[if_pos (by decide +kernel)];kernel_rfl) | (rw[if_neg (by decide +kernel)];exact ⟨rfl,rfl⟩)
set_option maxRecDepth 100000 in
theorem said6:Rows.ProverHalvesSaid :=
 OpenClaim.holds_of_cond 6 Tryz.f6 rfl rfl rfl rfl rfl rfl rfl ⟨rfl,rfl,rfl,rfl,rfl⟩ rfl rfl rfl rfl rfl ff6 Tryz.func6 fe6 fg6 fh6
  (fun os started H enc _ F=>by rw[OpenClaim.pre_eq_preRow];exact Qum os started H enc F)
set_option maxRecDepth 100000 in
theorem QBu (f:FuncId) (fn:Func) (hf:Tryz.pinned.checked.prog.funcNamed Rows.proverHalvesRow.func=some f) (hfn:Tryz.pinned.checked.prog.funcs[f]?=some fn) :
  true=Tryz.pinned.checked.prog.looks []/\∀ (j:Nat) t,fn.params[j]?=some t->Tryz.pinned.checked.prog.wantsStandIn t=false:=by
 obtain rfl:f=6:=Option.some.inj (ff6.symm.trans hf) |>.symm
 obtain rfl:fn=Tryz.f6:=(Option.some.inj (Tryz.func6.symm.trans hfn)).symm;refine ⟨Qlp.symm,fun j t ht=>?_⟩
 rw[Tryz.params6] at ht;have hall:∀ t∈[40,41,3],Tryz.prog.wantsStandIn t=false:=by decide +kernel
 exact hall t (by simpa using QKw (show [40,41,3][j]?=some t by simpa using ht))
end Go.Pf
namespace Go.Proofs.YtanjbjjkofhanaaGreatDoor
open Go Go.Ev Go.Proofs Go.RowKit Go.Pf
set_option maxRecDepth 100000 in
theorem card6:Rows.ProverHalvesCardSaid :=
 Claim7.holds_tied_plain_at .later [] _ _ _ _ said6 (fun _ h=>by cases h) fi6 (fun _ h=>by cases h) proverHalves_row_tie rfl ⟨rfl,rfl⟩ fj6 rfl QBu fk6
end Go.Proofs.YtanjbjjkofhanaaGreatDoor
#print axioms Go.Proofs.YtanjbjjkofhanaaGreatDoor.card6
