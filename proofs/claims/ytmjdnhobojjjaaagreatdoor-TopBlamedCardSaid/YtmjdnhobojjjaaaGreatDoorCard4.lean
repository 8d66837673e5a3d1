/- The card of the law TopBlamed. -/
import Derived.Test.YtmjdnhobojjjaaaGreatDoorFactl4
import Derived.Test.YtmjdnhobojjjaaaGreatDoorFacta4
import Derived.Test.YtmjdnhobojjjaaaGreatDoorFactb4
import Derived.Test.YtmjdnhobojjjaaaGreatDoorFactc4
import Derived.Test.YtmjdnhobojjjaaaGreatDoorFactd4
set_option linter.all false
namespace Go.Pf
open Go Go.Ev Go.Proofs Go.RowKit Go.ChangeShapes Go.WideShapes Go.Proofs.YtmjdnhobojjjaaaGreatDoor
set_option maxRecDepth 100000 in
theorem fe4:joinedFacts Tryz.prog 4 Tryz.f4 Rows.topBlamedSpec Rows.topBlamedRow=true :=
 QhT (by kernel_rfl) QhQ QvQ (by kernel_rfl) (by kernel_rfl) (by kernel_rfl) QvP (by kernel_rfl) QvO fa4 fb4 fc4 fd4 (by kernel_rfl) (by kernel_rfl) (by kernel_rfl) (by kernel_rfl) (by kernel_rfl) (by kernel_rfl) (by kernel_rfl) (by kernel_rfl) (by kernel_rfl)
  QvM (by kernel_rfl) Qo0 Qs9 Qs8 QvL (by kernel_rfl) (by kernel_rfl) (by kernel_rfl) (by kernel_rfl)
set_option maxRecDepth 100000 in
theorem ff4:Tryz.prog.funcNamed Rows.topBlamedRow.func=some 4:=by kernel_rfl
set_option maxRecDepth 100000 in
theorem fg4:Tryz.f4.isInstance Tryz.prog Rows.topBlamedRow.origin Rows.topBlamedRow.targs:=of_decide_eq_true (by kernel_rfl)
set_option maxRecDepth 100000 in
theorem fh4:Tryz.f4.isWrapper Tryz.prog Rows.topBlamedRow.wrapper Rows.topBlamedRow.mainSum:=by
 unfold Func.isWrapper
 first | (rw[if_pos (by decide +kernel)];kernel_rfl) | (rw[if_neg (by decide +kernel)];exact ⟨rfl,rfl⟩)
set_option maxRecDepth 100000 in
theorem said4:Rows.TopBlamedSaid :=
 OpenClaim.holds_of_cond 4 Tryz.f4 rfl rfl rfl rfl rfl rfl rfl ⟨rfl,rfl,rfl,rfl,rfl⟩ rfl rfl rfl rfl rfl ff4 Tryz.func4 fe4 fg4 fh4
  (fun os started H enc _ F=>by rw[OpenClaim.pre_eq_preRow];exact QnN os started H enc F)
set_option maxRecDepth 100000 in
theorem Qr0 (f:FuncId) (fn:Func) (hf:Tryz.pinned.checked.prog.funcNamed Rows.topBlamedRow.func=some f) (hfn:Tryz.pinned.checked.prog.funcs[f]?=some fn) :
  false=Tryz.pinned.checked.prog.looks []/\∀ (j:Nat) t,fn.params[j]?=some t->Tryz.pinned.checked.prog.wantsStandIn t=false:=by
 obtain rfl:f=4:=Option.some.inj (ff4.symm.trans hf) |>.symm
 obtain rfl:fn=Tryz.f4:=(Option.some.inj (Tryz.func4.symm.trans hfn)).symm;refine ⟨Qs7.symm,fun j t ht=>?_⟩
 rw[Tryz.params4] at ht;have hall:∀ t∈[74],Tryz.prog.wantsStandIn t=false:=by decide +kernel
 exact hall t (by simpa using QzB (show [74][j]?=some t by simpa using ht))
end Go.Pf
namespace Go.Proofs.YtmjdnhobojjjaaaGreatDoor
open Go Go.Ev Go.Proofs Go.RowKit Go.Pf
set_option maxRecDepth 100000 in
theorem card4:Rows.TopBlamedCardSaid :=
 Claim7.holds_tied_plain_at .later [] _ _ _ _ said4 (fun _ h=>by cases h) fi4 (fun _ h=>by cases h) topBlamed_row_tie rfl ⟨rfl,rfl⟩ fj4 rfl Qr0 fk4
end Go.Proofs.YtmjdnhobojjjaaaGreatDoor
#print axioms Go.Proofs.YtmjdnhobojjjaaaGreatDoor.card4
