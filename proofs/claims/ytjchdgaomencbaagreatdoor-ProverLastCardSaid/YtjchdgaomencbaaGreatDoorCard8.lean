/- The card of the law ProverLast. -/
import Derived.Test.YtjchdgaomencbaaGreatDoorFactl8
import Derived.Test.YtjchdgaomencbaaGreatDoorFacta8
import Derived.Test.YtjchdgaomencbaaGreatDoorFactb8
import Derived.Test.YtjchdgaomencbaaGreatDoorFactc8
import Derived.Test.YtjchdgaomencbaaGreatDoorFactd8
set_option linter.all false
namespace Go.Pf
open Go Go.Ev Go.Proofs Go.RowKit Go.ChangeShapes Go.WideShapes Go.Proofs.YtjchdgaomencbaaGreatDoor
set_option maxRecDepth 100000 in
theorem fe8:joinedFacts Tryz.prog 8 Tryz.f8 Rows.proverLastSpec Rows.proverLastRow=true :=
 JJ (by kernel_rfl) Ym QlF (by kernel_rfl) (by kernel_rfl) (by kernel_rfl) QlE (by kernel_rfl) QlD fa8 fb8 fc8 fd8 (by kernel_rfl) (by kernel_rfl) (by kernel_rfl) (by kernel_rfl) (by kernel_rfl) (by kernel_rfl) (by kernel_rfl) (by kernel_rfl) (by kernel_rfl)
  QlB (by kernel_rfl) qt Qdj QlA Qlz (by kernel_rfl) (by kernel_rfl) (by kernel_rfl) (by kernel_rfl)
set_option maxRecDepth 100000 in
theorem ff8:Tryz.prog.funcNamed Rows.proverLastRow.func=some 8:=by kernel_rfl
set_option maxRecDepth 100000 in
theorem fg8:Tryz.f8.isInstance Tryz.prog Rows.proverLastRow.origin Rows.proverLastRow.targs:=of_decide_eq_true (by kernel_rfl)
set_option maxRecDepth 100000 in
theorem fh8:Tryz.f8.isWrapper Tryz.prog Rows.proverLastRow.wrapper Rows.proverLastRow.mainSum:=by
 unfold Func.isWrapper
 first | (rw[if_pos (by decide +kernel)];kernel_rfl) | (rw[if_neg (by decide +kernel)];exact ⟨rfl,rfl⟩)
set_option maxRecDepth 100000 in
theorem said8:Rows.ProverLastSaid :=
 OpenClaim.holds_of_cond 8 Tryz.f8 rfl rfl rfl rfl rfl rfl rfl ⟨rfl,rfl,rfl,rfl,rfl⟩ rfl rfl rfl rfl rfl ff8 Tryz.func8 fe8 fg8 fh8
  (fun os started H enc _ F=>by rw[OpenClaim.pre_eq_preRow];exact Qvy os started H enc F)
set_option maxRecDepth 100000 in
theorem QA1 (f:FuncId) (fn:Func) (hf:Tryz.pinned.checked.prog.funcNamed Rows.proverLastRow.func=some f) (hfn:Tryz.pinned.checked.prog.funcs[f]?=some fn) :
  true=Tryz.pinned.checked.prog.looks []/\∀ (j:Nat) t,fn.params[j]?=some t->Tryz.pinned.checked.prog.wantsStandIn t=false:=by
 obtain rfl:f=8:=Option.some.inj (ff8.symm.trans hf) |>.symm
 obtain rfl:fn=Tryz.f8:=(Option.some.inj (Tryz.func8.symm.trans hfn)).symm;refine ⟨Qdi.symm,fun j t ht=>?_⟩
 rw[Tryz.params8] at ht;have hall:∀ t∈[40,41],Tryz.prog.wantsStandIn t=false:=by decide +kernel
 exact hall t (by simpa using QL2 (show [40,41][j]?=some t by simpa using ht))
end Go.Pf
namespace Go.Proofs.YtjchdgaomencbaaGreatDoor
open Go Go.Ev Go.Proofs Go.RowKit Go.Pf
set_option maxRecDepth 100000 in
theorem card8:Rows.ProverLastCardSaid :=
 Claim7.holds_tied_plain_at .later [] _ _ _ _ said8 (fun _ h=>by cases h) fi8 (fun _ h=>by cases h) proverLast_row_tie rfl ⟨rfl,rfl⟩ fj8 rfl QA1 fk8
end Go.Proofs.YtjchdgaomencbaaGreatDoor
#print axioms Go.Proofs.YtjchdgaomencbaaGreatDoor.card8
