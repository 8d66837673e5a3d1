/- The card of the law ProverWritten. -/
import Derived.Test.YtjchdgaomencbaaGreatDoorFactl6
import Derived.Test.YtjchdgaomencbaaGreatDoorFacta6
import Derived.Test.YtjchdgaomencbaaGreatDoorFactb6
import Derived.Test.YtjchdgaomencbaaGreatDoorFactc6
import Derived.Test.YtjchdgaomencbaaGreatDoorFactd6
set_option linter.all false
namespace Go.Pf
open Go Go.Ev Go.Proofs Go.RowKit Go.ChangeShapes Go.WideShapes Go.Proofs.YtjchdgaomencbaaGreatDoor
set_option maxRecDepth 100000 in
theorem fe6:joinedFacts Tryz.prog 6 Tryz.f6 Rows.proverWrittenSpec Rows.proverWrittenRow=true :=
 JJ (by kernel_rfl) Ym QlF (by kernel_rfl) (by kernel_rfl) (by kernel_rfl) QlE (by kernel_rfl) QlD fa6 fb6 fc6 fd6 (by kernel_rfl) (by kernel_rfl) (by kernel_rfl) (by kernel_rfl) (by kernel_rfl) (by kernel_rfl) (by kernel_rfl) (by kernel_rfl) (by kernel_rfl)
  QlB (by kernel_rfl) qt Qdj QlA Qlz (by kernel_rfl) (by kernel_rfl) (by kernel_rfl) (by kernel_rfl)
set_option maxRecDepth 100000 in
theorem ff6:Tryz.prog.funcNamed Rows.proverWrittenRow.func=some 6:=by kernel_rfl
set_option maxRecDepth 100000 in
theorem fg6:Tryz.f6.isInstance Tryz.prog Rows.proverWrittenRow.origin Rows.proverWrittenRow.targs:=of_decide_eq_true (by kernel_rfl)
set_option maxRecDepth 100000 in
theorem fh6:Tryz.f6.isWrapper Tryz.prog Rows.proverWrittenRow.wrapper Rows.proverWrittenRow.mainSum:=by
 unfold Func.isWrapper
 first | (rw[if_pos (by decide +kernel)];kernel_rfl) | (rw[if_neg (by decide +kernel)];exact ⟨rfl,rfl⟩)
set_option maxRecDepth 100000 in
theorem said6:Rows.ProverWrittenSaid :=
 OpenClaim.holds_of_cond 6 Tryz.f6 rfl rfl rfl rfl rfl rfl rfl ⟨rfl,rfl,rfl,rfl,rfl⟩ rfl rfl rfl rfl rfl ff6 Tryz.func6 fe6 fg6 fh6
  (fun os started H enc _ F=>by rw[OpenClaim.pre_eq_preRow];exact QvA os started H enc F)
set_option maxRecDepth 100000 in
theorem QA3 (f:FuncId) (fn:Func) (hf:Tryz.pinned.checked.prog.funcNamed Rows.proverWrittenRow.func=some f) (hfn:Tryz.pinned.checked.prog.funcs[f]?=some fn) :
  true=Tryz.pinned.checked.prog.looks []/\∀ (j:Nat) t,fn.params[j]?=some t->Tryz.pinned.checked.prog.wantsStandIn t=false:=by
 obtain rfl:f=6:=Option.some.inj (ff6.symm.trans hf) |>.symm
 obtain rfl:fn=Tryz.f6:=(Option.some.inj (Tryz.func6.symm.trans hfn)).symm;refine ⟨Qdi.symm,fun j t ht=>?_⟩
 rw[Tryz.params6] at ht;have hall:∀ t∈[40],Tryz.prog.wantsStandIn t=false:=by decide +kernel
 exact hall t (by simpa using QL2 (show [40][j]?=some t by simpa using ht))
end Go.Pf
namespace Go.Proofs.YtjchdgaomencbaaGreatDoor
open Go Go.Ev Go.Proofs Go.RowKit Go.Pf
set_option maxRecDepth 100000 in
theorem card6:Rows.ProverWrittenCardSaid :=
 Claim7.holds_tied_plain_at .later [] _ _ _ _ said6 (fun _ h=>by cases h) fi6 (fun _ h=>by cases h) proverWritten_row_tie rfl ⟨rfl,rfl⟩ fj6 rfl QA3 fk6
end Go.Proofs.YtjchdgaomencbaaGreatDoor
#print axioms Go.Proofs.YtjchdgaomencbaaGreatDoor.card6
