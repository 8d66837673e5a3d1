/- The card of the law ProverNothing. -/
import Derived.Test.YtjchdgaomencbaaGreatDoorFactl3
import Derived.Test.YtjchdgaomencbaaGreatDoorFacta3
import Derived.Test.YtjchdgaomencbaaGreatDoorFactb3
import Derived.Test.YtjchdgaomencbaaGreatDoorFactc3
import Derived.Test.YtjchdgaomencbaaGreatDoorFactd3
set_option linter.all false
namespace Go.Pf
open Go Go.Ev Go.Proofs Go.RowKit Go.ChangeShapes Go.WideShapes Go.Proofs.YtjchdgaomencbaaGreatDoor
set_option maxRecDepth 100000 in
theorem fe3:joinedFacts Tryz.prog 3 Tryz.f3 Rows.proverNothingSpec Rows.proverNothingRow=true :=
 JJ (by kernel_rfl) Ym QlF (by kernel_rfl) (by kernel_rfl) (by kernel_rfl) QlE (by kernel_rfl) QlD fa3 fb3 fc3 fd3 (by kernel_rfl) (by kernel_rfl) (by kernel_rfl) (by kernel_rfl) (by kernel_rfl) (by kernel_rfl) (by kernel_rfl) (by kernel_rfl) (by kernel_rfl)
  QlB (by kernel_rfl) qt Qdj QlA Qlz (by kernel_rfl) (by kernel_rfl) (by kernel_rfl) (by kernel_rfl)
set_option maxRecDepth 100000 in
theorem ff3:Tryz.prog.funcNamed Rows.proverNothingRow.func=some 3:=by kernel_rfl
set_option maxRecDepth 100000 in
theorem fg3:Tryz.f3.isInstance Tryz.prog Rows.proverNothingRow.origin Rows.proverNothingRow.targs:=of_decide_eq_true (by kernel_rfl)
set_option maxRecDepth 100000 in
theorem fh3:Tryz.f3.isWrapper Tryz.prog Rows.proverNothingRow.wrapper Rows.proverNothingRow.mainSum:=by
 unfold Func.isWrapper
 first | (rw[if_pos (by decide +kernel)];kernel_rfl) | (rw[if_neg (by decide +kernel)];exact ⟨rfl,rfl⟩)
set_option maxRecDepth 100000 in
theorem said3:Rows.ProverNothingSaid :=
 OpenClaim.holds_of_cond 3 Tryz.f3 rfl rfl rfl rfl rfl rfl rfl ⟨rfl,rfl,rfl,rfl,rfl⟩ rfl rfl rfl rfl rfl ff3 Tryz.func3 fe3 fg3 fh3
  (fun os started H enc _ F=>by rw[OpenClaim.pre_eq_preRow];exact QvD os started H enc F)
set_option maxRecDepth 100000 in
theorem QA6 (f:FuncId) (fn:Func) (hf:Tryz.pinned.checked.prog.funcNamed Rows.proverNothingRow.func=some f) (hfn:Tryz.pinned.checked.prog.funcs[f]?=some fn) :
  true=Tryz.pinned.checked.prog.looks []/\∀ (j:Nat) t,fn.params[j]?=some t->Tryz.pinned.checked.prog.wantsStandIn t=false:=by
 obtain rfl:f=3:=Option.some.inj (ff3.symm.trans hf) |>.symm
 obtain rfl:fn=Tryz.f3:=(Option.some.inj (Tryz.func3.symm.trans hfn)).symm;refine ⟨Qdi.symm,fun j t ht=>?_⟩
 rw[Tryz.params3] at ht;have hall:∀ t∈[40,41],Tryz.prog.wantsStandIn t=false:=by decide +kernel
 exact hall t (by simpa using QL2 (show [40,41][j]?=some t by simpa using ht))
end Go.Pf
namespace Go.Proofs.YtjchdgaomencbaaGreatDoor
open Go Go.Ev Go.Proofs Go.RowKit Go.Pf
set_option maxRecDepth 100000 in
theorem card3:Rows.ProverNothingCardSaid :=
 Claim7.holds_tied_plain_at .later [] _ _ _ _ said3 (fun _ h=>by cases h) fi3 (fun _ h=>by cases h) proverNothing_row_tie rfl ⟨rfl,rfl⟩ fj3 rfl QA6 fk3
end Go.Proofs.YtjchdgaomencbaaGreatDoor
#print axioms Go.Proofs.YtjchdgaomencbaaGreatDoor.card3
