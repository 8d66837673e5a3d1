/- The card of the law TopCable. -/
import Derived.Test.YtenlhiebmnojhaaGreatDoorFactl4
import Derived.Test.YtenlhiebmnojhaaGreatDoorFacta4
import Derived.Test.YtenlhiebmnojhaaGreatDoorFactb4
import Derived.Test.YtenlhiebmnojhaaGreatDoorFactc4
import Derived.Test.YtenlhiebmnojhaaGreatDoorFactd4
set_option linter.all false
namespace Go.Pf
open Go Go.Ev Go.Proofs Go.RowKit Go.ChangeShapes Go.WideShapes Go.Proofs.YtenlhiebmnojhaaGreatDoor Go.Proofs.Tryz
set_option maxRecDepth 100000 in
theorem fe4:joinedFacts prog 4 Tryz.f4 Rows.topCableSpec Rows.topCableRow=true :=
 QoS (by kernel_rfl) QoO QDZ (by kernel_rfl) (by kernel_rfl) (by kernel_rfl) QDY (by kernel_rfl) QDX fa4 fb4 fc4 fd4 (by kernel_rfl) (by kernel_rfl) (by kernel_rfl) (by kernel_rfl) (by kernel_rfl) (by kernel_rfl) (by kernel_rfl) (by kernel_rfl) (by kernel_rfl)
  QDV (by kernel_rfl) QyQ QBx QDU QDT (by kernel_rfl) (by kernel_rfl) (by kernel_rfl) (by kernel_rfl)
set_option maxRecDepth 100000 in
theorem ff4:prog.funcNamed Rows.topCableRow.func=some 4:=by kernel_rfl
set_option maxRecDepth 100000 in
theorem fg4:Tryz.f4.isInstance prog Rows.topCableRow.origin Rows.topCableRow.targs:=of_decide_eq_true (by kernel_rfl)
set_option maxRecDepth 100000 in
theorem fh4:Tryz.f4.isWrapper prog Rows.topCableRow.wrapper Rows.topCableRow.mainSum:=by
 unfold Func.isWrapper
 first | (rw[if_pos (by decide +kernel)];kernel_rfl) | (rw[if_neg (by decide +kernel)];exact ⟨rfl,rfl⟩)
set_option maxRecDepth 100000 in
theorem said4:Rows.TopCableSaid :=
 OpenClaim.holds_of_cond 4 Tryz.f4 rfl rfl rfl rfl rfl rfl rfl ⟨rfl,rfl,rfl,rfl,rfl⟩ rfl rfl rfl rfl rfl ff4 func4 fe4 fg4 fh4
  (fun os started H enc _ F=>by rw[OpenClaim.pre_eq_preRow];exact Qwq os started H enc F)
set_option maxRecDepth 100000 in
theorem QAE (f:FuncId) (fn:Func) (hf:Tryz.pinned.checked.prog.funcNamed Rows.topCableRow.func=some f) (hfn:Tryz.pinned.checked.prog.funcs[f]?=some fn) :
  true=Tryz.pinned.checked.prog.looks []/\∀ (j:Nat) t,fn.params[j]?=some t->Tryz.pinned.checked.prog.wantsStandIn t=false:=by
 obtain rfl:f=4:=Option.some.inj (ff4.symm.trans hf) |>.symm
 obtain rfl:fn=Tryz.f4:=(Option.some.inj (func4.symm.trans hfn)).symm;refine ⟨QBw.symm,fun j t ht=>?_⟩
 rw[params4] at ht;have xc:∀ t∈[79,3],prog.wantsStandIn t=false:=by decide +kernel
 exact xc t (by simpa using QJx (show [79,3][j]?=some t by simpa using ht))
end Go.Pf
namespace Go.Proofs.YtenlhiebmnojhaaGreatDoor
open Go Go.Ev Go.Proofs Go.RowKit Go.Pf
set_option maxRecDepth 100000 in
theorem card4:Rows.TopCableCardSaid :=
 Claim7.holds_tied_plain_at .later [] _ _ _ _ said4 (fun _ h=>by cases h) fi4 (fun _ h=>by cases h) topCable_row_tie rfl ⟨rfl,rfl⟩ fj4 rfl QAE fk4
end Go.Proofs.YtenlhiebmnojhaaGreatDoor
#print axioms Go.Proofs.YtenlhiebmnojhaaGreatDoor.card4
