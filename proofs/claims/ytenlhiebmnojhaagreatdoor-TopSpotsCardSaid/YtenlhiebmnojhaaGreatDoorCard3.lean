/- The card of the law TopSpots. -/
import Derived.Test.YtenlhiebmnojhaaGreatDoorFactl3
import Derived.Test.YtenlhiebmnojhaaGreatDoorFacta3
import Derived.Test.YtenlhiebmnojhaaGreatDoorFactb3
import Derived.Test.YtenlhiebmnojhaaGreatDoorFactc3
import Derived.Test.YtenlhiebmnojhaaGreatDoorFactd3
set_option linter.all false
namespace Go.Pf
open Go Go.Ev Go.Proofs Go.RowKit Go.ChangeShapes Go.WideShapes Go.Proofs.YtenlhiebmnojhaaGreatDoor Go.Proofs.Tryz
set_option maxRecDepth 100000 in
theorem fe3:joinedFacts prog 3 Tryz.f3 Rows.topSpotsSpec Rows.topSpotsRow=true :=
 Qo2 (by kernel_rfl) QoY QEH (by kernel_rfl) (by kernel_rfl) (by kernel_rfl) QEG (by kernel_rfl) QEF fa3 fb3 fc3 fd3 (by kernel_rfl) (by kernel_rfl) (by kernel_rfl) (by kernel_rfl) (by kernel_rfl) (by kernel_rfl) (by kernel_rfl) (by kernel_rfl) (by kernel_rfl)
  QED (by kernel_rfl) Qzu QCl QEC QEB (by kernel_rfl) (by kernel_rfl) (by kernel_rfl) (by kernel_rfl)
set_option maxRecDepth 100000 in
theorem ff3:prog.funcNamed Rows.topSpotsRow.func=some 3:=by kernel_rfl
set_option maxRecDepth 100000 in
theorem fg3:Tryz.f3.isInstance prog Rows.topSpotsRow.origin Rows.topSpotsRow.targs:=of_decide_eq_true (by kernel_rfl)
set_option maxRecDepth 100000 in
theorem fh3:Tryz.f3.isWrapper prog Rows.topSpotsRow.wrapper Rows.topSpotsRow.mainSum:=by
 unfold Func.isWrapper
 first | (rw[if_pos (by decide +kernel)];kernel_rfl) | (rw[if_neg (by decide +kernel)];exact ⟨rfl,rfl⟩)
set_option maxRecDepth 100000 in
theorem said3:Rows.TopSpotsSaid :=
 OpenClaim.holds_of_cond 3 Tryz.f3 rfl rfl rfl rfl rfl rfl rfl ⟨rfl,rfl,rfl,rfl,rfl⟩ rfl rfl rfl rfl rfl ff3 func3 fe3 fg3 fh3
  (fun os started H enc _ F=>by rw[OpenClaim.pre_eq_preRow];exact Qw3 os started H enc F)
set_option maxRecDepth 100000 in
theorem QBg (f:FuncId) (fn:Func) (hf:Tryz.pinned.checked.prog.funcNamed Rows.topSpotsRow.func=some f) (hfn:Tryz.pinned.checked.prog.funcs[f]?=some fn) :
  true=Tryz.pinned.checked.prog.looks []/\∀ (j:Nat) t,fn.params[j]?=some t->Tryz.pinned.checked.prog.wantsStandIn t=false:=by
 obtain rfl:f=3:=Option.some.inj (ff3.symm.trans hf) |>.symm
 obtain rfl:fn=Tryz.f3:=(Option.some.inj (func3.symm.trans hfn)).symm;refine ⟨QCk.symm,fun j t ht=>?_⟩
 rw[params3] at ht;have xc:∀ t∈[37,3],prog.wantsStandIn t=false:=by decide +kernel
 exact xc t (by simpa using QKW (show [37,3][j]?=some t by simpa using ht))
end Go.Pf
namespace Go.Proofs.YtenlhiebmnojhaaGreatDoor
open Go Go.Ev Go.Proofs Go.RowKit Go.Pf
set_option maxRecDepth 100000 in
theorem card3:Rows.TopSpotsCardSaid :=
 Claim7.holds_tied_plain_at .later [] _ _ _ _ said3 (fun _ h=>by cases h) fi3 (fun _ h=>by cases h) topSpots_row_tie rfl ⟨rfl,rfl⟩ fj3 rfl QBg fk3
end Go.Proofs.YtenlhiebmnojhaaGreatDoor
#print axioms Go.Proofs.YtenlhiebmnojhaaGreatDoor.card3
