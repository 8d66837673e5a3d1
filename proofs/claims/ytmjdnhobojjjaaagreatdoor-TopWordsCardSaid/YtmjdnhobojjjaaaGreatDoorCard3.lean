/- The card of the law TopWords. -/
import Derived.Test.YtmjdnhobojjjaaaGreatDoorFactl3
import Derived.Test.YtmjdnhobojjjaaaGreatDoorFacta3
import Derived.Test.YtmjdnhobojjjaaaGreatDoorFactb3
import Derived.Test.YtmjdnhobojjjaaaGreatDoorFactc3
import Derived.Test.YtmjdnhobojjjaaaGreatDoorFactd3
set_option linter.all false
namespace Go.Pf
open Go Go.Ev Go.Proofs Go.RowKit Go.ChangeShapes Go.WideShapes Go.Proofs.YtmjdnhobojjjaaaGreatDoor
set_option maxRecDepth 100000 in
theorem fe3:joinedFacts Tryz.prog 3 Tryz.f3 Rows.topWordsSpec Rows.topWordsRow=true :=
 Qga (by kernel_rfl) Qf6 Qte (by kernel_rfl) (by kernel_rfl) (by kernel_rfl) Qtd (by kernel_rfl) Qtc fa3 fb3 fc3 fd3 (by kernel_rfl) (by kernel_rfl) (by kernel_rfl) (by kernel_rfl) (by kernel_rfl) (by kernel_rfl) (by kernel_rfl) (by kernel_rfl) (by kernel_rfl)
  Qta (by kernel_rfl) QmB Qqy Y6 Qs9 (by kernel_rfl) (by kernel_rfl) (by kernel_rfl) (by kernel_rfl)
set_option maxRecDepth 100000 in
theorem ff3:Tryz.prog.funcNamed Rows.topWordsRow.func=some 3:=by kernel_rfl
set_option maxRecDepth 100000 in
theorem fg3:Tryz.f3.isInstance Tryz.prog Rows.topWordsRow.origin Rows.topWordsRow.targs:=of_decide_eq_true (by kernel_rfl)
set_option maxRecDepth 100000 in
theorem fh3:Tryz.f3.isWrapper Tryz.prog Rows.topWordsRow.wrapper Rows.topWordsRow.mainSum:=by
 unfold Func.isWrapper
 first | (rw[if_pos (by decide +kernel)];kernel_rfl) | (rw[if_neg (by decide +kernel)];exact ⟨rfl,rfl⟩)
set_option maxRecDepth 100000 in
theorem said3:Rows.TopWordsSaid :=
 OpenClaim.holds_of_cond 3 Tryz.f3 rfl rfl rfl rfl rfl rfl rfl ⟨rfl,rfl,rfl,rfl,rfl⟩ rfl rfl rfl rfl rfl ff3 Tryz.func3 fe3 fg3 fh3
  (fun os started H enc _ F=>by rw[OpenClaim.pre_eq_preRow];exact QlB os started H enc F)
set_option maxRecDepth 100000 in
theorem Qpz (f:FuncId) (fn:Func) (hf:Tryz.pinned.checked.prog.funcNamed Rows.topWordsRow.func=some f) (hfn:Tryz.pinned.checked.prog.funcs[f]?=some fn) :
  false=Tryz.pinned.checked.prog.looks []/\∀ (j:Nat) t,fn.params[j]?=some t->Tryz.pinned.checked.prog.wantsStandIn t=false:=by
 obtain rfl:f=3:=Option.some.inj (ff3.symm.trans hf) |>.symm
 obtain rfl:fn=Tryz.f3:=(Option.some.inj (Tryz.func3.symm.trans hfn)).symm;refine ⟨Qqw.symm,fun j t ht=>?_⟩
 rw[Tryz.params3] at ht;have hall:∀ t∈[27,30,33],Tryz.prog.wantsStandIn t=false:=by decide +kernel
 exact hall t (by simpa using QxF (show [27,30,33][j]?=some t by simpa using ht))
end Go.Pf
namespace Go.Proofs.YtmjdnhobojjjaaaGreatDoor
open Go Go.Ev Go.Proofs Go.RowKit Go.Pf
set_option maxRecDepth 100000 in
theorem card3:Rows.TopWordsCardSaid :=
 Claim7.holds_tied_plain_at .later [] _ _ _ _ said3 (fun _ h=>by cases h) fi3 (fun _ h=>by cases h) topWords_row_tie rfl ⟨rfl,rfl⟩ fj3 rfl Qpz fk3
end Go.Proofs.YtmjdnhobojjjaaaGreatDoor
#print axioms Go.Proofs.YtmjdnhobojjjaaaGreatDoor.card3
