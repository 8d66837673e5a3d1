/- The card of the law BooksReplay. -/
import Derived.Test.YtpiohpigfaahcaaGreatDoorFactl3
import Derived.Test.YtpiohpigfaahcaaGreatDoorFacta3
import Derived.Test.YtpiohpigfaahcaaGreatDoorFactb3
import Derived.Test.YtpiohpigfaahcaaGreatDoorFactc3
import Derived.Test.YtpiohpigfaahcaaGreatDoorFactd3
set_option linter.all false
namespace Go.Pf
open Go Go.Ev Go.Proofs Go.RowKit Go.ChangeShapes Go.WideShapes Go.Proofs.YtpiohpigfaahcaaGreatDoor Go.Proofs.Tryz
set_option maxRecDepth 100000 in
theorem fe3:joinedFacts prog 3 Tryz.f3 Rows.booksReplaySpec Rows.booksReplayRow=true :=
 Qp8 (by kernel_rfl) Qp5 QIW (by kernel_rfl) (by kernel_rfl) (by kernel_rfl) QIV (by kernel_rfl) QIU fa3 fb3 fc3 fd3 (by kernel_rfl) (by kernel_rfl) (by kernel_rfl) (by kernel_rfl) (by kernel_rfl) (by kernel_rfl) (by kernel_rfl) (by kernel_rfl) (by kernel_rfl)
  QIS (by kernel_rfl) QAI QGo QIR QIQ (by kernel_rfl) (by kernel_rfl) (by kernel_rfl) (by kernel_rfl)
set_option maxRecDepth 100000 in
theorem ff3:prog.funcNamed Rows.booksReplayRow.func=some 3:=by kernel_rfl
set_option maxRecDepth 100000 in
theorem fg3:Tryz.f3.isInstance prog Rows.booksReplayRow.origin Rows.booksReplayRow.targs:=of_decide_eq_true (by kernel_rfl)
set_option maxRecDepth 100000 in
theorem fh3:Tryz.f3.isWrapper prog Rows.booksReplayRow.wrapper Rows.booksReplayRow.mainSum:=by
 unfold Func.isWrapper
 first | (rw[if_pos (by decide +kernel)];kernel_rfl) | (rw[if_neg (by decide +kernel)];exact ⟨rfl,rfl⟩)
set_option maxRecDepth 100000 in
theorem said3:Rows.BooksReplaySaid :=
 OpenClaim.holds_of_cond 3 Tryz.f3 rfl rfl rfl rfl rfl rfl rfl ⟨rfl,rfl,rfl,rfl,rfl⟩ rfl rfl rfl rfl rfl ff3 func3 fe3 fg3 fh3
  (fun os started H enc _ F=>by rw[OpenClaim.pre_eq_preRow];exact Qyc os started H enc F)
set_option maxRecDepth 100000 in
theorem QFr (f:FuncId) (fn:Func) (hf:Tryz.pinned.checked.prog.funcNamed Rows.booksReplayRow.func=some f) (hfn:Tryz.pinned.checked.prog.funcs[f]?=some fn) :
  true=Tryz.pinned.checked.prog.looks []/\∀ (j:Nat) t,fn.params[j]?=some t->Tryz.pinned.checked.prog.wantsStandIn t=false:=by
 obtain rfl:f=3:=Option.some.inj (ff3.symm.trans hf) |>.symm
 obtain rfl:fn=Tryz.f3:=(Option.some.inj (func3.symm.trans hfn)).symm;refine ⟨QGn.symm,fun j t ht=>?_⟩
 rw[params3] at ht;have xd:∀ t∈[40,9],prog.wantsStandIn t=false:=by decide +kernel
 exact xd t (by simpa using QOh (show [40,9][j]?=some t by simpa using ht))
end Go.Pf
namespace Go.Proofs.YtpiohpigfaahcaaGreatDoor
open Go Go.Ev Go.Proofs Go.RowKit Go.Pf
set_option maxRecDepth 100000 in
theorem card3:Rows.BooksReplayCardSaid :=
 Claim7.holds_tied_plain_at .later [] _ _ _ _ said3 (fun _ h=>by cases h) fi3 (fun _ h=>by cases h) booksReplay_row_tie rfl ⟨rfl,rfl⟩ fj3 rfl QFr fk3
end Go.Proofs.YtpiohpigfaahcaaGreatDoor
#print axioms Go.Proofs.YtpiohpigfaahcaaGreatDoor.card3
