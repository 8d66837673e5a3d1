/- The row of BooksReplay. -/
import Derived.Test.YtpiohpigfaahcaaGreatDoorPartFive
import Derived.Test.YtpiohpigfaahcaaGreatDoorPartSeven
set_option linter.all false
namespace Go.Pf
open Go Go.Ev Go.Proofs Go.RowKit Go.ChangeShapes Go.WideShapes Go.Proofs.YtpiohpigfaahcaaGreatDoor Go.Proofs.Tryz
set_option maxRecDepth 100000 in
theorem Qyc (os:Os) (started:os.Started) (H:Type) (enc:TypeId × Value->H) (F:Stop.Interp) :
  ReturnsInHanded {} Tryz.checked os 3 .any ((OpenSpec.ofChange Rows.booksReplaySpec).preRow enc prog Tryz.f3 Rows.booksReplayRow.domain false Rows.booksReplayRow.laid) (((OpenSpec.ofChange Rows.booksReplaySpec).at F).post enc prog Tryz.f3 false true false false):=by
 have hx:∃ places,DataW.whole enc prog ((QcI os).forCall (fun _ _=>0) ⟨#[],#[.agg #[.slice none 0 0,.slice none 0 0,.int .i64 0,.slice none 0 0,.int .i64 0,.int .i64 0,.int .i64 0,.slice none 0 0,.int .i64 0,.slice none 0 0,.int .i64 0,.int .i64 0,.int .i64 0,.int .i64 0,.int .i64 0,.slice none 0 0,.slice none 0 0,.int .i64 0],.string ⟨#[]⟩],[]⟩).memory Tryz.f3.params.toList Rows.booksReplaySpec.vars false #[Value.agg #[.slice none 0 0,.slice none 0 0,.int .i64 0,.slice none 0 0,.int .i64 0,.int .i64 0,.int .i64 0,.slice none 0 0,.int .i64 0,.slice none 0 0,.int .i64 0,.int .i64 0,.int .i64 0,.int .i64 0,.int .i64 0,.slice none 0 0,.slice none 0 0,.int .i64 0],.string ⟨#[]⟩].toList 8=some ([.agg [.agg [.agg [.nil,.nil,.lit (.int .i64 0)],.agg [.nil,.lit (.int .i64 0),.agg [.lit (.int .i64 0),.lit (.int .i64 0)],.nil,.lit (.int .i64 0)],.nil,.lit (.int .i64 0),.lit (.int .i64 0)],.agg [.lit (.int .i64 0),.agg [.lit (.int .i64 0),.lit (.int .i64 0)],.nil,.nil,.lit (.int .i64 0)]],.lit (.string [])],[],places):=⟨[],by kernel_rfl⟩
 obtain ⟨places,hx⟩:=hx
 refine returnsInHanded_of_row (C:=Tryz.checked) (s:=OpenSpec.ofChange Rows.booksReplaySpec) own started (by kernel_rfl) func3
  (witness_row_at (enc:=enc) (C:=Tryz.checked) false (QcI os) #[.agg #[.slice none 0 0,.slice none 0 0,.int .i64 0,.slice none 0 0,.int .i64 0,.int .i64 0,.int .i64 0,.slice none 0 0,.int .i64 0,.slice none 0 0,.int .i64 0,.int .i64 0,.int .i64 0,.int .i64 0,.int .i64 0,.slice none 0 0,.slice none 0 0,.int .i64 0],.string ⟨#[]⟩] (World.laidAll_os _ _ _) (by kernel_rfl) (by kernel_rfl) (by kernel_rfl)
    (OpenSpec.preRow_of_cond 8 hx (by kernel_rfl) (fun k hk=>by cases hk) (by kernel_rfl) (Qt0 os _))) ?_
 intro W base args ds gs before hval hW _ _ hwt hL hsh _
 have hgs:gs=[]:=by
  obtain ⟨_,_,_,hV,_⟩:=hW;exact (trodVars_none hV).1
 subst hgs;refine QtD (P:=prog) (fn:=Tryz.f3) (s:=Rows.booksReplaySpec) Qp5 rfl (tb:=4) (by kernel_rfl) underlying4 (by decide +kernel) (by decide +kernel) (fun ds hd=>?_) (K:=KW) (fun xs hx ha=>?_) W base args ds [] before hval hW ?_ (QID hL hsh)
 ·rw[params3] at hd
  match ds,hd with
  | [d1,d2],_=>rfl
 ·rw[params3] at hx ha
  match xs,hx with
  | [x1,x2],_ =>
    obtain ⟨v1,rfl⟩:=QsV (ha 0 x1 40 rfl rfl);obtain ⟨v2,rfl,h2⟩:=Qwf (ha 1 x2 9 rfl rfl);exact QIL v1 v2 h2
 ·have hwt':(DataW.weightsEach prog (Tryz.f3.params.toList++[]) (ds++[])).all (·<=reachBytes)=true:=hwt
  rw[QOl,QOl] at hwt';exact fun k hk=>of_decide_eq_true (QOt.1 hwt' k hk)
end Go.Pf
