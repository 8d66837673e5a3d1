/- The row of BooksHouse. -/
import Derived.Test.YtcdbenehbakjgaaGreatDoorPartFive
import Derived.Test.YtcdbenehbakjgaaGreatDoorPartSix
set_option linter.all false
namespace Go.Pf
open Go Go.Ev Go.Proofs Go.RowKit Go.ChangeShapes Go.WideShapes Go.Proofs.YtcdbenehbakjgaaGreatDoor Go.Proofs.Tryz
set_option maxRecDepth 100000 in
theorem Qvy (os:Os) (started:os.Started) (H:Type) (enc:TypeId × Value->H) (F:Stop.Interp) :
  ReturnsInHanded {} Tryz.checked os 3 .any ((OpenSpec.ofChange Rows.booksHouseSpec).preRow enc prog Tryz.f3 Rows.booksHouseRow.domain false Rows.booksHouseRow.laid) (((OpenSpec.ofChange Rows.booksHouseSpec).at F).post enc prog Tryz.f3 false true false false):=by
 have hx:∃ places,DataW.whole enc prog ((QbH os).forCall (fun _ _=>0) ⟨#[],#[.agg #[.slice none 0 0,.slice none 0 0,.int .i64 0,.slice none 0 0,.int .i64 0,.int .i64 0,.int .i64 0,.slice none 0 0,.int .i64 0,.slice none 0 0,.int .i64 0,.int .i64 0,.int .i64 0,.int .i64 0,.int .i64 0,.slice none 0 0,.slice none 0 0,.int .i64 0],.slice none 0 0],[]⟩).memory Tryz.f3.params.toList Rows.booksHouseSpec.vars false #[Value.agg #[.slice none 0 0,.slice none 0 0,.int .i64 0,.slice none 0 0,.int .i64 0,.int .i64 0,.int .i64 0,.slice none 0 0,.int .i64 0,.slice none 0 0,.int .i64 0,.int .i64 0,.int .i64 0,.int .i64 0,.int .i64 0,.slice none 0 0,.slice none 0 0,.int .i64 0],.slice none 0 0].toList 8=some ([.agg [.agg [.agg [.nil,.nil,.lit (.int .i64 0)],.agg [.nil,.lit (.int .i64 0),.agg [.lit (.int .i64 0),.lit (.int .i64 0)],.nil,.lit (.int .i64 0)],.nil,.lit (.int .i64 0),.lit (.int .i64 0)],.agg [.lit (.int .i64 0),.agg [.lit (.int .i64 0),.lit (.int .i64 0)],.nil,.nil,.lit (.int .i64 0)]],.nil],[],places):=⟨[],by kernel_rfl⟩
 obtain ⟨places,hx⟩:=hx
 refine returnsInHanded_of_row (C:=Tryz.checked) (s:=OpenSpec.ofChange Rows.booksHouseSpec) own started (by kernel_rfl) func3
  (witness_row_at (enc:=enc) (C:=Tryz.checked) false (QbH os) #[.agg #[.slice none 0 0,.slice none 0 0,.int .i64 0,.slice none 0 0,.int .i64 0,.int .i64 0,.int .i64 0,.slice none 0 0,.int .i64 0,.slice none 0 0,.int .i64 0,.int .i64 0,.int .i64 0,.int .i64 0,.int .i64 0,.slice none 0 0,.slice none 0 0,.int .i64 0],.slice none 0 0] (World.laidAll_os _ _ _) (by kernel_rfl) (by kernel_rfl) (by kernel_rfl)
    (OpenSpec.preRow_of_cond 8 hx (by kernel_rfl) (fun k hk=>by cases hk) (by kernel_rfl) (Qq7 os _))) ?_
 intro W base args ds gs before hval hW _ _ hwt hL hsh _
 have hgs:gs=[]:=by
  obtain ⟨_,_,_,hV,_⟩:=hW;exact (trodVars_none hV).1
 subst hgs;refine QqL (P:=prog) (fn:=Tryz.f3) (s:=Rows.booksHouseSpec) Qnx rfl (tb:=4) (by kernel_rfl) underlying4 (by decide +kernel) (by decide +kernel) (fun ds hd=>?_) (K:=KW) (fun xs hx ha=>?_) W base args ds [] before hval hW ?_ (QDw hL hsh)
 ·rw[params3] at hd
  match ds,hd with
  | [d1,d2],_=>rfl
 ·rw[params3] at hx ha
  match xs,hx with
  | [x1,x2],_ =>
    obtain ⟨v1,rfl⟩:=Qp0 (ha 0 x1 40 rfl rfl);obtain ⟨v2,rfl⟩:=Qp1 (ha 1 x2 41 rfl rfl);exact QDF v1 v2
 ·have hwt':(DataW.weightsEach prog (Tryz.f3.params.toList++[]) (ds++[])).all (·<=reachBytes)=true:=hwt
  rw[QKj,QKj] at hwt';exact fun k hk=>of_decide_eq_true (QKw.1 hwt' k hk)
end Go.Pf
