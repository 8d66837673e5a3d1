/- The row of TopBlamed. -/
import Derived.Test.YtmjdnhobojjjaaaGreatDoorPartFive
import Derived.Test.YtmjdnhobojjjaaaGreatDoorPartSix
set_option linter.all false
namespace Go.Pf
open Go Go.Ev Go.Proofs Go.RowKit Go.ChangeShapes Go.WideShapes Go.Proofs.YtmjdnhobojjjaaaGreatDoor
set_option maxRecDepth 100000 in
theorem QnN (os:Os) (started:os.Started) (H:Type) (enc:TypeId × Value->H) (F:Stop.Interp) :
  ReturnsInHanded {} Tryz.checked os 4 .any ((OpenSpec.ofChange Rows.topBlamedSpec).preRow enc Tryz.prog Tryz.f4 Rows.topBlamedRow.domain false Rows.topBlamedRow.laid) (((OpenSpec.ofChange Rows.topBlamedSpec).at F).post enc Tryz.prog Tryz.f4 false true false false):=by
 have hx:∃ places,DataW.whole enc Tryz.prog ((WY os).forCall (fun _ _=>0) ⟨#[],#[.agg #[.slice none 0 0,.slice none 0 0,.int .i64 0,.int .i64 0,.int .i64 0,.slice none 0 0,.int .i64 0,.int .i64 0,.slice none 0 0,.slice none 0 0,.int .i64 0,.int .i64 0,.int .i64 0,.int .i64 0,.int .i64 0,.int .i64 0,.int .i64 0,.int .i64 0,.slice none 0 0,.int .i64 0,.int .i64 0]],[]⟩).memory Tryz.f4.params.toList Rows.topBlamedSpec.vars false #[Value.agg #[.slice none 0 0,.slice none 0 0,.int .i64 0,.int .i64 0,.int .i64 0,.slice none 0 0,.int .i64 0,.int .i64 0,.slice none 0 0,.slice none 0 0,.int .i64 0,.int .i64 0,.int .i64 0,.int .i64 0,.int .i64 0,.int .i64 0,.int .i64 0,.int .i64 0,.slice none 0 0,.int .i64 0,.int .i64 0]].toList 8=some ([.agg [.agg [.nil,.nil,.lit (.int .i64 0)],.agg [.lit (.int .i64 0),.lit (.int .i64 0),.nil,.agg [.lit (.int .i64 0),.lit (.int .i64 0)],.nil,.nil,.lit (.int .i64 0)],.agg [.lit (.int .i64 0),.lit (.int .i64 0)],.agg [.lit (.int .i64 0),.lit (.int .i64 0)],.agg [.lit (.int .i64 0),.lit (.int .i64 0)],.lit (.int .i64 0),.agg [.nil,.lit (.int .i64 0),.lit (.int .i64 0)]]],[],places):=⟨[],by kernel_rfl⟩
 obtain ⟨places,hx⟩:=hx
 refine returnsInHanded_of_row (C:=Tryz.checked) (s:=OpenSpec.ofChange Rows.topBlamedSpec) own started (by kernel_rfl) Tryz.func4
  (witness_row_at (enc:=enc) (C:=Tryz.checked) false (WY os) #[.agg #[.slice none 0 0,.slice none 0 0,.int .i64 0,.int .i64 0,.int .i64 0,.slice none 0 0,.int .i64 0,.int .i64 0,.slice none 0 0,.slice none 0 0,.int .i64 0,.int .i64 0,.int .i64 0,.int .i64 0,.int .i64 0,.int .i64 0,.int .i64 0,.int .i64 0,.slice none 0 0,.int .i64 0,.int .i64 0]] (World.laidAll_os _ _ _) (by kernel_rfl) (by kernel_rfl) (by kernel_rfl)
    (OpenSpec.preRow_of_cond 8 hx (by kernel_rfl) (fun k hk=>by cases hk) (by kernel_rfl) (QkL os _))) ?_
 intro W base args ds gs before hval hW _ _ hwt hL hsh _
 have hgs:gs=[]:=by
  obtain ⟨_,_,_,hV,_⟩:=hW;exact (trodVars_none hV).1
 subst hgs;refine Qkt (P:=Tryz.prog) (fn:=Tryz.f4) (s:=Rows.topBlamedSpec) QhQ rfl (tb:=4) (by kernel_rfl) Tryz.underlying4 (by decide +kernel) (by decide +kernel) (fun ds hd=>?_) (K:=KW) (fun xs hx ha=>?_) W base args ds [] before hval hW ?_ hsh
 ·rw[Tryz.params4] at hd
  match ds,hd with
  | [d1],_=>rfl
 ·rw[Tryz.params4] at hx ha
  match xs,hx with
  | [x1],_ =>
    obtain ⟨v1,rfl⟩:=Qmd (ha 0 x1 74 rfl rfl);exact QyO v1
 ·have hwt':(DataW.weightsEach Tryz.prog (Tryz.f4.params.toList++[]) (ds++[])).all (·<=reachBytes)=true:=hwt
  rw[QAx,QAx] at hwt';exact fun k hk=>of_decide_eq_true (QzX.1 hwt' k hk)
end Go.Pf
