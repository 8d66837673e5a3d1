/- The row of TopReplay. -/
import Derived.Test.YteihocdmbflkiaaGreatDoorPartFive
import Derived.Test.YteihocdmbflkiaaGreatDoorPartSix
set_option linter.all false
namespace Go.Pf
open Go Go.Ev Go.Proofs Go.RowKit Go.ChangeShapes Go.WideShapes Go.Proofs.YteihocdmbflkiaaGreatDoor Go.Proofs.Tryz
set_option maxRecDepth 100000 in
theorem QvC (os:Os) (started:os.Started) (H:Type) (enc:TypeId × Value->H) (F:Stop.Interp) :
  ReturnsInHanded {} Tryz.checked os 3 .any ((OpenSpec.ofChange Rows.topReplaySpec).preRow enc prog Tryz.f3 Rows.topReplayRow.domain false Rows.topReplayRow.laid) (((OpenSpec.ofChange Rows.topReplaySpec).at F).post enc prog Tryz.f3 false true false false):=by
 have hx:∃ places,DataW.whole enc prog ((QbO os).forCall (fun _ _=>0) ⟨#[],#[.agg #[.slice none 0 0,.slice none 0 0,.int .i64 0,.slice none 0 0,.int .i64 0,.int .i64 0,.int .i64 0,.slice none 0 0,.int .i64 0,.slice none 0 0,.int .i64 0,.int .i64 0,.int .i64 0,.int .i64 0,.int .i64 0,.slice none 0 0,.slice none 0 0,.int .i64 0],.slice none 0 0,.slice none 0 0],[]⟩).memory Tryz.f3.params.toList Rows.topReplaySpec.vars false #[Value.agg #[.slice none 0 0,.slice none 0 0,.int .i64 0,.slice none 0 0,.int .i64 0,.int .i64 0,.int .i64 0,.slice none 0 0,.int .i64 0,.slice none 0 0,.int .i64 0,.int .i64 0,.int .i64 0,.int .i64 0,.int .i64 0,.slice none 0 0,.slice none 0 0,.int .i64 0],.slice none 0 0,.slice none 0 0].toList 8=some ([.agg [.agg [.agg [.nil,.nil,.lit (.int .i64 0)],.agg [.nil,.lit (.int .i64 0),.agg [.lit (.int .i64 0),.lit (.int .i64 0)],.nil,.lit (.int .i64 0)],.nil,.lit (.int .i64 0),.lit (.int .i64 0)],.agg [.lit (.int .i64 0),.agg [.lit (.int .i64 0),.lit (.int .i64 0)],.nil,.nil,.lit (.int .i64 0)]],.nil,.nil],[],places):=⟨[],by kernel_rfl⟩
 obtain ⟨places,hx⟩:=hx
 refine returnsInHanded_of_row (C:=Tryz.checked) (s:=OpenSpec.ofChange Rows.topReplaySpec) own started (by kernel_rfl) func3
  (witness_row_at (enc:=enc) (C:=Tryz.checked) false (QbO os) #[.agg #[.slice none 0 0,.slice none 0 0,.int .i64 0,.slice none 0 0,.int .i64 0,.int .i64 0,.int .i64 0,.slice none 0 0,.int .i64 0,.slice none 0 0,.int .i64 0,.int .i64 0,.int .i64 0,.int .i64 0,.int .i64 0,.slice none 0 0,.slice none 0 0,.int .i64 0],.slice none 0 0,.slice none 0 0] (World.laidAll_os _ _ _) (by kernel_rfl) (by kernel_rfl) (by kernel_rfl)
    (OpenSpec.preRow_of_cond 8 hx (by kernel_rfl) (fun k hk=>by cases hk) (by kernel_rfl) (Qrr os _))) ?_
 intro W base args ds gs before hval hW _ _ hwt hL hsh _
 have hgs:gs=[]:=by
  obtain ⟨_,_,_,hV,_⟩:=hW;exact (trodVars_none hV).1
 subst hgs;refine Qq1 (P:=prog) (fn:=Tryz.f3) (s:=Rows.topReplaySpec) QnL rfl (tb:=4) (by kernel_rfl) underlying4 (by decide +kernel) (by decide +kernel) (fun ds hd=>?_) (K:=KW) (fun xs hx ha=>?_) W base args ds [] before hval hW ?_ (QDS hL hsh)
 ·rw[params3] at hd
  match ds,hd with
  | [d1,d2,d3],_=>rfl
 ·rw[params3] at hx ha
  match xs,hx with
  | [x1,x2,x3],_ =>
    obtain ⟨v1,rfl⟩:=Qqg (ha 0 x1 40 rfl rfl);obtain ⟨v2,rfl,h2⟩:=Qqf (ha 1 x2 41 rfl rfl);obtain ⟨v3,rfl⟩:=Qts (ha 2 x3 42 rfl rfl);exact QD5 v1 v2 v3 h2
 ·have hwt':(DataW.weightsEach prog (Tryz.f3.params.toList++[]) (ds++[])).all (·<=reachBytes)=true:=hwt
  rw[QK9,QK9] at hwt';exact fun k hk=>of_decide_eq_true (QLo.1 hwt' k hk)
end Go.Pf
