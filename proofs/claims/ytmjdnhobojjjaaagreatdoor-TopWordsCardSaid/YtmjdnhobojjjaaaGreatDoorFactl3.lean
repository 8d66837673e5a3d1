/- The row of TopWords. -/
import Derived.Test.YtmjdnhobojjjaaaGreatDoorPartFive
set_option linter.all false
namespace Go.Pf
open Go Go.Ev Go.Proofs Go.RowKit Go.ChangeShapes Go.WideShapes Go.Proofs.YtmjdnhobojjjaaaGreatDoor
set_option maxRecDepth 100000 in
theorem QlB (os:Os) (started:os.Started) (H:Type) (enc:TypeId × Value->H) (F:Stop.Interp) :
  ReturnsInHanded {} Tryz.checked os 3 .any ((OpenSpec.ofChange Rows.topWordsSpec).preRow enc Tryz.prog Tryz.f3 Rows.topWordsRow.domain false Rows.topWordsRow.laid) (((OpenSpec.ofChange Rows.topWordsSpec).at F).post enc Tryz.prog Tryz.f3 false true false false):=by
 have hx:∃ places,DataW.whole enc Tryz.prog ((U1 os).forCall (fun _ _=>0) ⟨#[],#[.agg #[.slice none 0 0,.int .i64 0,.int .i64 0,.int .i64 0,.slice none 0 0,.int .i64 0],.agg #[.slice none 0 0,.int .i64 0],.agg #[.string ⟨#[]⟩,.slice none 0 0]],[]⟩).memory Tryz.f3.params.toList Rows.topWordsSpec.vars false #[Value.agg #[.slice none 0 0,.int .i64 0,.int .i64 0,.int .i64 0,.slice none 0 0,.int .i64 0],.agg #[.slice none 0 0,.int .i64 0],.agg #[.string ⟨#[]⟩,.slice none 0 0]].toList 8=some ([.agg [.nil,.lit (.int .i64 0),.agg [.lit (.int .i64 0),.lit (.int .i64 0)],.nil,.lit (.int .i64 0)],.agg [.nil,.lit (.int .i64 0)],.agg [.lit (.string []),.nil]],[],places):=⟨[],by kernel_rfl⟩
 obtain ⟨places,hx⟩:=hx
 refine returnsInHanded_of_row (C:=Tryz.checked) (s:=OpenSpec.ofChange Rows.topWordsSpec) own started (by kernel_rfl) Tryz.func3
  (witness_row_at (enc:=enc) (C:=Tryz.checked) false (U1 os) #[.agg #[.slice none 0 0,.int .i64 0,.int .i64 0,.int .i64 0,.slice none 0 0,.int .i64 0],.agg #[.slice none 0 0,.int .i64 0],.agg #[.string ⟨#[]⟩,.slice none 0 0]] (World.laidAll_os _ _ _) (by kernel_rfl) (by kernel_rfl) (by kernel_rfl)
    (OpenSpec.preRow_of_cond 8 hx (by kernel_rfl) (fun k hk=>by cases hk) (by kernel_rfl) (QiE os _))) ?_
 intro W base args ds gs before hval hW _ _ hwt hL hsh _
 have hgs:gs=[]:=by
  obtain ⟨_,_,_,hV,_⟩:=hW;exact (trodVars_none hV).1
 subst hgs;refine Qin (P:=Tryz.prog) (fn:=Tryz.f3) (s:=Rows.topWordsSpec) Qf6 rfl (tb:=4) (by kernel_rfl) Tryz.underlying4 (by decide +kernel) (by decide +kernel) (fun ds hd=>?_) (K:=KW) (fun xs hx ha=>?_) W base args ds [] before hval hW ?_ hsh
 ·rw[Tryz.params3] at hd
  match ds,hd with
  | [d1,d2,d3],_=>rfl
 ·rw[Tryz.params3] at hx ha
  match xs,hx with
  | [x1,x2,x3],_ =>
    obtain ⟨v1,rfl⟩:=Qdh (ha 0 x1 27 rfl rfl);obtain ⟨v2,rfl⟩:=Qdg (ha 1 x2 30 rfl rfl);obtain ⟨v3,u3,rfl⟩:=QhO (ha 2 x3 33 rfl rfl);exact Qw0 v1 v2 v3 u3
 ·have hwt':(DataW.weightsEach Tryz.prog (Tryz.f3.params.toList++[]) (ds++[])).all (·<=reachBytes)=true:=hwt
  rw[Qyy,Qyy] at hwt';exact fun k hk=>of_decide_eq_true (Qx5.1 hwt' k hk)
end Go.Pf
