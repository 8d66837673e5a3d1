/- Closed facts of the row of ProverHalves. -/
import Derived.Test.YtanjbjjkofhanaaGreatDoorPartSix
set_option linter.all false
namespace Go.Pf
open Go Go.Ev Go.Proofs Go.RowKit Go.ChangeShapes Go.WideShapes Go.Proofs.YtanjbjjkofhanaaGreatDoor
set_option maxRecDepth 100000 in
theorem Qum (os:Os) (started:os.Started) (H:Type) (enc:TypeId × Value->H) (F:Stop.Interp) :
  ReturnsInHanded {} Tryz.checked os 6 .any ((OpenSpec.ofChange Rows.proverHalvesSpec).preRow enc Tryz.prog Tryz.f6 Rows.proverHalvesRow.domain false Rows.proverHalvesRow.laid) (((OpenSpec.ofChange Rows.proverHalvesSpec).at F).post enc Tryz.prog Tryz.f6 false true false false):=by
 have hx:∃ places,DataW.whole enc Tryz.prog ((XQ os).forCall (fun _ _=>0) ⟨#[],#[.agg #[.slice none 0 0,.slice none 0 0,.int .i64 0,.slice none 0 0,.int .i64 0,.int .i64 0,.int .i64 0,.slice none 0 0,.int .i64 0,.slice none 0 0,.int .i64 0,.int .i64 0,.int .i64 0,.int .i64 0,.int .i64 0,.slice none 0 0,.slice none 0 0,.int .i64 0],.slice none 0 0,.int .i64 0],[]⟩).memory Tryz.f6.params.toList Rows.proverHalvesSpec.vars false #[Value.agg #[.slice none 0 0,.slice none 0 0,.int .i64 0,.slice none 0 0,.int .i64 0,.int .i64 0,.int .i64 0,.slice none 0 0,.int .i64 0,.slice none 0 0,.int .i64 0,.int .i64 0,.int .i64 0,.int .i64 0,.int .i64 0,.slice none 0 0,.slice none 0 0,.int .i64 0],.slice none 0 0,.int .i64 0].toList 8=some ([.agg [.agg [.agg [.nil,.nil,.lit (.int .i64 0)],.agg [.nil,.lit (.int .i64 0),.agg [.lit (.int .i64 0),.lit (.int .i64 0)],.nil,.lit (.int .i64 0)],.nil,.lit (.int .i64 0),.lit (.int .i64 0)],.agg [.lit (.int .i64 0),.agg [.lit (.int .i64 0),.lit (.int .i64 0)],.nil,.nil,.lit (.int .i64 0)]],.nil,.lit (.int .i64 0)],[],places):=⟨[],by kernel_rfl⟩
 obtain ⟨places,hx⟩:=hx
 refine returnsInHanded_of_row (C:=Tryz.checked) (s:=OpenSpec.ofChange Rows.proverHalvesSpec) own started (by kernel_rfl) Tryz.func6
  (witness_row_at (enc:=enc) (C:=Tryz.checked) false (XQ os) #[.agg #[.slice none 0 0,.slice none 0 0,.int .i64 0,.slice none 0 0,.int .i64 0,.int .i64 0,.int .i64 0,.slice none 0 0,.int .i64 0,.slice none 0 0,.int .i64 0,.int .i64 0,.int .i64 0,.int .i64 0,.int .i64 0,.slice none 0 0,.slice none 0 0,.int .i64 0],.slice none 0 0,.int .i64 0] (World.laidAll_os _ _ _) (by kernel_rfl) (by kernel_rfl) (by kernel_rfl)
    (OpenSpec.preRow_of_cond 8 hx (by kernel_rfl) (fun k hk=>by cases hk) (by kernel_rfl) (Qav os _))) ?_
 intro W base args ds gs before hval hW _ _ hwt hL hsh _
 have hgs:gs=[]:=by
  obtain ⟨_,_,_,hV,_⟩:=hW;exact (trodVars_none hV).1
 subst hgs;refine Qat (P:=Tryz.prog) (fn:=Tryz.f6) (s:=Rows.proverHalvesSpec) VJ rfl (tb:=4) (by kernel_rfl) Tryz.underlying4 (by decide +kernel) (by decide +kernel) (fun ds hd=>?_) (K:=KW) (fun xs hx ha=>?_) W base args ds [] before hval hW ?_ (QqX hL hsh)
 ·rw[Tryz.params6] at hd
  match ds,hd with
  | [d1,d2,d3],_=>rfl
 ·rw[Tryz.params6] at hx ha
  match xs,hx with
  | [x1,x2,x3],_ =>
    obtain ⟨v1,rfl⟩:=WV (ha 0 x1 40 rfl rfl);obtain ⟨v2,rfl⟩:=QeX (ha 1 x2 41 rfl rfl);obtain ⟨v3,rfl⟩:=QAD (ha 2 x3 3 rfl rfl);exact QEP v1 v2 v3
 ·have hwt':(DataW.weightsEach Tryz.prog (Tryz.f6.params.toList++[]) (ds++[])).all (·<=reachBytes)=true:=hwt
  rw[QKv,QKv] at hwt';exact fun k hk=>of_decide_eq_true (QKH.1 hwt' k hk)
set_option maxRecDepth 100000 in
theorem fi6:Rows.proverHalvesRow.wfByText (OpenSpec.ofChange Rows.proverHalvesSpec)=true:=by kernel_rfl
set_option maxRecDepth 100000 in
theorem fj6 : Tryz.pinned.checked.prog.mainIs = some ((true, "fa50294131a23c01a5f1ac027bcd2d6a1e1176af9461409ac5f8a1ec67de6858").1, (true, "fa50294131a23c01a5f1ac027bcd2d6a1e1176af9461409ac5f8a1ec67de6858").2.toList) := by kernel_rfl
end Go.Pf
