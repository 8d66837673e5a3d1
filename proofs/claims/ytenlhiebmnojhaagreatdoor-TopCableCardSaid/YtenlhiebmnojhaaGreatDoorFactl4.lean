/- The row of TopCable. -/
import Derived.Test.YtenlhiebmnojhaaGreatDoorCabFive
import Derived.Test.YtenlhiebmnojhaaGreatDoorCabSix
set_option linter.all false
namespace Go.Pf
open Go Go.Ev Go.Proofs Go.RowKit Go.ChangeShapes Go.WideShapes Go.Proofs.YtenlhiebmnojhaaGreatDoor Go.Proofs.Tryz
set_option maxRecDepth 100000 in
theorem Qwq (os:Os) (started:os.Started) (H:Type) (enc:TypeId × Value->H) (F:Stop.Interp) :
  ReturnsInHanded {} Tryz.checked os 4 .any ((OpenSpec.ofChange Rows.topCableSpec).preRow enc prog Tryz.f4 Rows.topCableRow.domain false Rows.topCableRow.laid) (((OpenSpec.ofChange Rows.topCableSpec).at F).post enc prog Tryz.f4 false true false false):=by
 have hx:∃ places,DataW.whole enc prog ((Qci os).forCall (fun _ _=>0) ⟨#[],#[.agg #[.slice none 0 0,.slice none 0 0,.slice none 0 0,.int .i64 0],.int .i64 0],[]⟩).memory Tryz.f4.params.toList Rows.topCableSpec.vars false #[Value.agg #[.slice none 0 0,.slice none 0 0,.slice none 0 0,.int .i64 0],.int .i64 0].toList 8=some ([.agg [.nil,.nil,.nil,.lit (.int .i64 0)],.lit (.int .i64 0)],[],places):=⟨[],by kernel_rfl⟩
 obtain ⟨places,hx⟩:=hx
 refine returnsInHanded_of_row (C:=Tryz.checked) (s:=OpenSpec.ofChange Rows.topCableSpec) own started (by kernel_rfl) func4
  (witness_row_at (enc:=enc) (C:=Tryz.checked) false (Qci os) #[.agg #[.slice none 0 0,.slice none 0 0,.slice none 0 0,.int .i64 0],.int .i64 0] (World.laidAll_os _ _ _) (by kernel_rfl) (by kernel_rfl) (by kernel_rfl)
    (OpenSpec.preRow_of_cond 8 hx (by kernel_rfl) (fun k hk=>by cases hk) (by kernel_rfl) (Qr8 os _))) ?_
 intro W base args ds gs before hval hW _ _ hwt hL hsh _
 have hgs:gs=[]:=by
  obtain ⟨_,_,_,hV,_⟩:=hW;exact (trodVars_none hV).1
 subst hgs;refine QrO (P:=prog) (fn:=Tryz.f4) (s:=Rows.topCableSpec) QoO rfl (tb:=4) (by kernel_rfl) underlying4 (by decide +kernel) (by decide +kernel) (fun ds hd=>?_) (K:=KW) (fun xs hx ha=>?_) W base args ds [] before hval hW ?_ (QDE hL hsh)
 ·rw[params4] at hd
  match ds,hd with
  | [d1,d2],_=>rfl
 ·rw[params4] at hx ha
  match xs,hx with
  | [x1,x2],_ =>
    obtain ⟨v1,rfl⟩:=Qrd (ha 0 x1 79 rfl rfl);obtain ⟨v2,rfl⟩:=QzA (ha 1 x2 3 rfl rfl);exact QDN v1 v2
 ·have hwt':(DataW.weightsEach prog (Tryz.f4.params.toList++[]) (ds++[])).all (·<=reachBytes)=true:=hwt
  rw[QKs,QKs] at hwt';exact fun k hk=>of_decide_eq_true (QJX.1 hwt' k hk)
end Go.Pf
