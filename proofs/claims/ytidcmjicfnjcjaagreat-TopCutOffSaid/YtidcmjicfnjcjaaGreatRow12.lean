/- The law TopCutOff, as its row states it: for every input it returns true, and the input reads behind the call as before. No condition. -/
import Derived.Test.YtidcmjicfnjcjaaGreatRowed
import Derived.Test.YtidcmjicfnjcjaaGreatMore
set_option linter.all false

namespace Go.Pf
open Go Go.Ev Go.Proofs Go.RowKit Go.ChangeShapes Go.WideShapes Go.Proofs.YtidcmjicfnjcjaaGreat
set_option maxRecDepth 100000 in
theorem lifted12 (os:Os) (started:os.Started) (H:Type) (enc:TypeId × Value→H) (F:Stop.Interp) :
  ReturnsInHanded {} Tryz.checked os 12 .any ((OpenSpec.ofChange Rows.topCutOffSpec).preRow enc Tryz.prog Tryz.f12 Rows.topCutOffRow.domain false Rows.topCutOffRow.laid) (((OpenSpec.ofChange Rows.topCutOffSpec).at F).post enc Tryz.prog Tryz.f12 false true false false):=by
 have hx:∃ places,DataW.whole enc Tryz.prog ((laidWorld os).forCall (fun _ _=>0) ⟨#[],#[.agg #[.slice none 0 0,.slice none 0 0,.int .i64 0,.slice none 0 0,.int .i64 0,.int .i64 0,.int .i64 0,.slice none 0 0,.int .i64 0,.slice none 0 0,.int .i64 0,.int .i64 0]],[]⟩).memory Tryz.f12.params.toList Rows.topCutOffSpec.vars false (#[.agg #[.slice none 0 0,.slice none 0 0,.int .i64 0,.slice none 0 0,.int .i64 0,.int .i64 0,.int .i64 0,.slice none 0 0,.int .i64 0,.slice none 0 0,.int .i64 0,.int .i64 0]]:Array Value).toList 8=some ([.agg [.agg [.nil,.nil,.lit (.int .i64 0)],.agg [.nil,.lit (.int .i64 0),.agg [.lit (.int .i64 0),.lit (.int .i64 0)],.nil,.lit (.int .i64 0)],.nil,.lit (.int .i64 0),.lit (.int .i64 0)]],[],places):=⟨[],by kernel_rfl⟩
 obtain ⟨places,hx⟩:=hx
 refine returnsInHanded_of_row (C:=Tryz.checked) (s:=OpenSpec.ofChange Rows.topCutOffSpec) own started (by kernel_rfl) Tryz.func12
  (witness_row_at (enc:=enc) (C:=Tryz.checked) false (laidWorld os) #[.agg #[.slice none 0 0,.slice none 0 0,.int .i64 0,.slice none 0 0,.int .i64 0,.int .i64 0,.int .i64 0,.slice none 0 0,.int .i64 0,.slice none 0 0,.int .i64 0,.int .i64 0]] rfl (by kernel_rfl) (by kernel_rfl) (by kernel_rfl)
    (OpenSpec.preRow_of_cond 8 hx (by kernel_rfl) (fun k hk=>by cases hk) (by kernel_rfl) (laidMet_of_run' 8 (by kernel_rfl) (by kernel_rfl)))) ?_
 intro W base args ds gs before hval hW _ _ hwt hL hsh _
 have hgs:gs=[]:=by
  obtain ⟨_,_,_,hV,_⟩:=hW
  exact (trodVars_none hV).1
 subst hgs
 refine row_step (P:=Tryz.prog) (fn:=Tryz.f12) (s:=Rows.topCutOffSpec) laidOut rfl (tb:=4) (by kernel_rfl) Tryz.underlying4 (by decide +kernel) (by decide +kernel) (fun ds hd=>?_) (K:=KW) (fun xs hx ha=>?_) W base args ds [] before hval hW ?_ trivial
 ·rw[Tryz.params12] at hd
  match ds,hd with
  | [d1],_=>rfl
 ·rw[Tryz.params12] at hx ha
  match xs,hx with
  | [x1],_ =>
    obtain ⟨v1,rfl⟩:=arg_proof (ha 0 x1 34 rfl rfl)
    exact law12 hKW v1
 ·have hwt':(DataW.weightsEach Tryz.prog (Tryz.f12.params.toList++[]) (ds++[])).all (·≤reachBytes)=true:=hwt
  rw[List.append_nil,List.append_nil] at hwt'
  exact fun k hk=>of_decide_eq_true (List.all_eq_true.1 hwt' k hk)
end Go.Pf
namespace Go.Proofs.YtidcmjicfnjcjaaGreat
open Go Go.Ev Go.Proofs Go.RowKit Go.Pf
theorem said12:Rows.TopCutOffSaid :=
 OpenClaim.holds_of_cond 12 Tryz.f12 rfl rfl rfl rfl rfl rfl rfl ⟨rfl,rfl,rfl,rfl,rfl⟩ rfl rfl rfl rfl rfl (by kernel_rfl) Tryz.func12 (by kernel_rfl)
  (of_decide_eq_true (by kernel_rfl)) (by unfold Func.isWrapper;first | (rw[if_pos (by decide +kernel)];kernel_rfl) | (rw[if_neg (by decide +kernel)];exact ⟨rfl,rfl⟩))
  (fun os started H enc _ F=>by rw[OpenClaim.pre_eq_preRow];exact lifted12 os started H enc F)
end Go.Proofs.YtidcmjicfnjcjaaGreat
#print axioms Go.Proofs.YtidcmjicfnjcjaaGreat.said12
