/- A region's run, from the run of the evaluator. -/
import Derived.Test.YtmjdnhobojjjaaaGreatDoorPartTwo
import Derived.Laws.CopyRow
import Derived.Laws.IdiomCopy
import Derived.Maps.RangeRun
import Derived.RangeFuncIn
import Derived.Scope
import Derived.ChangeArms
import Derived.ChangeSlices
import Derived.OpenShut
import Derived.SizedLaws
import Derived.ChangeOld
import Derived.ShutString
import Derived.Below
import Derived.Carry
import Derived.ChangeSame
import Derived.ChangeAgain
import Derived.Deep.DeepHandedRow
import Derived.Deep.DeepWitnessRowRef
import Derived.KernelRfl
import Derived.Test.YtmjdnhobojjjaaaGreatDoorProg
set_option linter.all false
namespace Go.Ev
open Go Go.RowKit
def W7 (ops:Array Oper):Option (Nat × Bool)->Option (Nat × Bool)->Bool
 | none,none=>true
 | some (t,b),some (j,c)=>b==c&&((ops[j]?).bind (·.dst))==some t
 | _,_=>false
def YW (N:Fm):Option Nat->Option Nat->Bool
 | none,none=>true
 | some d,some d'=>d==d'&&N.dst d
 | _,_=>false
def YN (P:Program) (N:Fm) (ops:Array Oper) (A:QN) (o:Oper):Bool:=YW N A.d o.dst&&W7 ops A.g o.guard&&A.op.fits P o.op
def ZU (P:Program) (N:Fm) (ops:Array Oper):List QN->List Oper->Bool
 | [],[]=>true
 | A::r,o::s=>YN P N ops A o&&ZU P N ops r s
 | _,_=>false
theorem X8 {P N ops}:∀ {az l},ZU P N ops az l=true->l.length=az.length /\
  ∀ (i:Nat) (A:QN) (o:Oper),az[i]?=some A->l[i]?=some o->YN P N ops A o=true
 | [],[],_=>by simp
 | A::r,o::s,h=>by
   simp only[ZU,Qzm] at h;obtain ⟨h1,h2⟩:=X8 h.2
   grind
 | [],_::_,h=>by simp[ZU] at h
 | _::_,[],h=>by simp[ZU] at h
structure Ctx (P:Program) (K:World->Prop) (ok0:Nat->Prop) (w0:ZR):Prop where
 hK:∀ w,QL w0.fr w0.w w->K w
 ok:∀ b,¬ w0.fr b->ok0 b
section
variable {P:Program} {K:World->Prop} {ok0:Nat->Prop} {N:Fm} {w0:ZR} {a:Act} {w:World} {L:Nat->Lay} {o:Oper} {A:QN} {σ:Fs} {v:AV} {up:Option (Nat × AO)}
theorem Vy {x y} (h:YW N x y=true):x=y/\∀ t,y=some t->N.dst t=true:=by
 unfold YW at h
 grind
theorem Qdo {ok0 lk lo} (c:Ctx P K ok0 w0) (h:Rel ok0 N w0 lk lo a w L):∀ b,w.heap.size<=b->okL ok0 lo L b:=fun b hb =>
 ⟨c.ok b (h.frlt hb),fun id ob hob hbad=>by have:=((h.objs id ob hob).lt hbad).2;omega⟩
theorem Qe7 {ids:List Nat} {xs:List AV} {ys:List IV} {us:List Value} {r:IV} {lk:Nat->AV} {lo:Nat->Option AO} (c:Ctx P K ok0 w0) (h:Rel ok0 N w0 lk lo a w L) (hp:qD lo ids xs=some ys) (hl:us.length=xs.length)
  (hx:∀ (k:Nat) (x:AV) (u:Value),xs[k]?=some x->us[k]?=some u->Qs (okL ok0 lo L) w lo L x u) (hr:ids=[]\/QI r=true) :
  ∃ ok:Nat->Prop,(∀ b,w.heap.size<=b->ok b)/\us.length=ys.length/\(∀ (k:Nat) (y:IV) (u:Value),ys[k]?=some y->us[k]?=some u->Qv ok w y u)/\(∀ w' u,Qv ok w' r u->Qv (okL ok0 lo L) w' r u):=by
 by_cases hids:ids=[]
 ·subst hids
  simp only[qD] at hp;obtain ⟨h5,h6⟩:=JQ hp hl hx;exact ⟨okL ok0 lo L,Qdo c h,h5,h6,fun _ _ h=>h⟩
 ·have hsc:QI r=true:=hr.resolve_left hids
  have hp':imms (fun i=>if ids.contains i then lo i else none) 40 xs=some ys:=by
   unfold qD at hp;split at hp
   ·exact absurd rfl hids
   ·exact hp
  obtain ⟨h5,h6⟩:=(Qcs h c.ok (lo':=fun i=>if ids.contains i then lo i else none) (fun id ob hob=>by
   split at hob
   ·exact hob
   ·cases hob) 40).2 _ _ hp'
  refine ⟨ok0,fun b hb=>c.ok b (h.frlt hb),by simp[h5,hl],fun k x u hx' hu=>?_,fun w' u hu=>XB hsc hu⟩
  have hk:k<xs.length:=by rw[<- h5];exact (Qzl.1 hx').1
  exact h6 k _ x u (Qzk hk) hx' (hx k _ u (Qzk hk) hu)
theorem Qpf {id x y e rows rows' mv} (c:Ctx P K ok0 w0) (h:Rel ok0 N w0 σ.lk σ.lo a w L) (hf:Qv0 P x y o.op=true)
  (hx:x.av σ.lk=.aref id rows.length) (hid:σ.lo id=some (XX e 1 rows mv)) (hy:y.av σ.lk=.iv (.sl 1 rows')) (hl:rows'.length=rows.length) :
  ∃ w' v0 xs' ys,L id=.arr v0 ys/\(execOp a.eval o).run P w=.ok (.value (goInt rows.length)) w'/\J1 w (okL ok0 σ.lo L) e 1 rows v0 rows' v0 xs' w':=by
 unfold Qv0 at hf;split at hf
 ·rename_i az ts ho
  split at hf
  ·rename_i p q t t2 has hts
   simp only[Qzm] at hf;obtain ⟨⟨hp,hq⟩,hty⟩:=hf;split at hty
   ·rename_i el hu
    have hsz:(P.info? el).map (·.size)=some 1:=by simpa using hty
    have hob:=h.objs _ _ hid;cases hL:L id with
    | box b=>rw[hL] at hob;exact hob.elim
    | one b=>rw[hL] at hob;exact hob.elim
    | map b vals=>rw[hL] at hob;exact hob.elim
    | ext O D=>rw[hL] at hob;exact hob.elim
    | arr v0 ys =>
      rw[hL] at hob;obtain ⟨hown,hmv,hrs,h1,hxx⟩:=hob;rw[Qzw] at hown;have rx:=Opd.rep h hp;rw[hx] at rx;have hvp:=UC hid hL rx;have ry:=Opd.rep h hq;rw[hy] at ry;have ry:=Xu ry
      have hexec:∀ r w',(Builtin.copy_ #[t,t2] o.type #[a.eval p,a.eval q]).run P w=.ok r w'->(execOp a.eval o).run P w=.ok (.value r) w':=fun r w' hr=>by
       have has':az=#[p,q]:=by rw[<- Array.toArray_toList (xs:=az),has]
       have hts':ts=#[t,t2]:=by rw[<- Array.toArray_toList (xs:=ts),hts]
       subst has' hts';simp[execOp,ho,resolve,invoke,builtin,hr,Result.andThen]
      have keepw:∀ xs',rows=[]->rows'=[]->xs'=ys->J1 w (okL ok0 σ.lo L) e 1 rows v0 rows' v0 xs' w:=fun xs' e1 e2 e3=>by
       subst e1 e2 e3;exact ⟨QL.refl _ _,hown.own,fun b hb=>.inl hb,by simp,h1,by simp,Qzq _,fun _=>rfl⟩
      by_cases hz:rows.length=0
      ·have e1:rows=[]:=Qzy hz
       have e2:rows'=[]:=Qzy (by omega)
       refine ⟨w,v0,ys,ys,rfl,?_,keepw ys e1 e2 rfl⟩
       obtain ⟨d,dl,dc,hv,hdl⟩:∃ d dl dc,v0=.slice d dl dc/\dl=0:=by
        rcases hown.own.2 with ⟨hv,_⟩ | ⟨g,cap,cur,hv,_⟩
        all_goals grind
       obtain ⟨s,sl,sc,hs⟩:∃ s sl sc,a.eval q=.slice s sl sc:=by
        generalize a.eval q=u at ry;cases ry<;>exact ⟨_,_,_,rfl⟩
       have:=run_copy_none (P:=P) w t t2 o.type el d s dl dc sl sc hu hsz (by rw[hdl];exact Nat.min_zero _)
       rw[hz];exact hexec _ _ (by rw[hvp,hv,hs];exact this)
      ·rcases hown.own.2 with ⟨_,h00⟩ | ⟨g,cap,cur,hv,_,hg,hnc,hcm,hcs,htake⟩
       ·exact absurd h00 hz
       ·have hgb:v0.ownBlock=some g:=by rw[hv];rfl
        cases hq2:a.eval q with
        | slice sa sn sc =>
          rw[hq2] at ry;cases ry with
          | nils=>simp at hl;omega
          | nilz=>simp at hl;omega
          | sl _ _ b off _ u hlc hcc hs hu2 hx2 =>
            simp only[QAp] at hu2 hx2 hown htake hcs
            let cs:List Value:=(List.range rows'.length).map u
            have hcl:cs.length=rows'.length:=by simp[cs]
            have hcget:∀ j v,cs[j]?=some v->j<rows'.length/\v=u j:=fun j v hj=>by
             grind
            have hrun:=run_copy_row (P:=P) w t t2 o.type el g 0 rows.length cap ⟨b,off,none⟩ rows'.length sc cur e cs hu hsz hg (by rw[hcl,hl];exact (Nat.min_self _).symm) (fun j v hj=>by
             obtain ⟨h1',rfl⟩:=hcget j v hj;rw[QM];exact (hu2 j h1').2.1) (by rw[hcl,hcs];omega) (fun v hv'=>by
             grind)
            simp only[hcl,hl] at hrun;refine ⟨_,v0,cs,ys,rfl,hexec _ _ (by rw[hvp,hv,hq2,hl];exact hrun),?_⟩
            have hset:=setRow_heap w g cur (cur.toList.take 0++cs++cur.toList.drop (0+rows.length)).toArray e (0,0) hg;refine ⟨⟨rfl,rfl,rfl,by simp[World.setRow],fun k hk=>setRow_other w g k _ (fun e=>hk.2 (by rw[hgb,e]))⟩,⟨by rw[hcl,QAp],.inr ⟨g,cap,_,by rw[hv,hl],QAu _,hset,by omega,hcm,?_,?_⟩⟩,fun b hb=>.inl hb,hs,fun v hv'=>?_,fun i j c z v hi hj hv'=>?_,by omega,fun _=>rfl⟩
            ·simp[hcl];omega
            ·simp[hcl]
            ·grind
            ·have hil:i<rows'.length:=(Qzl.1 hi).1
             have hj0:j=0:=by
              grind
             subst hj0;rw[QAp,QAe] at hv';obtain ⟨_,rfl⟩:=hcget i v hv';have hr:=hx2 i 0 c z hi hj;rw[QAe] at hr;refine hr.mono fun b' hb' hlt=>?_
             have hne:b'≠g:=fun e=>hb'.2 id _ hid (by rw[hL,e];exact hgb)
             exact ⟨⟨.inl hb',by rw[hgb];exact fun e=>hne (by injection e with e;exact e.symm)⟩,setRow_other w g b' _ hne⟩
        | _=>rw[hq2] at ry;cases ry
   ·cases hty
  ·cases hf
 ·cases hf
theorem Qfo {C:Act->World->Prop} {Q:Exit->Act->World->Prop} (c:Ctx P K ok0 w0) (h:Rel ok0 N w0 σ.lk σ.lo a w L) (hd:YW N A.d o.dst=true) (hf:A.op.fits P o.op=true)
  (hy:Xj P K A.op σ v up) (hncb:A.op.isCb=false) (hC:∀ a' w' L',Rel ok0 N w0 (σ.app A.d v up).lk (σ.app A.d v up).lo a' w' L'->C a' w'):o.wp P a w C Q:=by
 obtain ⟨hde,hdlt⟩:=Vy hd
 have fixedV:∀ (g:FuncId) (xs:List IV) (us:List Value) (r:IV),(execOp a.eval o).run P w=.ok (.enter g us.toArray) w->Good P K g xs r ->
   (∃ ok:Nat->Prop,(∀ b,w.heap.size<=b->ok b)/\us.length=xs.length/\(∀ (k:Nat) (x:IV) (u:Value),xs[k]?=some x->us[k]?=some u->Qv ok w x u) /\
     (∀ w' u,Qv ok w' r u->Qv (okL ok0 σ.lo L) w' r u))->v=.iv r->up=none->o.wp P a w C Q:=by
  rintro g xs us r hrun hg ⟨ok,h1,h2,h3,h4⟩ hv hu
  subst hu;have hkw:K w:=c.hK _ h.below;unfold Oper.wp;rw[hrun];simp only[Oper.upon];refine (hg w ok _ hkw h1 h2 h3).mono fun e w' hew=>?_
  obtain ⟨u,rfl,hu,hb⟩:=hew;have hrel:=h.ext hb;have hput:=hrel.put o.dst hdlt (x:=.iv r) (v:=u) (.iv _ _ (h4 w' u hu));refine hC _ _ L ?_;rw[hv,hde];exact hput
 have fixed:∀ (g:FuncId) (args:List Opd) (ids:List Nat) (xs:List IV) (r:IV) (bs:List Operand),YR args bs=true->(execOp a.eval o).run P w=.ok (.enter g (bs.map a.eval).toArray) w->qD σ.lo ids (args.map (·.av σ.lk))=some xs->Good P K g xs r->(ids=[]\/QI r=true) ->
   v=.iv r->up=none->o.wp P a w C Q:=by
  intro g args ids xs r bs hall hrun hp hg hr hv hu;obtain ⟨hbl,hbx⟩:=Zl h hall;exact fixedV g xs _ r hrun hg (Qe7 c h hp (by simpa using hbl) hbx hr) hv hu
 have back:∀ (g:FuncId) (x:Opd) (args:List Opd) (id:Nat) (xs:List IV) (e:TypeId) (sz:Nat) (rows rows':List (List IV)) (v0:Value) (ys:List Value),A.op=.callr g x args id->ivs (args.map (·.av σ.lk))=some xs->Qj9 P K g e sz rows xs rows' ->
   (∀ u,Qs (okL ok0 σ.lo L) w σ.lo L (x.av σ.lk) u->u=v0)->Xm w0.fr w e sz v0 rows.length ys->(∀ b,v0.ownBlock=some b->(∃ ob,σ.lo id=some ob)/\(L id).has b)->(∀ c∈rows,c.length=sz)->(∀ u∈ys,u.oneCell'=true) ->
   (∀ (i j:Nat) (c:List IV) (x:IV) (u:Value),rows[i]?=some c->c[j]?=some x->ys[i*sz+j]?=some u->Qv (okL ok0 σ.lo L) w x u) ->
   (∀ v' xs' w',J1 w (okL ok0 σ.lo L) e sz rows v0 rows' v' xs' w'->∃ L',Rel ok0 N w0 (σ.app A.d v up).lk (σ.app A.d v up).lo (a.put o.dst v') w' L')->o.wp P a w C Q:=by
  intro g x args id xs e sz rows rows' v0 ys hop hp hg hx hown hhas hsz h1 hcx hfin;rw[hop] at hf;have hf':AOp.fits P (.call g (x::args) []) o.op=true:=hf;obtain ⟨bs,hall,hrun⟩:=JB (a:=a) (w:=w) hf'
  obtain ⟨b0,bs',rfl⟩:∃ b0 bs',bs=b0::bs':=by
   cases bs with
   | nil=>simp[YR] at hall
   | cons b0 bs'=>exact ⟨b0,bs',rfl⟩
  simp only[YR,Qzm] at hall;obtain ⟨hall0,hall⟩:=hall;obtain ⟨hbl,hbx⟩:=Zl h hall;obtain ⟨h5,h6⟩:=JQ hp (by simpa using hbl) hbx
  have hv0:=hx _ (Opd.rep h hall0)
  have hnot:∀ b,okL ok0 σ.lo L b->v0.ownBlock≠some b:=fun b hb hbad=>by
   obtain ⟨⟨ob,hob⟩,hh⟩:=hhas b hbad;exact hb.2 id ob hob hh
  unfold Oper.wp;rw[hrun];simp only[Oper.upon,QzH,hv0]
  refine (hg w (okL ok0 σ.lo L) v0 ys _ (fun w' hk=>c.hK _ (h.below.trans (hk.mono fun k hfr=>⟨QzJ (w0.lt k hfr) h.le,fun e=>hown.free k e hfr⟩))) (Qdo c h) hown.own hsz h1
   (fun i j c x u a1 a2 a3=>(hcx i j c x u a1 a2 a3).mono fun b hb _=>⟨⟨hb,hnot b hb⟩,rfl⟩) h5 (fun k x u a1 a2=>(h6 k x u a1 a2).mono fun b hb _=>⟨⟨hb,hnot b hb⟩,rfl⟩)).mono fun y w' hew=>?_
  grind
 generalize hop:A.op=op at hy;cases hy with
 | plain _ _ s f _ _ he hs =>
   rw[hop] at hf;obtain ⟨_,n,u,w',L',hrun,hn,hrel,hrep⟩:=Qe8 h c.ok hf he hs;have hput:=hrel.put o.dst hdlt hrep;unfold Oper.wp;rw[hrun];rcases hn with rfl | ⟨rfl,rfl⟩
   ·simp only[Oper.upon]
    exact hC _ _ L' (by rw[hde];exact hput)
   ·simp only[Oper.upon]
    exact hC _ _ L' (by rw[hde];exact hput)
 | callo g args id _ xs q e sz rows mv hp hg hid =>
   rw[hop] at hf;have hf':AOp.fits P (.call g args []) o.op=true:=hf;obtain ⟨bs,hall,hrun⟩:=JB (a:=a) (w:=w) hf';obtain ⟨hbl,hbx⟩:=Zl h hall;have hkw:K w:=c.hK _ h.below;obtain ⟨h5,h6⟩:=JQ hp (by simpa using hbl) hbx
   unfold Oper.wp;rw[hrun];simp only[Oper.upon];refine (hg w (okL ok0 σ.lo L) _ hkw (Qdo c h) h5 h6).mono fun x w' hew=>?_
   obtain ⟨u,l,rfl,hob,hrep,hb⟩:=hew
   have hokk:∀ b,okL (okL ok0 σ.lo L) (one (XX e sz rows mv)) (fun _=>l) b->okL ok0 (QK σ.lo id (XX e sz rows mv)) (QF L id l) b:=by
    intro b hb;refine ⟨hb.1.1,fun i oi hi=>?_⟩
    by_cases hii:i=id
    ·subst hii
     simp only[QF,if_true];exact hb.2 0 (XX e sz rows mv) (by simp[one])
    grind
   have hrel:=h.new id hid (XX e sz rows mv) l hb (fun b hbb=>QAA.1 (hob.lt hbb).1) (Qkv (fun b hb=>h.frlt (QAA.1 hb)) hokk hob)
   have hput:=hrel.put o.dst hdlt (x:=ren id q) (v:=u) (Qhr hokk (i:=0) (ob:=XX e sz rows mv) (by simp[one]) (by simp[QK]) (by simp[QF]) hrep)
   refine hC _ _ (QF L id l) ?_;rw[hde];exact hput
 | call g args ids _ xs r hp hg hr =>
   rw[hop] at hf;obtain ⟨bs,hall,hrun⟩:=JB (a:=a) (w:=w) hf;exact fixed g args ids xs r bs hall hrun hp hg hr rfl rfl
 | calld x g args ids _ xs r hx hc hp hg hr =>
   rw[hop] at hf;obtain ⟨bs,hall,hrun⟩:=Qjf h hf hx hc;exact fixed g args ids xs r bs hall hrun hp hg hr rfl rfl
 | caldc x g fs cs args ids _ xs r hc hp hg hr =>
   rw[hop] at hf;obtain ⟨m,az,ts,ho,hxm,hall⟩:=J0 hf;obtain ⟨hbl,hbx⟩:=Zl h hall
   obtain ⟨ok,h1,h2,h3,h4⟩:=Qe7 (us:=a.eval (.tmp m)::az.toList.map a.eval) c h hp (by simp[hbl]) (fun k z u hz hu=>by
    cases k with
    | zero =>
      simp at hz hu;subst hz hu;exact Opd.rep h (x:=x) (y:=.tmp m) hxm
    | succ k=>exact hbx k z u (by simpa using hz) (by simpa using hu)) hr
   have hclo:=h3 0 _ _ rfl rfl;generalize hev:a.eval (.tmp m)=xv at hclo;cases hclo with
   | clo _ _ _ us vs l1 l2 hfx hcx =>
     refine fixedV g (fs++xs++cs) (us++az.toList.map a.eval++vs) r (qk ho hev (.clo g us vs _ w hc)) hg ⟨ok,h1,?_,fun k z u hz hu=>?_,h4⟩ rfl rfl
     ·grind
     ·simp only[Qzv,Nat.add_right_cancel_iff] at h2
      by_cases k1:k<fs.length
      ·grind
      ·rw[QzC,Qzz (by omega)] at hz
       rw[QzC,Qzz (by omega),l1] at hu
       by_cases k2:k-fs.length<xs.length
       ·rw[QzA k2] at hz
        rw[QzA (by rw[h2];exact k2)] at hu
        exact h3 (k-fs.length+1) z u (by simpa using hz) (by simpa using hu)
       grind
 | cpy id x y _ e rows rows' mv hx hid hy hl =>
   rw[hop] at hf;obtain ⟨w',v0,xs',ys,hL,hrun,hrb⟩:=Qpf c h hf hx hid hy hl;obtain ⟨h5,h6⟩:=QfN h c.ok hid hL hrb;unfold Oper.wp;rw[hrun];simp only[Oper.upon];refine hC _ _ (QF L id (.arr v0 xs')) ?_;have:=h5.put o.dst hdlt (x:=.iv (.int .i64 rows.length)) (v:=goInt rows.length) (.iv _ _ (.int .i64 rows.length));rw[hde];exact this
 | callb=>rw[hop] at hncb;cases hncb
 | callx=>rw[hop] at hncb;cases hncb
 | callz=>rw[hop] at hncb;cases hncb
 | callr g x args id _ xs e sz rows rows' mv hx hid hp hg =>
   have hob:=h.objs _ _ hid;cases hL:L id with
   | box b=>rw[hL] at hob;exact hob.elim
   | one b=>rw[hL] at hob;exact hob.elim
   | map b vals=>rw[hL] at hob;exact hob.elim
   | ext O D=>rw[hL] at hob;exact hob.elim
   | arr v0 ys =>
     rw[hL] at hob;obtain ⟨hown,hmv,hsz,h1,hxx⟩:=hob;rw[Qzw] at hown hmv;refine back g x args id xs e sz rows rows' v0 ys hop hp hg (fun u hu=>?_) hown (fun b hb=>⟨⟨_,hid⟩,by rw[hL];exact hb⟩) (fun c hc=>?_) h1 (fun i j c x u a1 a2 a3=>?_) (fun v' xs' w' hrb=>?_)
     ·rw[hx] at hu
      exact UC hid hL hu
     ·have:=hsz (c.map AV.iv) (QzI.2 ⟨c,hc,rfl⟩)
      simpa using this
     ·exact Xu (hxx i j (c.map AV.iv) (.iv x) u (by simp[a1]) (by simp[a2]) a3)
     ·obtain ⟨h5,h6⟩:=QfN h c.ok hid hL hrb
      refine ⟨QF L id (.arr v' xs'),?_⟩;rw[<- hde];exact h5.put A.d (by rw[hde];exact hdlt) h6
 | callm g x args id _ xs e sz kvs k n rows' hx hn hid hp hg =>
   have hob:=h.objs _ _ hid;cases hL:L id with
   | box b=>rw[hL] at hob;exact hob.elim
   | one b=>rw[hL] at hob;exact hob.elim
   | arr v ys=>rw[hL] at hob;exact hob.elim
   | ext O D=>rw[hL] at hob;exact hob.elim
   | map b vals =>
     obtain ⟨ys,g1,g2,g3,g4,g5,g6⟩:=Qdt h hid hL k;refine back g x args id xs e sz _ rows' _ ys hop hp hg (fun u hu=>?_) g1 (fun b hb=>⟨⟨_,hid⟩,(g6 b hb).1⟩) g3 g4 g5 (fun v' xs' w' hrb=>?_)
     ·grind
     ·obtain ⟨h5,h6⟩:=QfM h c.ok hid hL hrb
      refine ⟨QF L id (.map b (mins k v' vals)),?_⟩;rw[<- hde];exact h5.put A.d (by rw[hde];exact hdlt) (h6 _)
theorem VK {ops t j b} (h:Rel ok0 N w0 σ.lk σ.lo a w L) (ht:σ.lk t=.iv (.bool b)) (hj:((ops[j]?).bind (·.dst))=some t):yielded ops a.tmps j=some b:=by
 have r:=h.env t;rw[ht] at r;have hv:=Ya r;unfold yielded;rw[hj];simp only[Option.bind_some];cases hg:a.tmps[t]? with
 | none=>simp[QzY,hg,undef] at hv
 | some u=>simp[QzY,hg] at hv;subst hv;rfl
theorem WE {ok w}:Qv ok w (.tup []) undef:=.tup [] [] rfl (fun _ _ _ h=>by simp at h)
theorem QnT {ok lo u} (r:Qs ok w lo L (.iv (.tup [])) u):u=undef:=by
 cases r with
 | iv _ _ h =>
   cases h with
   | tup _ vs hl _ =>
     have:vs=[]:=by simpa using hl
     subst this;rfl
theorem QbD {ops t j} (h:Rel ok0 N w0 σ.lk σ.lo a w L) (ht:σ.lk t=.iv (.tup [])) (hj:((ops[j]?).bind (·.dst))=some t):yielded ops a.tmps j=none:=by
 have r:=h.env t;rw[ht] at r;have hv:=QnT r;unfold yielded;rw[hj];simp only[Option.bind_some];cases hg:a.tmps[t]? with
 | none=>rfl
 | some u=>simp[QzY,hg] at hv;subst hv;rfl
theorem V7 (op:AOp) (c:Call):op.fits P (.defer c)=false:=by
 cases op with
 | yy op=>cases op<;>rfl
 | _=>rfl
theorem Ctx.le {w1} (c:Ctx P K ok0 w0) (h:w0.le w1):Ctx P K ok0 w1 :=
 ⟨fun w hw=>c.hK w (h.keeps hw),fun b hb=>c.ok b (fun hf=>hb (h.fr b hf))⟩
theorem QcP {id s O D xs vs lk lo} (c:Ctx P K ok0 w0) (h:Rel ok0 N w0 lk lo a w L) (hid:lo id=some (.ext s)) (hL:L id=.ext O D)
  (hl:vs.length=xs.length) (hx:∀ (k:Nat) (x:IV) (u:Value),xs[k]?=some x->vs[k]?=some u->Qv (okL ok0 lo L) w x u):QeQ K (okC (okL ok0 lo L) D w) O D w s xs vs:=by
 have hob:=h.objs id _ hid;rw[hL] at hob;obtain ⟨hO,hD,hJ⟩:=hob;refine ⟨fun w' hk=>c.hK _ (h.below.trans (hk.mono fun b hb=>⟨h.frl b hb,fun ho=>(hO b ho).1 hb⟩)),hJ,fun b hb=>(hO b hb).2.2,fun b hb=>?_,fun b hb=>.inr (.inl hb),fun b hb=>.inr (.inr hb),fun b hb=>.inl (hO b hb).2.2,hl,fun k x u h1 h2=>(hx k x u h1 h2).plain.mono fun b hb _=>⟨⟨.inr (.inl hb),fun ho=>hb.1.2 id _ hid (by rw[hL];exact ho)⟩,rfl⟩⟩
 rcases hD b hb with h1 | ⟨h1,_⟩
 ·exact (hO b h1).2.1
 ·exact h.frl b h1
theorem Qba {ops:Array Oper} {i:Nat} {C:Act->World->Prop} (c:Ctx P K ok0 w0) (h:Rel ok0 N w0 σ.lk σ.lo a w L) (ho:ops[i]?=some o) (hw:Region.wanted o (yielded ops a.tmps)=true) (hd:YW N A.d o.dst=true) (hf:A.op.fits P o.op=true)
  (hy:Xj P K A.op σ v up) (hC:∀ w1 a' w' L',w0.le w1->Rel ok0 N w1 (σ.app A.d v up).lk (σ.app A.d v up).lo a' w' L'->C a' w'):VH P ops i C a w:=by
 have hnd:∀ c,o.op≠.defer c:=fun c e=>by rw[e,V7] at hf;cases hf
 cases hcb:A.op.isCb with
 | false=>exact YH ho hw hnd (Qfo c h hd hf hy hcb (fun a' w' L' hr=>hC w0 a' w' L' (ZR.le.refl w0) hr))
 | true =>
   obtain ⟨hde,hdlt⟩:=Vy hd;generalize hop:A.op=op at hy hcb hf
   have fin:∀ (id:Nat) (s s':Ext) (y:IV) (O D:Nat->Prop) (u:Value) (w':World),σ.lo id=some (.ext s)->L id=.ext O D->s'.v=s.v->QI y=true->v=.iv y->up=some (id,.ext s') ->
     (∃ O' D',VI (okC (okL ok0 σ.lo L) D w) O w s' y O' D' u w')->C (a.put o.dst u) w':=by
    rintro id s s' y O D u w' hid hL hv hsy rfl rfl ⟨O',D',hp⟩
    obtain ⟨w1,hle,hrel⟩:=Qpl c.ok h hid hL hv hp;refine hC w1 _ w' (QF L id (.ext O' D')) hle ?_;have:=hrel.put o.dst hdlt (x:=.iv y) (v:=u) (.iv _ _ (XB hsy hp.rep));rw[hde];exact this
   cases hy with
   | callb x args id _ xs s s' y hid hp hg hsc =>
     obtain ⟨m,az,ts,hoo,hxm,hall⟩:=J0 (P:=P) (ids:=[]) hf;obtain ⟨hbl,hbx⟩:=Zl h hall;obtain ⟨h5,h6⟩:=JQ hp (by simpa using hbl) hbx
     have hob:=h.objs id _ hid;cases hL:L id with
     | ext O D =>
       have rx:=Opd.rep h (x:=x) (y:=.tmp m) hxm;have go:∀ {f},a.eval (.tmp m)=f->Ans P f _ w (fun v w'=>∃ O' D',VI (okC (okL ok0 σ.lo L) D w) O w s' y O' D' v w')->_:=fun hsv ha=>QfW ho hw hoo hsv ha (fun u w' hR=>fin id s s' y O D u w' hid hL hg.v hsc rfl rfl hR)
       rcases hg with ⟨hx,hg⟩ | ⟨hx,hg⟩ | ⟨g,fs,cs,hx,hcal,hg⟩
       ·rw[hx] at rx
        obtain ⟨_,hsv⟩:=Qe3 hid (by simp[AV.refs]) rx
        exact go hsv (hg.2 _ O D w _ (QcP c h hid hL h5 h6))
       ·rw[hx] at rx
        generalize hu:a.eval (.tmp m)=u0 at rx;cases rx with
        | iv _ _ rx =>
          cases rx;exact go hu (hg.2 _ O D w _ (QcP c h hid hL h5 h6))
       ·rw[hx] at rx
        generalize hu:a.eval (.tmp m)=u0 at rx;cases rx with
        | iv _ _ rx =>
          cases rx with
          | clo _ _ _ us vs g1 g2 g3 g4 =>
            refine go hu (Ans.of_calls hcal ((hg.2 _ O D w _ (QcP c h hid hL (vs:=us++az.toList.map a.eval++vs) (by simp only[Qzp,g1,g2,h5]) (fun k z u hz hu=>?_))).mono ?_))
            ·by_cases k1:k<fs.length
             ·exact g3 k z u (by rwa [QzC,QzA k1] at hz) (by rwa [QzC,QzA (by omega)] at hu)
             ·rw[QzC,Qzz (by omega)] at hz
              rw[QzC,Qzz (by omega),g1] at hu
              by_cases k2:k-fs.length<xs.length
              ·rw[QzA k2] at hz
               rw[QzA (by rw[h5];exact k2)] at hu
               exact h6 _ z u hz hu
              ·rw[Qzz (by omega)] at hz
               rw[Qzz (by rw[h5];omega),h5] at hu
               exact g4 _ z u hz hu
            ·rintro e w' ⟨v,rfl,hp'⟩
             exact ⟨v,rfl,hp'⟩
     | _=>rw[hL] at hob;exact hob.elim
   | callz g args id _ xs s s' y hid hp hg hsc =>
     have hf':AOp.fits P (.call g args []) o.op=true:=hf;obtain ⟨bs,hall,hrun⟩:=JB (a:=a) (w:=w) hf';obtain ⟨hbl,hbx⟩:=Zl h hall;obtain ⟨h5,h6⟩:=JQ hp (by simpa using hbl) hbx
     have hob:=h.objs id _ hid;cases hL:L id with
     | ext O D =>
       refine YH ho hw hnd ?_;unfold Oper.wp;rw[hrun];simp only[Oper.upon];refine (hg.2 _ O D w _ (QcP c h hid hL h5 h6)).mono fun e w' hew=>?_
       obtain ⟨u,rfl,hpost⟩:=hew;exact fin id s s' y O D u w' hid hL hg.1 hsc rfl rfl hpost
     | _=>rw[hL] at hob;exact hob.elim
   | callx g args x id _ xs s s' y hx hid hp hg hsc =>
     have hf':AOp.fits P (.call g (args++[x]) []) o.op=true:=hf;obtain ⟨bs,hall,hrun⟩:=JB (a:=a) (w:=w) hf';obtain ⟨hbl,hbx⟩:=Zl h hall;have hbl':(bs.map a.eval).length=args.length+1:=by simp[hbl]
     obtain ⟨vs,u0,hvs⟩:∃ vs u0,bs.map a.eval=vs++[u0]:=by
      refine ⟨(bs.map a.eval).dropLast,(bs.map a.eval).getLast (fun e=>by rw[e] at hbl';simp at hbl'),?_⟩
      exact (List.dropLast_concat_getLast _).symm
     have hvl:vs.length=args.length:=by
      grind
     rw[hvs] at hbx;obtain ⟨h5,h6⟩:=JQ (vs:=vs) hp (by simpa using hvl) (fun k z u h1 h2=>hbx k z u (by grind) (by rw[QzA (Qzl.1 h2).1];exact h2))
     have hob:=h.objs id _ hid;cases hL:L id with
     | ext O D =>
       have rx:Qs (okL ok0 σ.lo L) w σ.lo L (.cb id) u0:=by
        have:=hbx args.length (x.av σ.lk) u0 (by simp) (by rw[Qzz (by omega)];simp[hvl])
        rwa [hx] at this
       obtain ⟨_,rfl⟩:=Qe3 hid (by simp[AV.refs]) rx
       refine YH ho hw hnd ?_;unfold Oper.wp;rw[hrun,hvs];simp only[Oper.upon];refine (hg.2 _ O D w vs [] (by rw[QAx,QAx];exact QcP c h hid hL h5 h6) h5).mono fun e w' hew=>?_
       obtain ⟨u,rfl,hpost⟩:=hew;exact fin id s s' y O D u w' hid hL hg.1 hsc rfl rfl hpost
     | _=>rw[hL] at hob;exact hob.elim
   | plain _ _ s f _ _ he hs=>cases op<;>first | (cases hcb;done) | (cases he;done)
   | _=>cases hcb
theorem QgS {ops i C} (c:Ctx P K ok0 w0) (h:Rel ok0 N w0 σ.lk σ.lo a w L) (ho:ops[i]?=some o) (hf:YN P N ops A o=true)
  (hy:Yields P K A σ v up) (hC:∀ w1 a' w' L',w0.le w1->Rel ok0 N w1 (σ.app A.d v up).lk (σ.app A.d v up).lo a' w' L'->C a' w'):VH P ops i C a w:=by
 simp only[YN,Qzm] at hf;obtain ⟨⟨hd,hg⟩,hop⟩:=hf;unfold Yields at hy;unfold W7 at hg;split at hy
 ·rename_i hag
  rw[hag] at hg;split at hg
  ·rename_i hog
   exact Qba c h ho (by simp[Region.wanted,hog]) hd hop hy hC
  ·rename_i heq _;cases heq
  ·cases hg
 ·rename_i t b hag
  rw[hag] at hg;split at hg
  ·rename_i heq _;cases heq
  ·rename_i t' b' j b'' heq hog
   injection heq with heq
   injection heq with e1 e2
   subst e1 e2;simp only[Qzm,beq_iff_eq] at hg;obtain ⟨rfl,hj⟩:=hg;rcases hy with ⟨ht,hgv⟩ | ⟨ht,rfl,rfl⟩
   ·have hyd:=VK h ht hj
    exact Qba c h ho (by simp[Region.wanted,hog,hyd]) hd hop hgv hC
   ·have hwf:Region.wanted o (yielded ops a.tmps)=false:=by
     rcases ht with ht | ht
     ·have hyd:=VK h ht hj
      simp[Region.wanted,hog,hyd]
     ·have hyd:=QbD h ht hj
      simp[Region.wanted,hog,hyd]
    obtain ⟨hde,hdlt⟩:=Vy hd;refine QfU ho hwf (hC w0 _ _ L (ZR.le.refl w0) ?_);have:=h.put o.dst hdlt (x:=.iv (.tup [])) (v:=undef) (.iv _ _ WE);rw[<- hde] at this;rw[<- hde];exact this
  ·cases hg
theorem QdF {x:Opd} {v:Value} {ok:Nat->Prop} {lo:Nat->Option AO} {lk:Nat->AV} {g:FuncId} {fs cs:List AV} (hc:callee P g=true) (hx:Qjb (x.av lk)=some (g,fs,cs)) (hr:Qs ok w lo L (x.av lk) v) :
  ∃ us vs:List Value,(∀ args:List Value,Enters P v args w (.enter g (us++args++vs).toArray))/\us.length=fs.length/\vs.length=cs.length/\(∀ (k:Nat) (y:AV) (u:Value),fs[k]?=some y->us[k]?=some u->Qs ok w lo L y u) /\
   (∀ (k:Nat) (y:AV) (u:Value),cs[k]?=some y->vs[k]?=some u->Qs ok w lo L y u):=by
 generalize x.av lk=xv at hx hr;unfold Qjb at hx;split at hx
 ·injection hx with hx
  injection hx with e1 e2
  injection e2 with e2 e3
  subst e1 e2 e3;cases hr with
  | iv _ _ r =>
    cases r with
    | fn=>exact ⟨[],[],fun args=>.clo _ [] [] _ w hc,rfl,rfl,by simp,by simp⟩
 ·injection hx with hx
  injection hx with e1 e2
  injection e2 with e2 e3
  subst e1 e2 e3;cases hr with
  | iv _ _ r =>
    cases r with
    | clo _ _ _ us vs l1 l2 hf hcx =>
      refine ⟨us,vs,fun args=>.clo _ us vs _ w hc,by simp[l1],by simp[l2],fun k y u hy hu=>?_,fun k y u hy hu=>?_⟩
      all_goals grind
 ·injection hx with hx
  injection hx with e1 e2
  injection e2 with e2 e3
  subst e1 e2 e3;cases hr with
  | clo _ _ _ us vs l1 l2 hf hcx=>exact ⟨us,vs,fun args=>.clo _ us vs _ w hc,l1,l2,hf,hcx⟩
 ·cases hx
theorem Qct {C:Act->World->Prop} {Q:Exit->Act->World->Prop} {σ':Fs} (c:Ctx P K ok0 w0) (h:Rel ok0 N w0 σ.lk σ.lo a w L) (hd:YW N A.d o.dst=true) (hf:A.op.fits P o.op=true)
  (hy:JJ P K A.d σ A.op σ') (hC:∀ a' w' L',Rel ok0 N w0 σ'.lk σ'.lo a' w' L'->C a' w'):o.wp P a w C Q:=by
 obtain ⟨hde,hdlt⟩:=Vy hd;generalize hop:A.op=op at hy;cases hy with
 | callh g args ids keep y' lo' args0 lo0 st y lo1 dom hh =>
   rw[hop] at hf;have hf':AOp.fits P (.call g args []) o.op=true:=hf;obtain ⟨bs,hall,hrun⟩:=JB (a:=a) (w:=w) hf';obtain ⟨hbl,hbx⟩:=Zl h hall;unfold Oper.wp;rw[hrun];simp only[Oper.upon];refine (Qfm c.hK c.ok h hh (by simpa using hbl) hbx).mono fun x w' hew=>?_
   obtain ⟨u,L',rfl,hrel,hrep⟩:=hew;have hput:=hrel.put o.dst hdlt (x:=y') (v:=u) hrep;refine hC _ _ L' ?_;rw[hde];exact hput
 | caldh x g fs cs args ids keep y' lo' args0 lo0 st y lo1 dom hx hc hh =>
   rw[hop] at hf;obtain ⟨m,az,ts,ho,hxm,hall⟩:=J0 (P:=P) (ids:=[]) (x:=x) (args:=args) hf;obtain ⟨hbl,hbx⟩:=Zl h hall;obtain ⟨us,vs,hent,l1,l2,hfx,hcx⟩:=QdF hc hx (Opd.rep h (x:=x) (y:=.tmp m) hxm);have hrun:=qk (a:=a) ho rfl (hent (az.toList.map a.eval));unfold Oper.wp;rw[hrun];simp only[Oper.upon];refine (Qfm (vs:=us++az.toList.map a.eval++vs) c.hK c.ok h hh (by simp[l1,l2,hbl]) (fun k z u hz hu=>?_)).mono fun x w' hew=>?_
   ·grind
   ·obtain ⟨u,L',rfl,hrel,hrep⟩:=hew
    have hput:=hrel.put o.dst hdlt (x:=y') (v:=u) hrep;refine hC _ _ L' ?_;rw[hde];exact hput
theorem Qfb {ops:Array Oper} {i:Nat} {σ':Fs} {C:Act->World->Prop} (c:Ctx P K ok0 w0) (h:Rel ok0 N w0 σ.lk σ.lo a w L) (ho:ops[i]?=some o) (hf:YN P N ops A o=true)
  (hy:Jq P K A σ σ') (hC:∀ w1 a' w' L',w0.le w1->Rel ok0 N w1 σ'.lk σ'.lo a' w' L'->C a' w'):VH P ops i C a w:=by
 cases hy with
 | app v up hy=>exact QgS c h ho hf hy hC
 | h _ hag hh =>
   simp only[YN,Qzm] at hf;obtain ⟨⟨hd,hg⟩,hop⟩:=hf;have fin:Region.wanted o (yielded ops a.tmps)=true->VH P ops i C a w:=fun hw=>YH ho hw (fun c e=>by rw[e,V7] at hop;cases hop) (Qct c h hd hop hh (fun a' w' L' hr=>hC w0 a' w' L' (ZR.le.refl w0) hr))
   unfold W7 at hg;rcases hag with hag | ⟨t,b,hag,ht⟩
   ·rw[hag] at hg
    split at hg
    ·rename_i hog
     exact fin (by simp[Region.wanted,hog])
    ·rename_i heq _;cases heq
    ·cases hg
   ·rw[hag] at hg
    split at hg
    ·rename_i heq _;cases heq
    ·rename_i t' b' j b'' heq hog
     injection heq with heq
     injection heq with e1 e2
     subst e1 e2;simp only[Qzm,beq_iff_eq] at hg;obtain ⟨rfl,hj⟩:=hg;have hyd:=VK h ht hj;exact fin (by simp[Region.wanted,hog,hyd])
    ·cases hg
theorem V4 {ops:Array Oper} {az:List QN} {Q:Fs->Prop} {Q':Act->World->Prop} (c:Ctx P K ok0 w0) (hfit:ZU P N ops az ops.toList=true)
  (hQ:∀ σ a w w1 L,w0.le w1->Rel ok0 N w1 σ.lk σ.lo a w L->Q σ->Q' a w):∀ (fuel:Nat) (listed:Array Bool) (σ:Fs) (a:Act) (w:World) (w1:ZR) (L:Nat->Lay),w0.le w1->Rel ok0 N w1 σ.lk σ.lo a w L ->
    QbG P K .any ops az Q fuel listed σ->Qk2 P .any ops Q' fuel listed a w
 | 0,_,_,_,_,_,_,hl,hr,h=>⟨h.1,hQ _ _ _ _ _ hl hr h.2⟩
 | fuel+1,listed,σ,a,w,w1,L,hl,hr,h=>by
   refine ⟨fun h0=>hQ _ _ _ _ _ hl hr (h.1 h0),fun i hi=>?_⟩
   have h2:=h.2 i hi;obtain ⟨hlen,hget⟩:=X8 hfit;cases ho:ops[i]? with
   | none =>
     have hA:az[i]?=none:=by
      grind
     simp only[qx,hA] at h2;exact QfV ho (V4 c hfit hQ fuel _ σ a w w1 L hl hr h2)
   | some o =>
     have hlt:i<az.length:=by
      have:=(Qzs.1 ho).1;simp at hlen;omega
     have hA:az[i]?=some az[i]:=Qzk hlt;simp only[qx,hA] at h2;obtain ⟨σ1,hy,hc⟩:=h2;exact Qfb (c.le hl) hr ho (hget i _ o hA (by simpa using ho)) hy (fun w2 a' w' L' hl' hr'=>V4 c hfit hQ fuel _ _ a' w' w2 L' (hl.trans hl') hr' hc)
theorem Vt {ops:Array Oper} {az:List QN} {Q':Act->World->Prop} {σ':Fs} (c:Ctx P K ok0 w0) (hfit:ZU P N ops az ops.toList=true)
  (hQ:∀ a w w1 L,w0.le w1->Rel ok0 N w1 σ'.lk σ'.lo a w L->Q' a w):∀ (l:List QN) (k:Nat) (σ:Fs) (a:Act) (w:World) (w1:ZR) (L:Nat->Lay),(∀ j,l[j]?=az[k+j]?)->w0.le w1->Rel ok0 N w1 σ.lk σ.lo a w L ->
    Qkf P K l σ σ'->UL P ops Q' (List.range' k l.length) a w
 | [],_,σ,a,w,w1,L,_,hle,hr,hp=>by
   cases hp;simp only[QzE,List.range'_zero,UL];exact hQ _ _ _ _ hle hr
 | A::l,k,σ,a,w,w1,L,hl,hle,hr,hp=>by
   obtain ⟨hlen,hget⟩:=X8 hfit;cases hp with
   | cons _ _ _ σ1 _ hy hp =>
     have hA:az[k]?=some A:=by simpa using (hl 0).symm
     have hlt:k<ops.toList.length:=by rw[hlen];exact (Qzl.1 hA).1
     have ho:ops[k]?=some (ops.toList[k]):=by
      have:=Qzk hlt;simpa using this
     simp only[Qzv,List.range'_succ,UL]
     exact Qfb (c.le hle) hr ho (hget k A _ hA (Qzk hlt)) hy
      (fun w2 a' w' L' hl' hr'=>Vt c hfit hQ l (k+1) _ a' w' w2 L' (fun j=>by have:=hl (j+1);simpa[Qz6,Nat.add_comm 1 j] using this) (hle.trans hl') hr' hp)
def Ju (P:Program) (N:Fm) (az:List QN) (ops:Array Oper) (draw:Bool):Bool :=
 ZU P N ops az ops.toList&&(!draw||(P.follows .mixedOrders&&Qmc 0 ops.toList&&Qdn ops az))
theorem Qb4 {ops:Array Oper} {az:List QN} {id:Nat} {draw:Bool} {σ σ':Fs} (c:Ctx P K ok0 w0) (hfit:Ju P N az ops draw=true)
  (hr:Rel ok0 N w0 σ.lk σ.lo a w L) (hp:Qkf P K az σ σ') (b:Frame) (k:List Item) (cs:List Frame) :
  ∃ a' w',(∃ w1 L',w0.le w1/\Rel ok0 N w1 σ'.lk σ'.lo a' w' L')/\Steps P (lone (b.atR a (.code (.region id ops draw)::k)) cs w) (lone (b.atR a' k) cs w'):=by
 simp only[Ju,Qzm] at hfit;obtain ⟨hfit,hdraw⟩:=hfit;obtain ⟨hlen,_⟩:=X8 hfit;have hlen':ops.size=az.length:=by simpa using hlen
 cases draw with
 | false =>
   refine Qb5 (Q:=fun a' w'=>∃ w1 L',w0.le w1/\Rel ok0 N w1 σ'.lk σ'.lo a' w' L') ?_ b k cs
   have:=Vt (Q':=fun a' w'=>∃ w1 L',w0.le w1/\Rel ok0 N w1 σ'.lk σ'.lo a' w' L') c hfit (fun a w w1 L hl hr=>⟨w1,L,hl,hr⟩) az 0 σ a w w0 L (by simp) (ZR.le.refl w0) hr hp
   rw[hlen',List.range_eq_range'];exact this
 | true =>
   simp only[Bool.not_true,Bool.false_or,Qzm] at hdraw;obtain ⟨⟨hm,hB⟩,hpairs⟩:=hdraw;have hB:=fun k o ho=>Qau ops.toList 0 hB k o (by simpa using ho)
   simp only[Qzx] at hB;refine QaT (Q:=fun a' w'=>∃ w1 L',w0.le w1/\Rel ok0 N w1 σ'.lk σ'.lo a' w' L') hm ?_ b k cs
   have hr':Rel ok0 N w0 σ.lk σ.lo a { w with drawn:=w.drawn+1 } L:=hr.ext ⟨rfl,rfl,rfl,Qzq _,fun _ _=>rfl⟩
   refine V4 (Q:=fun σ=>σ=σ') c hfit (fun τ a' w' w1 L' hl h1 h2=>by subst h2;exact ⟨w1,L',hl,h1⟩) _ _ σ a _ w0 L (ZR.le.refl w0) hr' ?_
   have:=qM (P:=P) (K:=K) (Q:=fun σ=>σ=σ') hlen' hpairs hB az 0 (Array.replicate ops.size false) σ σ' (by simp) (by simp) (fun j _ hj=>by simp[hj]) (by simp) (Qpj _) hp rfl
   rw[<- hlen'] at this;exact this
end
abbrev Env:=List (Nat × AV)
abbrev Qk:=List (Nat × AO)
def look:Env->Nat->AV
 | [],_=>.iv .any
 | (k,v)::r,t=>if t=k then v else look r t
def Qc:Qk->Nat->Option AO
 | [],_=>none
 | (k,o)::r,i=>if i=k then some o else Qc r i
def bnd (d:Option Nat) (v:AV) (e:Env):Env :=
 match d with
 | none=>e
 | some d=>(d,v)::e
def UY (t:Nat) (v:AV):Env->Env
 | []=>[]
 | (k,x)::r=>if t=k then (k,v)::r else (k,x)::UY t v r
def Xf (id:Nat) (o:AO):Qk->Qk
 | []=>[(id,o)]
 | (k,x)::r=>if id=k then (k,o)::r else (k,x)::Xf id o r
def upL (up:Option (Nat × AO)) (os:Qk):Qk :=
 match up with
 | none=>os
 | some (id,o)=>Xf id o os
theorem X9 (d v e):look (bnd d v e)=Yg (look e) d v:=by
 cases d<;>rfl
theorem XP (id o):∀ os,Qc (Xf id o os)=QK (Qc os) id o
 | []=>by funext i;simp[Xf,Qc,QK]
 | (k,x)::r=>by
   funext i
   simp only[Xf];split
   ·rename_i h
    subst h;simp only[Qc,QK];split<;>rfl
   ·rename_i h
    simp only[Qc,XP id o r,QK];by_cases h1:i=k<;>by_cases h2:i=id<;>simp_all
theorem QhM (up os):Qc (upL up os)=upO (Qc os) up:=by
 cases up with
 | none=>rfl
 | some p=>obtain ⟨id,o⟩:=p;exact XP id o os
theorem Vi {t v}:∀ {e},look e t=v->look (UY t v e)=look e
 | [],_=>rfl
 | (k,x)::r,h=>by
   funext u
   simp only[look] at h;simp only[UY];split
   ·rename_i hk
    rw[if_pos hk] at h;subst h;rfl
   ·rename_i hk
    rw[if_neg hk] at h;simp only[look];split
    ·rfl
    ·exact congrFun (Vi h) u
def sig (e:Env) (o:Qk):Fs:=⟨look e,Qc o⟩
theorem Qhe (e o d v up):(sig e o).app d v up=sig (bnd d v e) (upL up o):=by
 simp[sig,Fs.app,X9,QhM]
def evK (C:AV->Option (Nat × AO)->Prop):Res->Prop
 | .ok s f v up=>s/\(f->C v up)
 | .no=>False
def QuC (P:Program) (K:World->Prop) (g:FuncId) (id:Nat) (C:AV->Option (Nat × AO)->Prop) (xs:Option (List IV)):AV->Option AO->Prop
 | .aref i n,some (.arr t sz es mv)=>∃ ys rows rows',i=id/\xs=some ys/\Qad es=some rows/\n=es.length/\Qj9 P K g t sz rows ys rows'/\C (.aref id rows'.length) (some (id,XX t sz rows' rows'.length))
 | .mref i k n,some (.mapr t sz kvs none)=>∃ ys rows',i=id/\xs=some ys/\((Qh k kvs).getD []).length=n/\Qj9 P K g t sz ((Qh k kvs).getD []) ys rows'/\C (.mref id k rows'.length) (some (id,.mapr t sz (mins k rows' kvs) (some k)))
 | _,_=>False
def Qu1 (id:Nat) (C:AV->Option (Nat × AO)->Prop):AV->AV->Option AO->Prop
 | .aref i n,.iv (.sl s ys),some (.arr t sz es _)=>i=id/\n=es.length/\(∃ rows,Qad es=some rows)/\s=1/\sz=1/\ys.length=n/\C (.iv (.int .i64 n)) (some (id,XX t 1 ys ys.length))
 | _,_,_=>False
def Qjg (P:Program) (K:World->Prop) (lo:Nat->Option AO) (ids:List Nat) (args:List AV) (C:AV->Option (Nat × AO)->Prop):AV->Prop
 | .iv (.fn g)=>∃ xs r,callee P g=true/\qD lo ids args=some xs/\Good P K g xs r/\(ids=[]\/QI r=true)/\C (.iv r) none
 | x=>∃ g fs cs xs r,callee P g=true/\qD lo ids (x::args)=some (.clo g fs cs::xs)/\Good P K g (fs++xs++cs) r/\(ids=[]\/QI r=true)/\C (.iv r) none
def QcZ (P:Program) (K:World->Prop) (op:AOp) (C:AV->Option (Nat × AO)->Prop) (e:Env) (o:Qk):Prop :=
 match op with
 | .call g args ids=>∃ xs r,qD (Qc o) ids (args.map (·.av (look e)))=some xs/\Good P K g xs r/\(ids=[]\/QI r=true)/\C (.iv r) none
 | .callo g args ids id=>∃ xs q t sz rows mv,ids=[]/\ivs (args.map (·.av (look e)))=some xs/\QcY P K g xs q t sz rows mv/\Qc o id=none/\C (ren id q) (some (id,XX t sz rows mv))
 | .calld x args ids=>Qjg P K (Qc o) ids (args.map (·.av (look e))) C (x.av (look e))
 | .callb x args id=>∃ xs s s' y,Qc o id=some (.ext s)/\ivs (args.map (·.av (look e)))=some xs/\Quw P K (x.av (look e)) id s xs y s'/\QI y=true/\C (.iv y) (some (id,.ext s'))
 | .callx g args id=>(∃ xs s s' y,(args.getLast?).map (·.av (look e))=some (.cb id)/\Qc o id=some (.ext s)/\ivs (args.dropLast.map (·.av (look e)))=some xs/\QcX P K g xs [] s y s'/\QI y=true/\C (.iv y) (some (id,.ext s'))) \/
   ∃ xs s s' y,Qc o id=some (.ext s)/\ivs (args.map (·.av (look e)))=some xs/\UT P K g xs s y s'/\QI y=true/\C (.iv y) (some (id,.ext s'))
 | .callr g x args id=>QuC P K g id C (ivs (args.map (·.av (look e)))) (x.av (look e)) (Qc o id)
 | .cpy id x y=>Qu1 id C (x.av (look e)) (y.av (look e)) (Qc o id)
 | op=>evK C (ev (look e) (Qc o) op)
def ZG (P:Program) (K:World->Prop) (f:FuncId) (args:List AV) (o:Qk) (st:List Nat) (y:AV) (o':Qk):Prop:=Qnb P K f args (Qc o) st y (Qc o')
def Xh (ids st:List Nat) (o:Qk):List Nat:=(o.map (·.1)).filter fun i=>match JH ids i with
 | some j=>st.contains j
 | none=>true
def Qkc (keep:List Nat) (e:Env):Env:=e.map fun p=>(p.1,scr keep p.2)
def Qdj (ids keep:List Nat):Qk->Qk
 | []=>[]
 | (i,ob)::r=>match JH ids i with
   | some _=>Qdj ids keep r
   | none=>(i,qV keep ob)::Qdj ids keep r
def QmM (ids keep:List Nat) (o o1:Qk):Qk:=Qdj ids keep o++o1.map fun p=>(nth ids p.1,rnO (nth ids) p.2)
def HOk (ids:List Nat) (args0:List AV) (o o0 o1:Qk):Prop :=
 ids.Nodup/\args0.all (clA (o0.map (·.1)))=true/\(∀ p∈o0,p.1<ids.length/\Qc o (nth ids p.1)=some (rnO (nth ids) p.2)/\clO (o0.map (·.1)) p.2=true/\Y3 p.2=true) /\
 (∀ i∈List.range ids.length,Qc o0 i=none->Qc o (nth ids i)=none)/\(∀ p∈o1,p.1<ids.length/\Y3 p.2=true)
def HK (P:Program) (K:World->Prop) (g:FuncId) (ids:List Nat) (d:Option Nat) (C:Env->Qk->Prop) (e:Env) (o:Qk) (avs:List AV):Prop :=
 ∃ args0 o0 st y o1,avs=args0.map (rn (nth ids))/\HOk ids args0 o o0 o1/\ZG P K g args0 o0 st y o1/\C (bnd d (rn (nth ids) y) (Qkc (Xh ids st o) e)) (QmM ids (Xh ids st o) o o1)
def Qap (P:Program) (K:World->Prop) (ids:List Nat) (d:Option Nat) (C:Env->Qk->Prop) (e:Env) (o:Qk) (avs:List AV) (x:AV):Prop :=
 ∃ g fs cs,Qjb x=some (g,fs,cs)/\callee P g=true/\HK P K g ids d C e o (fs++avs++cs)
def QnA (P:Program) (K:World->Prop) (op:AOp) (d:Option Nat) (C:Env->Qk->Prop) (e:Env) (o:Qk):Prop :=
 match op with
 | .callh g args ids=>HK P K g ids d C e o (args.map (·.av (look e)))
 | .caldh x args ids=>Qap P K ids d C e o (args.map (·.av (look e))) (x.av (look e))
 | _=>False
def Qh3 (b:Bool) (C:Bool->AV->Prop):AV->Prop
 | .iv (.bool c)=>(c=b->C true (.iv (.bool b)))/\(c=!b->C false (.iv (.bool (!b))))
 | .iv (.tup [])=>C false (.iv (.tup []))
 | _=>False
def Qg (P:Program) (K:World->Prop) (C:Env->Qk->Prop):List QN->Env->Qk->Prop
 | [],e,o=>C e o
 | A::l,e,o =>
   match A.g with
   | none=>match A.op.isH with
     | true=>QnA P K A.op A.d (Qg P K C l) e o
     | false=>QcZ P K A.op (fun v up=>Qg P K C l (bnd A.d v e) (upL up o)) e o
   | some (t,b)=>Qh3 b (fun w u=>match w with
     | true=>match A.op.isH with
       | true=>QnA P K A.op A.d (Qg P K C l) (UY t u e) o
       | false=>QcZ P K A.op (fun v up=>Qg P K C l (bnd A.d v (UY t u e)) (upL up o)) (UY t u e) o
     | false=>Qg P K C l (bnd A.d (.iv (.tup [])) (UY t u e)) o) (look e t)
section
variable {P:Program} {K:World->Prop} {ok0:Nat->Prop} {N:Fm} {w0:ZR} {a:Act} {w:World} {L:Nat->Lay}
theorem Qb2 {op C C' e o} (h:∀ v up,C v up->C' v up) (hh:QcZ P K op C e o):QcZ P K op C' e o:=by
 have plain:∀ r,evK C r->evK C' r:=by
  intro r hr;cases r with
  | no=>exact hr
  | ok s f v up=>exact ⟨hr.1,fun hf=>h _ _ (hr.2 hf)⟩
 cases op with
 | call g args ids=>obtain ⟨xs,r,h1,h2,h3,h4⟩:=hh;exact ⟨xs,r,h1,h2,h3,h _ _ h4⟩
 | callo g args ids id=>obtain ⟨xs,q,t,sz,rows,mv,h0,h1,h2,h3,h4⟩:=hh;exact ⟨xs,q,t,sz,rows,mv,h0,h1,h2,h3,h _ _ h4⟩
 | calld x args ids =>
   simp only[QcZ] at hh |-;unfold Qjg at hh |-
   grind
 | callb x args id=>obtain ⟨xs,s,s',y,h1,h2,h3,h4,h5⟩:=hh;exact ⟨xs,s,s',y,h1,h2,h3,h4,h _ _ h5⟩
 | callx g args id =>
   rcases hh with ⟨xs,s,s',y,h1,h2,h3,h4,h5,h6⟩ | ⟨xs,s,s',y,h1,h2,h3,h4,h5⟩
   ·exact .inl ⟨xs,s,s',y,h1,h2,h3,h4,h5,h _ _ h6⟩
   ·exact .inr ⟨xs,s,s',y,h1,h2,h3,h4,h _ _ h5⟩
 | callr g x args id =>
   simp only[QcZ] at hh |-;unfold QuC at hh |-
   grind
 | cpy id x y =>
   simp only[QcZ] at hh |-;unfold Qu1 at hh |-
   grind
 | _=>simp only[QcZ] at hh |-;exact plain _ hh
theorem Qj8 {C C' g ids d e o avs} (h:∀ e o,C e o->C' e o) (hh:HK P K g ids d C e o avs):HK P K g ids d C' e o avs:=by
 obtain ⟨args0,o0,st,y,o1,h1,h2,h3,h4⟩:=hh;exact ⟨args0,o0,st,y,o1,h1,h2,h3,h _ _ h4⟩
theorem Qb1 {op d C C' e o} (h:∀ e o,C e o->C' e o) (hh:QnA P K op d C e o):QnA P K op d C' e o:=by
 unfold QnA at hh |-;split at hh
 ·exact Qj8 h hh
 ·obtain ⟨g,fs,cs,h1,h2,h3⟩:=hh
  exact ⟨g,fs,cs,h1,h2,Qj8 h h3⟩
 ·exact hh.elim
theorem WV (keep):∀ e t,look (Qkc keep e) t=scr keep (look e t)
 | [],t=>by simp[Qkc,look,scr]
 | (k,v)::r,t=>by
   have:=WV keep r t;simp only[Qkc,QzH,look];split
   ·rfl
   ·exact this
theorem QU:∀ {o i ob},Qc o i=some ob->(i,ob)∈o
 | [],i,ob,h=>by simp[Qc] at h
 | (k,x)::r,i,ob,h=>by
   simp only[Qc] at h;split at h
   ·rename_i hk
    injection h with h
    subst h hk;simp
   ·exact List.mem_cons_of_mem _ (QU h)
theorem Yk:∀ {o i},i∈o.map (·.1)->∃ ob,Qc o i=some ob
 | (k,x)::r,i,h=>by
   simp only[Qc];split
   ·exact ⟨x,rfl⟩
   ·rename_i hk
    simp only[QzH,Qz1,hk,false_or] at h;exact Yk h
theorem Qck (a b i):Qc (a++b) i=match Qc a i with | some x=>some x | none=>Qc b i:=by
 induction a with
 | nil=>rfl
 | cons p r ih =>
   obtain ⟨k,x⟩:=p;simp only[QAB,Qc];split
   ·rfl
   ·exact ih
theorem WW (ids keep i):∀ o,Qc (Qdj ids keep o) i=match JH ids i with | some _=>none | none=>(Qc o i).map (qV keep)
 | []=>by simp[Qdj,Qc];split<;>rfl
 | (k,x)::r=>by
   have ih:=WW ids keep i r;simp only[Qdj];cases hk:JH ids k with
   | some j =>
     simp only[Qc]
     grind
   | none =>
     simp only[Qc]
     grind
theorem Qcj (ids i) (hnd:ids.Nodup):∀ o1,(∀ p∈o1,p.1<ids.length)->Qc (o1.map fun p=>(nth ids p.1,rnO (nth ids) p.2)) i=match JH ids i with
  | some j=>(Qc o1 j).map (rnO (nth ids))
  | none=>none
 | [],_=>by simp[Qc];split<;>rfl
 | (k,x)::r,h=>by
   have ih:=Qcj ids i hnd r (fun p hp=>h p (List.mem_cons_of_mem _ hp))
   have hk:k<ids.length:=h (k,x) (by simp)
   simp only[QzH,Qc];rw[ih];by_cases hik:i=nth ids k
   ·have hx:JH ids i=some k:=by rw[hik];exact Yb hnd hk
    simp only[hik,if_true];rw[<- hik,hx];simp
   ·simp only[hik,if_false]
    cases hx:JH ids i with
    | none=>rfl
    | some j =>
      have:=(Vq hx).2
      grind
theorem Quu {C g ids d e o avs} (hh:HK P K g ids d C e o avs) :
  ∃ keep y' lo' args0 lo0 st y lo1 dom e' o',HG P K g avs ids keep (Qc o) y' lo' args0 lo0 st y lo1 dom/\look e'=Yg (fun t=>scr keep (look e t)) d y'/\Qc o'=lo'/\C e' o':=by
 obtain ⟨args0,o0,st,y,o1,h1,⟨k1,k2,k3,k4,k5⟩,h3,h4⟩:=hh;refine ⟨Xh ids st o,_,_,args0,Qc o0,st,y,Qc o1,o0.map (·.1),_,_,⟨k1,h1,k2,fun i=>?_,fun i ob hob=>?_,fun i hi hn=>?_,h3,fun i ob hob=>?_,rfl,fun i=>?_,fun i hi j hj=>?_⟩,?_,rfl,h4⟩
 ·constructor
  ·intro hc
   obtain ⟨ob,hob⟩:=Yk (o:=o0) (by simpa using hc)
   rw[hob];rfl
  ·intro hs
   obtain ⟨ob,hob⟩:=Qz3.1 hs;have:=QU hob
   grind
 ·exact k3 (i,ob) (QU hob)
 ·exact k4 i (QAE.2 hi) hn
 ·exact k5 (i,ob) (QU hob)
 ·rw[QmM,Qck,WW,Qcj ids i k1 o1 (fun p hp=>(k5 p hp).1)]
  cases hx:JH ids i with
  | some j=>rfl
  | none =>
    cases ho:Qc o i with
    | none=>simp
    | some ob =>
      have hmem:(Xh ids st o).contains i=true:=by
       simp only[Xh,List.contains_eq_mem,decide_eq_true_eq,QAo,QzI];exact ⟨⟨_,QU ho,rfl⟩,by simp[hx]⟩
      grind
 ·simp only[Xh,List.contains_eq_mem,decide_eq_true_eq,QAo,hj] at hi
  simpa using hi.2
 ·rw[X9]
  funext t
  cases d with
  | none=>exact WV _ e t
  | some d =>
    simp only[Yg];split
    ·rfl
    ·exact WV _ e t
theorem ZK {C C'} (h:∀ e o,C e o->C' e o):∀ l e o,Qg P K C l e o->Qg P K C' l e o
 | [],e,o,hh=>h _ _ hh
 | A::l,e,o,hh=>by
   simp only[Qg] at hh |-;split at hh
   ·split at hh
    ·exact Qb1 (fun e o=>ZK h l e o) hh
    ·exact Qb2 (fun v up=>ZK h l _ _) hh
   ·rename_i t b _
    unfold Qh3 at hh |-;split at hh
    ·refine ⟨fun hc=>?_,fun hc=>ZK h l _ _ (hh.2 hc)⟩
     have hh1:=hh.1 hc
     dsimp only at hh1 |-
     split at hh1
     ·exact Qb1 (fun e o=>ZK h l e o) hh1
     ·exact Qb2 (fun v up=>ZK h l _ _) hh1
    ·exact ZK h l _ _ hh
    ·exact hh
theorem Qf3 {A:QN} {p:Oper} {C:AV->Option (Nat × AO)->Prop} {e:Env} {o:Qk} (c:Ctx P K ok0 w0) (h:Rel ok0 N w0 (look e) (Qc o) a w L) (hf:A.op.fits P p.op=true)
  (hh:QcZ P K A.op C e o):∃ v up,Xj P K A.op (sig e o) v up/\C v up:=by
 have plain:evK C (ev (look e) (Qc o) A.op)->∃ v up,Xj P K A.op (sig e o) v up/\C v up:=by
  intro hk;cases hr:ev (look e) (Qc o) A.op with
  | no=>rw[hr] at hk;exact hk.elim
  | ok s f v up =>
    rw[hr] at hk;obtain ⟨hf',_⟩:=Qe8 h c.ok hf hr hk.1;exact ⟨v,up,.plain _ _ s f _ _ hr hk.1,hk.2 hf'⟩
 cases hop:A.op with
 | call g args ids =>
   rw[hop] at hh;obtain ⟨xs,r,h1,h2,h3,h4⟩:=hh;exact ⟨.iv r,none,.call g args ids _ xs r h1 h2 h3,h4⟩
 | callo g args ids id =>
   rw[hop] at hh;obtain ⟨xs,q,t,sz,rows,mv,h0,h1,h2,h3,h4⟩:=hh;subst h0;exact ⟨_,_,.callo g args id _ xs q t sz rows mv h1 h2 h3,h4⟩
 | calld x args ids =>
   rw[hop] at hh;simp only[QcZ] at hh;generalize hxv:x.av (look e)=xv at hh;unfold Qjg at hh;split at hh
   ·rename_i g
    obtain ⟨xs,r,h1,h2,h3,h4,h5⟩:=hh;exact ⟨.iv r,none,.calld x g args ids _ xs r hxv h1 h2 h3 h4,h5⟩
   ·obtain ⟨g,fs,cs,xs,r,h1,h2,h3,h4,h5⟩:=hh
    exact ⟨.iv r,none,.caldc x g fs cs args ids _ xs r h1 (by show qD (Qc o) ids (x.av (look e)::_)=_;rw[hxv];exact h2) h3 h4,h5⟩
 | callb x args id =>
   rw[hop] at hh;obtain ⟨xs,s,s',y,h1,h2,h3,h4,h5⟩:=hh;exact ⟨.iv y,some (id,.ext s'),.callb x args id _ xs s s' y h1 h2 h3 h4,h5⟩
 | callx g args id =>
   rw[hop] at hh;rcases hh with ⟨xs,s,s',y,h1,h2,h3,h4,h5,h6⟩ | ⟨xs,s,s',y,h1,h2,h3,h4,h5⟩
   case inr=>exact ⟨.iv y,some (id,.ext s'),.callz g args id _ xs s s' y h1 h2 h3 h4,h5⟩
   obtain ⟨x,hx,hxv⟩:=Qzo.1 h1
   have hargs:args=args.dropLast++[x]:=by
    obtain ⟨hne,hx'⟩:=List.getLast?_eq_some_iff.1 hx;rw[hx'];simp
   refine ⟨.iv y,some (id,.ext s'),?_,h6⟩;have:=Xj.callx (P:=P) (K:=K) g args.dropLast x id (sig e o) xs s s' y hxv h2 h3 h4 h5;rw[<- hargs] at this;exact this
 | callr g x args id =>
   rw[hop] at hh;simp only[QcZ] at hh;generalize hxv:x.av (look e)=xv at hh;generalize hov:Qc o id=ov at hh;unfold QuC at hh;split at hh
   ·rename_i i n t sz es mv
    obtain ⟨ys,rows,rows',rfl,h1,h2,rfl,h4,h5⟩:=hh;have hes:=YB h2;exact ⟨_,_,.callr g x args i _ ys t sz rows rows' mv (by show x.av (look e)=_;rw[hxv,hes,Qzw]) (by show Qc o i=_;rw[hov,hes];rfl) h1 h4,h5⟩
   ·rename_i i k n t sz kvs
    obtain ⟨ys,rows',rfl,h1,h2,h3,h4⟩:=hh;exact ⟨_,_,.callm g x args i _ ys t sz kvs k n rows' hxv h2 hov h1 h3,h4⟩
   ·exact hh.elim
 | cpy id x y =>
   rw[hop] at hh;simp only[QcZ] at hh;generalize hxv:x.av (look e)=xv at hh;generalize hyv:y.av (look e)=yv at hh;generalize hov:Qc o id=ov at hh;unfold Qu1 at hh;split at hh
   ·rename_i i n s ys t sz es mv
    obtain ⟨rfl,rfl,⟨rows,h2⟩,rfl,rfl,h5,h6⟩:=hh;have hes:=YB h2;refine ⟨_,_,?_,h6⟩;have hlr:es.length=rows.length:=by rw[hes,Qzw]
    have:=Xj.cpy (P:=P) (K:=K) i x y (sig e o) t rows ys mv (by show x.av (look e)=_;rw[hxv,hlr]) (by show Qc o i=_;rw[hov,hes];rfl) hyv (by rw[h5,hlr])
    rw[<- hlr] at this;exact this
   ·exact hh.elim
 | _ =>
   rw[<- hop];exact plain (by rw[hop] at hh |-;exact hh)
theorem Qgl {A:QN} {p:Oper} {σ:Fs} {v:AV} {up:Option (Nat × AO)} (c:Ctx P K ok0 w0) (h:Rel ok0 N w0 σ.lk σ.lo a w L) (hd:YW N A.d p.dst=true) (hf:A.op.fits P p.op=true)
  (hy:Xj P K A.op σ v up):∃ w1 a' w' L',w0.le w1/\Rel ok0 N w1 (σ.app A.d v up).lk (σ.app A.d v up).lo a' w' L':=by
 have:=Qba (ops:=#[{ p with guard:=none }]) (i:=0) (o:={ p with guard:=none }) (C:=fun a' w'=>∃ w1 L',w0.le w1/\Rel ok0 N w1 (σ.app A.d v up).lk (σ.app A.d v up).lo a' w' L') c h rfl (by simp[Region.wanted]) hd hf hy
  (fun w1 a' w' L' hl hr=>⟨w1,L',hl,hr⟩)
 obtain ⟨a',w',⟨w1,L',hl,hr⟩,_⟩:=this default [] [] [];exact ⟨w1,a',w',L',hl,hr⟩
theorem QdH {A:QN} {p:Oper} {σ σ':Fs} (c:Ctx P K ok0 w0) (h:Rel ok0 N w0 σ.lk σ.lo a w L) (hd:YW N A.d p.dst=true) (hf:A.op.fits P p.op=true)
  (hy:JJ P K A.d σ A.op σ'):∃ a' w' L',Rel ok0 N w0 σ'.lk σ'.lo a' w' L':=by
 have hnd:∀ c,p.op≠.defer c:=fun c e=>by rw[e,V7] at hf;cases hf
 have:=YH (ops:=#[{ p with guard:=none }]) (i:=0) (o:={ p with guard:=none }) (C:=fun a' w'=>∃ L',Rel ok0 N w0 σ'.lk σ'.lo a' w' L') (a:=a) (w:=w) rfl (by simp[Region.wanted]) hnd (Qct (o:={ p with guard:=none }) c h hd hf hy (fun a' w' L' hr=>⟨L',hr⟩))
 obtain ⟨a',w',⟨L',hr⟩,_⟩:=this default [] [] [];exact ⟨a',w',L',hr⟩
theorem extract {ops:Array Oper} {C:Env->Qk->Prop}:∀ (l:List QN) (ps:List Oper) (e:Env) (o:Qk) (w0:ZR) (c:Ctx P K ok0 w0) (a:Act) (w:World) (L:Nat->Lay),ZU P N ops l ps=true ->
  Rel ok0 N w0 (look e) (Qc o) a w L->Qg P K C l e o->∃ e' o',Qkf P K l (sig e o) (sig e' o')/\C e' o'
 | [],ps,e,o,w0,c,a,w,L,_,_,hh=>⟨e,o,.nil _,hh⟩
 | A::l,[],e,o,w0,c,a,w,L,hf,_,_=>by simp[ZU] at hf
 | A::l,p::ps,e,o,w0,c,a,w,L,hf,hr,hh=>by
   simp only[ZU,Qzm] at hf;obtain ⟨hop,hf⟩:=hf;have hop':=hop;simp only[YN,Qzm] at hop';obtain ⟨⟨hd,hg⟩,hfit⟩:=hop';simp only[Qg] at hh
   have wanted:∀ e1:Env,look e1=look e->QcZ P K A.op (fun v up=>Qg P K C l (bnd A.d v e1) (upL up o)) e1 o ->
     (∀ v up,Xj P K A.op (sig e o) v up->Yields P K A (sig e o) v up)->∃ e' o',Qkf P K (A::l) (sig e o) (sig e' o')/\C e' o':=by
    intro e1 he1 h1 hy;have hr1:Rel ok0 N w0 (look e1) (Qc o) a w L:=by rw[he1];exact hr
    obtain ⟨v,up,hgv,hc⟩:=Qf3 c hr1 hfit h1;have hs1:sig e1 o=sig e o:=by simp[sig,he1]
    rw[hs1] at hgv;obtain ⟨w1,a',w',L',hle,hr'⟩:=Qgl (σ:=sig e o) c hr hd hfit hgv;have hs2:(sig e o).app A.d v up=sig (bnd A.d v e1) (upL up o):=by rw[<- hs1,Qhe]
    rw[hs2] at hr';obtain ⟨e',o',hp,hc'⟩:=extract l ps _ _ w1 (c.le hle) a' w' L' hf hr' hc;exact ⟨e',o',.cons A l _ _ _ (.app v up (hy v up hgv)) (by rw[hs2];exact hp),hc'⟩
   have unwanted:∀ (t:Nat) (b:Bool),A.g=some (t,b)->∀ x:AV,look e t=x->(look e t=.iv (.bool (!b))\/look e t=.iv (.tup []))->Qg P K C l (bnd A.d (.iv (.tup [])) (UY t x e)) o ->
     ∃ e' o',Qkf P K (A::l) (sig e o) (sig e' o')/\C e' o':=by
    intro t b hag x hx hor hun;have hle:=Vi (e:=e) hx
    have hs:(sig e o).app A.d (.iv (.tup [])) none=sig (bnd A.d (.iv (.tup [])) (UY t x e)) o:=by
     have:sig e o=sig (UY t x e) o:=by simp[sig,hle]
     rw[this,Qhe];rfl
    obtain ⟨hde,hdlt⟩:=Vy hd;have hr':=hr.put p.dst hdlt (x:=.iv (.tup [])) (v:=undef) (.iv _ _ WE);rw[<- hde] at hr'
    have hr2:Rel ok0 N w0 (look (bnd A.d (.iv (.tup [])) (UY t x e))) (Qc o) (a.put A.d undef) w L:=by
     rw[X9,hle];exact hr'
    obtain ⟨e',o',hp,hc'⟩:=extract l ps _ _ w0 c _ w L hf hr2 hun;exact ⟨e',o',.cons A l _ _ _ (.app (.iv (.tup [])) none (by unfold Yields;rw[hag];exact .inr ⟨hor,rfl,rfl⟩)) (by rw[hs];exact hp),hc'⟩
   have hwant:∀ e1:Env,look e1=look e->(A.g=none\/∃ t b,A.g=some (t,b)/\(sig e o).lk t=.iv (.bool b))->QnA P K A.op A.d (Qg P K C l) e1 o->∃ e' o',Qkf P K (A::l) (sig e o) (sig e' o')/\C e' o':=by
    intro e1 he1 hag hh;have hse:sig e1 o=sig e o:=by simp[sig,he1]
    obtain ⟨σ',hgv,e',o',hs,hc⟩:∃ σ',JJ P K A.d (sig e o) A.op σ'/\∃ e' o',sig e' o'=σ'/\Qg P K C l e' o':=by
     rw[<- hse];unfold QnA at hh;split at hh
     ·obtain ⟨keep,y',lo',args0,lo0,st,y,lo1,dom,e',o',h1,h2,h3,h4⟩:=Quu hh
      rename_i hAop;rw[hAop];refine ⟨_,JJ.callh _ _ _ keep y' lo' args0 lo0 st y lo1 dom h1,e',o',?_,h4⟩;simp[sig,h2,h3]
     ·obtain ⟨g,fs,cs,hx,hcal,hh⟩:=hh
      obtain ⟨keep,y',lo',args0,lo0,st,y,lo1,dom,e',o',h1,h2,h3,h4⟩:=Quu hh;rename_i hAop;rw[hAop];refine ⟨_,JJ.caldh _ g fs cs _ _ keep y' lo' args0 lo0 st y lo1 dom hx hcal h1,e',o',?_,h4⟩;simp[sig,h2,h3]
     ·exact hh.elim
    obtain ⟨a',w',L',hr'⟩:=QdH (σ:=sig e o) c hr hd hfit hgv;rw[<- hs] at hr';obtain ⟨e2,o2,hp,hc'⟩:=extract l ps e' o' w0 c a' w' L' hf hr' hc;exact ⟨e2,o2,.cons A l _ _ _ (.h σ' hag hgv) (by rw[<- hs];exact hp),hc'⟩
   split at hh
   ·rename_i hag
    split at hh
    ·exact hwant e rfl (.inl hag) hh
    ·exact wanted e rfl hh (fun v up h=>by unfold Yields;rw[hag];exact h)
   ·rename_i t b hag
    unfold Qh3 at hh;split at hh
    ·rename_i cb hcb
     by_cases hbc:cb=b
     ·subst hbc
      have hh1:=hh.1 rfl
      dsimp only at hh1
      split at hh1
      ·exact hwant _ (Vi hcb) (.inr ⟨_,_,hag,hcb⟩) hh1
      ·exact wanted _ (Vi hcb) hh1 (fun v up h=>by unfold Yields;rw[hag];exact .inl ⟨hcb,h⟩)
     ·have hcb':cb=!b:=by cases cb<;>cases b<;>simp_all
      grind
    all_goals grind
end
def Qdp (N:Fm) (d dx:Nat) (x:Opd) (ops:Array Oper):Bool :=
 match ops.toList with
 | [p,q]=>p.dst==some d&&q.dst==some dx&&N.dst d&&N.dst dx&&p.guard.isNone&&q.guard.isNone &&
   (match p.op with | .next y s=>x.is y&&!s | _=>false)&&(match q.op with | .extract (.tmp m) j=>m==d&&j==0 | _=>false)
 | _=>false
section
variable {P:Program} {K:World->Prop} {ok0:Nat->Prop} {N:Fm} {w0:ZR} {lk:Nat->AV} {lo:Nat->Option AO} {a:Act} {w:World} {L:Nat->Lay}
theorem QhD {p:Oper} {y:Operand} {x:Opd} {d id:Nat} {kvs:List (MK × IV)} {seen:List Nat} (h:Rel ok0 N w0 lk lo a w L) (hd:p.dst=some d) (hdN:N.dst d=true) (ho:p.op=.next y false) (hx:x.is y=true) (hxv:x.av lk=.oref id) (hid:lo id=some (.miter kvs seen)) :
  ∃ u w' L',(execOp a.eval p).run P w=.ok (.value u) w' /\
   (((∀ i,i<kvs.length->i∈seen)/\Rel ok0 N w0 (Yg lk (some d) (.iv (.tup [.bool false]))) lo (a.put p.dst u) w' L') \/
    ∃ i q,kvs[i]?=some q/\i ∉ seen/\Rel ok0 N w0 (Yg lk (some d) (.iv (.tup [.bool true,q.1.iv,q.2]))) (QK lo id (.miter kvs (i::seen))) (a.put p.dst u) w' L'):=by
 have rx:=Opd.rep h hx;rw[hxv] at rx;obtain ⟨_,b,hL,hv⟩:=qZ hid (ZD id) rx;have hob:=h.objs _ _ hid;rw[hL] at hob;obtain ⟨hF,r,since,sn,hb,hit⟩:=hob
 have over:(∀ i,i<kvs.length->i∈seen)->(Instr.next (.pointer (some ⟨b,0,none⟩)) false p.type).run P w=.ok (.tuple #[.bool false]) w ->
   ∃ u w' L',(execOp a.eval p).run P w=.ok (.value u) w' /\
   (((∀ i,i<kvs.length->i∈seen)/\Rel ok0 N w0 (Yg lk (some d) (.iv (.tup [.bool false]))) lo (a.put p.dst u) w' L') \/
    ∃ i q,kvs[i]?=some q/\i ∉ seen/\Rel ok0 N w0 (Yg lk (some d) (.iv (.tup [.bool true,q.1.iv,q.2]))) (QK lo id (.miter kvs (i::seen))) (a.put p.dst u) w' L'):=by
  intro hall hrun;refine ⟨.tuple #[.bool false],w,L,by simp[execOp,ho,hv,hrun],.inl ⟨hall,?_⟩⟩
  rw[hd];refine h.put (some d) (fun t ht=>by injection ht with ht;subst ht;exact hdN) (.iv _ _ (.tup _ [_] rfl fun k x u hk hu=>?_))
  match k with
  | 0=>simp at hk hu;subst hk hu;exact .bool _
  | k+1=>simp at hk
 cases r with
 | none =>
   have hk:kvs=[]:=hit;subst hk;refine over (fun i hi=>by simp at hi) ?_
   have hb':w.heap[b]?=some (.mapIter none since sn since):=hb;simp[Instr.next,getObj,Sem.run,hb']
 | some r =>
   obtain ⟨es,h1,h2,h3,h4,h5,h6⟩:=hit
   have hold:∀ x∈es.toList,x.born<since:=fun x hx=>by
    obtain ⟨i,hi⟩:=QzS hx;exact h3.born i x (by simpa using hi)
   have stamp:∀ (i:Nat) (e:MapEntry),es[i]?=some e->(sn.contains e.born=true↔i∈seen):=by
    intro i e he;constructor
    ·intro hc
     simp only[Array.contains_iff_mem] at hc;obtain ⟨j,hj⟩:=Array.getElem?_of_mem hc;have hjl:j<seen.reverse.length:=by rw[List.length_reverse,<- h5];exact (Qzs.1 hj).1
     obtain ⟨e',h7,h8⟩:=h6 j _ (Qzk hjl);rw[hj] at h8;injection h8 with h8
     have:=h3.apart i _ e e' he h7 h8;rw[this,<- List.mem_reverse];exact Qzr hjl
    ·intro hm
     rw[<- List.mem_reverse] at hm;obtain ⟨j,hj⟩:=QzS hm
     grind
   rcases run_next_at (P:=P) w p.type b r since since sn es since hb h2 hold (Qzq _) with ⟨h7,hrun⟩ | ⟨e,he,w1,hw1,hrun⟩
   ·refine over (fun i hi=>?_) hrun
    have hi':i<es.size:=by rw[h3.size];exact hi
    have hel:es[i] ∉ (leftOf es sn).toList:=by
     grind
    simp only[leftOf,Array.mem_toList_iff,Array.mem_filter,Array.getElem_mem,true_and,QzL,Bool.not_eq_false] at hel;exact (stamp i _ (QzF hi')).1 hel
   ·simp only[leftOf,Array.mem_toList_iff,Array.mem_filter,QzL] at he
    obtain ⟨i,hi⟩:=Array.getElem?_of_mem he.1;have hil:i<kvs.length:=by rw[<- h3.size];exact (Qzs.1 hi).1
    have hq:=Qzk hil
    have hns:i ∉ seen:=fun hm=>by
     have:=(stamp i e hi).2 hm;rw[he.2] at this;cases this
    obtain ⟨k',hk1,hk2⟩:=h3.keys i e hi;rw[hq] at hk1;injection hk1 with hk1
    have hw1h:w1.heap=w.heap:=by rcases hw1 with rfl | rfl<;>rfl
    have hblt:b<w.heap.size:=(Qzs.1 hb).1
    have hg:Qc1 (fun k=>b=k) w (ChangeMaps.setBlock w1 b (.mapIter (some r) since (sn.push e.born) since)):=by
     refine ⟨?_,?_,?_,by simp[ChangeMaps.setBlock,hw1h],fun k _ hn=>by simp[ChangeMaps.setBlock,hw1h,Qz2,hn]⟩<;>rcases hw1 with rfl | rfl<;>rfl
    refine ⟨.tuple #[.bool true,e.key,e.val],_,QF L id (.one b),by simp[execOp,ho,hv,hrun];rfl,.inr ⟨i,kvs[i],hq,hns,?_⟩⟩
    have hrel:=h.turnOne (ob':=.miter kvs (i::seen)) hid hL hg (fun ok lo' L' x' v' a1 a2 hx' hr=>by
     grind) (fun ok lo' L' hok _=>by
     have hrne:r≠b:=fun e=>by rw[e,hb] at h2;cases h2
     refine ⟨hF,some r,since,sn.push e.born,by simp[ChangeMaps.setBlock,hw1h,hblt],es,(hok r h1 (Qzs.1 h2).1).1,(hok r h1 (Qzs.1 h2).1).2.trans h2,h3,fun i e p a1 a2=>(h4 i e p a1 a2).mono fun b' hb' hlt=>hok b' hb' hlt,by simp[h5],fun j x hj=>?_⟩
     rw[List.reverse_cons,List.getElem?_append] at hj;rw[QAz];split at hj
     ·grind
     grind)
    rw[hd];refine hrel.put (some d) (fun t ht=>by injection ht with ht;subst ht;exact hdN) (.iv _ _ (.tup _ [_,_,_] rfl fun k x u hk hu=>?_))
    match k with
    | 0=>simp at hk hu;subst hk hu;exact .bool _
    | 1=>simp at hk hu;subst hk hu;rw[hk2,<- hk1];exact Qhq _ _ _
    | 2 =>
      simp at hk hu;subst hk hu;refine (h4 i e kvs[i] hi hq).mono fun b' hb' hlt=>⟨h.okL_turn hid (fun k hk=>.inl (by rw[hL];exact hk)) hb' hlt,hg.block b' hlt fun e=>?_⟩
      subst e;exact hb'.2 id _ hid (by rw[hL];rfl)
    | k+3=>simp at hk
theorem QhB {ops:Array Oper} {d dx cid id:Nat} {x:Opd} {kvs:List (MK × IV)} {seen:List Nat} {Q:Act->World->Prop} (c:Ctx P K ok0 w0) (h:Rel ok0 N w0 lk lo a w L) (hf:Qdp N d dx x ops=true) (hxv:x.av lk=.oref id) (hid:lo id=some (.miter kvs seen))
  (hend:(∀ i,i<kvs.length->i∈seen)->∀ a' w' L',Rel ok0 N w0 (Yg (Yg lk (some d) (.iv (.tup [.bool false]))) (some dx) (.iv (.bool false))) lo a' w' L'->Q a' w')
  (hmore:∀ i q,kvs[i]?=some q->i ∉ seen->∀ a' w' L',Rel ok0 N w0 (Yg (Yg lk (some d) (.iv (.tup [.bool true,q.1.iv,q.2]))) (some dx) (.iv (.bool true))) (QK lo id (.miter kvs (i::seen))) a' w' L'->Q a' w')
  (b:Frame) (k:List Item) (cs:List Frame):∃ a' w',Q a' w'/\Steps P (lone (b.atR a (.code (.region cid ops false)::k)) cs w) (lone (b.atR a' k) cs w'):=by
 unfold Qdp at hf;split at hf
 ·rename_i p q hops
  simp only[Qzm,beq_iff_eq,Option.isNone_iff_eq_none] at hf;obtain ⟨⟨⟨⟨⟨⟨⟨hpd,hqd⟩,hdN⟩,hdxN⟩,hpg⟩,hqg⟩,hp⟩,hq⟩:=hf;have hops':ops=#[p,q]:=by rw[<- Array.toList_inj];exact hops
  subst hops';split at hp
  ·rename_i y s hpo
   simp only[Qzm,QzL] at hp;obtain ⟨hx,rfl⟩:=hp;split at hq
   ·rename_i m j hqo
    simp only[Qzm,beq_iff_eq] at hq;obtain ⟨rfl,rfl⟩:=hq;refine Qb5 (Q:=Q) ?_ b k cs;have hr2:List.range (#[p,q]:Array Oper).size=[0,1]:=rfl;rw[hr2];obtain ⟨u,w1,L1,hrun,hor⟩:=QhD (P:=P) h hpd hdN hpo hx hxv hid;have w1t:Region.wanted p (yielded #[p,q] a.tmps)=true:=by simp[Region.wanted,hpg]
    simp only[UL];refine YH (o:=p) rfl w1t (fun c e=>by rw[hpo] at e;cases e) ?_
    unfold Oper.wp;rw[hrun];simp only[Oper.upon];have w2t:Region.wanted q (yielded #[p,q] (a.put p.dst u).tmps)=true:=by simp[Region.wanted,hqg]
    refine YH (o:=q) rfl w2t (fun c e=>by rw[hqo] at e;cases e) ?_
    have ext:∀ (lk1:Nat->AV) (lo1:Nat->Option AO) (cs:List IV) (bv:Bool),Rel ok0 N w0 (Yg lk1 (some m) (.iv (.tup (.bool bv::cs)))) lo1 (a.put p.dst u) w1 L1 ->
      (∀ a' w' L',Rel ok0 N w0 (Yg (Yg lk1 (some m) (.iv (.tup (.bool bv::cs)))) (some dx) (.iv (.bool bv))) lo1 a' w' L'->Q a' w') ->
      q.wp P (a.put p.dst u) w1 Q (fun _ _ _=>False):=by
     intro lk1 lo1 cs bv hr hQ
     exact Qfo (A:=⟨some dx,none,.ext (.t m) 0⟩) (σ:=⟨Yg lk1 (some m) (.iv (.tup (.bool bv::cs))),lo1⟩) (v:=.iv (.bool bv)) (up:=none) c hr (by simp[YW,hqd,hdxN]) (by simp[AOp.fits,hqo,QuR,Opd.is,Opd.isTmp])
      (.plain _ _ True True _ _ (by simp[ev,Opd.av,Yg,Qgy]) trivial) rfl (fun a' w' L' h=>hQ a' w' L' h)
    grind
   ·cases hq
  ·cases hp
 ·cases hf
theorem Qs3 {id bid off e sz cs} (h:Rel ok0 N w0 lk lo a w L) (hid:lo id=none) (hb:lo bid=some (.box cs)) (hc:cs[off]?=some (.nilr sz)) :
  ∃ L',Rel ok0 N w0 lk (QK (QK lo id (.arr e sz [] 0)) bid (.box (cs.set off (.aref id 0)))) a w L':=by
 have hne:bid≠id:=fun e=>by rw[e,hid] at hb;cases hb
 have h1:=h.new id hid (.arr e sz [] 0) (.arr (.slice none 0 0) []) (Below.refl _ w) (fun b hb=>by simp[Lay.has,Value.ownBlock] at hb)
  ⟨⟨⟨by simp,.inl ⟨rfl,rfl⟩⟩,fun b hb=>by simp[Value.ownBlock] at hb⟩,Qzq _,by simp,by simp,by simp⟩
 have hb1:QK lo id (.arr e sz [] 0) bid=some (.box cs):=by simp[QK,hne,hb]
 have hob:=h1.objs _ _ hb1
 have hok:∀ k,okL ok0 (QK lo id (.arr e sz [] 0)) (QF L id (.arr (.slice none 0 0) [])) k->k<w.heap.size->okL ok0 (QK (QK lo id (.arr e sz [] 0)) bid (.box (cs.set off (.aref id 0)))) (QF (QF L id (.arr (.slice none 0 0) [])) bid (QF L id (.arr (.slice none 0 0) []) bid)) k :=
  fun k hk hlt=>h1.okL_turn hb1 (fun b hb=>.inl hb) hk hlt
 refine ⟨_,h1.turn (o':=.box (cs.set off (.aref id 0))) (l':=QF L id (.arr (.slice none 0 0) []) bid) bid hb1 ⟨rfl,rfl,rfl,Qzq _,fun _ _ _=>rfl⟩ (fun b hb=>.inl hb) (fun z u hz hu=>?_) (fun all=>?_)⟩
 ·cases hu with
  | _=>grind
 ·revert hob all
  generalize QF L id (.arr (.slice none 0 0) []) bid=l;intro hob all;cases l with
  | box b =>
    obtain ⟨hB,t,vs,hbk,hl,h1',hx⟩:=hob;refine ⟨hB,t,vs,hbk,by rw[List.length_set];exact hl,h1',fun k x u hk hu=>?_⟩
    rw[Qz7] at hk;split at hk
    ·rename_i hko
     subst hko
     have hk':x=.aref id 0:=by
      grind
     subst hk'
     have hu':u=.slice none 0 0:=by
      have:=hx off _ u hc hu;cases this;rfl
     subst hu';exact .aref id e sz [] 0 (.slice none 0 0) [] (by simp[QK,Ne.symm hne]) (by simp[QF,Ne.symm hne]) rfl
    ·exact all _ _ (hx k x u hk hu)
  | _=>exact hob.elim
end
inductive AC where
 | skip
 | ops (l:List QN) (draw:Bool)
 | seq (x y:AC)
 | cond (c:Opd) (x y:AC)
 | block (id:Nat) (c:AC)
 | loop (c:AC) (ks ids:List Nat)
 | exit (id:Nat)
 | scope (c:AC)
 | label (l:Nat)
 | ret
 | nxt (d dx:Nat) (x:Opd) (id:Nat)
 | gh (id bid off:Nat) (e:TypeId) (sz:Nat) (c:AC)
 | frz (t id:Nat) (ks ids:List Nat) (c:AC)
 | range (f:Opd) (ps:List Nat) (asn body:AC) (ks ids:List Nat)
 | fz (ks ids:List Nat) (c:AC)
 deriving Inhabited
inductive Way where
 | fall
 | ret
 | exit (id:Nat)
 deriving DecidableEq
inductive AI where
 | code (c:AC)
 | inBlock (id:Nat)
 | inLoop (c:AC) (ks ids:List Nat)
 | inScope
inductive XY where
 | tmp (t:Nat)
 | cell (t n:Nat) (ag:Bool)
def Ql (P:Program) (N:Fm):AC->Code->Bool
 | .gh _ _ _ _ _ c,c'=>Ql P N c c'
 | .frz _ _ _ _ c,c'=>Ql P N c c'
 | .fz _ _ c,c'=>Ql P N c c'
 | .range f ps x y ks _,.rangeFunc f' ps' x' y'=>f.is f'&&ps==ps'.toList&&ps.all (fun p=>decide (p<N.n)&&!ks.contains p)&&Ql P ⟨N.n,ks⟩ x x'&&Ql P ⟨N.n,ks⟩ y y'
 | .nxt d dx x _,.region _ ops d'=>!d'&&Qdp N d dx x ops
 | .skip,.skip=>true
 | .ops l d,.region _ ops d'=>d==d'&&Ju P N l ops d
 | .seq x y,.seq x' y'=>Ql P N x x'&&Ql P N y y'
 | .cond c x y,.cond c' x' y'=>c.is c'&&Ql P N x x'&&Ql P N y y'
 | .block id c,.block id' c'=>id==id'&&Ql P N c c'
 | .loop c _ _,.loop c'=>Ql P N c c'
 | .exit id,.exit id'=>id==id'
 | .scope c,.scope c'=>Ql P N c c'
 | .label l,.label l'=>l==l'
 | .ret,.ret=>true
 | _,_=>false
def Jl (id:Nat):List AI->Option (List AI)
 | .inBlock id'::k=>if id'==id then some k else Jl id k
 | _::k=>Jl id k
 | []=>none
def Q1 (ks ids:List Nat) (e:Env):Env:=ks.map fun t=>(t,scr ids (look e t))
def ZE (all:List Nat) (o:Qk):List Nat->Qk
 | []=>[]
 | id::r=>match Qc o id with
   | some x=>(id,qV all x)::ZE all o r
   | none=>ZE all o r
def QkJ (ids:List Nat) (o:Qk):Nat->Option AO:=fun i=>if ids.contains i then none else Qc o i
def Qkn (lod:Nat->Option AO) (ids:List Nat) (x:AV):AV:=match imm lod 40 x with
 | some y=>.iv y
 | none=>scr ids x
def Qkb (lod:Nat->Option AO) (ids:List Nat):List AV->List AV
 | []=>[]
 | x::r=>Qkn lod ids x::Qkb lod ids r
def Qmz (lod:Nat->Option AO) (ids:List Nat):AO->AO
 | .box cs=>.box (Qkb lod ids cs)
 | .arr e sz es mv=>.arr e sz (es.map (Qkb lod ids)) mv
 | o=>o
def QmA (lod:Nat->Option AO) (ks ids:List Nat) (e:Env):Env:=match ks with
 | []=>[]
 | t::r=>(t,Qkn lod ids (look e t))::QmA lod r ids e
def VO (lod:Nat->Option AO) (all:List Nat) (o:Qk):List Nat->Qk
 | []=>[]
 | id::r=>match Qc o id with
   | some x=>(id,Qmz lod all x)::VO lod all o r
   | none=>VO lod all o r
def QuE (e:Env) (o:Qk):XY->Option IV
 | .tmp t=>imm (Qc o) 40 (look e t)
 | .cell t n ag=>match look e t with
   | .loc id off=>match Qc o id with
     | some (.box cs)=>match ag with
       | true=>if off+n<=cs.length then (imms (Qc o) 40 ((cs.drop off).take n)).map .agg else none
       | false=>if n=1 then (match cs[off]? with | some c=>imm (Qc o) 40 c | none=>none) else none
     | _=>none
   | _=>none
def Qf6 (e:Env) (o:Qk):List XY->Option (List IV)
 | []=>some []
 | x::r=>match QuE e o x,Qf6 e o r with
   | some y,some ys=>some (y::ys)
   | _,_=>none
def QnC (res:List XY) (e:Env) (o:Qk):Option IV :=
 match Qf6 e o res with
 | some [x]=>some x
 | some xs=>some (.tup xs)
 | none=>none
def QG (P:Program):List XY->List ResultVar->Bool
 | [],[]=>true
 | .tmp t::r,.tmp t'::s=>t==t'&&QG P r s
 | .cell t n ag::r,.cell t' T::s=>t==t'&&Program.agg P T==some ag&&Program.sizeIs P T n&&QG P r s
 | _,_=>false
def Uf:List Nat->List IV->Env->Env
 | p::ps,x::xs,e=>Uf ps xs ((p,.iv x)::e)
 | _,_,e=>e
def QcO:AV->Option (FuncId × List IV × List IV)
 | .iv (.fn g)=>some (g,[],[])
 | .iv (.clo g fs cs)=>some (g,fs,cs)
 | _=>none
def Way.jump:Way->Option AC
 | .fall=>none
 | .ret=>some .ret
 | .exit id=>some (.exit id)
def QdA (wy:Way) (k:List AI):List AI :=
 match wy.jump with
 | none=>k
 | some c=>.code c::k
inductive WpF (P:Program) (K:World->Prop):(Way->Env->Qk->Prop)->List AI->Env->Qk->Prop
 | skip (F:Way->Env->Qk->Prop) (k:List AI) (e:Env) (o:Qk) (h:WpF P K F k e o):WpF P K F (.code .skip::k) e o
 | region (F:Way->Env->Qk->Prop) (l:List QN) (draw:Bool) (k:List AI) (e:Env) (o:Qk) (C:Env->Qk->Prop) (h:Qg P K C l e o) (hC:∀ e o,C e o->WpF P K F k e o):WpF P K F (.code (.ops l draw)::k) e o
 | seq (F:Way->Env->Qk->Prop) (x y:AC) (k:List AI) (e:Env) (o:Qk) (h:WpF P K F (.code x::.code y::k) e o):WpF P K F (.code (.seq x y)::k) e o
 | cond (F:Way->Env->Qk->Prop) (c:Opd) (x y:AC) (k:List AI) (e:Env) (o:Qk) (b:Bool) (hc:c.av (look e)=.iv (.bool b)) (ht:b=true->WpF P K F (.code x::k) e o) (hf:b=false->WpF P K F (.code y::k) e o) :
   WpF P K F (.code (.cond c x y)::k) e o
 | block (F:Way->Env->Qk->Prop) (id:Nat) (c:AC) (k:List AI) (e:Env) (o:Qk) (h:WpF P K F (.code c::.inBlock id::k) e o):WpF P K F (.code (.block id c)::k) e o
 | inBlock (F:Way->Env->Qk->Prop) (id:Nat) (k:List AI) (e:Env) (o:Qk) (h:WpF P K F k e o):WpF P K F (.inBlock id::k) e o
 | loop (F:Way->Env->Qk->Prop) (c:AC) (ks ids:List Nat) (k:List AI) (e:Env) (o:Qk) (h:WpF P K F (.code c::.inLoop c ks ids::k) (Q1 ks ids e) (ZE ids o ids)):WpF P K F (.code (.loop c ks ids)::k) e o
 | inLoop (F:Way->Env->Qk->Prop) (c:AC) (ks ids:List Nat) (k:List AI) (e:Env) (o:Qk) (h:WpF P K F (.code c::.inLoop c ks ids::k) (Q1 ks ids e) (ZE ids o ids)):WpF P K F (.inLoop c ks ids::k) e o
 | scope (F:Way->Env->Qk->Prop) (c:AC) (k:List AI) (e:Env) (o:Qk) (h:WpF P K F (.code c::.inScope::k) e o):WpF P K F (.code (.scope c)::k) e o
 | inScope (F:Way->Env->Qk->Prop) (k:List AI) (e:Env) (o:Qk) (h:WpF P K F k e o):WpF P K F (.inScope::k) e o
 | label (F:Way->Env->Qk->Prop) (l:Nat) (k:List AI) (e:Env) (o:Qk) (h:WpF P K F k e o):WpF P K F (.code (.label l)::k) e o
 | exit (F:Way->Env->Qk->Prop) (id:Nat) (k k':List AI) (e:Env) (o:Qk) (hk:Jl id k=some k') (h:WpF P K F k' e o):WpF P K F (.code (.exit id)::k) e o
 | nxt (F:Way->Env->Qk->Prop) (d dx:Nat) (x:Opd) (id:Nat) (k:List AI) (e:Env) (o:Qk) (kvs:List (MK × IV)) (seen:List Nat) (hx:x.av (look e)=.oref id) (ho:Qc o id=some (.miter kvs seen))
   (hend:(∀ i,i<kvs.length->i∈seen)->WpF P K F k (bnd (some dx) (.iv (.bool false)) (bnd (some d) (.iv (.tup [.bool false])) e)) o)
   (hmore:∀ i q,kvs[i]?=some q->i ∉ seen->WpF P K F k (bnd (some dx) (.iv (.bool true)) (bnd (some d) (.iv (.tup [.bool true,q.1.iv,q.2])) e)) (Xf id (.miter kvs (i::seen)) o)):WpF P K F (.code (.nxt d dx x id)::k) e o
 | gh (F:Way->Env->Qk->Prop) (id bid off:Nat) (t:TypeId) (sz:Nat) (c:AC) (k:List AI) (e:Env) (o:Qk) (cs:List AV) (hid:Qc o id=none) (hb:Qc o bid=some (.box cs)) (hc:cs[off]?=some (.nilr sz))
   (h:WpF P K F (.code c::k) e (Xf bid (.box (cs.set off (.aref id 0))) (Xf id (.arr t sz [] 0) o))):WpF P K F (.code (.gh id bid off t sz c)::k) e o
 | ret (F:Way->Env->Qk->Prop) (k:List AI) (e:Env) (o:Qk) (h:F .ret e o):WpF P K F (.code .ret::k) e o
 | done (F:Way->Env->Qk->Prop) (e:Env) (o:Qk) (h:F .fall e o):WpF P K F [] e o
 | exitOut (F:Way->Env->Qk->Prop) (id:Nat) (k:List AI) (e:Env) (o:Qk) (hk:Jl id k=none) (h:F (.exit id) e o):WpF P K F (.code (.exit id)::k) e o
 | frz (F:Way->Env->Qk->Prop) (t id:Nat) (ks ids:List Nat) (c:AC) (k:List AI) (e:Env) (o:Qk) (cs:List AV) (xs:List IV) (ht:look e t=.loc id 0) (hb:Qc o id=some (.box cs)) (hc:ivs cs=some xs) (hn:ids.contains id=false)
   (h:WpF P K F (.code c::k) (bnd (some t) (.iv (.ptr xs)) (Q1 ks ids e)) (ZE ids o ids)):WpF P K F (.code (.frz t id ks ids c)::k) e o
 | range (F:Way->Env->Qk->Prop) (f:Opd) (ps:List Nat) (asn body:AC) (ks ids:List Nat) (k:List AI) (e:Env) (o:Qk) (g:FuncId) (fs cs:List IV) (L:List (List IV)) (St:Nat->Qk) (Wy:Nat->Way) (m:Nat) (M:Nat->Env->Qk->Prop)
   (hf:QcO (f.av (look e))=some (g,fs,cs)) (hc:callee P g=true) (hit:Qbz P K g fs cs L) (h0:St 0=ZE ids o ids) (hm:m<=L.length) (hall:∀ i,i+1<m->Wy i=.fall) (hend:m=L.length\/(0<m/\Wy (m-1)≠.fall))
   (hlen:∀ i x,i<m->L[i]?=some x->x.length=ps.length)
   (h1:∀ i x,i<m->L[i]?=some x->WpF P K (fun wy e1 o1=>wy=.fall/\M i e1 o1) [.code asn] (Uf ps x (Q1 ks ids e)) (St i))
   (h2:∀ i e1 o1,i<m->M i e1 o1->WpF P K (fun wy e2 o2=>wy=Wy i/\Q1 ks ids e2=Q1 ks ids e/\ZE ids o2 ids=St (i+1)) [.code body] e1 o1)
   (h3:WpF P K F (QdA (if m=0 then .fall else Wy (m-1)) k) (Q1 ks ids e) (St m)):WpF P K F (.code (.range f ps asn body ks ids)::k) e o
 | fz (F:Way->Env->Qk->Prop) (ks ids:List Nat) (c:AC) (k:List AI) (e:Env) (o:Qk)
   (h:WpF P K F (.code c::k) (QmA (QkJ ids o) ks ids e) (VO (QkJ ids o) ids o ids)):WpF P K F (.code (.fz ks ids c)::k) e o
 | rangeS (F:Way->Env->Qk->Prop) (f:Opd) (ps:List Nat) (asn body:AC) (ks ids:List Nat) (k:List AI) (e:Env) (o:Qk) (g:FuncId) (fs cs:List IV) (S:List (List IV)->Prop) (St:List (List IV)->Qk) (M:List (List IV)->Env->Qk->Prop)
   (hf:QcO (f.av (look e))=some (g,fs,cs)) (hc:callee P g=true) (hit:Qut P K g fs cs S) (h0:St []=ZE ids o ids)
   (hlen:∀ p x,Beg S (p++[x])->x.length=ps.length)
   (h1:∀ p x,Beg S (p++[x])->WpF P K (fun wy e1 o1=>wy=.fall/\M (p++[x]) e1 o1) [.code asn] (Uf ps x (Q1 ks ids e)) (St p))
   (h2:∀ p x e1 o1,Beg S (p++[x])->M (p++[x]) e1 o1->WpF P K (fun wy e2 o2=>wy=.fall/\Q1 ks ids e2=Q1 ks ids e/\ZE ids o2 ids=St (p++[x])) [.code body] e1 o1)
   (h3:∀ Lx,S Lx->WpF P K F k (Q1 ks ids e) (St Lx)):WpF P K F (.code (.range f ps asn body ks ids)::k) e o
def Xi (res:List XY) (r:IV) (e:Env) (o:Qk):Prop:=QnC res e o=some r
inductive Fit (P:Program) (N:Fm) (tl:List Item):List AI->List Item->Prop
 | nil:Fit P N tl [] tl
 | code (c:AC) (c':Code) (k:List AI) (k':List Item) (h:Ql P N c c'=true) (hk:Fit P N tl k k'):Fit P N tl (.code c::k) (.code c'::k')
 | inBlock (id:Nat) (k:List AI) (k':List Item) (hk:Fit P N tl k k'):Fit P N tl (.inBlock id::k) (.inBlock id::k')
 | inScope (c':Code) (k:List AI) (k':List Item) (hk:Fit P N tl k k'):Fit P N tl (.inScope::k) (.inScope c'::k')
 | inLoop (c:AC) (c':Code) (ks ids:List Nat) (k:List AI) (k':List Item) (h:Ql P N c c'=true) (hk:Fit P N tl k k'):Fit P N tl (.inLoop c ks ids::k) (.inLoop c'::k')
theorem Fit.exit {P:Program} {N:Fm} {tl:List Item} {id:Nat} {k:List AI} {k':List Item} (h:Fit P N tl k k'):∀ {j:List AI},Jl id k=some j->∃ j',exitTo id k'=some j'/\Fit P N tl j j':=by
 induction h with
 | nil=>intro j hj;simp[Jl] at hj
 | code c c' k k' h hk ih=>intro j hj;simp only[Jl] at hj;simp only[exitTo];exact ih hj
 | inBlock id' k k' hk ih =>
   intro j hj;simp only[Jl] at hj;simp only[exitTo]
   grind
 | inScope c' k k' hk ih=>intro j hj;simp only[Jl] at hj;simp only[exitTo];exact ih hj
 | inLoop c c' ks ids k k' h hk ih=>intro j hj;simp only[Jl] at hj;simp only[exitTo];exact ih hj
theorem Fit.exitOut {P:Program} {N:Fm} {tl:List Item} {id:Nat} (htl:exitTo id tl=none) {k:List AI} {k':List Item} (h:Fit P N tl k k') (hj:Jl id k=none):exitTo id k'=none:=by
 induction h with
 | nil=>exact htl
 | code c c' k k' h hk ih=>simp only[Jl] at hj;simp only[exitTo];exact ih hj
 | inBlock id' k k' hk ih =>
   simp only[Jl] at hj;simp only[exitTo]
   grind
 | inScope c' k k' hk ih=>simp only[Jl] at hj;simp only[exitTo];exact ih hj
 | inLoop c c' ks ids k k' h hk ih=>simp only[Jl] at hj;simp only[exitTo];exact ih hj
def Reach (P:Program) (f:FuncId) (cs:List Frame) (m:Machine) (R:Value->World->Prop):Prop :=
 ∃ w' fr v,Steps P m (lone fr cs w')/\fr.fn=f/\fr.leaving P w' (.returned v)/\R v w'
theorem Reach.steps {P f cs m m' R} (h:Steps P m m') (hr:Reach P f cs m' R):Reach P f cs m R :=
 let ⟨w',fr,v,h1,h2⟩:=hr
 ⟨w',fr,v,h.trans h1,h2⟩
section
variable {P:Program} {K:World->Prop} {ok0:Nat->Prop} {N:Fm} {w0:ZR} {a:Act} {w:World} {L:Nat->Lay}
theorem Qhi {ok ok' lo lo' ids} (hok:∀ b,ok b->ok' b) (hlo:∀ id o,ids.contains id=true->lo id=some o->lo' id=some (qV ids o)) {x v} (h:Qs ok w lo L x v):Qs ok' w lo' L (scr ids x) v:=by
 induction h with
 | iv x v h=>simp only[scr];exact .iv _ _ (h.mono fun b hb _=>⟨hok b hb,rfl⟩)
 | oref id b o ho hn hL =>
   simp only[scr];split
   ·cases o<;>cases hn<;>grind [qV]
   ·exact .iv _ _ (.any _)
 | _ =>
   simp only[scr]
   try split
   all_goals first | exact .iv _ _ (.any _) | grind [qV,Vd,Y8]
theorem Qaa (ids e):∀ ks t,look (Q1 ks ids e) t=.iv .any\/look (Q1 ks ids e) t=scr ids (look e t)
 | [],t=>.inl rfl
 | k::r,t=>by
   simp only[Q1,QzH,look];split
   ·rename_i h;subst h;exact .inr rfl
   ·exact Qaa ids e r t
theorem ZM (all o):∀ l id,Qc (ZE all o l) id=if l.contains id then (Qc o id).map (qV all) else none
 | [],id=>by simp[ZE,Qc]
 | i::r,id=>by
   simp only[ZE];split
   ·rename_i x hx
    simp only[Qc,ZM all o r id];by_cases h:id=i
    ·subst h;simp[hx]
    ·simp[h]
   ·rename_i hx
    rw[ZM all o r id];by_cases h:id=i
    ·subst h;simp[hx]
    ·simp[h]
theorem Rel.keep {e o} (h:Rel ok0 N w0 (look e) (Qc o) a w L) (ks ids):Rel ok0 N w0 (look (Q1 ks ids e)) (Qc (ZE ids o ids)) a w L:=by
 have hlo:∀ id ob,ids.contains id=true->Qc o id=some ob->Qc (ZE ids o ids) id=some (qV ids ob):=by
  intro id ob hc hob;rw[ZM,if_pos hc,hob];rfl
 have hinv:∀ id ob,Qc (ZE ids o ids) id=some ob->∃ ob0,Qc o id=some ob0/\ob=qV ids ob0:=by
  intro id ob hob;rw[ZM] at hob;split at hob
  ·cases hq:Qc o id with
   | _=>grind
  ·cases hob
 have hok:∀ b,okL ok0 (Qc o) L b->okL ok0 (Qc (ZE ids o ids)) L b:=fun b hb =>
  ⟨hb.1,fun id ob hob=>by obtain ⟨q,hq,_⟩:=hinv id ob hob;exact hb.2 id q hq⟩
 refine ⟨h.below,h.defers.stay (fun _ _ _=>rfl) (fun r _ hn i oi hi=>by obtain ⟨q,hq,_⟩:=hinv i oi hi;exact hn i q hq),h.size,fun t=>?_,fun id ob hob=>?_,fun i j oi oj b hij hi hj=>?_,h.pin⟩
 ·rcases Qaa ids e ks t with hq | hq
  ·rw[hq];exact .iv _ _ (.any _)
  ·rw[hq];exact Qhi hok hlo (h.env t)
 ·obtain ⟨q,hq,rfl⟩:=hinv id ob hob
  exact QbQ ⟨rfl,rfl,rfl,Qzq _⟩ (fun b hb _=>⟨hok b hb,rfl⟩) (fun b hb=>⟨((h.objs id q hq).lt hb).1,rfl⟩) (fun b h1 h2=>⟨h1,hok b h2,rfl⟩) (fun x v hx=>Qhi hok hlo hx) (h.objs id q hq)
 ·obtain ⟨p,hp,_⟩:=hinv i oi hi
  obtain ⟨q,hq,_⟩:=hinv j oj hj;exact h.apart i j p q b hij hp hq
end
def qw (b:Frame) (w0:ZR):Prop:=∀ l,b.roundOf=some l->w0.fr l/\∃ r,w0.w.heap[l]?=some (.loop r)
theorem qw.le {b w0 w1} (h:qw b w0) (hl:w0.le w1):qw b w1:=fun l hb=>by
 obtain ⟨h1,r,h2⟩:=h l hb;exact ⟨hl.fr l h1,r,(hl.keep.block l h1).trans h2⟩
def Qux (tl:List Item):Way->List Item->Prop
 | .fall,k=>k=tl
 | .ret,k=>∃ k1,k=.code .ret::k1
 | .exit id,k=>∃ k1,k=.code (.exit id)::k1/\exitTo id k1=none
def Ends (P:Program) (F:Way->Env->Qk->Prop) (b:Frame) (cs:List Frame) (tl:List Item) (N:Fm) (ok0:Nat->Prop) (w0:ZR) (m:Machine):Prop :=
 ∃ wy e o a w w1 L k,F wy e o/\w0.le w1/\Rel ok0 N w1 (look e) (Qc o) a w L/\Qux tl wy k/\Steps P m (lone (b.atR a k) cs w)
theorem Ends.steps {P F b cs tl N ok0 w0 w1 m m'} (hs:Steps P m m') (hl:w0.le w1) (h:Ends P F b cs tl N ok0 w1 m'):Ends P F b cs tl N ok0 w0 m:=by
 obtain ⟨wy,e,o,a,w,w2,L,k,h1,h2,h3,h4,h5⟩:=h;exact ⟨wy,e,o,a,w,w2,L,k,h1,hl.trans h2,h3,h4,hs.trans h5⟩
def Jp (P:Program) (K:World->Prop) (F:Way->Env->Qk->Prop) (k:List AI) (e:Env) (o:Qk):Prop :=
 ∀ (b cs tl) (_:∀ id,exitTo id tl=none) (N ok0 w0) (_:Ctx P K ok0 w0) (_:qw b w0) (k' a w L),
  Fit P N tl k k'->Rel ok0 N w0 (look e) (Qc o) a w L->Ends P F b cs tl N ok0 w0 (lone (b.atR a k') cs w)
theorem Below.trans' {n a b c} (h:Below n a b) (k:Below b.heap.size b c) (hn:n<=b.heap.size):Below n a c :=
 ⟨k.os.trans h.os,k.tape.trans h.tape,k.output.trans h.output,QzT h.size k.size,fun i hi=>(k.block i (QzJ hi hn)).trans (h.block i hi)⟩
section
variable {P:Program} {K:World->Prop} {ok0:Nat->Prop} {N:Fm} {w0:ZR} {lk:Nat->AV} {lo:Nat->Option AO} {a:Act} {w:World} {L:Nat->Lay} {b:Frame}
theorem Rel.redefer {ds} (h:Rel ok0 N w0 lk lo a w L) (hd:US w0.fr lo L w ds):Rel ok0 N w0 lk lo { a with defers:=ds } w L :=
 ⟨h.below,hd,h.size,h.env,h.objs,h.apart,h.pin⟩
theorem QcH (hro:qw b w0) (h:Rel ok0 N w0 lk lo a w L) (ps:Array Tmp) (assign body) :
  ∃ (l:Nat) (mk:List Deferred) (w2:World) (r:Loop),(Instr.enterLoop b.fn a.tmps ps assign body b.roundOf).run P w=.ok (l,mk) w2/\Below w.heap.size w w2/\w.heap.size<=l/\w2.heap[l]?=some (.loop r) /\
   (r.fn=b.fn/\r.tmps=a.tmps/\r.params=ps/\r.assign=assign/\r.body=body/\r.state=.ready/\r.pending=none) /\
   Rel ok0 N w0 lk lo { a with defers:=mk++a.defers } w2 L/\mark l ∉ mk++a.defers:=by
 have old:∀ x,mark x∈a.defers->x<w.heap.size:=by
  intro x hx;obtain ⟨rs,h1,h2,h3⟩:=h.defers;rw[h1] at hx;obtain ⟨y,hy,he⟩:=QzI.1 hx;have:y=x:=by injection he with he;injection he
  subst this;exact (Qzs.1 (h3 y hy).1).1
 cases hb:b.roundOf with
 | none =>
   let w1:=w.alloc (.deferred (some []))
   let r:Loop:={ state:=.ready,pending:=none,fn:=b.fn,tmps:=a.tmps,params:=ps,assign,body,defers:=w.heap.size }
   have hb1:Below w.heap.size w w1:=Qq w _;have hs1:w1.heap.size=w.heap.size+1:=World.size_alloc ..;have hb2:Below w.heap.size w (w1.alloc (.loop r)):=Below.trans' hb1 (Qq w1 _) hb1.size;refine ⟨w.heap.size+1,[mark w.heap.size],w1.alloc (.loop r),r,run_enterLoop_outer _ _ _ _ _,hb2,Nat.le_succ _,?_,⟨rfl,rfl,rfl,rfl,rfl,rfl,rfl⟩,?_,?_⟩
   ·rw[<- hs1];exact World.alloc_heap_new w1 _
   ·have hr:=h.ext hb2
    refine hr.redefer ?_;obtain ⟨rs,h1,h2,h3⟩:=hr.defers;refine ⟨w.heap.size::rs,by rw[h1];rfl,List.nodup_cons.2 ⟨fun hm=>?_,h2⟩,fun x hx=>?_⟩
    ·have:=old w.heap.size (by rw[h1];exact QzI.2 ⟨_,hm,rfl⟩)
     omega
    ·rcases Qz1.1 hx with rfl | hx
     ·refine ⟨?_,h.frlt (Qzq _),fun id o ho hbad=>?_⟩
      ·have h4:=(Qq w1 (.loop r)).block w.heap.size (by omega)
       rw[h4];exact World.alloc_heap_new w _
      ·have:=((h.objs id o ho).lt hbad).2
       omega
     ·exact h3 x hx
   ·intro hm
    rcases QzD.1 hm with hm | hm
    ·simp[mark] at hm
    ·have:=old _ hm
     omega
 | some l0 =>
   obtain ⟨hf0,r0,hr0⟩:=hro l0 hb;have hr0':w.heap[l0]?=some (.loop r0):=(h.below.block l0 hf0).trans hr0
   let r:Loop:={ state:=.ready,pending:=none,fn:=b.fn,tmps:=a.tmps,params:=ps,assign,body,defers:=r0.defers }
   have hb1:Below w.heap.size w (w.alloc (.loop r)):=Qq w _;refine ⟨w.heap.size,[],w.alloc (.loop r),r,?_,hb1,Qzq _,World.alloc_heap_new w _,⟨rfl,rfl,rfl,rfl,rfl,rfl,rfl⟩,h.ext hb1,fun hm=>?_⟩
   ·unfold Instr.enterLoop
    simp only[Sem.run_bind,run_getLoop hr0',run_newObj_alloc,Result.andThen,Sem.run_pure];rfl
   ·have:=old _ hm
    omega
theorem QhL (p x e):look ((p,x)::e)=Yg (look e) (some p) x:=rfl
theorem Rel.params:∀ ps xs vs e a,Rel ok0 N w0 (look e) lo a w L->(∀ p∈ps,N.dst p=true)->vs.length=xs.length ->
  (∀ (k:Nat) (x:IV) (u:Value),xs[k]?=some x->vs[k]?=some u->Qv (okL ok0 lo L) w x u)->Rel ok0 N w0 (look (Uf ps xs e)) lo { a with tmps:=(ps.zip vs).foldl (fun t p=>t.setIfInBounds p.1 p.2) a.tmps } w L
 | [],xs,vs,e,a,h,_,_,_=>by simpa[Uf] using h
 | p::ps,[],[],e,a,h,_,_,_=>by simpa[Uf] using h
 | p::ps,[],v::vs,e,a,h,_,hl,_=>by simp at hl
 | p::ps,x::xs,[],e,a,h,_,hl,_=>by simp at hl
 | p::ps,x::xs,v::vs,e,a,h,hp,hl,hx=>by
   have h1:=h.put (some p) (fun t ht=>by injection ht with ht;subst ht;exact hp p (by simp)) (x:=.iv x) (v:=v) (.iv _ _ (hx 0 x v rfl rfl))
   rw[<- QhL] at h1;have:=Rel.params ps xs vs _ _ h1 (fun q hq=>hp q (by simp[hq])) (by simpa using hl) (fun k y u h2 h3=>hx (k+1) y u (by simpa using h2) (by simpa using h3))
   simpa[Uf,Act.put] using this
def Way.code:Way->Option Code
 | .fall=>none
 | .ret=>some .ret
 | .exit id=>some (.exit id)
def Yi (r:Loop) (wy:Way):Loop:={ r with state:=if wy.code.isNone then .ready else .done,pending:=wy.code }
def Qmp (N:Fm) (a:Act) (eK:Env) (r:Loop) (l:Nat) (o:Qk) (wy:Way) (O D:Nat->Prop) (W:World):Prop :=
 ∃ (L:Nat->Lay) (hlt:∀ b,D b->b<W.heap.size),Rel D N ⟨W,fun b=>D b/\¬ O b,fun b hb=>hlt b hb.1,fun t=>a.tmps.getD t undef⟩ (look eK) (Qc o) a W L/\W.heap[l]?=some (.loop (Yi r wy)) /\
  (∀ b,O b↔b=l\/mark b∈a.defers\/∃ id ob,Qc o id=some ob/\(L id).has b)/\(∀ b,O b->D b)/\(∀ id ob,Qc o id=some ob->¬ (L id).has l)/\mark l ∉ a.defers
theorem US.block {fr ds x} (h:US fr lo L w ds) (hx:mark x∈ds):w.heap[x]?=some (.deferred (some []))/\¬ fr x/\∀ id o,lo id=some o->¬ (L id).has x:=by
 obtain ⟨rs,h1,h2,h3⟩:=h;rw[h1] at hx;obtain ⟨y,hy,he⟩:=QzI.1 hx;have:y=x:=by injection he with he;injection he
 subst this;exact h3 y hy
theorem US.az {fr fr' lo' L' w' ds} (h:US fr lo L w ds) (hx:∀ x,mark x∈ds->w'.heap[x]?=w.heap[x]?/\¬ fr' x/\∀ id o,lo' id=some o->¬ (L' id).has x):US fr' lo' L' w' ds:=by
 obtain ⟨rs,h1,h2,h3⟩:=h;refine ⟨rs,h1,h2,fun x hm=>?_⟩
 grind
theorem XN {x o} (h:w.heap[x]?=some o) (ho:(∀ c t f,o≠.cells c t f)/\∀ es k,o≠.map es k):¬ Yy w x:=by
 rintro (⟨c,t,f,h1⟩ | ⟨es,k,h1⟩)<;>rw[h] at h1<;>injection h1 with h1
 ·exact ho.1 _ _ _ h1
 ·exact ho.2 _ _ h1
theorem Qmp.stay {eK r l o wy O D W W'} (h:Qmp N a eK r l o wy O D W) (hk:QL D W W'):Qmp N a eK r l o wy O D W':=by
 obtain ⟨L,hlt,h1,h2,h3,h4,h5,h6⟩:=h;have hO:∀ x,O x->W'.heap[x]?=W.heap[x]?:=fun x hx=>hk.block x (h4 x hx)
 refine ⟨L,fun b hb=>QzJ (hlt b hb) hk.size,?_,(hO l ((h3 l).2 (.inl rfl))).trans h2,h3,h4,h5,h6⟩
 refine h1.move ⟨hk.os,hk.tape,hk.output,hk.size⟩ (QL.refl _ _) (h1.defers.az fun x hx=>?_) h1.size h1.env (fun t ht=>rfl) (fun b hb _=>⟨hb.1,hk.block b hb.1⟩) (fun id ob b ho hb=>?_) (fun b hb _=>⟨hb,hb.1,hk.block b hb.1⟩)
 ·have:=h1.defers.block hx
  exact ⟨hO x ((h3 x).2 (.inr (.inl hx))),this.2.1,this.2.2⟩
 grind
def QkI (N:Fm) (a:Act) (eK:Env) (r:Loop) (l:Nat) (o:Qk) (wy:Way):Ext :=
 ⟨.func (.yield l) #[] #[],rfl,Qmp N a eK r l o wy,fun _ _ _ _ h hk=>h.stay hk⟩
theorem Qki (ps:Array Tmp) (vs:List Value) (t0:Array Value):(ps.zip vs.toArray).foldl (fun tmps (t,a)=>tmps.setIfInBounds t a) t0=(ps.toList.zip vs).foldl (fun t p=>t.setIfInBounds p.1 p.2) t0:=by
 rw[<- Array.foldl_toList,Array.toList_zip]
end
theorem putObj_size (w:World) (l:Nat) (o:Obj):(w.putObj l o).heap.size=w.heap.size:=World.putObj_size
theorem Qm {w:World} {l x:Nat} {o:Obj} (h:x≠l):(w.putObj l o).heap[x]?=w.heap[x]?:=World.putObj_heap_other h
theorem WI {w:World} {l:Nat} {r o:Obj} (h:w.heap[l]?=some r):(w.putObj l o).heap[l]?=some o:=World.putObj_heap_same (Qzs.1 h).1
theorem QL.put {Fr:Nat->Prop} (w:World) (l:Nat) (o:Obj) (h:¬ Fr l):QL Fr w (w.putObj l o) :=
 ⟨rfl,rfl,rfl,by rw[putObj_size];exact Qzq _,fun k hk=>Qm (fun e=>h (e▸hk))⟩
section
variable {P:Program} {K:World->Prop} {N:Fm} {a:Act}
theorem Qho {b c:Frame} {cs:List Frame} {ac:Act} {l:Nat} {w:World} {r:Loop} {wy:Way} {k:List Item} (hb:b.roundOf=some l) (hk:b.kind=.normal) (hw:Qux [] wy k) (hr:w.heap[l]?=some (.loop r)) :
  step P (lone (b.atR ac k) (c::cs) w)=.next (lone (c.finish (.bool wy.code.isNone)) cs (w.putObj l (.loop { r with state:=if wy.code.isNone then .ready else .done,pending:=wy.code }))):=by
 have he:=run_endRound (P:=P) wy.code hr;cases wy with
 | fall =>
   have hk':k=[]:=hw;subst hk';exact stepR_round_end hb hk he
 | ret =>
   obtain ⟨k1,rfl⟩:=hw;exact stepR_round_ret hb hk he
 | exit id =>
   obtain ⟨k1,rfl,hx⟩:=hw;exact stepR_round_exit hb hk hx he
theorem Wz {eK:Env} {r:Loop} {l:Nat} {o o':Qk} {wy:Way} {ps:List Nat} {ks ids:List Nat} {asn body:AC} {casn cbody:Code} {x:List IV} {M:Env->Qk->Prop}
  (hks:∀ t,ks.contains t=false->look eK t=.iv .any)
  (hps:∀ p∈ps,p<N.n/\ks.contains p=false) (hr1:r.tmps=a.tmps) (hr2:r.params=ps.toArray) (hr3:r.assign=casn) (hr4:r.body=cbody)
  (hc1:Ql P ⟨N.n,ks⟩ asn casn=true) (hc2:Ql P ⟨N.n,ks⟩ body cbody=true) (hx:x.length=ps.length)
  (h1:Jp P K (fun wy e1 o1=>wy=.fall/\M e1 o1) [.code asn] (Uf ps x eK) o)
  (h2:∀ e1 o1,M e1 o1->Jp P K (fun w2 e2 o2=>w2=wy/\Q1 ks ids e2=eK/\ZE ids o2 ids=o') [.code body] e1 o1) :
  XV P K (QkI N a eK r l o .fall) x (.bool wy.code.isNone) (QkI N a eK r l o' wy):=by
 refine ⟨rfl,fun ok O D w vs hp=>?_⟩
 obtain ⟨L,hlt,hrel,hrec,hO,hOD,hnl,hml⟩:=hp.J;have hOl:O l:=(hO l).2 (.inl rfl);have hlsz:l<w.heap.size:=hlt l (hOD l hOl);have hmk:∀ y,mark y∈a.defers->O y/\y≠l:=fun y hy=>⟨(hO y).2 (.inr (.inl hy)),fun e=>hml (e▸hy)⟩
 have hob:∀ id ob y,Qc o id=some ob->(L id).has y->O y:=fun id ob y h3 h4=>(hO y).2 (.inr (.inr ⟨id,ob,h3,h4⟩))
 let bR:Frame:={ (default:Frame) with fn:=r.fn,kind:=.normal,roundOf:=some l }
 have hrec':w.heap[l]?=some (.loop (Yi r .fall)):=hrec;have hsz:vs.toArray.size=(Yi r .fall).params.size:=by simp[Yi,hr2,hp.len,hx]
 let tm:Array Value:=(ps.zip vs).foldl (fun t p=>t.setIfInBounds p.1 p.2) a.tmps
 have hyrun:(Instr.yield l vs.toArray).run P w=.ok (.round l r.fn tm casn cbody) w:=by
  rw[run_yield hrec' hsz,Qki];simp[Yi,hr2,hr1,hr3,hr4,tm]
 refine ⟨_,.yield l vs w r.fn tm casn cbody hyrun,fun c cs=>?_⟩
 have hbegun:begun P c cs w (.round l r.fn tm casn cbody)=lone (bR.atR { tmps:=tm,defers:=[] } [.code casn,.beginRound,.code cbody]) (c::cs) w:=by
  simp[begun,Frame.round,Frame.atR,bR]
 rw[hbegun]
 let frR:Nat->Prop:=fun y=>y<w.heap.size/\(¬ O y\/y=l\/mark y∈a.defers)
 let wR:ZR:={ w:=w,fr:=frR,lt:=fun y hy=>hy.1,pin:=fun t=>a.tmps.getD t undef }
 let okR:Nat->Prop:=fun y=>ok y/\y≠l/\mark y ∉ a.defers
 have hDok:∀ y,D y->ok y:=fun y hy=>(hp.okd y hy).elim (hp.own y) (fun h=>h)
 have hctx:Ctx P K okR wR:=by
  refine ⟨fun w' hk=>hp.hK w' (hk.mono fun y hy=>⟨hy.1,.inl hy.2⟩),fun y hy=>?_⟩
  by_cases hys:y<w.heap.size
  ·grind
  ·refine ⟨hp.new y (QAA.1 hys),fun e=>by omega,fun e=>?_⟩
   grind
 have hfrl:frR l:=⟨hlsz,.inr (.inl rfl)⟩
 have harR:qw bR wR:=fun l' hl'=>by
  grind
 have hrel0:Rel okR ⟨N.n,ks⟩ wR (look eK) (Qc o) { tmps:=a.tmps,defers:=[] } w L:=by
  refine hrel.move ⟨rfl,rfl,rfl,Qzq _⟩ (QL.refl _ _) ⟨[],rfl,QAL,by simp⟩ hrel.size hrel.env (fun t _=>rfl) (fun y hy hpl=>⟨⟨hDok y hy.1,?_,?_⟩,rfl⟩) (fun id ob y ho hy=>⟨?_,rfl⟩) (fun y hy hok=>⟨⟨hlt y hy.1,.inl hy.2⟩,⟨hDok y hy.1,?_,?_⟩,rfl⟩)
  ·rintro rfl
   exact XN hrec' ⟨by simp,by simp⟩ hpl
  ·intro hm
   exact XN (hrel.defers.block hm).1 ⟨by simp,by simp⟩ hpl
  ·rintro ⟨_,h3 | rfl | h3⟩
   ·exact h3 (hob id ob y ho hy)
   ·exact hnl id ob ho hy
   ·exact (hrel.defers.block h3).2.2 id ob ho hy
  all_goals grind
 have hrelP:=Rel.params ps x vs eK _ hrel0 (fun p hp'=>by have h3:=(hps p hp').2;simp only[Fm.dst,(hps p hp').1,h3];rfl) hp.len (fun k z u h3 h4=>(hp.args k z u h3 h4).move fun y hy hpl=>⟨⟨⟨hy.1,fun e=>hy.2 (e▸hOl),fun hm=>hy.2 (hmk y hm).1⟩,fun id ob ho hb=>hy.2 (hob id ob y ho hb)⟩,rfl⟩)
 obtain ⟨wy1,e1,o1,a1,w1,wB,L1,k1,⟨rfl,hM⟩,hle1,hr1',hat1,hst1⟩:=h1 bR (c::cs) [.beginRound,.code cbody] (fun id=>by simp[exitTo]) ⟨N.n,ks⟩ okR wR hctx harR _ _ w L (.code asn casn [] _ hc1 .nil) hrelP
 have hk1:k1=[.beginRound,.code cbody]:=hat1;subst hk1;have hkR1:QL frR w w1:=hle1.keeps hr1'.below;have hrec1:w1.heap[l]?=some (.loop (Yi r .fall)):=(hkR1.block l hfrl).trans hrec';have hready:(Yi r .fall).state=.ready:=rfl;have hbegin:=stepR_beginRound (P:=P) (b:=bR) (a:=a1) (k:=[.code cbody]) (cs:=c::cs) (l:=l) rfl (run_beginRound hrec1 hready)
 let w1':World:=w1.putObj l (.loop { Yi r .fall with state:=.busy })
 have hs1':w1'.heap.size=w1.heap.size:=putObj_size _ _ _;have hfB:∀ y,frR y->wB.fr y:=hle1.fr
 let wB':ZR:={ w:=w1',fr:=wB.fr,lt:=fun y hy=>by rw[hs1'];exact hr1'.frl y hy,pin:=wB.pin }
 have hrec1':w1'.heap[l]?=some (.loop { Yi r .fall with state:=.busy }):=WI hrec1
 have hkO1:QL (fun y=>y<w.heap.size/\¬ O y) w w1':=(hkR1.mono fun y hy=>⟨hy.1,.inl hy.2⟩).trans (QL.put w1 l _ fun hf=>hf.2 hOl)
 have hctx':Ctx P K okR wB':=⟨fun w' hk=>hp.hK w' (hkO1.trans (hk.mono fun y hy=>hfB y ⟨hy.1,.inl hy.2⟩)),fun y hy=>(hctx.le hle1).ok y hy⟩
 have harB':qw bR wB':=fun l' hl'=>by
  grind
 have hrelB:Rel okR ⟨N.n,ks⟩ wB' (look e1) (Qc o1) a1 w1' L1:=by
  have hne:∀ y,okR y->y≠l:=fun y hy=>hy.2.1
  refine hr1'.move ⟨rfl,rfl,rfl,by rw[hs1'];exact Qzq _⟩ (QL.refl _ _) (hr1'.defers.az fun y hy=>?_) hr1'.size hr1'.env hr1'.pin (fun y hy _=>⟨hy.1,Qm (hne y hy.1)⟩) (fun id ob y ho hy=>?_) (fun y hy hok=>⟨hy,hok.1,Qm (hne y hok.1)⟩)
  ·have h3:=hr1'.defers.block hy
   exact ⟨Qm (fun e=>by rw[e,hrec1] at h3;cases h3.1),h3.2.1,h3.2.2⟩
  ·have h3:=((hr1'.objs id ob ho).lt hy).1
   exact ⟨h3,Qm fun e=>h3 (e▸hfB l hfrl)⟩
 obtain ⟨wy2,e2,o2,a3,w3,wC,L3,k3,⟨hwy,hkE,hkO⟩,hle2,hr3',hat3,hst3⟩:=h2 e1 o1 hM bR (c::cs) [] (fun id=>by simp[exitTo]) ⟨N.n,ks⟩ okR wB' hctx' harB' _ a1 w1' L1 (.code body cbody [] _ hc2 .nil) hrelB
 subst hwy;have hfC:∀ y,frR y->wC.fr y:=fun y hy=>hle2.fr y (hfB y hy)
 have hkB3:QL wB.fr w1' w3:=hle2.keeps hr3'.below;have hrec3:w3.heap[l]?=some (.loop { Yi r .fall with state:=.busy }):=(hkB3.block l (hfB l hfrl)).trans hrec1'
 have hend:=Qho (P:=P) (b:=bR) (c:=c) (cs:=cs) (ac:=a3) (l:=l) rfl rfl hat3 hrec3
 let w4:World:=w3.putObj l (.loop { Yi r .fall with state:=if wy2.code.isNone then .ready else .done,pending:=wy2.code })
 have hs4:w4.heap.size=w3.heap.size:=putObj_size _ _ _;have hother:∀ y,y≠l->w4.heap[y]?=w3.heap[y]?:=fun y hy=>Qm hy
 have hkO4:QL (fun y=>y<w.heap.size/\¬ O y) w w4:=(hkO1.trans (hkB3.mono fun y hy=>hfB y ⟨hy.1,.inl hy.2⟩)).trans (QL.put w3 l _ fun hf=>hf.2 hOl)
 refine ⟨.bool wy2.code.isNone,w4,?_,(hst1.trans (.head hbegin hst3)).trans (.one hend)⟩;have hr3k:=hr3'.keep ks ids;rw[hkE,hkO] at hr3k;have hnC:∀ id ob y,Qc o' id=some ob->(L3 id).has y->¬ wC.fr y:=fun id ob y ho hy=>((hr3k.objs id ob ho).lt hy).1
 have hmC:∀ y,mark y∈a.defers->wC.fr y:=fun y hy=>hfC y ⟨hlt y (hOD y (hmk y hy).1),.inr (.inr hy)⟩
 let O':Nat->Prop:=fun y=>y=l\/mark y∈a.defers\/∃ id ob,Qc o' id=some ob/\(L3 id).has y
 have hlt4:∀ y,O' y->y<w4.heap.size:=by
  rintro y (rfl | hy | ⟨id,ob,ho,hy⟩)
  ·rw[hs4];exact (Qzs.1 hrec3).1
  ·rw[hs4];exact hr3'.frl y (hmC y hy)
  ·rw[hs4];exact ((hr3k.objs id ob ho).lt hy).2
 let D':Nat->Prop:=fun y=>y<w4.heap.size/\(O' y\/ok y)
 refine ⟨O',D',XB (ok:=fun _=>True) rfl (.bool _),hkO4,?_,?_,fun y hy=>⟨hlt4 y hy,.inl hy⟩,fun y hy=>hy.1,fun y hy=>hy.2⟩
 ·refine ⟨L3,fun y hy=>hy.1,?_,?_,fun y=>Iff.rfl,fun y hy=>⟨hlt4 y hy,.inl hy⟩,fun id ob ho hb=>hnC id ob l ho hb (hfC l hfrl),hml⟩
  ·refine hr3k.move ⟨rfl,rfl,rfl,by rw[hs4];exact Qzq _⟩ (QL.refl _ _) (hrel.defers.az fun y hy=>?_) hrel.size (fun t=>?_) (fun t _=>rfl) (fun y hy hpl=>⟨⟨by rw[hs4];exact hpl.lt,.inr hy.1.1⟩,hother y hy.1.2.1⟩) (fun id ob y ho hy=>⟨fun hf=>hf.2 (.inr (.inr ⟨id,ob,ho,hy⟩)),hother y fun e=>hnC id ob y ho hy (e▸hfC l hfrl)⟩)
    (fun y hy hok=>⟨⟨⟨by rw[hs4];exact hr3'.frl y hy,.inr hok.1.1⟩,?_⟩,⟨by rw[hs4];exact hr3'.frl y hy,.inr hok.1.1⟩,hother y hok.1.2.1⟩)
   ·have hyl:=(hmk y hy).2
    have hfy:frR y:=⟨hlt y (hOD y (hmk y hy).1),.inr (.inr hy)⟩;refine ⟨(hother y hyl).trans ((hkB3.block y (hfB y hfy)).trans ((Qm hyl).trans (hkR1.block y hfy))),fun hf=>hf.2 (.inr (.inl hy)),fun id ob ho hb=>hnC id ob y ho hb (hmC y hy)⟩
   ·by_cases ht:ks.contains t=true
    ·have h3:=hr3k.env t
     have h4:=hr3'.pin t ht
     have hpin:wC.pin t=a.tmps.getD t undef:=by
      rw[hle2.pin];show wB.pin t=_
      rw[hle1.pin]
     rw[h4,hpin] at h3;exact h3
    ·rw[hks t (by simpa using ht)]
     exact .iv _ _ (.any _)
   grind
  ·rw[show w4.heap[l]?=_ from WI hrec3]
   rfl
 grind
end
theorem Yj (ids e):∀ ks t,ks.contains t=false->look (Q1 ks ids e) t=.iv .any
 | [],t,_=>rfl
 | k::r,t,h=>by
   simp only[List.contains_cons,Bool.or_eq_false_iff,beq_eq_false_iff_ne,ne_eq] at h;simp only[Q1,QzH,look,h.1,if_false];exact Yj ids e r t h.2
theorem Qja {ok:Nat->Prop} {w:World} {lo:Nat->Option AO} {L:Nat->Lay} {x:AV} {v:Value} {g:FuncId} {fs cs:List IV} (h:QcO x=some (g,fs,cs)) (hr:Qs ok w lo L x v) :
  ∃ us vs:List Value,v=.func (.func g) us.toArray vs.toArray/\us.length=fs.length/\vs.length=cs.length/\(∀ (k:Nat) (x:IV) (u:Value),fs[k]?=some x->us[k]?=some u->Qv ok w x u) /\
   (∀ (k:Nat) (x:IV) (u:Value),cs[k]?=some x->vs[k]?=some u->Qv ok w x u):=by
 unfold QcO at h;split at h
 ·injection h with h
  injection h with h1 h2
  injection h2 with h2 h3
  subst h1 h2 h3;cases hr with
  | iv _ _ r =>
    cases r;exact ⟨[],[],rfl,rfl,rfl,by simp,by simp⟩
 ·injection h with h
  injection h with h1 h2
  injection h2 with h2 h3
  subst h1 h2 h3;cases hr with
  | iv _ _ r =>
    cases r with
    | clo _ _ _ us vs l1 l2 hf hc=>exact ⟨us,vs,rfl,l1,l2,hf,hc⟩
 ·cases h
section
variable {P:Program} {K:World->Prop}
theorem Uw {a:Act} {f':Operand} {g:FuncId} {us vs:List Value} {l:Nat} {w:World} (hc:callee P g=true) (hv:a.eval f'=.func (.func g) us.toArray vs.toArray) :
  ∃ d:Deferred,(resolve a.eval (rangeCall f' l) 0).run P w=.ok d w/\(invoke d.target d.args).run P w=.ok (.enter g (us++.func (.yield l) #[] #[]::vs).toArray) w:=by
 refine ⟨{ target:=.fn (.func g) vs.toArray,args:=us.toArray++#[.func (.yield l) #[] #[]] },?_,?_⟩
 ·have e:a.eval (.const (.func (.yield l) #[] #[]))=.func (.yield l) #[] #[]:=rfl
  simp[resolve,hv,Deferred.ofValue,e]
 ·unfold callee at hc
  split at hc
  ·rename_i fn hfn
   simp only[Qzm,QzL,beq_eq_false_iff_ne,ne_eq] at hc;obtain ⟨hb,hn⟩:=hc;have hb':fn.body≠none:=by cases h:fn.body<;>simp_all
   simp[invoke,callFunc,program,Sem.run,hfn,hn,hb']
  ·cases hc
theorem Qk4 {N tl k k1} (wy) (h:Fit P N tl k k1):Fit P N tl (QdA wy k) ((wy.code.map Item.code).toList++k1):=by
 cases wy with
 | fall=>exact h
 | ret=>exact .code .ret .ret _ _ rfl h
 | exit id=>exact .code (.exit id) (.exit id) _ _ (by simp[Ql]) h
theorem Qht {F:Way->Env->Qk->Prop} {f:Opd} {ps:List Nat} {asn body:AC} {ks ids:List Nat} {k:List AI} {e:Env} {o:Qk} {g:FuncId} {fs cs:List IV} {Lx:List (List IV)} {St:Nat->Qk} {Wy:Nat->Way} {m:Nat} {M:Nat->Env->Qk->Prop}
  (hf:QcO (f.av (look e))=some (g,fs,cs)) (hc:callee P g=true) (hit:Qbz P K g fs cs Lx) (h0:St 0=ZE ids o ids) (hm:m<=Lx.length) (hall:∀ i,i+1<m->Wy i=.fall) (hend:m=Lx.length\/(0<m/\Wy (m-1)≠.fall))
  (hlen:∀ i x,i<m->Lx[i]?=some x->x.length=ps.length)
  (h1:∀ i x,i<m->Lx[i]?=some x->Jp P K (fun wy e1 o1=>wy=.fall/\M i e1 o1) [.code asn] (Uf ps x (Q1 ks ids e)) (St i))
  (h2:∀ i e1 o1,i<m->M i e1 o1->Jp P K (fun wy e2 o2=>wy=Wy i/\Q1 ks ids e2=Q1 ks ids e/\ZE ids o2 ids=St (i+1)) [.code body] e1 o1)
  (h3:Jp P K F (QdA (if m=0 then .fall else Wy (m-1)) k) (Q1 ks ids e) (St m)):Jp P K F (.code (.range f ps asn body ks ids)::k) e o:=by
 intro b fr tl htl N ok0 w0 c hro k' a w L hfit hr;cases hfit with
 | code _ c' _ k1 h hk =>
   cases c'<;>simp only[Ql,QzM] at h;rename_i f' ps' casn cbody;simp only[Qzm,beq_iff_eq,QzX,decide_eq_true_eq,QzL] at h;obtain ⟨⟨⟨⟨hff,hps'⟩,hps⟩,hc1⟩,hc2⟩:=h;obtain ⟨us,vs,hv,lu,lv,hus,hvs⟩:=Qja hf (Opd.rep hr hff);have hr1:=hr.keep ks ids;rw[<- h0] at hr1;obtain ⟨l,mk,w2,r,henter,hbel,hlw,hrec,⟨hr_fn,hr_tmps,hr_params,hr_assign,hr_body,hr_state,hr_pend⟩,hr2,hml⟩:=QcH hro hr1 ps' casn cbody;obtain ⟨d,hres,hinv⟩:=Uw (a:=a) (f':=f') (l:=l) (w:=w2) hc hv;have hstep:=stepR_rangeFunc (P:=P) (b:=b) (a:=a) (k:=k1) (cs:=fr) (w:=w) henter hres hinv;generalize ha2:({ a with defers:=mk++a.defers }:Act)=a2 at hr2 hstep
   have hat:a2.tmps=a.tmps:=by rw[<- ha2]
   have had:a2.defers=mk++a.defers:=by rw[<- ha2]
   rw[<- had] at hml;generalize heK:Q1 ks ids e=eK at hr1 hr2 h1 h2 h3;have hks:∀ t,ks.contains t=false->look eK t=.iv .any:=fun t ht=>by rw[<- heK];exact Yj ids e ks t ht
   let WyAt:Nat->Way:=fun i=>if i=0 then .fall else Wy (i-1)
   let E:Nat->Ext:=fun i=>QkI N a2 eK r l (St i) (WyAt i)
   have hrnd:∀ i x,i<m->Lx[i]?=some x->XV P K (E i) x (.bool (Wy i).code.isNone) (E (i+1)):=by
    intro i x hi hx
    have hfall:WyAt i=.fall:=by
     grind
    have:=Wz (N:=N) (a:=a2) (eK:=eK) (r:=r) (l:=l) (o:=St i) (o':=St (i+1)) (wy:=Wy i) (ps:=ps) (ks:=ks) (ids:=ids) (x:=x) (M:=M i) hks hps (by rw[hat];exact hr_tmps) (by rw[hr_params,hps']) hr_assign hr_body hc1 hc2 (hlen i x hi hx) (h1 i x hi hx) (fun e1 o1=>h2 i e1 o1 hi)
    grind
   have hfeeds:∀ n i,i+n=m->(n=0->m=Lx.length)->∃ bb,Zz P K (Lx.drop i) (E i) bb (E m):=by
    intro n
    induction n with
    | zero =>
      intro i hi hn;have:Lx.drop i=[]:=QAI (by have:=hn rfl;omega)
      rw[this];have him:i=m:=by omega
      subst him;exact ⟨true,.nil _⟩
    | succ n ih =>
      intro i hi _;have hil:i<Lx.length:=by omega
      have hx:=Qzk hil;rw[QAm hil];have hg:=hrnd i _ (by omega) hx
      by_cases hw:Wy i=.fall
      ·rw[hw] at hg
       obtain ⟨bb,hb⟩:=ih (i+1) (by omega) (fun hn=>by
        rcases hend with h | ⟨_,h⟩
        ·exact h
        ·have:m-1=i:=by omega
         rw[this] at h;exact absurd hw h)
       exact ⟨bb,.next _ _ _ _ _ _ hg hb⟩
      ·have him:i+1=m:=Classical.byContradiction fun hn=>hw (hall i (by omega))
       have hfalse:(Wy i).code.isNone=false:=by cases hwy:Wy i<;>first | exact absurd hwy hw | rfl
       rw[hfalse] at hg;rw[him] at hg;exact ⟨false,.stop _ _ _ _ hg⟩
   obtain ⟨bb,hfd⟩:=hfeeds m 0 (by omega) (fun hm0=>by rcases hend with h | ⟨h,_⟩;exact h;omega)
   rw[List.drop_zero] at hfd;have hgood:=hit _ _ _ hfd;have hmk:∀ y,mark y∈a2.defers->w2.heap[y]?=some (.deferred (some []))/\¬ w0.fr y/\∀ id ob,Qc (St 0) id=some ob->¬ (L id).has y:=fun y hy=>hr2.defers.block hy
   let O:Nat->Prop:=fun y=>y=l\/mark y∈a2.defers\/∃ id ob,Qc (St 0) id=some ob/\(L id).has y
   let D:Nat->Prop:=fun y=>y<w2.heap.size/\(O y\/ok0 y)
   have hnl0:∀ id ob,Qc (St 0) id=some ob->¬ (L id).has l:=fun id ob ho hb=>by
    have:=((hr1.objs id ob ho).lt hb).2;omega
   have hOf:∀ y,O y->¬ w0.fr y:=by
    rintro y (rfl | hy | ⟨id,ob,ho,hy⟩)
    ·exact hr1.frlt hlw
    ·exact (hmk y hy).2.1
    ·exact ((hr1.objs id ob ho).lt hy).1
   have hOlt:∀ y,O y->y<w2.heap.size:=by
    rintro y (rfl | hy | ⟨id,ob,ho,hy⟩)
    ·exact (Qzs.1 hrec).1
    ·exact (Qzs.1 (hmk y hy).1).1
    ·exact ((hr2.objs id ob ho).lt hy).2
   have hargs:∀ (k:Nat) (x:IV) (u:Value),(fs++cs)[k]?=some x->(us++vs)[k]?=some u->Qv (fun y=>ok0 y/\¬ O y) w2 x u:=by
    have one:∀ (x:IV) (u:Value),Qv (okL ok0 (Qc o) L) w x u->Qv (fun y=>ok0 y/\¬ O y) w2 x u:=fun x u hxu=>hxu.move fun y hy hpl=>by
     have hylt:=hpl.lt;refine ⟨⟨hy.1,?_⟩,hbel.block y hylt⟩
     rintro (rfl | hm | ⟨id,ob,ho,hb⟩)
     ·omega
     ·have h4:=(hmk y hm).1
      rw[hbel.block y hylt] at h4;exact XN h4 ⟨by simp,by simp⟩ hpl
     ·rw[h0,ZM] at ho
      split at ho
      ·cases hq:Qc o id with
       | none=>simp[hq] at ho
       | some q=>exact hy.2 id q hq hb
      ·cases ho
    grind
   have hpre:QeQ K ok0 O D w2 (E 0) (fs++cs) (us++vs):=by
    refine ⟨fun w' hk=>c.hK w' (hr2.below.trans (hk.mono fun y hy=>⟨hr2.frl y hy,fun ho=>hOf y ho hy⟩)),?_,fun y hy=>⟨hOlt y hy,.inl hy⟩,fun y hy=>hy.1,fun y hy=>hy.2,fun y hy=>c.ok y (hr2.frlt hy),fun y hy=>c.ok y (hOf y hy),by simp[lu,lv],hargs⟩
    refine ⟨L,fun y hy=>hy.1,?_,?_,fun y=>Iff.rfl,fun y hy=>⟨hOlt y hy,.inl hy⟩,hnl0,hml⟩
    ·refine hr2.move ⟨rfl,rfl,rfl,Qzq _⟩ (QL.refl _ _) (hr2.defers.az fun y hy=>⟨rfl,fun hf=>hf.2 (.inr (.inl hy)),(hmk y hy).2.2⟩) hr2.size hr2.env (fun t _=>rfl) (fun y hy hpl=>⟨⟨hpl.lt,.inr hy.1⟩,rfl⟩) (fun id ob y ho hy=>⟨fun hf=>hf.2 (.inr (.inr ⟨id,ob,ho,hy⟩)),rfl⟩)
      (fun y hy hok=>⟨⟨⟨hr2.frl y hy,.inr hok.1⟩,fun ho=>hOf y ho hy⟩,⟨hr2.frl y hy,.inr hok.1⟩,rfl⟩)
    ·show w2.heap[l]?=some (.loop (Yi r .fall))
     rw[hrec];cases r;simp only[Yi,Way.code] at hr_state hr_pend |-;subst hr_state hr_pend;rfl
   obtain ⟨en,w3,frx,⟨v,rfl,O',D',hpost⟩,hcomes,_,hleave⟩:=hgood.2 ok0 O D w2 us vs hpre lu (b.atR a2 (.inRangeFunc l::k1)::fr);obtain ⟨L',hlt',hrelE,hrecE,hOE,hODE,hnlE,_⟩:=hpost.J;have hsz3:=hpost.keep.size
   have hback:step P (lone frx (b.atR a2 (.inRangeFunc l::k1)::fr) w3)=.next (lone (b.atR a2 (.endRangeFunc l::k1)) fr w3):=by
    rw[<- finish_atR_inRangeFunc l v];exact step_leave_returned hleave
   have hnb:(Yi r (WyAt m)).state≠.busy:=by
    simp only[Yi];split<;>simp
   have hendl:=stepR_endRangeFunc (P:=P) (b:=b) (a:=a2) (k:=k1) (cs:=fr) (run_endLoop hrecE hnb)
   let w4:World:=w3.putObj l (.loop { Yi r (WyAt m) with state:=.exhausted })
   have hs4:w4.heap.size=w3.heap.size:=putObj_size _ _ _;have hOl':O' l:=(hOE l).2 (.inl rfl);have hnew:∀ y,O' y->¬ w0.fr y:=fun y hy=>(hpost.new y hy).elim (hOf y) (fun h4=>hr2.frlt h4)
   have hk23:QL w0.fr w2 w3:=hpost.keep.mono fun y hy=>⟨hr2.frl y hy,fun ho=>hOf y ho hy⟩
   have hk04:QL w0.fr w0.w w4:=(hr2.below.trans hk23).trans (QL.put w3 l _ (hnew l hOl'))
   have hlt5:∀ y,(w0.fr y\/(D' y/\¬ O' y))->y<w4.heap.size:=by
    intro y hy;rw[hs4];rcases hy with hy | hy
    ·exact QzJ (hr2.frl y hy) hsz3
    ·exact hlt' y hy.1
   let w5:ZR:={ w:=w4,fr:=fun y=>w0.fr y\/(D' y/\¬ O' y),lt:=hlt5,pin:=w0.pin }
   have hle5:w0.le w5:=⟨hk04,fun y hy=>.inl hy,rfl⟩
   have hO5:∀ y,O' y->¬ w5.fr y:=fun y hy hf=>hf.elim (hnew y hy) (fun h4=>h4.2 hy)
   have hrel5:Rel ok0 N w5 (look eK) (Qc (St m)) a2 w4 L':=by
    refine hrelE.move ⟨rfl,rfl,rfl,by rw[hs4];exact Qzq _⟩ (QL.refl _ _) (hrelE.defers.az fun y hy=>?_) hrelE.size hrelE.env (fun t ht=>?_) (fun y hy hpl=>?_) (fun id ob y ho hy=>?_) (fun y hy hok=>?_)
    ·have h4:=hrelE.defers.block hy
     have hyO:O' y:=(hOE y).2 (.inr (.inl hy));exact ⟨Qm fun e=>hml (e▸hy),hO5 y hyO,h4.2.2⟩
    ·rw[hat];exact hr.pin t ht
    ·have hyl:y≠l:=fun e=>by subst e;exact XN hrecE ⟨by simp,by simp⟩ hpl
     refine ⟨?_,Qm hyl⟩;rcases hpost.okd y hy.1 with h4 | h4
     ·exact c.ok y (hnew y h4)
     ·exact h4
    ·have hyO:O' y:=(hOE y).2 (.inr (.inr ⟨id,ob,ho,hy⟩))
     exact ⟨hO5 y hyO,Qm fun e=>hnlE id ob ho (e▸hy)⟩
    ·exact ⟨.inr hy,(hpost.okd y hy.1).resolve_left hy.2,Qm fun e=>hy.2 (e▸hOl')⟩
   have hends:=h3 b fr tl htl N ok0 w5 (c.le hle5) (hro.le hle5) _ a2 w4 L' (Qk4 (WyAt m) hk) hrel5;exact Ends.steps (.head hstep (hcomes.trans (.head hback (.one hendl)))) hle5 hends
theorem Qf8 {F:Way->Env->Qk->Prop} {f:Opd} {ps:List Nat} {asn body:AC} {ks ids:List Nat} {k:List AI} {e:Env} {o:Qk} {g:FuncId} {fs cs:List IV} {S:List (List IV)->Prop} {St:List (List IV)->Qk} {M:List (List IV)->Env->Qk->Prop}
  (hf:QcO (f.av (look e))=some (g,fs,cs)) (hc:callee P g=true) (hit:Qut P K g fs cs S) (h0:St []=ZE ids o ids)
  (hlen:∀ p x,Beg S (p++[x])->x.length=ps.length)
  (h1:∀ p x,Beg S (p++[x])->Jp P K (fun wy e1 o1=>wy=.fall/\M (p++[x]) e1 o1) [.code asn] (Uf ps x (Q1 ks ids e)) (St p))
  (h2:∀ p x e1 o1,Beg S (p++[x])->M (p++[x]) e1 o1->Jp P K (fun wy e2 o2=>wy=.fall/\Q1 ks ids e2=Q1 ks ids e/\ZE ids o2 ids=St (p++[x])) [.code body] e1 o1)
  (h3:∀ Lx,S Lx->Jp P K F k (Q1 ks ids e) (St Lx)):Jp P K F (.code (.range f ps asn body ks ids)::k) e o:=by
 intro b fr tl htl N ok0 w0 c hro k' a w L hfit hr;cases hfit with
 | code _ c' _ k1 h hk =>
   cases c'<;>simp only[Ql,QzM] at h;rename_i f' ps' casn cbody;simp only[Qzm,beq_iff_eq,QzX,decide_eq_true_eq,QzL] at h;obtain ⟨⟨⟨⟨hff,hps'⟩,hps⟩,hc1⟩,hc2⟩:=h;obtain ⟨us,vs,hv,lu,lv,hus,hvs⟩:=Qja hf (Opd.rep hr hff);have hr1:=hr.keep ks ids;rw[<- h0] at hr1;obtain ⟨l,mk,w2,r,henter,hbel,hlw,hrec,⟨hr_fn,hr_tmps,hr_params,hr_assign,hr_body,hr_state,hr_pend⟩,hr2,hml⟩:=QcH hro hr1 ps' casn cbody;obtain ⟨d,hres,hinv⟩:=Uw (a:=a) (f':=f') (l:=l) (w:=w2) hc hv;have hstep:=stepR_rangeFunc (P:=P) (b:=b) (a:=a) (k:=k1) (cs:=fr) (w:=w) henter hres hinv;generalize ha2:({ a with defers:=mk++a.defers }:Act)=a2 at hr2 hstep
   have hat:a2.tmps=a.tmps:=by rw[<- ha2]
   have had:a2.defers=mk++a.defers:=by rw[<- ha2]
   rw[<- had] at hml;generalize heK:Q1 ks ids e=eK at hr1 hr2 h1 h2 h3;have hks:∀ t,ks.contains t=false->look eK t=.iv .any:=fun t ht=>by rw[<- heK];exact Yj ids e ks t ht
   let E:List (List IV)->Ext:=fun p=>QkI N a2 eK r l (St p) .fall
   have hrnd:∀ p x,Beg S (p++[x])->XV P K (E p) x (.bool true) (E (p++[x])):=by
    intro p x hx;exact Wz (N:=N) (a:=a2) (eK:=eK) (r:=r) (l:=l) (o:=St p) (o':=St (p++[x])) (wy:=.fall) (ps:=ps) (ks:=ks) (ids:=ids) (x:=x) (M:=M (p++[x])) hks hps (by rw[hat];exact hr_tmps) (by rw[hr_params,hps']) hr_assign hr_body hc1 hc2 (hlen p x hx) (h1 p x hx) (fun e1 o1=>h2 p x e1 o1 hx)
   have hgood:=hit E hrnd;have hmk:∀ y,mark y∈a2.defers->w2.heap[y]?=some (.deferred (some []))/\¬ w0.fr y/\∀ id ob,Qc (St []) id=some ob->¬ (L id).has y:=fun y hy=>hr2.defers.block hy
   let O:Nat->Prop:=fun y=>y=l\/mark y∈a2.defers\/∃ id ob,Qc (St []) id=some ob/\(L id).has y
   let D:Nat->Prop:=fun y=>y<w2.heap.size/\(O y\/ok0 y)
   have hnl0:∀ id ob,Qc (St []) id=some ob->¬ (L id).has l:=fun id ob ho hb=>by
    have:=((hr1.objs id ob ho).lt hb).2;omega
   have hOf:∀ y,O y->¬ w0.fr y:=by
    rintro y (rfl | hy | ⟨id,ob,ho,hy⟩)
    ·exact hr1.frlt hlw
    ·exact (hmk y hy).2.1
    ·exact ((hr1.objs id ob ho).lt hy).1
   have hOlt:∀ y,O y->y<w2.heap.size:=by
    rintro y (rfl | hy | ⟨id,ob,ho,hy⟩)
    ·exact (Qzs.1 hrec).1
    ·exact (Qzs.1 (hmk y hy).1).1
    ·exact ((hr2.objs id ob ho).lt hy).2
   have hargs:∀ (k:Nat) (x:IV) (u:Value),(fs++cs)[k]?=some x->(us++vs)[k]?=some u->Qv (fun y=>ok0 y/\¬ O y) w2 x u:=by
    have one:∀ (x:IV) (u:Value),Qv (okL ok0 (Qc o) L) w x u->Qv (fun y=>ok0 y/\¬ O y) w2 x u:=fun x u hxu=>hxu.move fun y hy hpl=>by
     have hylt:=hpl.lt;refine ⟨⟨hy.1,?_⟩,hbel.block y hylt⟩
     rintro (rfl | hm | ⟨id,ob,ho,hb⟩)
     ·omega
     ·have h4:=(hmk y hm).1
      rw[hbel.block y hylt] at h4;exact XN h4 ⟨by simp,by simp⟩ hpl
     ·rw[h0,ZM] at ho
      split at ho
      ·cases hq:Qc o id with
       | none=>simp[hq] at ho
       | some q=>exact hy.2 id q hq hb
      ·cases ho
    grind
   have hpre:QeQ K ok0 O D w2 (E []) (fs++cs) (us++vs):=by
    refine ⟨fun w' hk=>c.hK w' (hr2.below.trans (hk.mono fun y hy=>⟨hr2.frl y hy,fun ho=>hOf y ho hy⟩)),?_,fun y hy=>⟨hOlt y hy,.inl hy⟩,fun y hy=>hy.1,fun y hy=>hy.2,fun y hy=>c.ok y (hr2.frlt hy),fun y hy=>c.ok y (hOf y hy),by simp[lu,lv],hargs⟩
    refine ⟨L,fun y hy=>hy.1,?_,?_,fun y=>Iff.rfl,fun y hy=>⟨hOlt y hy,.inl hy⟩,hnl0,hml⟩
    ·refine hr2.move ⟨rfl,rfl,rfl,Qzq _⟩ (QL.refl _ _) (hr2.defers.az fun y hy=>⟨rfl,fun hf=>hf.2 (.inr (.inl hy)),(hmk y hy).2.2⟩) hr2.size hr2.env (fun t _=>rfl) (fun y hy hpl=>⟨⟨hpl.lt,.inr hy.1⟩,rfl⟩) (fun id ob y ho hy=>⟨fun hf=>hf.2 (.inr (.inr ⟨id,ob,ho,hy⟩)),rfl⟩)
      (fun y hy hok=>⟨⟨⟨hr2.frl y hy,.inr hok.1⟩,fun ho=>hOf y ho hy⟩,⟨hr2.frl y hy,.inr hok.1⟩,rfl⟩)
    ·show w2.heap[l]?=some (.loop (Yi r .fall))
     rw[hrec];cases r;simp only[Yi,Way.code] at hr_state hr_pend |-;subst hr_state hr_pend;rfl
   obtain ⟨en,w3,frx,⟨v,rfl,_,⟨Lx,hLx,rfl⟩,O',D',hpost⟩,hcomes,_,hleave⟩:=hgood.2 ok0 O D w2 us vs hpre lu (b.atR a2 (.inRangeFunc l::k1)::fr);obtain ⟨L',hlt',hrelE,hrecE,hOE,hODE,hnlE,_⟩:=hpost.J;have hsz3:=hpost.keep.size
   have hback:step P (lone frx (b.atR a2 (.inRangeFunc l::k1)::fr) w3)=.next (lone (b.atR a2 (.endRangeFunc l::k1)) fr w3):=by
    rw[<- finish_atR_inRangeFunc l v];exact step_leave_returned hleave
   have hnb:(Yi r .fall).state≠.busy:=by
    simp only[Yi];split<;>simp
   have hendl:=stepR_endRangeFunc (P:=P) (b:=b) (a:=a2) (k:=k1) (cs:=fr) (run_endLoop hrecE hnb)
   let w4:World:=w3.putObj l (.loop { Yi r .fall with state:=.exhausted })
   have hs4:w4.heap.size=w3.heap.size:=putObj_size _ _ _;have hOl':O' l:=(hOE l).2 (.inl rfl);have hnew:∀ y,O' y->¬ w0.fr y:=fun y hy=>(hpost.new y hy).elim (hOf y) (fun h4=>hr2.frlt h4)
   have hk23:QL w0.fr w2 w3:=hpost.keep.mono fun y hy=>⟨hr2.frl y hy,fun ho=>hOf y ho hy⟩
   have hk04:QL w0.fr w0.w w4:=(hr2.below.trans hk23).trans (QL.put w3 l _ (hnew l hOl'))
   have hlt5:∀ y,(w0.fr y\/(D' y/\¬ O' y))->y<w4.heap.size:=by
    intro y hy;rw[hs4];rcases hy with hy | hy
    ·exact QzJ (hr2.frl y hy) hsz3
    ·exact hlt' y hy.1
   let w5:ZR:={ w:=w4,fr:=fun y=>w0.fr y\/(D' y/\¬ O' y),lt:=hlt5,pin:=w0.pin }
   have hle5:w0.le w5:=⟨hk04,fun y hy=>.inl hy,rfl⟩
   have hO5:∀ y,O' y->¬ w5.fr y:=fun y hy hf=>hf.elim (hnew y hy) (fun h4=>h4.2 hy)
   have hrel5:Rel ok0 N w5 (look eK) (Qc (St Lx)) a2 w4 L':=by
    refine hrelE.move ⟨rfl,rfl,rfl,by rw[hs4];exact Qzq _⟩ (QL.refl _ _) (hrelE.defers.az fun y hy=>?_) hrelE.size hrelE.env (fun t ht=>?_) (fun y hy hpl=>?_) (fun id ob y ho hy=>?_) (fun y hy hok=>?_)
    ·have h4:=hrelE.defers.block hy
     have hyO:O' y:=(hOE y).2 (.inr (.inl hy));exact ⟨Qm fun e=>hml (e▸hy),hO5 y hyO,h4.2.2⟩
    ·rw[hat];exact hr.pin t ht
    ·have hyl:y≠l:=fun e=>by subst e;exact XN hrecE ⟨by simp,by simp⟩ hpl
     refine ⟨?_,Qm hyl⟩;rcases hpost.okd y hy.1 with h4 | h4
     ·exact c.ok y (hnew y h4)
     ·exact h4
    ·have hyO:O' y:=(hOE y).2 (.inr (.inr ⟨id,ob,ho,hy⟩))
     exact ⟨hO5 y hyO,Qm fun e=>hnlE id ob ho (e▸hy)⟩
    ·exact ⟨.inr hy,(hpost.okd y hy.1).resolve_left hy.2,Qm fun e=>hy.2 (e▸hOl')⟩
   have hends:=h3 Lx hLx b fr tl htl N ok0 w5 (c.le hle5) (hro.le hle5) _ a2 w4 L' hk hrel5;exact Ends.steps (.head hstep (hcomes.trans (.head hback (.one hendl)))) hle5 hends
end
section
variable {P:Program} {K:World->Prop} {ok0:Nat->Prop} {N:Fm} {w0:ZR} {a:Act} {w:World} {L:Nat->Lay} {e:Env} {o:Qk}
def Yw (tmps:Array Value):ResultVar->Sem Value
 | .tmp t=>pure (tmps.getD t undef)
 | .cell a t=>do loadVar t (<- asAddr (tmps.getD a undef))
theorem Qkx (h:Rel ok0 N w0 (look e) (Qc o) a w L) (hok0:∀ b,¬ w0.fr b->ok0 b) {x rs y}
  (hf:QG P [x] [rs]=true) (hv:QuE e o x=some y):∃ v,(Yw a.tmps rs).run P w=.ok v w/\Qv ok0 w y v:=by
 have isound:=Qcs h hok0 (lo':=Qc o) (fun _ _ h=>h) 40
 cases x with
 | tmp t =>
   cases rs with
   | cell=>simp[QG] at hf
   | tmp t' =>
     simp only[QG,Bool.and_true,beq_iff_eq] at hf;subst hf;exact ⟨a.tmps.getD t undef,rfl,isound.1 _ _ y (h.env t) hv⟩
 | cell t n ag =>
   cases rs with
   | tmp=>simp[QG] at hf
   | cell t' T =>
     simp only[QG,Bool.and_true,Qzm,beq_iff_eq] at hf;obtain ⟨⟨rfl,hag⟩,hn⟩:=hf;simp only[QuE] at hv;have het:=h.env t;generalize look e t=xv at hv het;split at hv
     ·rename_i id off
      split at hv
      ·rename_i cs hcs
       have hob:=h.objs _ _ hcs;generalize hpv:a.tmps.getD t undef=pv at het;cases het with
       | loc _ _ cs' b hob' hL =>
         rw[hcs] at hob';injection hob' with hob'
         injection hob' with hob'
         subst hob';rw[hL] at hob;obtain ⟨hB,ty,vs,hb,hl,h1,hxx⟩:=hob
         have cell:∀ k u,(vs.drop off)[k]?=some u->w.cell? ⟨b,off+k,none⟩=some u:=by
          intro k u hu;rw[cell_of_row w b (off+k) _ ty (0,0) hb];simpa[QAb] using hu
         split at hv
         ·split at hv
          ·rename_i hfit
           simp only[Qzo] at hv;obtain ⟨ys,hys,rfl⟩:=hv;obtain ⟨hyl,hyx⟩:=isound.2 _ ys hys;have hlen:((vs.drop off).take n).length=n:=by simp;omega
           have hload:=Zn (w:=w) hag hn b off ((vs.drop off).take n) hlen (by simp) (fun k u hu=>cell k u (by
            rw[QzR] at hu;split at hu<;>first | exact hu | cases hu))
           refine ⟨.agg ((vs.drop off).take n).toArray,?_,.agg ys _ ?_ (fun u hu=>h1 u (QAc (Qz5 hu))) (fun k y u hy hu=>?_)⟩
           ·simp[Yw,hpv,asAddr,hload]
           ·rw[hlen,hyl];simp;omega
           ·have hk:k<((cs.drop off).take n).length:=by rw[<- hyl];exact (Qzl.1 hy).1
            have hck:=Qzk hk
            grind
          ·cases hv
         ·split at hv
          ·rename_i hn1
           subst hn1
           obtain ⟨c,hc,hy⟩:∃ c,cs[off]?=some c/\imm (Qc o) 40 c=some y:=by
            grind
           have hlt:off<vs.length:=by rw[hl];exact (Qzl.1 hc).1
           have hload:=Zn (w:=w) hag hn b off [vs[off]] rfl (by simp) (fun k u hu=>by
            cases k with
            | zero=>simp at hu;subst hu;exact cell 0 _ (by simp[QAb,hlt])
            | succ k=>simp at hu)
           refine ⟨vs[off],?_,isound.1 _ _ y (hxx off c _ hc (Qzk hlt)) hy⟩;simp[Yw,hpv,asAddr,hload]
          ·cases hv
      ·cases hv
     ·cases hv
theorem Uv {x r rs s} (h:QG P (x::r) (rs::s)=true):QG P [x] [rs]=true/\QG P r s=true:=by
 cases x<;>cases rs<;>simp_all[QG]
theorem WD (h:Rel ok0 N w0 (look e) (Qc o) a w L) (hok0:∀ b,¬ w0.fr b->ok0 b):∀ {res rs ys},
  QG P res rs=true->Qf6 e o res=some ys->∃ vs,(rs.mapM (Yw a.tmps)).run P w=.ok vs w/\vs.length=ys.length /\
   ∀ (k:Nat) (y:IV) (v:Value),ys[k]?=some y->vs[k]?=some v->Qv ok0 w y v
 | [],[],ys,_,hv=>by
   simp only[Qf6,Option.some.injEq] at hv;subst hv;exact ⟨[],by simp,rfl,by simp⟩
 | x::r,rs::s,ys,hf,hv=>by
   obtain ⟨h1,h2⟩:=Uv hf;simp only[Qf6] at hv;split at hv
   ·rename_i y ys' hy hys
    injection hv with hv
    subst hv;obtain ⟨v,hr,hrep⟩:=Qkx h hok0 h1 hy;obtain ⟨vs,hrs,hl,hreps⟩:=WD h hok0 h2 hys;refine ⟨v::vs,by simp[List.mapM_cons,hr,hrs],by simp[hl],fun k z u hz hu=>?_⟩
    grind
   ·cases hv
 | [],_::_,ys,hf,_=>by simp[QG] at hf
 | x::_,[],ys,hf,_=>by cases x<;>simp[QG] at hf
theorem YK {fn:Func} {res:List XY} {r:IV} (h:Rel ok0 N w0 (look e) (Qc o) a w L) (hok0:∀ b,¬ w0.fr b->ok0 b) (hf:QG P res fn.results.toList=true) (hv:QnC res e o=some r) :
  ∃ v,(results fn a.tmps).run P w=.ok v w/\Qv ok0 w r v:=by
 have hfun:results fn a.tmps=(do
   let vs <- fn.results.mapM (Yw a.tmps)
   pure (if h:vs.size=1 then vs[0] else .tuple vs)):=by
  unfold results
  congr 1
 rw[hfun,QAM];unfold QnC at hv;split at hv
 ·rename_i x hx
  injection hv with hv
  subst hv;obtain ⟨vs,hrs,hl,hreps⟩:=WD h hok0 hf hx
  obtain ⟨v,rfl⟩:∃ v,vs=[v]:=by
   cases vs with
   | _=>grind
  exact ⟨v,by simp[hrs],hreps 0 x v (by simp) (by simp)⟩
 ·rename_i xs hxs hne
  injection hv with hv
  subst hv;obtain ⟨vs,hrs,hl,hreps⟩:=WD h hok0 hf hne
  have hsz:¬ (vs.length=1):=by
   intro h1;rw[hl] at h1;cases xs with
   | nil=>simp at h1
   | cons x r=>cases r with
     | nil=>exact hxs x rfl
     | cons=>simp at h1
  exact ⟨.tuple vs.toArray,by simp[hrs,hsz],.tup xs vs hl hreps⟩
 ·cases hv
theorem Rel.frz {t id ks ids cs xs} (h:Rel ok0 N w0 (look e) (Qc o) a w L) (hok0:∀ b,¬ w0.fr b->ok0 b) (ht:look e t=.loc id 0) (hb:Qc o id=some (.box cs)) (hc:ivs cs=some xs) (hn:ids.contains id=false) :
  Rel ok0 N w0 (look (bnd (some t) (.iv (.ptr xs)) (Q1 ks ids e))) (Qc (ZE ids o ids)) a w L:=by
 have hk:=h.keep ks ids
 have hinv:∀ i ob,Qc (ZE ids o ids) i=some ob->ids.contains i=true/\∃ ob0,Qc o i=some ob0:=by
  intro i ob hob;rw[ZM] at hob;cases hq:Qc o i<;>grind
 refine ⟨hk.below,hk.defers,hk.size,fun u=>?_,hk.objs,hk.apart,hk.pin⟩
 rw[X9];simp only[Yg];split
 ·rename_i hu
  subst hu;have het:=h.env u;rw[ht] at het;generalize a.tmps.getD u undef=pv at het;cases het with
  | loc _ _ cs' b hob' hL =>
    rw[hb] at hob';cases hob';have hob:=h.objs id _ hb;rw[hL] at hob;obtain ⟨hB,ty,vs,hbk,hl,h1,hx⟩:=hob;have hxs:=Vl hc;have hokb:okL ok0 (Qc (ZE ids o ids)) L b:=by have:=hok0 b hB;have:=h.apart;grind
    have hlen:vs.length=xs.length:=by rw[hl,hxs,Qzw]
    refine .iv _ _ (.ptr xs b 0 (fun k=>vs.getD k undef) (fun k hk'=>⟨hokb,?_,?_⟩) (fun k x hx'=>?_))
    ·rw[cell_of_row w b (0+k) _ ty (0,0) hbk]
     simp[List.getD_eq_getElem?_getD,show k<vs.length by omega]
    ·grind
    ·have hlt:k<vs.length:=by rw[hlen];exact (Qzl.1 hx').1
     have:=hx k (.iv x) _ (by rw[hxs];simp[hx']) (Qzk hlt)
     cases this with
     | iv _ _ r=>simpa[hlt] using r.mono fun y hy _=>⟨by grind,rfl⟩
 ·exact hk.env u
theorem UX (lod ids):∀ cs,Qkb lod ids cs=cs.map (Qkn lod ids)
 | []=>rfl
 | x::r=>by simp[Qkb,UX lod ids r]
theorem Qch (lod ids e):∀ ks t,look (QmA lod ks ids e) t=.iv .any\/look (QmA lod ks ids e) t=Qkn lod ids (look e t)
 | [],t=>.inl rfl
 | k::r,t=>by
   simp only[QmA,look];split
   ·rename_i h
    subst h;exact .inr rfl
   ·exact Qch lod ids e r t
theorem JM (lod all o):∀ l id,Qc (VO lod all o l) id=if l.contains id then (Qc o id).map (Qmz lod all) else none
 | [],id=>rfl
 | k::r,id=>by
   have ih:=JM lod all o r id;simp only[VO];cases hq:Qc o k<;>by_cases hk:id=k<;>cases hq2:Qc o id<;>grind [Qc]
def Qrp:AO->AO->Prop
 | .box _,.box _=>True
 | .arr e sz es mv,.arr e' sz' es' mv'=>e'=e/\sz'=sz/\es'.length=es.length/\mv'=mv
 | a,b=>b=a
theorem QhP (lod ids o):Qrp o (Qmz lod ids o):=by
 cases o<;>simp[Qrp,Qmz]
theorem QkK {o o'} (h:Qrp o o'):(∃ c c',o=.box c/\o'=.box c')\/(∃ e sz es mv es',o=.arr e sz es mv/\o'=.arr e sz es' mv/\es'.length=es.length)\/o'=o:=by
 unfold Qrp at h;split at h<;>first | exact .inr (.inr h) | exact .inl ⟨_,_,rfl,rfl⟩ | (obtain ⟨rfl,rfl,h,rfl⟩:=h;exact .inr (.inl ⟨_,_,_,_,_,rfl,rfl,h⟩))
theorem Qks {ok ok' lo lo' ids} (hok:∀ b,ok b->ok' b) (hlo:∀ id o,ids.contains id=true->lo id=some o->∃ o',lo' id=some o'/\Qrp o o') {x v} (h:Qs ok w lo L x v):Qs ok' w lo' L (scr ids x) v:=by
 induction h with
 | iv x v h=>simp only[scr];exact .iv x v (h.mono fun b hb _=>⟨hok b hb,rfl⟩)
 | _ =>
   simp only[scr]
   try split
   all_goals first | exact .iv _ _ (.any _) | grind [Vd,Y8] | (rename_i hc;obtain ⟨o',_,h2⟩:=hlo _ _ hc ‹_›;have:=QkK h2;grind)
theorem Rel.fz {ks ids} (h:Rel ok0 N w0 (look e) (Qc o) a w L) (hok0:∀ b,¬ w0.fr b->ok0 b) :
  Rel ok0 N w0 (look (QmA (QkJ ids o) ks ids e)) (Qc (VO (QkJ ids o) ids o ids)) a w L:=by
 generalize hl:QkJ ids o=lod;have hlod:∀ id ob,lod id=some ob->ids.contains id=false/\Qc o id=some ob:=fun id ob hob=>by rw[<- hl] at hob;unfold QkJ at hob;split at hob<;>grind
 have hlo:∀ id ob,ids.contains id=true->Qc o id=some ob->∃ o',Qc (VO lod ids o ids) id=some o'/\Qrp ob o':=by
  intro id ob hc hob;exact ⟨_,by rw[JM,if_pos hc,hob];rfl,QhP _ _ ob⟩
 have hinv:∀ id ob,Qc (VO lod ids o ids) id=some ob->ids.contains id=true/\∃ ob0,Qc o id=some ob0/\ob=Qmz lod ids ob0:=by
  intro id ob hob;rw[JM] at hob;cases hq:Qc o id<;>grind
 have hok:∀ b,okL ok0 (Qc o) L b->okL ok0 (Qc (VO lod ids o ids)) L b:=by grind
 have hs:=XD h hok (lo':=lod) (fun id ob hob=>(hlod _ _ hob).2)
  (fun id ob b hob hb=>by
    obtain ⟨hn,hob⟩:=hlod _ _ hob;have:=((h.objs id ob hob).lt hb).1;have:=h.apart
    grind) 40
 have all:∀ x v,Qs (okL ok0 (Qc o) L) w (Qc o) L x v->Qs (okL ok0 (Qc (VO lod ids o ids)) L) w (Qc (VO lod ids o ids)) L (Qkn lod ids x) v:=fun x v hx=>by
  unfold Qkn;split
  ·rename_i y hy
   exact .iv _ _ (hs.1 x v y hx hy)
  ·exact Qks hok hlo hx
 refine ⟨h.below,h.defers.stay (fun _ _ _=>rfl) (by grind),h.size,fun t=>?_,fun id ob hob=>?_,by have:=h.apart;grind,h.pin⟩
 ·rcases Qch lod ids e ks t with hq | hq
  ·rw[hq];exact .iv _ _ (.any _)
  ·rw[hq];exact all _ _ (h.env t)
 ·obtain ⟨_,q,hq,rfl⟩:=hinv id ob hob
  have:=h.objs id q hq
  revert this
  generalize L id=l;intro this;cases q with
  | box cs =>
    cases l with
    | box b =>
      obtain ⟨hB,t,vs,hb,hl,h1,hx⟩:=this;refine ⟨hB,t,vs,hb,by rw[UX];simpa using hl,h1,?_⟩
      grind [UX]
    | _=>exact this.elim
  | arr e sz es mv =>
    cases l with
    | arr v xs =>
      obtain ⟨ho,hm,hz,h1,hx⟩:=this;refine ⟨by rw[Qzw];exact ho,by rw[Qzw];exact hm,?_,h1,?_⟩<;>grind [UX]
    | _=>exact this.elim
  | _=>exact Qt.stay this (QL.refl _ _) h.frl (fun _ _ _=>rfl) (fun b hb _=>⟨hok b hb,rfl⟩) (fun hf=>by cases hf)
theorem Qc8 {b:Frame} {c:Code} {k:List Item} {cs:List Frame}:step P (lone (b.atR a (.code (.scope c)::k)) cs w)=.next (lone (b.atR a (.code c::.inScope c::k)) cs w) :=
 step_lone_go (by simp[stepG,stepG.exec,Frame.atR])
theorem QaG {b:Frame} {c:Code} {k:List Item} {cs:List Frame}:step P (lone (b.atR a (.inScope c::k)) cs w)=.next (lone (b.atR a k) cs w) :=
 step_lone_go (by simp[stepG,stepG.exec,Frame.atR])
theorem Qrr {F:Way->Env->Qk->Prop} {k:List AI} {e:Env} {o:Qk} (h:WpF P K F k e o):Jp P K F k e o:=by
 induction h with
 | skip F k e o _ ih =>
   intro b cs tl htl N ok0 w0 c hro k' a w L hfit hr;cases hfit with
   | code _ c' _ k' h hk =>
     cases c'<;>simp only[Ql,QzM] at h;exact .steps (.one stepR_skip) (.refl _) (ih b cs tl htl N ok0 w0 c hro k' a w L hk hr)
 | region F l draw k e o C hrun _ ih =>
   intro b cs tl htl N ok0 w0 c hro k' a w L hfit hr;cases hfit with
   | code _ c' _ k' h hk =>
     cases c'<;>simp only[Ql,QzM,Qzm,beq_iff_eq] at h;rename_i id ops d;obtain ⟨rfl,h⟩:=h;have hof:=h;simp only[Ju,Qzm] at hof;obtain ⟨e',o',hp,hc⟩:=extract l ops.toList e o w0 c a w L hof.1 hr hrun;obtain ⟨a',w',⟨w1,L',hle,hr'⟩,hst⟩:=Qb4 (id:=id) c h hr hp b k' cs;exact .steps hst hle (ih e' o' hc b cs tl htl N ok0 w1 (c.le hle) (hro.le hle) k' a' w' L' hk hr')
 | seq F x y k e o _ ih =>
   intro b cs tl htl N ok0 w0 c hro k' a w L hfit hr;cases hfit with
   | code _ c' _ k' h hk =>
     cases c'<;>simp only[Ql,QzM,Qzm] at h;exact .steps (.one stepR_seq) (.refl _) (ih b cs tl htl N ok0 w0 c hro _ a w L (.code _ _ _ _ h.1 (.code _ _ _ _ h.2 hk)) hr)
 | cond F cc x y k e o bb hc _ _ iht ihf =>
   intro b cs tl htl N ok0 w0 c hro k' a w L hfit hr;cases hfit with
   | code _ c' _ k' h hk =>
     cases c'<;>simp only[Ql,QzM,Qzm] at h;obtain ⟨⟨h1,h2⟩,h3⟩:=h;have hv:=Opd.rep hr h1;rw[hc] at hv;have hv:=Ya hv;refine .steps (.one (stepR_cond hv)) (.refl _) ?_;cases bb
     ·exact ihf rfl b cs tl htl N ok0 w0 c hro _ a w L (.code _ _ _ _ h3 hk) hr
     ·exact iht rfl b cs tl htl N ok0 w0 c hro _ a w L (.code _ _ _ _ h2 hk) hr
 | block F id cc k e o _ ih =>
   intro b cs tl htl N ok0 w0 c hro k' a w L hfit hr;cases hfit with
   | code _ c' _ k' h hk =>
     cases c'<;>simp only[Ql,QzM,Qzm,beq_iff_eq] at h;obtain ⟨rfl,h⟩:=h;exact .steps (.one stepR_block) (.refl _) (ih b cs tl htl N ok0 w0 c hro _ a w L (.code _ _ _ _ h (.inBlock _ _ _ hk)) hr)
 | inBlock F id k e o _ ih =>
   intro b cs tl htl N ok0 w0 c hro k' a w L hfit hr;cases hfit with
   | inBlock _ _ k' hk=>exact .steps (.one stepR_inBlock) (.refl _) (ih b cs tl htl N ok0 w0 c hro _ a w L hk hr)
 | scope F cc k e o _ ih =>
   intro b cs tl htl N ok0 w0 c hro k' a w L hfit hr;cases hfit with
   | code _ c' _ k' h hk =>
     cases c'<;>simp only[Ql,QzM] at h;exact .steps (.one Qc8) (.refl _) (ih b cs tl htl N ok0 w0 c hro _ a w L (.code _ _ _ _ h (.inScope _ _ _ hk)) hr)
 | inScope F k e o _ ih =>
   intro b cs tl htl N ok0 w0 c hro k' a w L hfit hr;cases hfit with
   | inScope _ _ k' hk=>exact .steps (.one QaG) (.refl _) (ih b cs tl htl N ok0 w0 c hro _ a w L hk hr)
 | label F l k e o _ ih =>
   intro b cs tl htl N ok0 w0 c hro k' a w L hfit hr;cases hfit with
   | code _ c' _ k' h hk =>
     cases c'<;>simp only[Ql,QzM,beq_iff_eq] at h;exact .steps (.one stepR_label) (.refl _) (ih b cs tl htl N ok0 w0 c hro _ a w L hk hr)
 | loop F cc ks ids k e o _ ih =>
   intro b cs tl htl N ok0 w0 c hro k' a w L hfit hr;cases hfit with
   | code _ c' _ k' h hk =>
     cases c'<;>simp only[Ql,QzM] at h;exact .steps (.one stepR_loop) (.refl _) (ih b cs tl htl N ok0 w0 c hro _ a w L (.code _ _ _ _ h (.inLoop _ _ _ _ _ _ h hk)) (hr.keep ks ids))
 | inLoop F cc ks ids k e o _ ih =>
   intro b cs tl htl N ok0 w0 c hro k' a w L hfit hr;cases hfit with
   | inLoop _ c' _ _ _ k' h hk=>exact .steps (.one stepR_inLoop) (.refl _) (ih b cs tl htl N ok0 w0 c hro _ a w L (.code _ _ _ _ h (.inLoop _ _ _ _ _ _ h hk)) (hr.keep ks ids))
 | exit F id k j e o hk _ ih =>
   intro b cs tl htl N ok0 w0 c hro k' a w L hfit hr;cases hfit with
   | code _ c' _ k' h hkk =>
     cases c'<;>simp only[Ql,QzM,beq_iff_eq] at h;subst h;obtain ⟨j',h1,h2⟩:=hkk.exit hk;exact .steps (.one (stepR_exit h1)) (.refl _) (ih b cs tl htl N ok0 w0 c hro j' a w L h2 hr)
 | nxt F d dx x id k e o kvs seen hx ho _ _ ihe ihm =>
   intro b cs tl htl N ok0 w0 c hro k' a w L hfit hr;cases hfit with
   | code _ c' _ k' h hk =>
     cases c'<;>simp only[Ql,QzM,Qzm,QzL] at h;rename_i cid ops d';obtain ⟨rfl,h⟩:=h
     obtain ⟨a',w',hq,harr⟩:=QhB (cid:=cid) (Q:=fun a' w'=>Ends P F b cs tl N ok0 w0 (lone (b.atR a' k') cs w')) c hr h hx ho
      (fun hall a' w' L' hr'=>ihe hall b cs tl htl N ok0 w0 c hro _ a' w' L' hk (by rw[X9,X9];exact hr'))
      (fun i q hi hns a' w' L' hr'=>ihm i q hi hns b cs tl htl N ok0 w0 c hro _ a' w' L' hk (by rw[X9,X9,XP];exact hr')) b k' cs
     exact .steps harr (.refl _) hq
 | gh F id bid off t sz c k e o cs hid hb hc _ ih =>
   intro b fr tl htl N ok0 w0 c hro k' a w L hfit hr;cases hfit with
   | code _ c' _ k' h hk =>
     simp only[Ql] at h;obtain ⟨L',hr'⟩:=Qs3 (e:=t) hr hid hb hc;exact ih b fr tl htl N ok0 w0 c hro _ a w L' (.code _ _ _ _ h hk) (by rw[XP,XP];exact hr')
 | ret F k e o hv =>
   intro b cs tl htl N ok0 w0 c hro k' a w L hfit hr;cases hfit with
   | code _ c' _ k' h hk =>
     cases c'<;>simp only[Ql,QzM] at h;exact ⟨.ret,e,o,a,w,w0,L,_,hv,.refl _,hr,⟨k',rfl⟩,Steps.refl _ _⟩
 | done F e o hv =>
   intro b cs tl htl N ok0 w0 c hro k' a w L hfit hr;cases hfit;exact ⟨.fall,e,o,a,w,w0,L,_,hv,.refl _,hr,rfl,Steps.refl _ _⟩
 | exitOut F id k e o hk hv =>
   intro b cs tl htl N ok0 w0 c hro k' a w L hfit hr;cases hfit with
   | code _ c' _ k' h hkk =>
     cases c'<;>simp only[Ql,QzM,beq_iff_eq] at h;subst h;exact ⟨.exit id,e,o,a,w,w0,L,_,hv,.refl _,hr,⟨k',rfl,hkk.exitOut (htl id) hk⟩,Steps.refl _ _⟩
 | frz F t id ks ids cc k e o cs xs ht hb hc hn _ ih =>
   intro b fr tl htl N ok0 w0 c hro k' a w L hfit hr;cases hfit with
   | code _ c' _ k' h hk =>
     simp only[Ql] at h;exact ih b fr tl htl N ok0 w0 c hro _ a w L (.code _ _ _ _ h hk) (hr.frz c.ok ht hb hc hn)
 | fz F ks ids cc k e o _ ih =>
   intro b fr tl htl N ok0 w0 c hro k' a w L hfit hr;cases hfit with
   | code _ c' _ k' h hk =>
     simp only[Ql] at h;exact ih b fr tl htl N ok0 w0 c hro _ a w L (.code _ _ _ _ h hk) (hr.fz c.ok)
 | range F f ps asn body ks ids k e o g fs cs Lx St Wy m M hf hc hit h0 hm hall hend hlen _ _ _ ih1 ih2 ih3 =>
   exact Qht hf hc hit h0 hm hall hend hlen ih1 ih2 ih3
 | rangeS F f ps asn body ks ids k e o g fs cs S St M hf hc hit h0 hlen _ _ _ ih1 ih2 ih3 =>
   exact Qf8 hf hc hit h0 hlen ih1 ih2 ih3
def FnF (F:Env->Qk->Prop):Way->Env->Qk->Prop
 | .exit _,_,_=>False
 | _,e,o=>F e o
theorem Qfe:∀ {xs ys:List Nat},xs.map mark=ys.map mark->xs=ys
 | [],[],_=>rfl
 | [],y::ys,h=>by simp at h
 | x::xs,[],h=>by simp at h
 | x::xs,y::ys,h=>by
   simp only[QzH,List.cons.injEq] at h;have:x=y:=by have h1:=h.1;injection h1 with h1;injection h1
   rw[this,Qfe h.2]
theorem Qmv {b:Frame} {cs:List Frame} {todo:List Item} {lk:Nat->AV} {lo:Nat->Option AO}:∀ (rs:List Nat) (a:Act) (w:World),a.defers=rs.map mark->Rel ok0 N w0 lk lo a w L ->
  ∃ w',Rel ok0 N w0 lk lo { a with defers:=[] } w' L/\Steps P (lone { b.atR a todo with mode:=.returning } cs w) (lone { b.atR { a with defers:=[] } todo with mode:=.returning } cs w')
 | [],a,w,hd,h=>by
   have:a={ a with defers:=[] }:=by cases a;simp_all
   rw[<- this];exact ⟨w,h,Steps.refl _ _⟩
 | r::rs,a,w,hd,h=>by
   obtain ⟨rs',h1,h2,h3⟩:=h.defers;have hrs:rs'=r::rs:=Qfe (h1.symm.trans hd);subst hrs;obtain ⟨h4,h5,h6⟩:=h3 r (by simp)
   have hnp:=XN h4 ⟨by simp,by simp⟩
   have hne:∀ x,Yy w x->x≠r:=fun x hx e=>hnp (e▸hx)
   have hrel:Rel ok0 N w0 lk lo { a with defers:=rs.map mark } (w.putObj r (.deferred none)) L:=by
    refine h.move ⟨rfl,rfl,rfl,by rw[putObj_size];exact Qzq _⟩ (h.below.trans (QL.put w r _ h5)) ⟨rs,rfl,(List.nodup_cons.1 h2).2,fun x hx=>?_⟩ h.size h.env h.pin (fun x hx hp=>⟨hx.1,Qm (hne x hp)⟩) (fun id ob x ho hx=>⟨((h.objs id ob ho).lt hx).1,Qm fun e=>h6 id ob ho (e▸hx)⟩) (fun x hx hok=>⟨hx,hok.1,Qm fun e=>h5 (e▸hx)⟩)
    obtain ⟨g1,g2,g3⟩:=h3 x (by simp[hx])
    exact ⟨(Qm fun e=>(List.nodup_cons.1 h2).1 (by rw[<- e];exact hx)).trans g1,g2,g3⟩
   have hstep:=step_collected (P:=P) (fr:={ b.atR a todo with mode:=.returning }) (cs:=cs) (d:=mark r) (r:=r) (ds:=rs.map mark) (calls:=[]) (by simp) (by rw[<- QzH,<- hd];rfl) rfl (run_takeDeferred h4)
   obtain ⟨w',h7,h8⟩:=Qmv (b:=b) (cs:=cs) (todo:=todo) rs { a with defers:=rs.map mark } _ rfl hrel
   exact ⟨w',h7,.head hstep h8⟩
theorem Qkj {f:FuncId} {fn:Func} {code:Code} {ac:AC} {args:Array Value} {F:Env->Qk->Prop} {R:Value->World->Prop} (c:Ctx P K ok0 w0) (hfn:P.funcs[f]?=some fn) (hbody:fn.body=some code) (hfit:Ql P N ac code=true)
  (hrel:Rel ok0 N w0 (look e) (Qc o) { tmps:=args++Array.replicate (fn.ntmps-args.size) undef,defers:=[] } w L) (h:WpF P K (FnF F) [.code ac] e o)
  (hF:∀ (w1:ZR) (e':Env) (o':Qk) (a':Act) (w':World) (L':Nat->Lay),w0.le w1->F e' o'->Rel ok0 N w1 (look e') (Qc o') a' w' L'->∃ v,(results fn a'.tmps).run P w'=.ok v w'/\R v w') :
  Calls P f args w (fun e w'=>∃ v,e=.returned v/\R v w'):=by
 intro cs
 let b:Frame:={ (default:Frame) with fn:=f,kind:=.normal,roundOf:=none }
 have henter:Frame.enter P f args .normal=b.atR { tmps:=args++Array.replicate (fn.ntmps-args.size) undef,defers:=[] } [.code code]:=by
  simp[Frame.enter,Frame.atR,hfn,hbody,b]
 obtain ⟨wy,e',o',a',w',w1,L',k,hf,hle,hr',hat,hst⟩:=Qrr h b cs [] (fun id=>rfl) N ok0 w0 c (fun l hl=>by cases hl) [.code code] _ w L (.code _ _ _ _ hfit .nil) hrel
 have hout:step P (lone (b.atR a' k) cs w')=.next (lone { b.atR a' k with mode:=.returning } cs w')/\F e' o':=by
  cases wy with
  | fall =>
    have hk:k=[]:=hat;subst hk;exact ⟨stepR_end rfl,hf⟩
  | ret =>
    obtain ⟨k1,rfl⟩:=hat;exact ⟨stepR_ret rfl,hf⟩
  | exit id=>exact hf.elim
 obtain ⟨rs,hd,_⟩:=hr'.defers;obtain ⟨w2,hr2,hst2⟩:=Qmv (P:=P) (b:=b) (cs:=cs) (todo:=k) rs a' w' hd hr';obtain ⟨v,hv,hR⟩:=hF w1 e' o' _ w2 L' hle hout.2 hr2;refine ⟨.returned v,w2,{ b.atR { a' with defers:=[] } k with mode:=.returning },⟨v,rfl,hR⟩,?_,rfl,⟨rfl,rfl,rfl,fn,hfn,hv⟩⟩
 rw[henter];exact (hst.trans (.head hout.1 hst2))
structure AFn where
 nt:Nat
 res:List XY
 code:AC
def Qcw (P:Program) (fn:Func) (A:AFn):Bool :=
 (match fn.body with | some c=>Ql P ⟨A.nt,[]⟩ A.code c | none=>false)&&fn.ntmps==A.nt&&QG P A.res fn.results.toList
def Qnc (P:Program) (f:FuncId) (A:AFn):Prop:=∃ fn,P.funcs[f]?=some fn/\Qcw P fn A=true
def Yd:Nat->List IV->Env
 | _,[]=>[]
 | i,x::r=>(i,.iv x)::Yd (i+1) r
theorem XO:∀ xs i t,look (Yd i xs) t=.iv .any\/∃ x,i<=t/\xs[t-i]?=some x/\look (Yd i xs) t=.iv x
 | [],i,t=>.inl rfl
 | x::r,i,t=>by
   simp only[Yd,look];split
   ·grind
   ·rename_i h
    rcases XO r (i+1) t with h1 | ⟨y,h1,h2,h3⟩
    all_goals grind
theorem calls_of_wp {f:FuncId} {A:AFn} {xs:List IV} {F:Env->Qk->Prop} (hK:∀ w w',K w->Below w.heap.size w w'->K w') (hok:Qnc P f A) (hlen:xs.length<=A.nt)
  (h:WpF P K (FnF F) [.code A.code] (Yd 0 xs) []) (w:World) (ok:Nat->Prop) (vs:List Value) (R:Value->World->Prop) (hk:K w) (hnew:∀ b,w.heap.size<=b->ok b) (hvl:vs.length=xs.length)
  (hvs:∀ (k:Nat) (x:IV) (u:Value),xs[k]?=some x->vs[k]?=some u->Qv ok w x u)
  (hF:∀ (fn:Func) (w1:ZR) (e:Env) (o:Qk) (a:Act) (w':World) (L:Nat->Lay),QG P A.res fn.results.toList=true->F e o->ZR.le ⟨w,fun b=>b<w.heap.size,fun _ h=>h,fun _=>undef⟩ w1->Rel ok ⟨A.nt,[]⟩ w1 (look e) (Qc o) a w' L->∃ v,(results fn a.tmps).run P w'=.ok v w'/\R v w') :
  Calls P f vs.toArray w (fun e w'=>∃ v,e=.returned v/\R v w'):=by
 obtain ⟨fn,hfn,hok⟩:=hok;unfold Qcw at hok
 ·split at hok
  ·rename_i c hbody
   simp only[Qzm,beq_iff_eq] at hok;obtain ⟨⟨hfit,hnt⟩,hres⟩:=hok
   let a:Act:={ tmps:=vs.toArray++Array.replicate (fn.ntmps-vs.toArray.size) undef,defers:=[] }
   let w0:ZR:=⟨w,fun b=>b<w.heap.size,fun _ h=>h,fun _=>undef⟩
   have hctx:Ctx P K ok w0:=⟨fun w' h=>hK w w' hk h.below,fun b hb=>hnew b (QAA.1 hb)⟩
   have hrel:Rel ok ⟨A.nt,[]⟩ w0 (look (Yd 0 xs)) (Qc []) a w (fun _=>.box 0):=by
    refine ⟨QL.refl _ _,⟨[],rfl,QAL,by simp⟩,?_,fun t=>?_,fun id o ho=>by simp[Qc] at ho,fun i j oi oj b hij hi=>by simp[Qc] at hi,fun t ht=>by simp at ht⟩
    ·simp[a,hnt];omega
    ·rcases XO xs 0 t with h1 | ⟨x,_,h2,h3⟩
     ·rw[h1];exact .iv _ _ (.any _)
     ·rw[h3]
      simp only[Nat.sub_zero] at h2;have hlt:t<vs.length:=by rw[hvl];exact (Qzl.1 h2).1
      have hget:a.tmps.getD t undef=vs[t]:=by
       simp[a,QzY,QAD,hlt]
      rw[hget];exact .iv _ _ ((hvs t x _ h2 (Qzk hlt)).mono fun b hb _=>⟨⟨hb,fun id o ho=>by simp[Qc] at ho⟩,rfl⟩)
   exact Qkj (ac:=A.code) hctx hfn hbody hfit hrel h (fun w1 e' o' a' w' L' hle hf hr'=>hF fn w1 e' o' a' w' L' hres hf hle hr')
  ·simp at hok
theorem Qb {f:FuncId} {A:AFn} {xs:List IV} {r:IV} (hK:∀ w w',K w->Below w.heap.size w w'->K w') (hok:Qnc P f A) (hlen:xs.length<=A.nt)
  (h:WpF P K (FnF (Xi A.res r)) [.code A.code] (Yd 0 xs) []):Good P K f xs r:=by
 intro w ok vs hk hnew hvl hvs;refine calls_of_wp hK hok hlen h w ok vs (fun v w'=>Qv ok w' r v/\Below w.heap.size w w') hk hnew hvl hvs (fun fn w1 e o a w' L hres hv hle hr=>?_)
 obtain ⟨v,h1,h2⟩:=YK hr (fun b hb=>hnew b (QAA.1 fun h=>hb (hle.fr b h))) hres hv
 exact ⟨v,h1,h2,(hle.keeps hr.below).below⟩
def QnD (e:Env) (o:Qk):XY->Option AV
 | .tmp t=>some (look e t)
 | .cell t n ag=>match look e t with
   | .loc id off=>match Qc o id with
     | some (.box cs)=>match ag with
       | true=>if off+n<=cs.length then some (UJ ((cs.drop off).take n)) else none
       | false=>if n=1 then cs[off]? else none
     | _=>none
   | _=>none
theorem Qe2 (h:Rel ok0 N w0 (look e) (Qc o) a w L) {x rs y}
  (hf:QG P [x] [rs]=true) (hv:QnD e o x=some y):∃ v,(Yw a.tmps rs).run P w=.ok v w/\Qs (okL ok0 (Qc o) L) w (Qc o) L y v:=by
 cases x with
 | tmp t =>
   cases rs with
   | cell=>simp[QG] at hf
   | tmp t' =>
     simp only[QG,Bool.and_true,beq_iff_eq] at hf;subst hf;simp only[QnD,Option.some.injEq] at hv;subst hv;exact ⟨a.tmps.getD t undef,rfl,h.env t⟩
 | cell t n ag =>
   cases rs with
   | tmp=>simp[QG] at hf
   | cell t' T =>
     simp only[QG,Bool.and_true,Qzm,beq_iff_eq] at hf;obtain ⟨⟨rfl,hag⟩,hn⟩:=hf;simp only[QnD] at hv;have het:=h.env t;generalize look e t=xv at hv het;split at hv
     ·rename_i id off
      split at hv
      ·rename_i cs hcs
       have hob:=h.objs _ _ hcs;generalize hpv:a.tmps.getD t undef=pv at het;cases het with
       | loc _ _ cs' b hob' hL =>
         rw[hcs] at hob';injection hob' with hob'
         injection hob' with hob'
         subst hob';rw[hL] at hob;obtain ⟨hB,ty,vs,hb,hl,h1,hxx⟩:=hob
         have cell:∀ k u,(vs.drop off)[k]?=some u->w.cell? ⟨b,off+k,none⟩=some u:=by
          intro k u hu;rw[cell_of_row w b (off+k) _ ty (0,0) hb];simpa[QAb] using hu
         split at hv
         ·split at hv
          ·rename_i hfit
           injection hv with hv
           subst hv;have hlen:((vs.drop off).take n).length=n:=by simp;omega
           have hload:=Zn (w:=w) hag hn b off ((vs.drop off).take n) hlen (by simp) (fun k u hu=>cell k u (by
            rw[QzR] at hu;split at hu<;>first | exact hu | cases hu))
           refine ⟨.agg ((vs.drop off).take n).toArray,?_,Jc (by simp;omega) (fun u hu=>h1 u (QAc (Qz5 hu))) (fun k y u hy hu=>?_)⟩
           ·simp[Yw,hpv,asAddr,hload]
           grind
          ·cases hv
         ·split at hv
          ·rename_i hn1
           subst hn1;have hlt:off<vs.length:=by rw[hl];exact (Qzl.1 hv).1
           have hload:=Zn (w:=w) hag hn b off [vs[off]] rfl (by simp) (fun k u hu=>by
            cases k with
            | zero=>simp at hu;subst hu;exact cell 0 _ (by simp[QAb,hlt])
            | succ k=>simp at hu)
           refine ⟨vs[off],?_,hxx off _ _ hv (Qzk hlt)⟩;simp[Yw,hpv,asAddr,hload]
          ·cases hv
      ·cases hv
     ·cases hv
def Qza (x:XY) (id:Nat) (q:AV) (ob:AO) (e:Env) (o:Qk):Prop:=QnD e o x=some (ren id q)/\Qc o id=some ob
def Qvi (e:TypeId) (sz:Nat) (rows:List (List IV)):Option AO->Prop
 | some (.arr e' sz' es _)=>e'=e/\sz'=sz/\es=rows.map (List.map AV.iv)
 | _=>False
def Qzi (t:Nat) (ty:TypeId) (sz:Nat) (rows':List (List IV)) (e:Env) (o:Qk):Prop:=look e t=.aref 0 rows'.length/\Qvi ty sz rows' (Qc o 0)
def Qws (K:World->Prop) (sz:Nat) (rows:List (List IV)) (v0:Value) (w:World):Prop:=K w/\Qv (fun _=>True) w (.sl sz rows) v0
theorem Qws.stay {sz rows v0} (hK:∀ w w',K w->Below w.heap.size w w'->K w'):∀ w w',Qws K sz rows v0 w->Below w.heap.size w w'->Qws K sz rows v0 w' :=
 fun w w' h hb=>⟨hK w w' h.1 hb,h.2.mono fun b _ hlt=>⟨trivial,hb.block b hlt⟩⟩
end
def AOp.isCall:AOp->Bool
 | .call _ _ _ | .callo _ _ _ _ | .calld _ _ _ | .callr _ _ _ _ | .callb _ _ _ | .callx _ _ _ | .callh _ _ _ | .caldh _ _ _ | .cpy _ _ _=>true
 | .yy _=>false
 | .mov _ | .nilo _ _ _ | .pick _ _ _ | .ext _ _ | .not _ | .bin _ _ _ | .beq _ _ _ | .cvi _ _ | .cvs _ | .b2s _ | .i2s _ | .nilc _ | .fld _ _ | .ldi _ _ _ | .ldo _ _ _ _ | .sto _ _ _ _ | .ixi _ _ _ | .ixo _ _ _ _
 | .ixs _ _ | .sli _ _ _ _ | .sls _ _ _ | .boxi _ | .boxo _ _ | .alo _ _ | .bld _ _ | .bsl _ _ | .bso _ _ _ _ | .len _ | .leno _ _ | .lst _ | .app _ _ _ _ _ _=>false
theorem QhU:∀ l,ivs (l.map AV.iv)=some l
 | []=>rfl
 | a::l=>by simp[ivs,QhU l,AV.iv?]
theorem Vk:∀ L,Qad (L.map (List.map AV.iv))=some L
 | []=>rfl
 | a::l=>by simp[Qad,Vk l,QhU]
section
variable {P:Program} {K:World->Prop} {F:Way->Env->Qk->Prop}
def opK (P:Program) (K:World->Prop) (C:Env->Qk->Prop) (d:Option Nat) (l:List QN) (e:Env) (o:Qk):Res->Prop
 | .ok s f v up=>s/\(f->Qg P K C l (bnd d v e) (upL up o))
 | .no=>False
def gK (P:Program) (K:World->Prop) (C:Env->Qk->Prop) (d:Option Nat) (t:Nat) (b:Bool) (op:AOp) (l:List QN) (e:Env) (o:Qk):AV->Prop
 | .iv (.bool c)=>(c=b->Qg P K C (⟨d,none,op⟩::l) (UY t (.iv (.bool b)) e) o)/\(c=!b->Qg P K C l (bnd d (.iv (.tup [])) (UY t (.iv (.bool (!b))) e)) o)
 | .iv (.tup [])=>Qg P K C l (bnd d (.iv (.tup [])) (UY t (.iv (.tup [])) e)) o
 | _=>False
def Qbn (P:Program) (K:World->Prop) (C:Env->Qk->Prop) (d:Option Nat) (g:FuncId) (own:Bool) (l:List QN) (e:Env) (o:Qk) (xs:Option (List IV)):Prop :=
 ∃ ys r,xs=some ys/\Good P K g ys r/\(own=false\/QI r=true)/\Qg P K C l (bnd d (.iv r) e) o
def Qtg (P:Program) (K:World->Prop) (C:Env->Qk->Prop) (d:Option Nat) (g:FuncId) (id:Nat) (ids:List Nat) (l:List QN) (e:Env) (o:Qk) (xs:Option (List IV)):Prop :=
 ∃ ys q t sz rows mv,ids=[]/\xs=some ys/\QcY P K g ys q t sz rows mv/\Qc o id=none/\Qg P K C l (bnd d (ren id q) e) (Xf id (XX t sz rows mv) o)
def Qd5 (X Y:Prop):AV->Prop
 | .iv (.bool b)=>(b=true->X)/\(b=false->Y)
 | _=>False
@[simp] theorem QvJ (C d t b op l e o):gK P K C d t b op l e o (.iv (.tup []))=Qg P K C l (bnd d (.iv (.tup [])) (UY t (.iv (.tup [])) e)) o:=rfl
@[simp] theorem QwK (C d l e o s f v up) :
  opK P K C d l e o (.ok s f v up)=(s/\(f->Qg P K C l (bnd d v e) (upL up o))):=rfl
@[simp] theorem QwL (C d l e o):opK P K C d l e o .no=False:=rfl
@[simp] theorem QyT (C d t c op l e o) (h:c=true):gK P K C d t true op l e o (.iv (.bool c))=Qg P K C (⟨d,none,op⟩::l) (UY t (.iv (.bool true)) e) o:=by subst h;simp[gK]
@[simp] theorem QyU (C d t c op l e o) (h:c=false):gK P K C d t true op l e o (.iv (.bool c))=Qg P K C l (bnd d (.iv (.tup [])) (UY t (.iv (.bool false)) e)) o:=by subst h;simp[gK]
@[simp] theorem QyW (C d t c op l e o) (h:c=false):gK P K C d t false op l e o (.iv (.bool c))=Qg P K C (⟨d,none,op⟩::l) (UY t (.iv (.bool false)) e) o:=by subst h;simp[gK]
@[simp] theorem QyV (C d t c op l e o) (h:c=true):gK P K C d t false op l e o (.iv (.bool c))=Qg P K C l (bnd d (.iv (.tup [])) (UY t (.iv (.bool true)) e)) o:=by subst h;simp[gK]
@[simp] theorem QyX (C d t c op l e o):gK P K C d t true op l e o (.iv (.bool c)) =
  ((c=true->Qg P K C (⟨d,none,op⟩::l) (UY t (.iv (.bool true)) e) o)/\(c=false->Qg P K C l (bnd d (.iv (.tup [])) (UY t (.iv (.bool false)) e)) o)):=rfl
@[simp] theorem QyY (C d t c op l e o):gK P K C d t false op l e o (.iv (.bool c)) =
  ((c=false->Qg P K C (⟨d,none,op⟩::l) (UY t (.iv (.bool false)) e) o)/\(c=true->Qg P K C l (bnd d (.iv (.tup [])) (UY t (.iv (.bool true)) e)) o)):=rfl
@[simp] theorem Qrj (X Y b) (h:b=true):Qd5 X Y (.iv (.bool b))=X:=by subst h;simp[Qd5]
@[simp] theorem Qph (X Y b) (h:b=false):Qd5 X Y (.iv (.bool b))=Y:=by subst h;simp[Qd5]
@[simp] theorem Qrk (X Y b):Qd5 X Y (.iv (.bool b))=((b=true->X)/\(b=false->Y)):=rfl
theorem Qf1 (C e o):Qg P K C [] e o=C e o:=rfl
theorem Qe (C d op l e o) (h:op.isCall=false) :
  Qg P K C (⟨d,none,op⟩::l) e o=opK P K C d l e o (ev (look e) (Qc o) op):=by
 simp only[Qg];cases op with
 | call g args ids=>simp[AOp.isCall] at h
 | callo g args ids id=>simp[AOp.isCall] at h
 | calld x args ids=>simp[AOp.isCall] at h
 | callr g x args id=>simp[AOp.isCall] at h
 | callb x args id=>simp[AOp.isCall] at h
 | callx g args id=>simp[AOp.isCall] at h
 | callh g args ids=>simp[AOp.isCall] at h
 | cpy id x y=>simp[AOp.isCall] at h
 | caldh x args ids=>simp[AOp.isCall] at h
 | _ =>
   simp only[QcZ];unfold evK opK;rfl
def QrC (C d x l e o):=Qe (P:=P) (K:=K) C d (.mov x) l e o rfl
def Qnr (C d id t sz l e o):=Qe (P:=P) (K:=K) C d (.nilo id t sz) l e o rfl
def Qnq (C d c x y l e o):=Qe (P:=P) (K:=K) C d (.pick c x y) l e o rfl
def QrM (C d x i l e o):=Qe (P:=P) (K:=K) C d (.ext x i) l e o rfl
def QrB (C d x l e o):=Qe (P:=P) (K:=K) C d (.not x) l e o rfl
def QrS (C d b x y l e o):=Qe (P:=P) (K:=K) C d (.bin b x y) l e o rfl
def QrT (C d n x y l e o):=Qe (P:=P) (K:=K) C d (.beq n x y) l e o rfl
def QrO (C d k x l e o):=Qe (P:=P) (K:=K) C d (.cvi k x) l e o rfl
def QrN (C d x l e o):=Qe (P:=P) (K:=K) C d (.cvs x) l e o rfl
def QrU (C d x l e o):=Qe (P:=P) (K:=K) C d (.b2s x) l e o rfl
def QrK (C d x l e o):=Qe (P:=P) (K:=K) C d (.i2s x) l e o rfl
def Qns (C d x l e o):=Qe (P:=P) (K:=K) C d (.nilc x) l e o rfl
def QrL (C d n x l e o):=Qe (P:=P) (K:=K) C d (.fld n x) l e o rfl
def QrG (C d n g x l e o):=Qe (P:=P) (K:=K) C d (.ldi n g x) l e o rfl
def QrF (C d id n g x l e o):=Qe (P:=P) (K:=K) C d (.ldo id n g x) l e o rfl
def Qry (C d id n x y l e o):=Qe (P:=P) (K:=K) C d (.sto id n x y) l e o rfl
def QrJ (C d sz x i l e o):=Qe (P:=P) (K:=K) C d (.ixi sz x i) l e o rfl
def QrI (C d id sz x i l e o):=Qe (P:=P) (K:=K) C d (.ixo id sz x i) l e o rfl
def QrH (C d x i l e o):=Qe (P:=P) (K:=K) C d (.ixs x i) l e o rfl
def QrA (C d sz x i j l e o):=Qe (P:=P) (K:=K) C d (.sli sz x i j) l e o rfl
def Qrz (C d x i j l e o):=Qe (P:=P) (K:=K) C d (.sls x i j) l e o rfl
def Qnv (C d x l e o):=Qe (P:=P) (K:=K) C d (.boxi x) l e o rfl
def Qnu (C d id x l e o):=Qe (P:=P) (K:=K) C d (.boxo id x) l e o rfl
def QrW (C d id zs l e o):=Qe (P:=P) (K:=K) C d (.alo id zs) l e o rfl
def QrR (C d zs ps l e o):=Qe (P:=P) (K:=K) C d (.bld zs ps) l e o rfl
def QrQ (C d sz ps l e o):=Qe (P:=P) (K:=K) C d (.bsl sz ps) l e o rfl
def QrP (C d id t sz ps l e o):=Qe (P:=P) (K:=K) C d (.bso id t sz ps) l e o rfl
def QrE (C d x l e o):=Qe (P:=P) (K:=K) C d (.len x) l e o rfl
def Qnt (C d id x l e o):=Qe (P:=P) (K:=K) C d (.leno id x) l e o rfl
def QrD (C d x l e o):=Qe (P:=P) (K:=K) C d (.lst x) l e o rfl
def QrV (C d id t sz n x y l e o):=Qe (P:=P) (K:=K) C d (.app id t sz n x y) l e o rfl
theorem Qdc (C d g args ids l e o) :
  Qg P K C (⟨d,none,.call g args ids⟩::l) e o=Qbn P K C d g (!ids.isEmpty) l e o (qD (Qc o) ids (args.map (·.av (look e)))):=by
 simp only[Qg,AOp.isH,QcZ,Qbn,upL]
 congr
 funext xs
 congr
 funext r
 cases ids<;>simp
theorem Qvd (C d op l e o):Qg P K C (⟨d,none,.yy op⟩::l) e o=opK P K C d l e o (evY (look e) (Qc o) op):=Qe C d _ l e o rfl
def Qji (P:Program) (K:World->Prop) (C:Env->Qk->Prop) (d:Option Nat) (own:Bool) (l:List QN) (e:Env) (o:Qk):Option (List IV)->Prop
 | some (.clo g fs cs::ys)=>callee P g=true/\Qbn P K C d g own l e o (some (fs++ys++cs))
 | _=>False
def Ql5 (P:Program) (K:World->Prop) (C:Env->Qk->Prop) (d:Option Nat) (own:Bool) (l:List QN) (e:Env) (o:Qk) (xs xsc:Option (List IV)):AV->Prop
 | .iv (.fn g)=>callee P g=true/\Qbn P K C d g own l e o xs
 | _=>Qji P K C d own l e o xsc
@[simp] theorem Qu4 (C d own l e o xs xsc g):Ql5 P K C d own l e o xs xsc (.iv (.fn g))=(callee P g=true/\Qbn P K C d g own l e o xs):=rfl
@[simp] theorem Qrl (C d own l e o xs xsc g fs cs):Ql5 P K C d own l e o xs xsc (.iv (.clo g fs cs))=Qji P K C d own l e o xsc:=rfl
@[simp] theorem Qth (C d own l e o xs xsc g fs cs):Ql5 P K C d own l e o xs xsc (.clo g fs cs)=Qji P K C d own l e o xsc:=rfl
@[simp] theorem Qrm (C d own l e o g fs cs ys):Qji P K C d own l e o (some (.clo g fs cs::ys))=(callee P g=true/\Qbn P K C d g own l e o (some (fs++ys++cs))):=rfl
theorem QbY (C d x args ids l e o) :
  Qg P K C (⟨d,none,.calld x args ids⟩::l) e o=Ql5 P K C d (!ids.isEmpty) l e o (qD (Qc o) ids (args.map (·.av (look e)))) (qD (Qc o) ids (x.av (look e)::args.map (·.av (look e)))) (x.av (look e)):=by
 have aux:∀ r,(ids=[]\/QI r=true)↔((!ids.isEmpty)=false\/QI r=true):=fun r=>by cases ids<;>simp
 apply propext;simp only[Qg,AOp.isH,QcZ];generalize x.av (look e)=xv
 have clo:∀ ys,ys=qD (Qc o) ids (xv::args.map (·.av (look e)))->((∃ g fs cs xs r,callee P g=true/\ys=some (.clo g fs cs::xs)/\Good P K g (fs++xs++cs) r/\(ids=[]\/QI r=true)/\Qg P K C l (bnd d (.iv r) e) (upL none o))↔Qji P K C d (!ids.isEmpty) l e o ys):=by
  intro ys _;constructor
  ·rintro ⟨g,fs,cs,xs,r,h1,rfl,h3,h4,h5⟩
   exact ⟨h1,_,r,rfl,h3,(aux r).1 h4,h5⟩
  ·intro h
   cases ys with
   | none=>exact h.elim
   | some us =>
     cases us with
     | nil=>exact h.elim
     | cons z xs =>
       cases z with
       | clo g fs cs =>
         obtain ⟨h1,zs,r,h2,h3,h4,h5⟩:=h;injection h2 with h2
         subst h2;exact ⟨g,fs,cs,xs,r,h1,rfl,h3,(aux r).2 h4,h5⟩
       | _=>exact h.elim
 have fn:∀ g,xv=.iv (.fn g)->((∃ xs r,callee P g=true/\qD (Qc o) ids (args.map (·.av (look e)))=some xs/\Good P K g xs r/\(ids=[]\/QI r=true)/\Qg P K C l (bnd d (.iv r) e) (upL none o))↔(callee P g=true/\Qbn P K C d g (!ids.isEmpty) l e o (qD (Qc o) ids (args.map (·.av (look e)))))):=by
  intro g _;constructor
  ·rintro ⟨xs,r,h1,h2,h3,h4,h5⟩
   exact ⟨h1,xs,r,h2,h3,(aux r).1 h4,h5⟩
  ·rintro ⟨h1,xs,r,h2,h3,h4,h5⟩
   exact ⟨xs,r,h1,h2,h3,(aux r).2 h4,h5⟩
 cases xv with
 | iv x =>
   cases x with
   | fn g=>exact fn g rfl
   | _=>exact clo _ rfl
 | _=>exact clo _ rfl
def Ql6 (P:Program) (K:World->Prop) (C:Env->Qk->Prop) (d:Option Nat) (id:Nat) (l:List QN) (e:Env) (o:Qk) (x:AV) (ob:Option AO) (xs:Option (List IV)):Prop :=
 ∃ ys s s' y,ob=some (.ext s)/\xs=some ys/\Quw P K x id s ys y s'/\QI y=true/\Qg P K C l (bnd d (.iv y) e) (Xf id (.ext s') o)
def Qpm (P:Program) (K:World->Prop) (C:Env->Qk->Prop) (d:Option Nat) (g:FuncId) (id:Nat) (l:List QN) (e:Env) (o:Qk) (x:Option AV) (ob:Option AO) (xs all:Option (List IV)):Prop :=
 (∃ ys s s' y,x=some (.cb id)/\ob=some (.ext s)/\xs=some ys/\QcX P K g ys [] s y s'/\QI y=true/\Qg P K C l (bnd d (.iv y) e) (Xf id (.ext s') o)) \/
 ∃ ys s s' y,ob=some (.ext s)/\all=some ys/\UT P K g ys s y s'/\QI y=true/\Qg P K C l (bnd d (.iv y) e) (Xf id (.ext s') o)
theorem QbZ (C d x args id l e o) :
  Qg P K C (⟨d,none,.callb x args id⟩::l) e o=Ql6 P K C d id l e o (x.av (look e)) (Qc o id) (ivs (args.map (·.av (look e)))):=rfl
theorem QbU (C d g args id l e o) :
  Qg P K C (⟨d,none,.callx g args id⟩::l) e o=Qpm P K C d g id l e o ((args.getLast?).map (·.av (look e))) (Qc o id) (ivs (args.dropLast.map (·.av (look e)))) (ivs (args.map (·.av (look e)))):=rfl
theorem ZI {C d id l e o ys s s' y} (hg:XV P K s ys y s') (hy:QI y=true) (h:Qg P K C l (bnd d (.iv y) e) (Xf id (.ext s') o)) :
  Ql6 P K C d id l e o (.cb id) (some (.ext s)) (some ys):=⟨ys,s,s',y,rfl,rfl,.inl ⟨rfl,hg⟩,hy,h⟩
theorem Qjj {C d id l e o ys s s' y} (hg:XV P K s ys y s') (hy:QI y=true) (h:Qg P K C l (bnd d (.iv y) e) (Xf id (.ext s') o)) :
  Ql6 P K C d id l e o (.iv (.lit s.v)) (some (.ext s)) (some ys):=⟨ys,s,s',y,rfl,rfl,.inr (.inl ⟨rfl,hg⟩),hy,h⟩
theorem QcQ {C d id l e o ys s s' y g fs cs} (hc:callee P g=true) (hg:UT P K g (fs++ys++cs) s y s') (hy:QI y=true) (h:Qg P K C l (bnd d (.iv y) e) (Xf id (.ext s') o)) :
  Ql6 P K C d id l e o (.iv (.clo g fs cs)) (some (.ext s)) (some ys):=⟨ys,s,s',y,rfl,rfl,.inr (.inr ⟨g,fs,cs,rfl,hc,hg⟩),hy,h⟩
theorem JC {C d g id l e o ys s s' y all} (hg:QcX P K g ys [] s y s') (hy:QI y=true) (h:Qg P K C l (bnd d (.iv y) e) (Xf id (.ext s') o)) :
  Qpm P K C d g id l e o (some (.cb id)) (some (.ext s)) (some ys) all:=.inl ⟨ys,s,s',y,rfl,rfl,rfl,hg,hy,h⟩
theorem Qjh {C d g id l e o ys s s' y x xs} (hg:UT P K g ys s y s') (hy:QI y=true) (h:Qg P K C l (bnd d (.iv y) e) (Xf id (.ext s') o)) :
  Qpm P K C d g id l e o x (some (.ext s)) xs (some ys):=.inr ⟨ys,s,s',y,rfl,rfl,hg,hy,h⟩
def Qtf (P:Program) (K:World->Prop) (C:Env->Qk->Prop) (d:Option Nat) (g:FuncId) (id:Nat) (l:List QN) (e:Env) (o:Qk) (xs:Option (List IV)) (x:AV) (ob:Option AO):Prop :=
 QuC P K g id (fun v up=>Qg P K C l (bnd d v e) (upL up o)) xs x ob
theorem QbV (C:Env->Qk->Prop) (d:Option Nat) (g:FuncId) (x:Opd) (args:List Opd) (id:Nat) (l:List QN) (e:Env) (o:Qk) :
  Qg P K C (⟨d,none,.callr g x args id⟩::l) e o=Qtf P K C d g id l e o (ivs (args.map (·.av (look e)))) (x.av (look e)) (Qc o id):=rfl
theorem QbW (C d g args ids id l e o) :
  Qg P K C (⟨d,none,.callo g args ids id⟩::l) e o=Qtg P K C d g id ids l e o (ivs (args.map (·.av (look e)))):=rfl
theorem Qbm {C d g id l e o ys q t sz rows mv} (hg:QcY P K g ys q t sz rows mv) (hid:Qc o id=none)
  (h:Qg P K C l (bnd d (ren id q) e) (Xf id (.arr t sz (rows.map (List.map AV.iv)) mv) o)):Qtg P K C d g id [] l e o (some ys):=⟨ys,q,t,sz,rows,mv,rfl,rfl,hg,hid,h⟩
theorem QbT (C d t b op l e o) :
  Qg P K C (⟨d,some (t,b),op⟩::l) e o=gK P K C d t b op l e o (look e t):=by
 simp only[Qg];generalize look e t=v;cases v with
 | iv x =>
   cases x with
   | tup cs=>cases cs<;>rfl
   | bool c=>rfl
   | _=>rfl
 | _=>rfl
theorem Qw {C d g own l e o ys r} (hg:Good P K g ys r) (hs:own=false\/QI r=true)
  (h:Qg P K C l (bnd d (.iv r) e) o):Qbn P K C d g own l e o (some ys):=⟨ys,r,rfl,hg,hs,h⟩
theorem cK {C d g l e o ys r} (hg:Good P K g ys r)
  (h:Qg P K C l (bnd d (.iv r) e) o):Qbn P K C d g false l e o (some ys):=⟨ys,r,rfl,hg,.inl rfl,h⟩
theorem Qq1 (k e o):WpF P K F (.code .skip::k) e o↔WpF P K F k e o :=
 ⟨fun h=>by cases h;assumption,.skip _ k e o⟩
theorem Qun (x y k e o):WpF P K F (.code (.seq x y)::k) e o↔WpF P K F (.code x::.code y::k) e o :=
 ⟨fun h=>by cases h;assumption,.seq _ x y k e o⟩
theorem Qup (l draw k e o):WpF P K F (.code (.ops l draw)::k) e o↔Qg P K (WpF P K F k) l e o :=
 ⟨fun h=>by cases h with | region _ _ _ _ _ _ C h hC=>exact ZK hC l e o h,fun h=>.region _ l draw k e o _ h fun _ _ h=>h⟩
theorem Qq4 (c x y k e o):WpF P K F (.code (.cond c x y)::k) e o↔Qd5 (WpF P K F (.code x::k) e o) (WpF P K F (.code y::k) e o) (c.av (look e)):=by
 constructor
 ·intro h
  cases h with
  | cond _ _ _ _ _ _ _ b hc ht hf=>rw[hc];exact ⟨ht,hf⟩
 ·intro h
  unfold Qd5 at h;split at h
  ·rename_i b hb
   exact .cond _ c x y k e o b hb h.1 h.2
  ·exact h.elim
theorem Qmn (id c k e o):WpF P K F (.code (.block id c)::k) e o↔WpF P K F (.code c::.inBlock id::k) e o :=
 ⟨fun h=>by cases h;assumption,.block _ id c k e o⟩
theorem QgH (id k e o):WpF P K F (.inBlock id::k) e o↔WpF P K F k e o :=
 ⟨fun h=>by cases h;assumption,.inBlock _ id k e o⟩
theorem Qml (c k e o):WpF P K F (.code (.scope c)::k) e o↔WpF P K F (.code c::.inScope::k) e o :=
 ⟨fun h=>by cases h;assumption,.scope _ c k e o⟩
theorem QgG (k e o):WpF P K F (.inScope::k) e o↔WpF P K F k e o :=
 ⟨fun h=>by cases h;assumption,.inScope _ k e o⟩
theorem Qmm (l k e o):WpF P K F (.code (.label l)::k) e o↔WpF P K F k e o :=
 ⟨fun h=>by cases h;assumption,.label _ l k e o⟩
theorem Quo (k e o):WpF P K F (.code .ret::k) e o↔F .ret e o :=
 ⟨fun h=>by cases h;assumption,.ret _ k e o⟩
theorem Qur (e o):WpF P K F [] e o↔F .fall e o :=
 ⟨fun h=>by cases h;assumption,.done _ e o⟩
def Qvo (P:Program) (K:World->Prop) (F:Way->Env->Qk->Prop) (d dx id:Nat) (k:List AI) (e:Env) (o:Qk):AV->Option AO->Prop
 | .oref i,some (.miter kvs seen)=>i=id/\((∀ i,i<kvs.length->i∈seen)->WpF P K F k ((dx,.iv (.bool false))::(d,.iv (.tup [.bool false]))::e) o) /\
   (∀ i q,kvs[i]?=some q->i ∉ seen->WpF P K F k ((dx,.iv (.bool true))::(d,.iv (.tup [.bool true,q.1.iv,q.2]))::e) (Xf id (.miter kvs (i::seen)) o))
 | _,_=>False
@[simp] theorem Qr7 (d dx id k e o i kvs seen):Qvo P K F d dx id k e o (.oref i) (some (.miter kvs seen)) =
  (i=id/\((∀ i,i<kvs.length->i∈seen)->WpF P K F k ((dx,.iv (.bool false))::(d,.iv (.tup [.bool false]))::e) o) /\
    (∀ i q,kvs[i]?=some q->i ∉ seen->WpF P K F k ((dx,.iv (.bool true))::(d,.iv (.tup [.bool true,q.1.iv,q.2]))::e) (Xf id (.miter kvs (i::seen)) o))):=rfl
theorem Quq (d dx x id k e o):WpF P K F (.code (.nxt d dx x id)::k) e o↔Qvo P K F d dx id k e o (x.av (look e)) (Qc o id):=by
 constructor
 ·intro h
  cases h with
  | nxt _ _ _ _ _ _ _ _ kvs seen hx ho hend hmore =>
    rw[hx,ho];exact ⟨rfl,hend,hmore⟩
 ·intro h
  generalize hx:x.av (look e)=xv at h;generalize ho:Qc o id=ov at h;unfold Qvo at h;split at h
  ·obtain ⟨rfl,h1,h2⟩:=h
   exact .nxt _ d dx x _ k e o _ _ hx ho h1 h2
  ·exact h.elim
def ghK (P:Program) (K:World->Prop) (F:Way->Env->Qk->Prop) (id bid off:Nat) (t:TypeId) (sz:Nat) (c:AC) (k:List AI) (e:Env) (o:Qk):Option AO->Option AO->Prop
 | none,some (.box cs)=>cs[off]?=some (.nilr sz)/\WpF P K F (.code c::k) e (Xf bid (.box (cs.set off (.aref id 0))) (Xf id (.arr t sz [] 0) o))
 | _,_=>False
@[simp] theorem QvI (id bid off t sz c k e o cs):ghK P K F id bid off t sz c k e o none (some (.box cs)) =
  (cs[off]?=some (.nilr sz)/\WpF P K F (.code c::k) e (Xf bid (.box (cs.set off (.aref id 0))) (Xf id (.arr t sz [] 0) o))):=rfl
theorem Qwp (id bid off t sz c k e o):WpF P K F (.code (.gh id bid off t sz c)::k) e o↔ghK P K F id bid off t sz c k e o (Qc o id) (Qc o bid):=by
 constructor
 ·intro h
  cases h with
  | gh _ _ _ _ _ _ _ _ _ _ cs hid hb hc h =>
    rw[hid,hb];exact ⟨hc,h⟩
 ·intro h
  generalize hx:Qc o id=xv at h;generalize ho:Qc o bid=ov at h;unfold ghK at h;split at h
  ·exact .gh _ id bid off t sz c k e o _ hx ho h.1 h.2
  ·exact h.elim
def Qk5 (P:Program) (K:World->Prop) (F:Way->Env->Qk->Prop) (id:Nat) (e:Env) (o:Qk):Option (List AI)->Prop
 | some k=>WpF P K F k e o
 | none=>F (.exit id) e o
@[simp] theorem Qrf (id k e o):Qk5 P K F id e o (some k)=WpF P K F k e o:=rfl
@[simp] theorem Qrg (id e o):Qk5 P K F id e o none=F (.exit id) e o:=rfl
theorem Qq3 (id k e o):WpF P K F (.code (.exit id)::k) e o↔Qk5 P K F id e o (Jl id k):=by
 constructor
 ·intro h
  cases h with
  | exit _ _ _ k' _ _ hk h=>rw[hk];exact h
  | exitOut _ _ _ _ _ hk h=>rw[hk];exact h
 ·intro h
  unfold Qk5 at h;split at h
  ·rename_i k' hk
   exact .exit _ id k k' e o hk h
  ·rename_i hk
   exact .exitOut _ id k e o hk h
def QvK (P:Program) (K:World->Prop) (F:Way->Env->Qk->Prop) (t id:Nat) (ks ids:List Nat) (c:AC) (k:List AI) (e:Env) (o:Qk):AV->Option AO->Prop
 | .loc i 0,some (.box cs)=>i=id/\ids.contains id=false/\∃ xs,ivs cs=some xs/\WpF P K F (.code c::k) ((t,.iv (.ptr xs))::Q1 ks ids e) (ZE ids o ids)
 | _,_=>False
@[simp] theorem QuQ (t id ks ids c k e o i cs):QvK P K F t id ks ids c k e o (.loc i 0) (some (.box cs)) =
  (i=id/\ids.contains id=false/\∃ xs,ivs cs=some xs/\WpF P K F (.code c::k) ((t,.iv (.ptr xs))::Q1 ks ids e) (ZE ids o ids)):=rfl
theorem Qus (t id ks ids c k e o) (h:QvK P K F t id ks ids c k e o (look e t) (Qc o id)):WpF P K F (.code (.frz t id ks ids c)::k) e o:=by
 generalize hx:look e t=xv at h;generalize ho:Qc o id=ov at h;unfold QvK at h;split at h
 ·obtain ⟨rfl,h1,xs,h2,h3⟩:=h
  exact .frz _ t _ ks ids c k e o _ xs hx ho h2 h1 h3
 ·exact h.elim
theorem Qwq (ks ids c k e o):WpF P K F (.code (.fz ks ids c)::k) e o↔WpF P K F (.code c::k) (QmA (QkJ ids o) ks ids e) (VO (QkJ ids o) ids o ids) :=
 ⟨fun h=>by cases h;assumption,fun h=>.fz _ ks ids c k e o h⟩
theorem Qnp (lod ids x):Qkn lod ids (.iv x)=.iv x:=by simp[Qkn,imm]
theorem Qg5 (lod:Nat->Option AO) (ids:List Nat):∀ xs:List IV,Qkb lod ids (xs.map AV.iv)=xs.map AV.iv
 | []=>rfl
 | x::r=>by simp[Qkb,Qnp,Qg5 lod ids r]
theorem QaF (lod:Nat->Option AO) (ids:List Nat):∀ xs:List (List IV),(xs.map (List.map AV.iv)).map (Qkb lod ids)=xs.map (List.map AV.iv)
 | []=>rfl
 | x::r=>by
   have:=QaF lod ids r;simp only[QzH,Qg5,this]
@[simp] theorem Quz (lod:Nat->Option AO) (ids:List Nat) (e:TypeId) (sz:Nat) (xs:List (List IV)) (mv:Nat):Qmz lod ids (.arr e sz (xs.map (List.map AV.iv)) mv)=.arr e sz (xs.map (List.map AV.iv)) mv:=by simp only[Qmz,QaF]
def QwS (P:Program) (K:World->Prop) (C:Env->Qk->Prop) (d:Option Nat) (id:Nat) (l:List QN) (e:Env) (o:Qk) (x y:AV) (ob:Option AO):Prop:=Qu1 id (fun v up=>Qg P K C l (bnd d v e) (upL up o)) x y ob
theorem Qf2 (C d id x y l e o) :
  Qg P K C (⟨d,none,.cpy id x y⟩::l) e o=QwS P K C d id l e o (x.av (look e)) (y.av (look e)) (Qc o id):=rfl
theorem Qpg {C d id l e o n mv t es rows ys} (hr:Qad es=some rows) (hn:n=es.length) (hl:ys.length=n)
  (h:Qg P K C l (bnd d (.iv (.int .i64 n)) e) (Xf id (.arr t 1 (ys.map (List.map AV.iv)) ys.length) o)):QwS P K C d id l e o (.aref id n) (.iv (.sl 1 ys)) (some (.arr t 1 es mv)) :=
 ⟨rfl,hn,⟨rows,hr⟩,rfl,rfl,hl,h⟩
theorem QbX (C d g args ids l e o) :
  Qg P K C (⟨d,none,.callh g args ids⟩::l) e o=HK P K g ids d (Qg P K C l) e o (args.map (·.av (look e))):=rfl
theorem Qb0 (C d x args ids l e o) :
  Qg P K C (⟨d,none,.caldh x args ids⟩::l) e o=Qap P K ids d (Qg P K C l) e o (args.map (·.av (look e))) (x.av (look e)):=rfl
theorem ql {ids d C e o avs x g fs cs} (hx:Qjb x=some (g,fs,cs)):Qap P K ids d C e o avs x=(callee P g=true/\HK P K g ids d C e o (fs++avs++cs)):=by
 apply propext;constructor
 ·rintro ⟨g',fs',cs',h1,h2,h3⟩
  grind
 ·rintro ⟨h2,h3⟩
  exact ⟨g,fs,cs,hx,h2,h3⟩
@[simp] theorem Qrn (ids d C e o avs g fs cs):Qap P K ids d C e o avs (.clo g fs cs)=(callee P g=true/\HK P K g ids d C e o (fs++avs++cs)):=ql rfl
@[simp] theorem Qpn (ids d C e o avs g fs cs):Qap P K ids d C e o avs (.iv (.clo g fs cs))=(callee P g=true/\HK P K g ids d C e o (fs.map AV.iv++avs++cs.map AV.iv)):=ql rfl
@[simp] theorem Qti (ids d C e o avs g):Qap P K ids d C e o avs (.iv (.fn g))=(callee P g=true/\HK P K g ids d C e o avs):=by
 rw[ql rfl];simp
theorem ZH {C g ids d e o avs args0 o0 o1 st y} (hg:ZG P K g args0 o0 st y o1) (h1:avs=args0.map (rn (nth ids))) (h2:HOk ids args0 o o0 o1)
  (h:C (bnd d (rn (nth ids) y) (Qkc (Xh ids st o) e)) (QmM ids (Xh ids st o) o o1)):HK P K g ids d C e o avs:=⟨args0,o0,st,y,o1,h1,h2,hg,h⟩
theorem QmH (m:Nat->Nat):∀ xs:List IV,rnL m (xs.map AV.iv)=xs.map AV.iv
 | []=>rfl
 | x::r=>by simp[rnL,rn,QmH m r]
theorem QaP (m:Nat->Nat):∀ xs:List (List IV),(xs.map (List.map AV.iv)).map (rnL m)=xs.map (List.map AV.iv)
 | []=>rfl
 | x::r=>by simp[QmH,QaP m r]
theorem Qd6 (dom:List Nat):∀ xs:List IV,clAL dom (xs.map AV.iv)=true
 | []=>rfl
 | x::r=>by simp[clAL,clA,Qd6 dom r]
theorem Qbl (dom:List Nat):∀ xs:List (List IV),(xs.map (List.map AV.iv)).all (clAL dom)=true
 | []=>rfl
 | x::r=>by simp[Qd6,Qbl dom r]
theorem QeY (m:List Nat):∀ xs:List IV,scrL m (xs.map AV.iv)=xs.map AV.iv
 | []=>rfl
 | x::r=>by simp[scrL,scr,QeY m r]
theorem QbR (m:List Nat):∀ xs:List (List IV),(xs.map (List.map AV.iv)).map (scrL m)=xs.map (List.map AV.iv)
 | []=>rfl
 | x::r=>by simp[QeY,QbR m r]
@[simp] theorem Qhp (m:Nat->Nat) (e:TypeId) (sz:Nat) (xs:List (List IV)) (mv:Nat):rnO m (.arr e sz (xs.map (List.map AV.iv)) mv)=.arr e sz (xs.map (List.map AV.iv)) mv:=by simp only[rnO,QaP]
@[simp] theorem Qjc (dom:List Nat) (e:TypeId) (sz:Nat) (xs:List (List IV)) (mv:Nat):clO dom (.arr e sz (xs.map (List.map AV.iv)) mv)=true:=by simp only[clO,Qbl]
@[simp] theorem QuD (m:Nat->Nat) (e:TypeId) (sz:Nat) (xs:List (List IV)) (mv:Nat):rnO m (XX e sz xs mv)=XX e sz xs mv:=Qhp m e sz xs mv
@[simp] theorem Qu3 (dom:List Nat) (e:TypeId) (sz:Nat) (xs:List (List IV)) (mv:Nat):clO dom (XX e sz xs mv)=true:=Qjc dom e sz xs mv
@[simp] theorem QuB (m:List Nat) (e:TypeId) (sz:Nat) (xs:List (List IV)) (mv:Nat):qV m (.arr e sz (xs.map (List.map AV.iv)) mv)=.arr e sz (xs.map (List.map AV.iv)) mv:=by simp only[qV,QbR]
@[simp] theorem QuJ (x r):nth (x::r) 0=x:=rfl
@[simp] theorem QuK (x r i):nth (x::r) (i+1)=nth r i:=by simp[nth]
@[simp] theorem Qvs (x y r):nth (x::y::r) 1=y:=rfl
@[simp] theorem Qvr (x y z r):nth (x::y::z::r) 2=z:=rfl
@[simp] theorem Qr8 (x y z u r):nth (x::y::z::u::r) 3=u:=rfl
theorem Qq2 (c ks ids k e o):WpF P K F (.code (.loop c ks ids)::k) e o↔WpF P K F (.inLoop c ks ids::k) e o :=
 ⟨fun h=>by cases h;exact .inLoop _ _ _ _ _ _ _ (by assumption),fun h=>by cases h;exact .loop _ _ _ _ _ _ _ (by assumption)⟩
theorem qI (c ks ids k e o):WpF P K F (.inLoop c ks ids::k) e o↔WpF P K F (.code c::.inLoop c ks ids::k) (Q1 ks ids e) (ZE ids o ids) :=
 ⟨fun h=>by cases h;assumption,fun h=>.inLoop _ _ _ _ _ _ _ h⟩
def Q7 (P:Program) (K:World->Prop) (F:Way->Env->Qk->Prop) (c:AC) (ks ids:List Nat) (k:List AI) (e:Env) (o:Qk):Prop :=
 WpF P K F (.code c::.inLoop c ks ids::k) e o
theorem Qmo (res r e o):Xi res r e o=(QnC res e o=some r):=rfl
theorem Qj4 (c ks ids k e o):WpF P K F (.inLoop c ks ids::k) e o↔Q7 P K F c ks ids k (Q1 ks ids e) (ZE ids o ids):=qI c ks ids k e o
theorem VW {c:AC} {ks ids:List Nat} {k:List AI} (st:Nat->Env) (so:Nat->Qk) (n:Nat) (hn:Q7 P K F c ks ids k (st n) (so n))
  (hs:∀ i,i<n->Q7 P K F c ks ids k (st (i+1)) (so (i+1))->Q7 P K F c ks ids k (st i) (so i)):Q7 P K F c ks ids k (st 0) (so 0):=by
 have:∀ m,m<=n->Q7 P K F c ks ids k (st (n-m)) (so (n-m)):=by
  intro m
  induction m with
  | _=>grind
 have:=this n (Qzq _);simpa using this
end
attribute [simp] QrC Qnr Qnq QrM QrB QrS QrT QrO QrN QrU QrK Qns QrL QrG QrF Qry QrJ QrI QrH QrA Qrz Qnv Qnu QrW QrR QrQ QrP QrE Qnt QrD QrV Qvd
@[simp] theorem Qu5 (F e o):FnF F .fall e o=F e o:=rfl
@[simp] theorem Qwt (F e o):FnF F .ret e o=F e o:=rfl
@[simp] theorem Qu6 (F id e o):FnF F (.exit id) e o=False:=rfl
attribute [simp] Ext.hv
attribute [simp] Qmo Qf1 Qdc QbW QbY QbV QbZ QbU QbX Qb0 Qf2 QbT Quq Qwp Qwq Qq1 Qun Qml QgG Qmm Qup Qq4 Qmn QgH Quo Qur Qq3 Qq2 Qj4
attribute [simp] look Qc bnd UY Xf upL ev Opd.av QcC Qgy QiD QiM Qld QiN QiL QiK QiO QiI QcD Qgx Qbe Qgv Qgs QiH Qgw QiG Qgu Qgt QcE Qak QiF Qaj QiE JY evY QuS XS keyOf MK.iv MK.kind
attribute [simp] QkJ Qkn Qkb QmA VO Qmz Xh Qkc Qdj QmM HOk JH rn rnL rnO clA clAL clO Y3 Uf
attribute [simp] AV.iv? ivs UJ AV.cells QdX Wv Qad byteOf bytesOf XL QnI Jl Q1 ZE scr scrL qV QuE Qf6 QnC imm imms immss Yd qD QI scalars ren renL QnD Qza
section
variable {P:Program} {K:World->Prop} {F:Way->Env->Qk->Prop}
theorem Qu {c:AC} {ks ids:List Nat} {k:List AI} (st:Nat->Env) (so:Nat->Qk) (n:Nat) (Q:Nat->Prop) (h0:Q 0)
  (hn:Q n->Q7 P K F c ks ids k (st n) (so n))
  (hs:∀ i,i<n->Q i->(Q (i+1)->Q7 P K F c ks ids k (st (i+1)) (so (i+1)))->Q7 P K F c ks ids k (st i) (so i)):Q7 P K F c ks ids k (st 0) (so 0):=by
 have:∀ m,m<=n->Q (n-m)->Q7 P K F c ks ids k (st (n-m)) (so (n-m)):=by
  intro m
  induction m with
  | _=>grind
 have:=this n (Qzq _);simp at this;exact this h0
theorem UA {c:AC} {ks ids:List Nat} {k:List AI} (n:Nat) (I:Nat->Env->Qk->Prop)
  (hn:∀ e o,I n e o->Q7 P K F c ks ids k e o)
  (hs:∀ i e o,i<n->I i e o->(∀ e' o',I (i+1) e' o'->Q7 P K F c ks ids k e' o')->Q7 P K F c ks ids k e o)
  (e:Env) (o:Qk) (h0:I 0 e o):Q7 P K F c ks ids k e o:=by
 have:∀ m,m<=n->∀ e o,I (n-m) e o->Q7 P K F c ks ids k e o:=by
  intro m
  induction m with
  | _=>grind
 exact this n (Qzq _) e o (by simpa using h0)
end
section
variable {P:Program} {K:World->Prop} {F:Way->Env->Qk->Prop}
theorem QhK {c:AC} {ks ids:List Nat} {k:List AI} (st:List Nat->Env) (so:List Nat->Qk) (n:Nat) (I:List Nat->Prop)
  (h:∀ seen,I seen->(∀ i,i<n->i ∉ seen->I (i::seen)->Q7 P K F c ks ids k (st (i::seen)) (so (i::seen)))->Q7 P K F c ks ids k (st seen) (so seen)) :
  ∀ seen,I seen->Q7 P K F c ks ids k (st seen) (so seen):=by
 have:∀ m seen,((List.range n).filter (fun i=>!seen.contains i)).length<=m->I seen->Q7 P K F c ks ids k (st seen) (so seen):=by
  intro m
  induction m with
  | zero =>
    intro seen hm hI;refine h seen hI fun i hi hns _=>?_
    have:i∈(List.range n).filter (fun i=>!seen.contains i):=by simp[hi,hns]
    grind
  | succ m ih =>
    intro seen hm hI;refine h seen hI fun i hi hns hI'=>ih (i::seen) ?_ hI'
    have hsub:((List.range n).filter (fun j=>!(i::seen).contains j))=((List.range n).filter (fun j=>!seen.contains j)).filter (fun j=>j != i):=by
     rw[List.filter_filter]
     grind
    rw[hsub];have hmem:i∈(List.range n).filter (fun i=>!seen.contains i):=by simp[hi,hns]
    have:=(List.length_filter_lt_length_iff_exists (p:=fun j=>j != i)).2 ⟨i,hmem,by simp⟩
    omega
 exact fun seen hI=>this _ seen (Qzq _) hI
end
section
variable {P:Program} {K:World->Prop} {F:Way->Env->Qk->Prop}
theorem Qa {c c'} (h:c=c') (ks ids k e o):Q7 P K F c ks ids k e o↔WpF P K F (.code c'::.inLoop c ks ids::k) e o:=by subst h;exact Iff.rfl
end
@[simp] theorem QvD (n):IntKind.inR .i64 n ↔ -9223372036854775808<=n/\n<=9223372036854775807:=Iff.rfl
@[simp] theorem QvC (n):IntKind.inR .u64 n↔0<=n/\n<=18446744073709551615:=Iff.rfl
@[simp] theorem QwO (n):IntKind.inR .u8 n↔0<=n/\n<=255:=Iff.rfl
@[simp] theorem QvE (n):IntKind.inR .i32 n ↔ -2147483648<=n/\n<=2147483647:=Iff.rfl
theorem q9:maxLen=9223372036854775807:=rfl
theorem wrap_i64 {n} (h : -9223372036854775808<=n) (h':n<=9223372036854775807):IntKind.wrap .i64 n=n:=by
 unfold IntKind.wrap;simp[IntKind.bits,IntKind.signed];omega
theorem Qaz {n} (h:0<=n) (h':n<=18446744073709551615):IntKind.wrap .u64 n=n:=by
 unfold IntKind.wrap;simp[IntKind.bits,IntKind.signed];omega
theorem Qhf (k:IntKind) (hk:k.bits=64) (a i:Nat) (ha:a<2 ^ 64):Qq7 k (a:Int) (i:Int)=((a >>> i:Nat):Int):=by
 unfold Qq7;rw[hk];have:((i:Int)).toNat=i:=rfl;rw[this];have e:(2 ^ (min i 64):Int)=((2 ^ (min i 64):Nat):Int):=by push_cast;rfl
 rw[e,Int.fdiv_eq_ediv_of_nonneg _ (Int.natCast_nonneg _),<- Int.natCast_ediv,Nat.shiftRight_eq_div_pow];by_cases h:i<=64
 ·rw[QzZ h]
 ·rw[Nat.min_eq_right (by omega),Nat.div_eq_of_lt ha,Nat.div_eq_of_lt]
  exact QzJ ha (Qz0 (by omega) (by omega))
theorem Qhh (a i:Nat) (hi:i<64) (ha:a*2 ^ i<2 ^ 64):QmC .u64 (a:Int) (i:Int)=((a*2 ^ i:Nat):Int):=by
 unfold QmC;have:((i:Int)).toNat=i:=rfl;rw[this,show (IntKind.u64).bits=64 from rfl,QzZ (by omega)]
 have e:(a:Int)*(2 ^ i:Int)=((a*2 ^ i:Nat):Int):=by push_cast;rfl
 rw[e];exact Qaz (Int.natCast_nonneg _) (by omega)
theorem Z6 (a:Nat) (ha:a<2 ^ 64):(BitVec.ofInt 64 (a:Int)).toNat=a:=by
 simp;omega
theorem Qj3 (a b:Nat) (ha:a<2 ^ 64) (hb:b<2 ^ 64):VF .and .u64 (a:Int) (b:Int)=((a &&& b:Nat):Int):=by
 show IntKind.wrap .u64 ((BitVec.ofInt 64 (a:Int) &&& BitVec.ofInt 64 (b:Int)).toNat:Int)=_
 rw[BitVec.toNat_and,Z6 a (by omega),Z6 b (by omega)]
 have:a &&& b<2 ^ 64:=Nat.and_lt_two_pow _ hb;exact Qaz (Int.natCast_nonneg _) (by omega)
theorem Qhw (a b:Nat) (ha:a<2 ^ 64) (hb:b<2 ^ 64):VF .or .u64 (a:Int) (b:Int)=((a ||| b:Nat):Int):=by
 show IntKind.wrap .u64 ((BitVec.ofInt 64 (a:Int) ||| BitVec.ofInt 64 (b:Int)).toNat:Int)=_
 rw[BitVec.toNat_or,Z6 a (by omega),Z6 b (by omega)]
 have:a ||| b<2 ^ 64:=Nat.or_lt_two_pow ha hb
 exact Qaz (Int.natCast_nonneg _) (by omega)
theorem QqZ (a b:Nat) (ha:a<2 ^ 63) (hb:b<2 ^ 63):VF .and .i64 (a:Int) (b:Int)=((a &&& b:Nat):Int):=by
 show IntKind.wrap .i64 ((BitVec.ofInt 64 (a:Int) &&& BitVec.ofInt 64 (b:Int)).toNat:Int)=_
 rw[BitVec.toNat_and,Z6 a (by omega),Z6 b (by omega)]
 have:a &&& b<2 ^ 63:=Nat.and_lt_two_pow _ hb;exact wrap_i64 (by omega) (by omega)
theorem and_one (a i):(a >>> i) &&& 1=(a.testBit i).toNat:=by
 rw[Nat.testBit,Nat.and_comm];have h:=Nat.one_and_eq_mod_two (a >>> i);rw[h];rcases Nat.mod_two_eq_zero_or_one (a >>> i) with e | e<;>simp[e]
theorem QjU (a i:Nat) (ha:a<2 ^ 64):VF .and .u64 (Qq7 .u64 (a:Int) (i:Int)) 1=((a.testBit i).toNat:Int):=by
 rw[Qhf _ rfl a i ha];have h:a >>> i<2 ^ 64:=Nat.lt_of_le_of_lt (by rw[Nat.shiftRight_eq_div_pow];exact Nat.div_le_self _ _) ha
 have:=Qj3 (a >>> i) 1 h (by omega)
 rw[and_one] at this;simpa using this
theorem QqY (a i:Nat) (ha:a<2 ^ 63):VF .and .i64 (Qq7 .i64 (a:Int) (i:Int)) 1=((a.testBit i).toNat:Int):=by
 rw[Qhf _ rfl a i (by omega)]
 have h:a >>> i<2 ^ 63:=Nat.lt_of_le_of_lt (by rw[Nat.shiftRight_eq_div_pow];exact Nat.div_le_self _ _) ha
 have:=QqZ (a >>> i) 1 h (by omega)
 rw[and_one] at this;simpa using this
theorem Qg0 (b):((b.toNat:Int)=1)↔b=true:=by cases b<;>simp
theorem QbK (b:Bool):b.toNat<=1:=by cases b<;>decide
def emb (L:List (List IV)):List (List AV):=L.map (List.map AV.iv)
@[simp] theorem Qrh (L):(emb L).length=L.length:=by simp[emb]
@[simp] theorem Qv9 (L ys):emb L++List.map (List.map AV.iv) ys=emb (L++ys):=by simp[emb]
@[simp] theorem QuZ (L a):emb L++[[.iv a]]=emb (L++[[a]]):=by simp[emb]
@[simp] theorem QuY (L a b):emb L++[[.iv a,.iv b]]=emb (L++[[a,b]]):=by simp[emb]
@[simp] theorem QuX (L a b c):emb L++[[.iv a,.iv b,.iv c]]=emb (L++[[a,b,c]]):=by simp[emb]
@[simp] theorem QuW (L a b c d):emb L++[[.iv a,.iv b,.iv c,.iv d]]=emb (L++[[a,b,c,d]]):=by simp[emb]
@[simp] theorem Qu0 (L):emb L++[]=emb L:=QAx _
@[simp] theorem QuT (L n):(emb L).take n=emb (L.take n):=by simp[emb,QAH]
@[simp] theorem Qv8 (L:List (List IV)) (n:Nat):(emb L)[n]?=(L[n]?).map (List.map AV.iv):=by simp[emb]
@[simp] theorem Qpb (L n) (h:n<(emb L).length):(emb L)[n]=(L[n]'(by simpa using h)).map AV.iv:=by simp[emb]
@[simp] theorem QuV (L n a):(emb L).set n [.iv a]=emb (L.set n [a]):=by simp[emb,List.map_set]
@[simp] theorem QuU (L n a b):(emb L).set n [.iv a,.iv b]=emb (L.set n [a,b]):=by simp[emb,List.map_set]
@[simp] theorem Qsj (l):ivs (l.map AV.iv)=some l:=by
 induction l with
 | nil=>rfl
 | cons a l ih=>simp[ivs,ih,AV.iv?]
@[simp] theorem QuO (L):Qad (emb L)=some L:=by
 induction L with
 | nil=>rfl
 | cons a l ih =>
   show (match ivs (a.map AV.iv),Qad (emb l) with
   | some y,some ys=>some (y::ys)
   | _,_=>none)=_
   rw[ih,Qsj]
theorem Qnz (ids:List Nat) (c:List IV):scrL ids (c.map AV.iv)=c.map AV.iv:=by
 induction c with
 | nil=>rfl
 | cons a l ih=>simp[scrL,scr,ih]
@[simp] theorem Qvh (ids:List Nat) (L:List (List IV)):List.map (scrL ids) (emb L)=emb L:=by
 simp only[emb,List.map_map];apply QAN;intro c _;exact Qnz ids c
@[simp] theorem Qmx {α β} (f:α->β) (l:List α):List.take l.length (l.map f)=l.map f:=by
 rw[Qzt];simp
theorem Qz:emb []=[]:=rfl
section
variable {P:Program} {K:World->Prop}
end
@[simp] theorem Qvb (lod ids L):List.map (Qkb lod ids) (emb L)=emb L:=QaF lod ids L
@[simp] theorem QwE (m L):List.map (rnL m) (emb L)=emb L:=QaP m L
@[simp] theorem QwU (dom L):(emb L).all (clAL dom)=true:=Qbl dom L
inductive Sh where
 | bool
 | int (k:IntKind)
 | str
 | sl (bytes:Nat) (es:List Sh)
inductive UR:Sh->IV->Prop
 | bool (b:Bool):UR .bool (.bool b)
 | int (k:IntKind) (n:Int) (h1:k.min<=n) (h2:n<=k.max):UR (.int k) (.int k n)
 | str (s:List UInt8) (h:s.length<=reachBytes):UR .str (.str s)
 | sl (bytes:Nat) (es:List Sh) (rows:List (List IV)) (hw:rows.length*bytes<=reachBytes) (hm:rows.length<=maxLen) (hl:∀ row∈rows,row.length=es.length)
   (h:∀ row∈rows,∀ (j:Nat) (s:Sh) (x:IV),es[j]?=some s->row[j]?=some x->UR s x):UR (.sl bytes es) (.sl es.length rows)
def Qhg (P:Program) (g:TypeId->Option (List Sh)):List Field->Nat->Option (List Sh)
 | [],_=>some []
 | f::r,off=>match g f.type,Qhg P g r (off+P.cellsOf f.type) with
   | some a,some b=>if f.offset=off/\a.length=P.cellsOf f.type then some (a++b) else none
   | _,_=>none
def shp (P:Program):Nat->TypeId->Option (List Sh)
 | 0,_=>none
 | n+1,t=>match P.underlying t with
   | some .bool=>some [.bool]
   | some (.int k)=>some [.int k]
   | some .string=>some [.str]
   | some (.slice e)=>match shp P n e with
     | some (s::r)=>if (s::r).length=P.cellsOf e then some [.sl (P.bytesOf e) (s::r)] else none
     | _=>none
   | some (.struct fs)=>match Qhg P (shp P n) fs.toList 0 with
     | some ss=>if ss.length=P.cellsOf t then some ss else none
     | none=>none
   | _=>none
inductive R3 (ok:Nat->Prop) (w:World):List Sh->List IV->List Value->Prop
 | nil:R3 ok w [] [] []
 | cons (s:Sh) (x:IV) (v:Value) (ss:List Sh) (xs:List IV) (vs:List Value) (h1:UR s x) (h2:Qv ok w x v) (h3:v.oneCell'=true) (h:R3 ok w ss xs vs):R3 ok w (s::ss) (x::xs) (v::vs)
theorem R3.app {ok:Nat->Prop} {w:World} {ss ss':List Sh} {xs xs':List IV} {vs vs':List Value} (h:R3 ok w ss xs vs) (h':R3 ok w ss' xs' vs'):R3 ok w (ss++ss') (xs++xs') (vs++vs'):=by
 induction h with
 | nil=>exact h'
 | cons s x v ss xs vs h1 h2 h3 _ ih=>exact .cons s x v _ _ _ h1 h2 h3 ih
theorem R3.len {ok:Nat->Prop} {w:World} {ss:List Sh} {xs:List IV} {vs:List Value} (h:R3 ok w ss xs vs):xs.length=ss.length/\vs.length=ss.length:=by
 induction h with
 | nil=>exact ⟨rfl,rfl⟩
 | cons s x v ss xs vs _ _ _ _ ih=>simp[ih]
theorem R3.get {ok:Nat->Prop} {w:World} {ss:List Sh} {xs:List IV} {vs:List Value} (h:R3 ok w ss xs vs):∀ (j:Nat) (s:Sh) (x:IV) (v:Value),ss[j]?=some s->xs[j]?=some x->vs[j]?=some v->UR s x/\Qv ok w x v/\v.oneCell'=true:=by
 induction h with
 | _=>grind
theorem qe {α}:∀ (len) (p:Nat->α->Prop),(∀ i,i<len->∃ x,p i x)->∃ l:List α,l.length=len/\∀ i x,l[i]?=some x->p i x
 | 0,_,_=>⟨[],rfl,fun i x h=>by simp at h⟩
 | n+1,p,h=>by
   obtain ⟨l,h1,h2⟩:=qe n p (fun i hi=>h i (by omega))
   obtain ⟨x,hx⟩:=h n (by omega)
   refine ⟨l++[x],by simp[h1],fun i y hy=>?_⟩
   grind
theorem QaD {H P t e} (hu:P.underlying t=some (.slice e)) {el sp:List (DataW H)} {N} (h:∀ k∈(DataW.slice el sp).weights P t,k<=N) :
  (el.length+sp.length)*P.bytesOf e<=N/\∀ d∈el,∀ k∈d.weights P e,k<=N:=by
 have all:∀ (l:List (DataW H)) (d:DataW H),d∈l->∀ k∈d.weights P e,k∈DataW.weightsAll P e l:=by
  intro l
  induction l with
  | nil=>intro d h;simp at h
  | cons a l ih =>
    intro d hd k hk;simp only[DataW.weightsAll,QzD]
    grind
 refine ⟨h _ (by simp[DataW.weights,hu]),fun d hd k hk=>h k ?_⟩
 simp only[DataW.weights,hu,Qz1,QzD];exact .inr (.inl (all el d hd k hk))
section
variable {H:Type} {enc:TypeId × Value->H} {P:Program} {w:World} {base:Nat} {held:Bool}
theorem Qcz {ok:Nat->Prop} {n m:Nat} (cs:List Value) (IH:∀ (t:TypeId) (cs:List Value) (d:DataW H) (ps:List MemPlace) (ss:List Sh),DataW.trod enc P w base (fun _=>true) held n t cs=some (d,ps)->shp P m t=some ss ->
   (∀ k∈d.weights P t,k<=reachBytes)->∃ xs,R3 ok w ss xs cs):∀ (l:List Field) (ys:List (DataW H × List MemPlace)) (off:Nat) (ss:List Sh),ys.length=l.length ->
  (∀ (i:Nat) (f:Field),l[i]?=some f->DataW.trod enc P w base (fun _=>true) held n f.type ((cs.drop f.offset).take (P.cellsOf f.type))=ys[i]?)->Qhg P (shp P m) l off=some ss ->
  (∀ k∈DataW.weightsEach P (l.map (·.type)) (ys.map (·.1)),k<=reachBytes)->∃ xs,R3 ok w ss xs ((cs.drop off).take ss.length)
 | [],ys,off,ss,_,_,h,_=>by
   simp only[Qhg,Option.some.injEq] at h;subst h;exact ⟨[],by simpa using R3.nil⟩
 | f::r,ys,off,ss,hlen,hf,h,hwt=>by
   obtain ⟨y,ys',rfl⟩:∃ y ys',ys=y::ys':=by
    cases ys with
    | nil=>simp at hlen
    | cons y ys'=>exact ⟨y,ys',rfl⟩
   simp only[Qhg] at h;split at h
   ·rename_i a b ha hb
    split at h
    ·rename_i hc
     injection h with h
     subst h;have h0:=hf 0 f rfl;simp only[List.getElem?_cons_zero] at h0;simp only[QzH,DataW.weightsEach,QzD] at hwt;obtain ⟨xs,hxs⟩:=IH f.type _ y.1 y.2 a h0 ha (fun k hk=>hwt k (.inl hk))
     obtain ⟨xs',hxs'⟩:=Qcz cs IH r ys' (off+P.cellsOf f.type) b (by simpa using hlen) (fun i g hg=>by simpa using hf (i+1) g (by simpa using hg)) hb (fun k hk=>hwt k (.inr hk))
     refine ⟨xs++xs',?_⟩;have:=hxs.app hxs';rw[hc.1,<- hc.2] at this;rw[Qzp,List.take_add,List.drop_drop];exact this
    ·cases h
   ·cases h
theorem WM {ok:Nat->Prop} (hok:∀ b,ok b):∀ (n:Nat) (t:TypeId) (cs:List Value) (d:DataW H) (ps:List MemPlace) (m:Nat) (ss:List Sh),DataW.trod enc P w base (fun _=>true) held n t cs=some (d,ps)->shp P m t=some ss ->
  (∀ k∈d.weights P t,k<=reachBytes)->∃ xs,R3 ok w ss xs cs
 | 0,t,cs,d,ps,m,ss,h,_,_=>by simp[DataW.trod] at h
 | n+1,t,cs,d,ps,0,ss,_,h,_=>by simp[shp] at h
 | n+1,t,cs,d,ps,m+1,ss,h,hs,hwt=>by
   simp only[shp] at hs;split at hs
   ·rename_i hu
    injection hs with hs;subst hs
    obtain ⟨b,rfl,_⟩:=DataW.trod_bool hu h;exact ⟨[.bool b],.cons _ _ _ _ _ _ (.bool b) (.bool b) rfl .nil⟩
   ·rename_i k hu
    injection hs with hs;subst hs
    obtain ⟨z,rfl,_,hz⟩:=DataW.trod_int hu h;simp only[Lit.wf,Qzm,decide_eq_true_eq] at hz;exact ⟨[.int k z],.cons _ _ _ _ _ _ (.int k z hz.1 hz.2) (.int k z) rfl .nil⟩
   ·rename_i hu
    injection hs with hs;subst hs
    obtain ⟨s,rfl,hd,_⟩:=DataW.trod_string hu h;injection hd with hd _
    subst hd;have hl:=hwt s.data.toList.length (by simp[DataW.weights])
    refine ⟨[.str s.data.toList],.cons _ _ _ _ _ _ (.str _ hl) ?_ rfl .nil⟩;have:=Qv.str (ok:=ok) (w:=w) s.data.toList;simpa using this
   ·rename_i e hu
    split at hs
    ·rename_i s0 r0 he
     split at hs
     ·rename_i hc
      injection hs with hs;subst hs
      generalize hes:s0::r0=es at *;have hpos:0<es.length:=by subst hes;simp
      rcases DataW.trod_slice hu h with ⟨rfl,_⟩ | ⟨a,len,cap,elems,rest,n',hn,rfl,hd,hb,hl,hm,hlen,hel,hsp,_⟩
      ·exact ⟨[.sl es.length []],.cons _ _ _ _ _ _ (.sl _ es [] (by simp[reachBytes]) (by simp) (by simp) (by simp)) (.nils _) rfl .nil⟩
      ·injection hn with hn
       subst hn;injection hd with hd _
       subst hd;obtain ⟨hw1,hw2⟩:=QaD hu hwt;simp only[Qzw] at hw1
       have each:∀ i,i<len->∃ row,∃ ci,w.cells? base (a.add (i*es.length)) es.length=some ci/\R3 ok w es row ci:=by
        intro i hi;have h1:=hel i hi;rw[Qzk (by omega),Option.bind_eq_some_iff] at h1
        obtain ⟨ci,h2,h3⟩:=h1;obtain ⟨xs,hx⟩:=WM hok n e ci elems[i].1 elems[i].2 m es h3 he (hw2 _ (by simp;exact ⟨_,Qzr (by omega)⟩))
        exact ⟨xs,ci,by rw[hc];exact h2,hx⟩
       obtain ⟨rows,hrl,hrows⟩:=qe len _ each
       have fit:UR (.sl (P.bytesOf e) es) (.sl es.length rows):=by
        refine .sl _ es rows ?_ (by omega) (fun row hr=>?_) (fun row hr j s x hs hx=>?_)
        ·grind
        ·obtain ⟨i,hi⟩:=QzS hr
         obtain ⟨ci,_,h3⟩:=hrows i row hi;exact h3.len.1
        ·obtain ⟨i,hi⟩:=QzS hr
         obtain ⟨ci,_,h3⟩:=hrows i row hi;have hj:=(Qzl.1 hs).1;have hcl:=h3.len.2;have hjc:j<ci.length:=by omega
         exact (h3.get j s x ci[j] hs hx (Qzk hjc)).1
       refine ⟨[.sl es.length rows],.cons _ _ _ _ _ _ fit ?_ rfl .nil⟩;by_cases hcap:cap=0
       ·have h0:len=0:=by omega
        subst hcap h0;have:rows=[]:=Qzy hrl;subst this;exact .nilz _ a
       have hspot:a.spot=none:=by
        have first:∃ c0,w.cells? base (a.add (0*P.cellsOf e)) (P.cellsOf e)=some c0:=by
         by_cases h0:0<len
         ·grind
         ·obtain ⟨h1,h2⟩:=hsp rfl
          have h3:=h2 0 (by omega)
          rw[Qzk (by omega),Option.bind_eq_some_iff] at h3
          grind
        obtain ⟨c0,h0⟩:=first
        obtain ⟨_,hl0,hc0⟩:=World.cells?_some h0;have h1:=hc0 0 (by omega)
        rw[Qzk (by omega)] at h1
        have h2:=World.cell?_spot h1;obtain ⟨b,off,sp⟩:=a;cases sp with
        | none=>rfl
        | some sp=>simp[Addr.add] at h2
       obtain ⟨b,off,sp⟩:=a;simp only at hspot;subst hspot
       have cellAt:∀ i j row ci,rows[i]?=some row->w.cells? base (Addr.add ⟨b,off,none⟩ (i*es.length)) es.length=some ci->j<es.length->w.cell? ⟨b,off+(i*es.length+j),none⟩=ci[j]?:=by
        intro i j row ci _ hci hj;obtain ⟨_,hl0,hc0⟩:=World.cells?_some hci;have:=hc0 j hj;rw[QM,QM,Qz6] at this;exact this
       have key:∀ i j,i<len->j<es.length->∃ row ci,rows[i]?=some row/\R3 ok w es row ci/\w.cell? ⟨b,off+(i*es.length+j),none⟩=ci[j]?:=by
        grind
       have hrep:=Qv.sl (ok:=ok) (w:=w) es.length rows b off cap (fun k=>(w.cell? ⟨b,off+k,none⟩).getD undef) (by omega) hm (fun c hc=>by
        obtain ⟨i,hi⟩:=QzS hc;obtain ⟨ci,_,h3⟩:=hrows i c hi;exact h3.len.1) (fun k hk=>?_) (fun i j c x hi hj=>?_)
       ·rw[hrl] at hrep
        exact hrep
       ·rw[hrl] at hk
        have hi:k / es.length<len:=Nat.div_lt_of_lt_mul (by rw[Nat.mul_comm];exact hk)
        have hj:k % es.length<es.length:=Nat.mod_lt _ hpos;obtain ⟨row,ci,h1,h2,h3⟩:=key _ _ hi hj;have hk':k / es.length*es.length+k % es.length=k:=by rw[Nat.mul_comm];exact Nat.div_add_mod k es.length
        rw[hk'] at h3;have hcl:=h2.len;have hjc:k % es.length<ci.length:=by omega
        have hcj:ci[k % es.length]?=some ci[k % es.length]:=Qzk hjc;rw[hcj] at h3;refine ⟨hok b,by rw[h3];rfl,?_⟩
        rw[h3];exact (h2.get _ _ _ _ (Qzk hj) (Qzk (by omega)) hcj).2.2
       ·have hil:=(Qzl.1 hi).1
        obtain ⟨row,hrowlen⟩:∃ r,r=c.length:=⟨_,rfl⟩
        have hcl:c.length=es.length:=by
         obtain ⟨ci,_,h3⟩:=hrows i c hi;exact h3.len.1
        have hjl:=(Qzl.1 hj).1;obtain ⟨row',ci,h1,h2,h3⟩:=key i j (by omega) (by omega)
        rw[hi] at h1;injection h1 with h1
        subst h1
        have hjc:j<ci.length:=by
         have:=h2.len;omega
        have hcj:ci[j]?=some ci[j]:=Qzk hjc;rw[hcj] at h3;have:=(h2.get j _ x _ (Qzk (by omega)) hj hcj).2.1
        grind
     ·cases hs
    ·cases hs
   ·rename_i fs hu
    split at hs
    ·rename_i ss' hfs
     split at hs
     ·rename_i hc
      injection hs with hs;subst hs
      obtain ⟨ys,n',hn,hd,hcl,hyl,hf⟩:=DataW.trod_struct hu h;injection hn with hn
      subst hn;injection hd with hd _
      subst hd
      have hw':∀ k∈DataW.weightsEach P (fs.toList.map (·.type)) (ys.map (·.1)),k<=reachBytes:=by
       intro k hk;exact hwt k (by simpa[DataW.weights,hu] using hk)
      obtain ⟨xs,hx⟩:=Qcz (ok:=ok) (m:=m) cs (fun t cs d ps ss h1 h2 h3=>WM hok n t cs d ps m ss h1 h2 h3) fs.toList ys 0 ss' (by simpa using hyl) (fun i f hfi=>hf i f (by simpa using hfi)) hfs hw'
      grind
     ·cases hs
    ·cases hs
   ·cases hs
end
end Go.Ev
namespace Go.Ev
open Go Go.RowKit Go.ChangeShapes Go.WideShapes
def QgI (P:Program) (t:TypeId) (x:IV):Prop :=
 ∃ ss,shp P 7 t=some ss/\match P.underlying t with
  | some (.struct _)=>∃ xs,x=.agg xs/\xs.length=ss.length/\∀ (j:Nat) (s:Sh) (y:IV),ss[j]?=some s->xs[j]?=some y->UR s y
  | _=>∃ s,ss=[s]/\UR s x
theorem QkA {H:Type} {enc:TypeId × Value->H} {P:Program} {W:World} {base:Nat} {ok:Nat->Prop} (hok:∀ b,ok b) {t:TypeId} {v:Value} {d:DataW H} {p:List MemPlace} {ss:List Sh}
  (hv:Value.okWide P W .any base t v) (h:DataW.Trod enc P W 0 (fun _=>true) true t v d p) (hs:shp P 7 t=some ss) (hw:∀ k∈d.weights P t,k<=reachBytes):∃ x,Qv ok W x v/\QgI P t x:=by
 obtain ⟨fuel,hf⟩:=h;obtain ⟨xs,hr⟩:=WM (ok:=ok) hok fuel t _ d p 7 ss hf hs hw;have hl:=hr.len;cases hu:P.underlying t with
 | none=>simp[shp,hu] at hs
 | some D =>
   have agg:∀ fs,D=.struct fs->∃ x,Qv ok W x v/\QgI P t x:=by
    intro fs hD;subst hD;obtain ⟨cs,rfl,_⟩:=okWide_struct hu hv;have hc:(Value.agg cs).cells.toList=cs.toList:=rfl;rw[hc] at hr hl;refine ⟨.agg xs,?_,ss,hs,?_⟩
    ·have:=Qv.agg (ok:=ok) (w:=W) xs cs.toList (by omega) (fun u hu=>?_) (fun k x u hx hu=>?_)
     ·simpa using this
     ·obtain ⟨j,hj⟩:=QzS hu
      have hjl:=(Qzl.1 hj).1;exact (hr.get j _ _ u (Qzk (by omega)) (Qzk (by omega)) hj).2.2
     ·have hjl:=(Qzl.1 hx).1
      exact (hr.get k _ x u (Qzk (by omega)) hx hu).2.1
    ·rw[hu]
     refine ⟨xs,rfl,hl.1,fun j s y h1 h2=>?_⟩
     have hjl:=(Qzl.1 h1).1;exact (hr.get j s y _ h1 h2 (Qzk (by omega))).1
   have one:(∀ fs,D≠.struct fs)->v.cells=#[v]->ss.length=1->∃ x,Qv ok W x v/\QgI P t x:=by
    intro hD hc h1;rw[hc] at hr;obtain ⟨s,rfl⟩:=List.length_eq_one_iff.1 h1;cases hr with
    | cons _ x _ _ xs' _ h1 h2 h3 h =>
      refine ⟨x,h2,[s],hs,?_⟩
      grind
   cases D with
   | struct fs=>exact agg fs rfl
   | bool =>
     simp only[shp,hu,Option.some.injEq] at hs;obtain ⟨b,rfl⟩:=okWide_bool hu hv;exact one (by simp) rfl (by rw[<- hs];rfl)
   | int k =>
     simp only[shp,hu,Option.some.injEq] at hs;obtain ⟨n,rfl⟩:=okWide_int hu hv;exact one (by simp) rfl (by rw[<- hs];rfl)
   | string =>
     simp only[shp,hu,Option.some.injEq] at hs;obtain ⟨n,rfl⟩:=okWide_string hu hv;exact one (by simp) rfl (by rw[<- hs];rfl)
   | slice e =>
     have h1:ss.length=1:=by
      simp only[shp,hu] at hs
      grind
     obtain ⟨a,l,c,rfl⟩:=okWide_slice hu hv;exact one (by simp) rfl h1
   | _=>simp[shp,hu] at hs
theorem Qce {H} {enc:TypeId × Value->H} {P W base ok} (hok:∀ b,ok b):∀ (ts vs) (ds:List (DataW H)) (p:List MemPlace),
  DataW.TrodAll enc P W 0 (fun _=>true) true ts vs ds p->(∀ (j:Nat) t v,ts[j]?=some t->vs[j]?=some v->Value.okWide P W .any base t v)->(∀ t∈ts,(shp P 7 t).isSome=true) ->
  (∀ k∈DataW.weightsEach P ts ds,k<=reachBytes)->∃ xs:List IV,xs.length=vs.length/\vs.length=ts.length/\ds.length=ts.length/\(∀ (k:Nat) (x:IV) (u:Value),xs[k]?=some x->vs[k]?=some u->Qv ok W x u)/\(∀ (k:Nat) (x:IV) (t:TypeId),xs[k]?=some x->ts[k]?=some t->QgI P t x)
 | [],vs,ds,p,h,_,_,_=>by
   obtain ⟨rfl,rfl,rfl⟩:=trodAll_nil h;exact ⟨[],rfl,rfl,rfl,by simp,by simp⟩
 | t::ts,vs,ds,p,h,hv,hs,hw=>by
   obtain ⟨v,vs',d,ds',a,b,rfl,rfl,rfl,h1,h2⟩:=trodAll_cons h;simp only[DataW.weightsEach,QzD] at hw;obtain ⟨ss,hss⟩:=Qz3.1 (hs t (by simp))
   obtain ⟨x,hx1,hx2⟩:=QkA hok (hv 0 t v rfl rfl) h1 hss (fun k hk=>hw k (.inl hk))
   obtain ⟨xs,e1,e2,e3,e4,e5⟩:=Qce hok ts vs' ds' b h2 (fun j t v h1 h2=>hv (j+1) t v (by simpa using h1) (by simpa using h2)) (fun t ht=>hs t (by simp[ht])) (fun k hk=>hw k (.inr hk))
   refine ⟨x::xs,by simp[e1],by simp[e2],by simp[e3],fun k y u hy hu=>?_,fun k y t' hy ht=>?_⟩
   all_goals grind
theorem QbM {H} {enc:TypeId × Value->H} {P W W'} (hl:laidOutB P=true) (hb:Below W.heap.size W W'):∀ (ts vs) (ds:List (DataW H)) (p:List MemPlace),
  (∀ t∈ts,P.readableRec t=true/\t<P.types.size)->DataW.TrodAll enc P W 0 (fun _=>true) true ts vs ds p->DataW.TrodAll enc P W' 0 (fun b=>decide (b<W.heap.size)) true ts vs ds p
 | [],vs,ds,p,_,h=>by
   obtain ⟨rfl,rfl,rfl⟩:=trodAll_nil h;exact trodAll_mk0
 | t::ts,vs,ds,p,hr,h=>by
   obtain ⟨v,vs',d,ds',a,b,rfl,rfl,rfl,h1,h2⟩:=trodAll_cons h;have hlt:∀ x∈a,x.block<W.heap.size:=by obtain ⟨m,hm⟩:=h1;exact DataW.trod_lt m _ _ _ hm
   exact trodAll_cons_mk (Below.trod hl (hr t (by simp)).1 (hr t (by simp)).2 h1 hb hlt) (QbM hl hb ts vs' ds' b (fun t ht=>hr t (by simp[ht])) h2)
theorem Qkt {H} {enc:TypeId × Value->H} {P fn N} {s:ChangeSpec} {tb} (hl:laidOutB P=true) (hvars:s.vars=[]) (hres:fn.resultTypes=#[tb]) (hbool:P.underlying tb=some .bool)
  (hread:∀ t∈fn.params.toList,P.readableRec t=true/\t<P.types.size) (hshp:∀ t∈fn.params.toList,(shp P 7 t).isSome=true)
  (hfn:∀ ds:List (DataW H),ds.length=fn.params.toList.length->s.fn H ds={ results:=[.lit (.bool true)],args:=ds }) {K}
  (hgood:∀ xs:List IV,xs.length=fn.params.toList.length->(∀ (k:Nat) (x:IV) (t:TypeId),xs[k]?=some x->fn.params.toList[k]?=some t->QgI P t x)->Good P K N xs (.bool true))
  (W base args) (ds gs:List (DataW H)) (before:List MemPlace)
  (hval:∀ (j:Nat) t v,fn.params[j]?=some t->args[j]?=some v->Value.okWide P W .any base t v) (hW:DataW.Whole enc P fn.params.toList s.vars false W args.toList ds gs before)
  (hwt:∀ k∈DataW.weightsEach P fn.params.toList ds,k<=reachBytes) (hK:K W) :
  Calls P N args W fun e W'=>∃ v,e=.returned v/\s.post enc P fn false true false false W args v W':=by
 have hW':=hW;obtain ⟨p,q,hA,hV,rfl,hfz,hnd⟩:=hW;rw[hvars] at hV;obtain ⟨rfl,rfl⟩:=trodVars_none hV;obtain ⟨xs,e1,e2,e3,e4,e5⟩:=Qce (ok:=fun _=>True) (fun _=>trivial) fn.params.toList args.toList ds p hA (fun j t v h1 h2=>hval j t v (by simpa using h1) (by simpa using h2)) hshp hwt
 have hg:=hgood xs (by omega) e5 W (fun _=>True) args.toList hK (fun _ _=>trivial) (by omega) e4
 have ha:args.toList.toArray=args:=by simp
 rw[ha] at hg;refine hg.mono fun e W' ⟨v,he,hr,bel⟩=>?_
 subst he;cases hr;have hspec:=hfn (ds++[]) (by simpa using e3)
 refine ⟨_,rfl,ds,[],p++[],[],p,[],hW',?_,?_,?_,bel.frame _,fun h=>by cases h⟩
 ·rw[hspec,hres]
  exact trodAll_mk1 (shut_bool hbool _)
 ·rw[hspec]
  simpa using QbM hl bel fn.params.toList args.toList ds p hread hA
 ·rw[hvars,hspec]
  rfl
end Go.Ev
namespace Go.Ev
open Go
section
variable {α β:Type}
def r1 (n:Nat) (k:Nat->Nat->α):α:=k (n % 16) (n / 16)
def rD (c n:Nat) (k:Nat->Nat->α):α:=k (n % 16 ^ c) (n / 16 ^ c)
def rN (n:Nat) (k:Nat->Nat->α):α:=r1 n fun v n =>
 if v<12 then k v n else if v<14 then r1 n fun d n=>k (12+(v-12)*16+d) n else if v=14 then rD 2 n fun d n=>k (44+d) n else r1 n fun c n=>match c with | 0=>rD 3 n k | 1=>rD 4 n k | 2=>rD 6 n k | _=>rD 16 n k
def rC (f:Nat->(β->Nat->α)->α):Nat->Nat->(List β->Nat->α)->α
 | 0,n,k=>k [] n
 | c+1,n,k=>f n fun x n=>rC f c n fun l n=>k (x::l) n
def rL (f:Nat->(β->Nat->α)->α) (n:Nat) (k:List β->Nat->α):α:=rN n fun c n=>rC f c n k
variable (u:Nat->UInt8) (b:List AC)
def rI (n:Nat) (k:Opd->Nat->α):α:=r1 n fun v n =>
 match v with
 | 0=>k .nilp n
 | 1=>k .nilm n
 | 2=>k .nilf n
 | 3=>rN n fun m n=>k (.int .i64 (-((m:Nat):Int))) n
 | 4=>rN n fun m n=>k (.int .u64 ((m:Nat):Int)) n
 | 5=>rL rN n fun s n=>k (.str (s.map u)) n
 | 6=>rN n fun m n=>k (.fn m) n
 | 7=>rN n fun m n=>k (.nilv m) n
 | 8=>rN n fun m n=>k (.int .i32 ((m:Nat):Int)) n
 | _=>rN n fun m n=>k (.int .u8 ((m:Nat):Int)) n
def rO (l n:Nat) (k:Opd->Nat->α):α:=r1 n fun v n =>
 match v with
 | 7=>k (.int .i64 0) n
 | 8=>k (.int .i64 1) n
 | 9=>rN n fun m n=>k (.t m) n
 | 10=>rN n fun m n=>k (.int .i64 ((m:Nat):Int)) n
 | 11=>k (.bool false) n
 | 12=>k (.bool true) n
 | 13=>rN n fun m n=>k (.nil m) n
 | 14=>rI u n k
 | 15=>r1 n fun m n=>k (.t m) n
 | v=>k (.t (l-v)) n
def rQ (l n:Nat) (k:Option Opd->Nat->α):α:=r1 n fun v n=>if v=0 then k none n else rO u l n fun x n=>k (some x) n
def rB:Nat->BinOp
 | 0=>.add | 1=>.sub | 2=>.eql | 3=>.lss | 4=>.gtr | 5=>.geq | 6=>.leq | 7=>.neq | 8=>.mul | 9=>.quo | 10=>.rem | 11=>.and | 12=>.or | 13=>.xor | 14=>.andNot | 15=>.shl | _=>.shr
def rP (l n:Nat) (k:(Nat × Nat × Opd)->Nat->α):α:=rN n fun a n=>rN n fun b n=>rO u l n fun x n=>k (a,b,x) n
def rKc (n:Nat) (k:Option IntKind->Nat->α):α:=r1 n fun v n=>k (match v with | 0=>none | 1=>some .i64 | 2=>some .u64 | 3=>some .u8 | _=>some .i32) n
def rK (n:Nat) (k:KK->Nat->α):α:=r1 n fun v n=>match v with
 | 0=>k .str n
 | 1=>k (.int .i64) n
 | 2=>k (.int .u64) n
 | 3=>k (.int .u8) n
 | 4=>k (.int .i32) n
 | _=>rL rKc n fun l n=>k (.agg l) n
def rE (l n:Nat) (k:AOp->Nat->α):α:=rN n fun h n =>
 match h with
 | 0=>rO u l n fun x n=>k (.not x) n
 | 1=>rN n fun a n=>rL (rO u l) n fun l n=>k (.alo a l) n
 | 2=>rL (rO u l) n fun q n=>rL (rP u l) n fun p n=>k (.bld q p) n
 | 3=>rN n fun a n=>rN n fun b n=>rN n fun c n=>rN n fun d n=>rO u l n fun x n=>rO u l n fun y n=>k (.app a b c d x y) n
 | 4=>rN n fun a n=>rL (rO u l) n fun l n=>k (.bsl a l) n
 | 5=>rN n fun g n=>rL (rO u l) n fun f n=>rL (rO u l) n fun c n=>k (.yy (.mkf g f c)) n
 | 6=>rO u l n fun x n=>k (.nilc x) n
 | 7=>r1 n fun a n=>rO u l n fun x n=>rO u l n fun y n=>k (.yy (.mx (a==1) x y)) n
 | 8=>rN n fun a n=>rN n fun b n=>rN n fun c n=>k (.nilo a b c) n
 | 9=>r1 n fun a n=>rN n fun m n=>rO u l n fun x n=>rO u l n fun y n=>k (.yy (.eqs (a==1) m x y)) n
 | 10=>rN n fun a n=>rN n fun b n=>rN n fun c n=>rL (rO u l) n fun l n=>k (.bso a b c l) n
 | 11=>rN n fun a n=>rN n fun b n=>rO u l n fun x n=>rO u l n fun y n=>k (.ixo a b x y) n
 | 12=>rN n fun f n=>rL (rO u l) n fun x n=>rL rN n fun i n=>k (.callh f x i) n
 | 13=>rO u l n fun f n=>rL (rO u l) n fun x n=>rL rN n fun i n=>k (.calld f x i) n
 | 14=>rN n fun a n=>rO u l n fun x n=>k (.leno a x) n
 | 15=>rO u l n fun f n=>rL (rO u l) n fun x n=>rN n fun i n=>k (.callb f x i) n
 | 16=>rN n fun f n=>rL (rO u l) n fun x n=>rL rN n fun i n=>rN n fun j n=>k (.callo f x i j) n
 | 17=>rN n fun a n=>rO u l n fun x n=>rQ u l n fun i n=>rQ u l n fun j n=>k (.sli a x i j) n
 | 18=>rN n fun a n=>rO u l n fun x n=>k (.boxo a x) n
 | 19=>rN n fun a n=>rN n fun e n=>rN n fun z n=>k (.yy (.mkm a (if e=0 then none else some (e-1,z)))) n
 | 20=>rN n fun f n=>rL (rO u l) n fun x n=>rN n fun i n=>k (.callx f x i) n
 | 21=>rN n fun a n=>rK n fun h n=>rO u l n fun x n=>rO u l n fun y n=>rO u l n fun z n=>k (.yy (.mupd a h x y z)) n
 | 22=>rN n fun a n=>rK n fun h n=>rO u l n fun x n=>rO u l n fun y n=>rO u l n fun z n=>k (.yy (.mupr a h x y z)) n
 | 23=>rN n fun a n=>rK n fun h n=>rO u l n fun x n=>rO u l n fun y n=>rO u l n fun z n=>k (.yy (.lkd a h x y z)) n
 | 24=>rN n fun a n=>rK n fun h n=>rO u l n fun x n=>rO u l n fun y n=>k (.yy (.lkr a h x y)) n
 | 25=>rK n fun h n=>rO u l n fun x n=>rO u l n fun y n=>rO u l n fun z n=>k (.yy (.lki h x y z)) n
 | 26=>r1 n fun i n=>rO u l n fun x n=>k (.cvi (match i with | 0=>.i64 | 1=>.u64 | 2=>.i32 | 3=>.u8 | _=>.u32) x) n
 | 27=>rO u l n fun x n=>k (.yy (.neg x)) n
 | 28=>rN n fun a n=>rO u l n fun x n=>k (.yy (.rngm a x)) n
 | 29=>rN n fun a n=>rO u l n fun x n=>k (.yy (.ent a x)) n
 | 30=>rN n fun a n=>rO u l n fun x n=>k (.yy (.lenmo a x)) n
 | 31=>rO u l n fun x n=>k (.yy (.lenm x)) n
 | 32=>rN n fun a n=>rN n fun z n=>rO u l n fun x n=>rO u l n fun y n=>k (.yy (.ixa a z x y)) n
 | 33=>rN n fun a n=>rN n fun e n=>rN n fun c n=>rL (rO u l) n fun z n=>rO u l n fun x n=>k (.yy (.mks a e c z x)) n
 | 34=>rN n fun a n=>rO u l n fun x n=>rO u l n fun y n=>k (.cpy a x y) n
 | 35=>rO u l n fun f n=>rL (rO u l) n fun x n=>rL rN n fun i n=>k (.caldh f x i) n
 | 36=>rN n fun a n=>k (.yy (.zslv a)) n
 | 37=>rK n fun h n=>rL (rO u l) n fun z n=>rO u l n fun x n=>rO u l n fun y n=>k (.yy (.lkc h z x y)) n
 | 38=>r1 n fun a n=>rO u l n fun x n=>k (.yy (.isn (a==1) x)) n
 | 39=>rO u l n fun x n=>k (.lst x) n
 | 40=>rN n fun a n=>rO u l n fun x n=>rO u l n fun y n=>k (.yy (.ixg a x y)) n
 | 41=>rN n fun a n=>rO u l n fun x n=>k (.yy (.sl0 a x)) n
 | 42=>rO u l n fun x n=>rO u l n fun y n=>k (.ixs x y) n
 | 43=>rO u l n fun x n=>rQ u l n fun i n=>rQ u l n fun j n=>k (.sls x i j) n
 | 44=>rN n fun f n=>rL (rO u l) n fun x n=>rL rN n fun i n=>k (.call f x i) n
 | 45=>rO u l n fun x n=>rO u l n fun y n=>rO u l n fun z n=>k (.pick x y z) n
 | 46=>rO u l n fun x n=>k (.i2s x) n
 | 47=>rO u l n fun x n=>k (.b2s x) n
 | 48=>rL (rO u l) n fun z n=>rL (rO u l) n fun p n=>k (.yy (.bla z p)) n
 | 49=>rN n fun a n=>rO u l n fun x n=>k (.yy (.nxts a x)) n
 | 50=>rO u l n fun x n=>k (.yy (.r2s x)) n
 | 51=>rN n fun a n=>rO u l n fun x n=>k (.yy (.s2b a x)) n
 | 52=>rN n fun a n=>rO u l n fun x n=>k (.yy (.b2so a x)) n
 | 53=>rN n fun a n=>rO u l n fun x n=>rO u l n fun y n=>k (.yy (.ixb a x y)) n
 | 54=>rN n fun a n=>rO u l n fun x n=>k (.yy (.ldb a x)) n
 | 55=>rN n fun a n=>rO u l n fun x n=>rO u l n fun y n=>k (.yy (.stb a x y)) n
 | 56=>rN n fun a n=>rO u l n fun x n=>k (.yy (.rngs a x)) n
 | 57=>rO u l n fun x n=>k (.cvs x) n
 | 58=>r1 n fun a n=>rO u l n fun x n=>rO u l n fun y n=>k (.beq (a==1) x y) n
 | 60=>rN n fun f n=>rO u l n fun x n=>rL (rO u l) n fun z n=>rN n fun a n=>k (.callr f x z a) n
 | 61=>rN n fun a n=>rK n fun h n=>rO u l n fun x n=>rO u l n fun y n=>rO u l n fun z n=>k (.yy (.ment a h x y z)) n
 | 62=>rN n fun a n=>rO u l n fun x n=>rO u l n fun y n=>rO u l n fun z n=>k (.yy (.ests a x y z)) n
 | 63=>rN n fun a n=>rO u l n fun x n=>k (.yy (.fgt a x)) n
 | _=>k (.yy .no) n
def rA:Nat->Nat->Nat->Nat->Option Nat->Option (Nat × Bool)->(QN->Nat->Nat->Option (Nat × Bool)->α)->α
 | 0,n,l,_,d,g,k=>k ⟨d,g,.mov .nilp⟩ n l g
 | c+1,n,l,m,d,g,k =>
   let K:=fun g x n=>k ⟨d,g,x⟩ n m g
   r1 n fun h n =>
   match h with
   | 0=>K g (.mov (.t l)) n
   | 1=>rO u l n fun x n=>K g (.mov x) n
   | 2=>rN n fun a n=>rO u l n fun x n=>K g (.ldi (a / 2) (a % 2==1) x) n
   | 3=>rN n fun a n=>rO u l n fun x n=>rO u l n fun y n=>K g (.bin (rB a) x y) n
   | 4=>rN n fun a n=>rO u l n fun x n=>K g (.fld a x) n
   | 5=>rN n fun a n=>rL (rO u l) n fun x n=>K g (.call a x []) n
   | 6=>rO u l n fun x n=>rO u l n fun y n=>rO u l n fun z n=>K none (.pick x y z) n
   | 7=>rO u l n fun x n=>rN n fun a n=>K g (.ext x a) n
   | 8=>rN n fun a n=>rN n fun b n=>rO u l n fun x n=>rO u l n fun y n=>k ⟨none,g,.sto a b x y⟩ n l g
   | 9=>rN n fun a n=>rN n fun b n=>rO u l n fun x n=>K g (.ldo a (b / 2) (b % 2==1) x) n
   | 10=>rO u l n fun x n=>K g (.boxi x) n
   | 11=>rO u l n fun x n=>K g (.len x) n
   | 12=>rN n fun a n=>rO u l n fun x n=>rO u l n fun y n=>K g (.ixi a x y) n
   | 13=>rE u l n (K g)
   | 14=>rN n fun d n=>rA c n l l (some d) g k
   | _=>r1 n fun h n =>
     match h with
     | 0=>rA c n l m d none k
     | 1=>rA c n l m d (some (l,true)) k
     | 2=>rA c n l m d (some (l,false)) k
     | 3=>rN n fun s n=>rA c n l m d (some (s,true)) k
     | 4=>rN n fun s n=>rA c n l m d (some (s,false)) k
     | 5=>rA c n l l none g k
     | _=>rN n fun d n=>rA c n l d (some d) g k
def rR:Nat->Nat->Nat->Option (Nat × Bool)->(List QN->Nat->Nat->α)->α
 | 0,n,l,_,k=>k [] n l
 | c+1,n,l,g,k=>rA u 4 n l (l+1) (some (l+1)) g fun x n l g=>rR c n l g fun q n l=>k (x::q) n l
def rT:Nat->Nat->Nat->(AC->Nat->Nat->α)->α
 | 0,n,l,k=>k .skip n l
 | c+1,n,l,k=>r1 n fun h n =>
   let R:=fun k=>rN n fun m n=>rR u m n l none k
   match h with
   | 0=>k .skip n l
   | 1=>R fun x n l=>k (.ops x false) n l
   | 2=>R fun x n l=>rT c n l fun y n l=>k (.seq (.ops x false) y) n l
   | 3=>rT c n l fun x n l=>rT c n l fun y n l=>k (.seq x y) n l
   | 4=>rO u l n fun o n=>rT c n l fun x n l=>rT c n l fun y n l=>k (.cond o x y) n l
   | 5=>rN n fun i n=>rT c n l fun x n l=>k (.block i x) n l
   | 6=>rN n fun i n=>rL rN n fun s n=>rL rN n fun d n=>k (.loop (b.getD i .skip) s d) n l
   | 7=>rN n fun i n=>k (.exit i) n l
   | 8=>rT c n l fun x n l=>k (.scope x) n l
   | 9=>rN n fun i n=>k (.label i) n l
   | 10=>k .ret n l
   | 11=>rN n fun d n=>rN n fun e n=>rO u l n fun x n=>rN n fun i n=>k (.nxt d e x i) n l
   | 12=>rN n fun i n=>rN n fun d n=>rN n fun o n=>rN n fun e n=>rN n fun s n=>rT c n l fun x n l=>k (.gh i d o e s x) n l
   | 13=>rN n fun t n=>rN n fun i n=>rL rN n fun s n=>rL rN n fun d n=>rT c n l fun x n l=>k (.frz t i s d x) n l
   | 14=>rO u l n fun f n=>rL rN n fun p n=>rN n fun i n=>rL rN n fun s n=>rL rN n fun d n=>k (.range f p (b.getD i .skip) (b.getD (i+1) .skip) s d) n l
   | _=>r1 n fun h n =>
     match h with
     | 0=>rL rN n fun s n=>rL rN n fun d n=>rT c n l fun x n l=>k (.fz s d x) n l
     | _=>rN n fun m n=>rR u m n l none fun x n l=>k (.ops x true) n l
end
def rF (u:Nat->UInt8) (b:List AC) (n:Nat):AFn:=rN n fun t n =>
 rL (fun n k=>r1 n fun h n=>rN n fun t n=>match h with | 0=>k (.tmp t) n | _=>rN n fun m n=>k (.cell t m (h==2)) n) n fun s n =>
 rN n fun l n=>rT u b 500 n l fun c _ _=>⟨t,s,c⟩
def rS (u:Nat->UInt8) (b:List AC) (n:Nat):AC:=rN n fun l n=>rT u b 500 n l fun c _ _=>c
abbrev Ri {α:Sort _} (x:α):={ y:α // x=y }
abbrev U8:=Nat->UInt8
@[simp] abbrev f0 (n:Nat) (h:Ri fun u:U8=>rF u [] n):AFn:=h.1 UInt8.ofNat
@[simp] abbrev b0 (n:Nat) (h:Ri fun u:U8=>rS u [] n):AC:=h.1 UInt8.ofNat
@[simp] abbrev f1 (n:Nat) (x:AC) (h:Ri fun (u:U8) (x:AC)=>rF u [x] n):AFn:=h.1 UInt8.ofNat x
@[simp] abbrev b1 (n:Nat) (x:AC) (h:Ri fun (u:U8) (x:AC)=>rS u [x] n):AC:=h.1 UInt8.ofNat x
@[simp] abbrev f2 (n:Nat) (x y:AC) (h:Ri fun (u:U8) (x y:AC)=>rF u [x,y] n):AFn:=h.1 UInt8.ofNat x y
@[simp] abbrev b2 (n:Nat) (x y:AC) (h:Ri fun (u:U8) (x y:AC)=>rS u [x,y] n):AC:=h.1 UInt8.ofNat x y
@[simp] abbrev f3 (n:Nat) (x y z:AC) (h:Ri fun (u:U8) (x y z:AC)=>rF u [x,y,z] n):AFn:=h.1 UInt8.ofNat x y z
@[simp] abbrev b3 (n:Nat) (x y z:AC) (h:Ri fun (u:U8) (x y z:AC)=>rS u [x,y,z] n):AC:=h.1 UInt8.ofNat x y z
theorem fk {P f fn} (h:P.funcs[f]?=some fn) (A) (k:Qcw P fn A=true):Qnc P f A:=⟨fn,h,k⟩
end Go.Ev
namespace Go.Pf
open Go Go.Ev Go.Proofs Go.RowKit
set_option maxRecDepth 100000
set_option maxHeartbeats 1000000
def Qwf:=b0 0x4d914e83d9034de4f13de310ac12e12046aea0433f12203e05d98380030cd913022004014013c4f10221f04022014014013c4f10221f043f15d6f7c1f31530700403330b0221f044f1523dc ⟨_,by conv=>lhs;reduce⟩
def c5:=f1 0xab12e12043130605714e12303e800303130220041f240220141f24920ab12e1204707301651f1c23230ac12e12040c46cda0430b0221f442f0cda0430b02210456fa23b10a22020109e Qwf ⟨_,by conv=>lhs;reduce⟩
def Qy6:=fk Tryz.func5 c5 (by kernel_rfl)
def Qwe:=b0 0x6e913e805e90306ee3f105ee310a2da12e12040c21e963e80fa043022014014013c3f10221f042f00c0fe9600d0816e93ec5022014014013c3f10221f04022004014013c3f10221f042f000d3e80fa803ec5022004013c3f10221f0407e6f8d1f31530700403330b0221f043f1523fd ⟨_,by conv=>lhs;reduce⟩
def Qwd:=b0 0x31e914e830e90331ee4f130ee310a2da12e12040c4600d000000003b9ac9ff3fa703ec502595f342f000d02439502595f2402595f1402595f042c205f4587777451d5e092014c4f10221f4432e6f723532700403330b0221f444f15232ae ⟨_,by conv=>lhs;reduce⟩
def c6:=f2 0xa712e1204121625714e12303120605713e1230a2da12e12040c4600d6a703ec50221f542f00c466a0430b0221f442f00c468ca0430220141f242f00c4c9600d0733ec50220141f240220041f242f00c4600d270f1fa703ec50221f142f03a0430b02210466fad23710a22020145e Qwe Qwd ⟨_,by conv=>lhs;reduce⟩
def Qy5:=fk Tryz.func6 c6 (by kernel_rfl)
def Qwc:=b0 0x3d915e82d9033de5f12de310ab14e120400d0fd98d93ec5022014014013c5f10222f04022004014013c5f10222f04022011c5f10223f044d6f9c1f31530700403330b0223f045f1523cc ⟨_,by conv=>lhs;reduce⟩
def c7:=f1 0xa04e02630222f54012fc53f522f1c209e6f71f3053230605715e1230ab14e12040cdf600d0363ec50220142f240220042f240223f142f003730b0226040b02210466f7c23b11a1a3214010fe Qwc ⟨_,by conv=>lhs;reduce⟩
def Qy4:=fk Tryz.func7 c7 (by kernel_rfl)
def c9:=f0 0xa06eb026000000003b9ac9ff3fa703ec52f11f0b02637ea703ec51f11f0270f1fa703ec561b2b11256015c ⟨_,by conv=>lhs;reduce⟩
def Qy3:=fk Tryz.func9 c9 (by kernel_rfl)
def QqN:=b0 0x1d9052c87777752c1d211c ⟨_,by conv=>lhs;reduce⟩
def Quj:=b0 0xdf11c88003df21c9310cf10c88003cf20c9310404530283022c9ef447f22048302206406daf2a9012349d56f225f22efb2c9af2a93c1f3151d ⟨_,by conv=>lhs;reduce⟩
def c10:=f2 0xa719e3a18e220a719e2a18e2224008ee7023cf20c909e6f32a719e818e2224005ee7023df21c906e6f322531c0ca31c0ca765601d10e050018d5daf2a92237df11c87cf10c8711c1d1ce710c1d0ce420a09e718ebf132047073bf12230be1af1a80e1a1dae1ff706703ce0426d501237d57f226f225f2251c24c6f0c1f371713a3a3a3a623908020be QqN Quj ⟨_,by conv=>lhs;reduce⟩
def Qyq:=fk Tryz.func10 c10 (by kernel_rfl)
def c11:=f0 0xa0ae03530183cf14f1bf16200ce11be16705701ce01234ad53f12f16f5251c22c6fa2b1a6f4a4a324a01ec ⟨_,by conv=>lhs;reduce⟩
def Qyg:=fk Tryz.func11 c11 (by kernel_rfl)
def c12:=f0 0xa02e0c569a0430b01bd50221f042f00c4638ea0430bdd0226042f0cda0430b0221146c2b10a2202018c ⟨_,by conv=>lhs;reduce⟩
def c12_ok:=fk Tryz.func12 c12 (by kernel_rfl)
def c13:=f0 0xa713e02e5f1320a57ea13e2d12e220470230b5f132305e032dd50b0221f144f1620a57ea13e2d12e2204ba0430b4f132304e01bd50221f04420a57ea13e2d12e220438ea0430bdd0221f044230a56ea13e2d12e220400d01cd525266f323712d10a320302020d ⟨_,by conv=>lhs;reduce⟩
def c13_ok:=fk Tryz.func13 c13 (by kernel_rfl)
def c14:=f0 0xa02e512204e113e13702705e01ed515266f72710a220201b ⟨_,by conv=>lhs;reduce⟩
def c14_ok:=fk Tryz.func14 c14 (by kernel_rfl)
def c15_b0:=b0 0x2de82d903210a713e3a12e220401736f1012fd58f14f15208e022131c321530700431033122d ⟨_,by conv=>lhs;reduce⟩
def c15:=f1 0xa713e02e6f1cd6f3202d1d0d6450605710b02200406d4f162306e062fd5022701c02200406d4f14f1920a03e712e5f1320470735f122305e114e13702709e01ed5252a6f7271710a32030202dd c15_b0 ⟨_,by conv=>lhs;reduce⟩
def c15_ok:=fk Tryz.func15 c15 (by kernel_rfl)
def c16:=f0 0xa715e04e012fd57f16f1520a05e714e8f1320470738f122308e117e216e25714703709e01200e51f1352a6fa2717146f1a32150402ac ⟨_,by conv=>lhs;reduce⟩
def c16_ok:=fk Tryz.func16 c16 (by kernel_rfl)
def c17:=f0 0xa04e14e02314e0b3024c301ecd5102221482b146f1a2214010c ⟨_,by conv=>lhs;reduce⟩
def c17_ok:=fk Tryz.func17 c17 (by kernel_rfl)
def c18:=f0 0xa04e3a0230f1320a04e00d1f1321409e2a323a6f22a04e61221406e802376f220541123b11234013c ⟨_,by conv=>lhs;reduce⟩
def c18_ok:=fk Tryz.func18 c18 (by kernel_rfl)
def c24:=f0 0xa713e02e0b02200406d4f1720a03e712e5f1320470735122305e114e13702706e01ed525276f7271710a320302027c ⟨_,by conv=>lhs;reduce⟩
def c24_ok:=fk Tryz.func24 c24 (by kernel_rfl)
def c25:=f0 0xa03eb12e5f1320a713ec12e221402ce3a2233c6f22a713eb12e221400ce70231c6f22055112305e114e13702706e010fe525276f7271b10a320302025c ⟨_,by conv=>lhs;reduce⟩
def c25_ok:=fk Tryz.func25 c25 (by kernel_rfl)
def c26:=f0 0xa06e012310e561616152b1125601b ⟨_,by conv=>lhs;reduce⟩
def QwY:=fk Tryz.func26 c26 (by kernel_rfl)
def Quc:=b0 0xdf16e8cf031ce6f10ce31005e80035f1310400d056311e5092014c6f10222f443f522f1c22c6f91f31530700403330b02254405236 ⟨_,by conv=>lhs;reduce⟩
def c27:=f1 0xa04e11dc6f220653240605711237112711a1a321401ec Quc ⟨_,by conv=>lhs;reduce⟩
def QwX:=fk Tryz.func27 c27 (by kernel_rfl)
def c28:=f0 0xa0220801137e4d46e43e4d36e4d38e42e35e4d35e4d48e43e42e4c5e1021d05e22d83a3a314d321d05e201d0e12020213 ⟨_,by conv=>lhs;reduce⟩
def c28_ok:=fk Tryz.func28 c28 (by kernel_rfl)
def Qd8:=b0 0x0 ⟨_,by conv=>lhs;reduce⟩
def QjL:=b0 0x2f12880032f22931153c ⟨_,by conv=>lhs;reduce⟩
def c29:=f2 0xa713e02f1282f2296c6f32212103c10e050018d5d4f12230a03e72f1283f1320470736122303e114e13702705ec026d521c266f72717121d0a3203012127c Qd8 QjL ⟨_,by conv=>lhs;reduce⟩
def Qub:=fk Tryz.func29 c29 (by kernel_rfl)
def c30:=f0 0xa00f6080142228ca11310474d7773d62d0144dceea139c40fa125a11aa104777742d2a1181027722d02234d02106ea10277732d5a115a1027722d02138ea10277732dba11aa1027722da274d7773d601d0e1206021a ⟨_,by conv=>lhs;reduce⟩
def Qua:=fk Tryz.func30 c30 (by kernel_rfl)
def c33_b0:=b0 0x4c915e8ff034ce5f13ce310ab14e12040473022011c5f11f1022011c5f10f15c6f91f31530700402330b0f151423a ⟨_,by conv=>lhs;reduce⟩
def c33:=f1 0xac14e12051030605715e1230ab14e120402730b610b4166f523b1123401ec c33_b0 ⟨_,by conv=>lhs;reduce⟩
def c33_ok:=fk Tryz.func33 c33 (by kernel_rfl)
def QjK:=b0 0x0 ⟨_,by conv=>lhs;reduce⟩
def Qm7:=b0 0xa75f15804f1487f27932157c ⟨_,by conv=>lhs;reduce⟩
def c34:=f2 0xa3a5f1580e4f148227543754307c10e050018d5d7f27922307f1780e171d7e0115e52f1c2420a85f1580e4f148220400d1f12230a05f1580e4f1485132047073312206e0114e531c286f3237151d0e141d46f1a32115114129c QjK Qm7 ⟨_,by conv=>lhs;reduce⟩
def Qt7:=fk Tryz.func34 c34 (by kernel_rfl)
def c35:=f0 0xa06eb026000000003b9ac9ff3fa70316e52f11f0b02637ea70316e51f11f0270f1fa70316e561b2b11256015c ⟨_,by conv=>lhs;reduce⟩
def Qt6:=fk Tryz.func35 c35 (by kernel_rfl)
def qm:=b0 0x9f1118f054877777541d223 ⟨_,by conv=>lhs;reduce⟩
def QcT:=b0 0xa04b04600d00113cd4fb493f2391f0056302205400406d2f22411c2159 ⟨_,by conv=>lhs;reduce⟩
def c36:=f2 0x30232209820e0500117e5d12266f22136cd1a2210bc qm QcT ⟨_,by conv=>lhs;reduce⟩
def Qt5:=fk Tryz.func36 c36 (by kernel_rfl)
def c37:=f0 0xa08e09f030707d041302830225f343f102201400406d0f1612c1f37186f3a224801ac ⟨_,by conv=>lhs;reduce⟩
def Qt4:=fk Tryz.func37 c37 (by kernel_rfl)
def Qt3:=b0 0xfc91ae8ec903fceaf1ece3109e0583022011caf10225f049f18108e0683022004013caf10224f048f10d6f921530700403330b0224f04af15238c ⟨_,by conv=>lhs;reduce⟩
def c38:=f1 0xa09e118e9f18f1fd6f420a98545060571ae123819e08e0bf030707d041302830225f143f10224f142f1b6f0c2717186f3a3a4239080201e Qt3 ⟨_,by conv=>lhs;reduce⟩
def QwW:=fk Tryz.func38 c38 (by kernel_rfl)
def Qt2:=b0 0xbf14e8af03be4f1ae3110158ac97c915bd0503003ed0114d01edd4f10f102590315bd8013052cd3f13f12c1f03e014c1953d05e114d3f141044d9e02301edd4f10f10c6f421530700402330bdd61114235 ⟨_,by conv=>lhs;reduce⟩
def c39:=f1 0xa02e214d6f225143030605714e12303e05e1195ad56f221d11212015d Qt2 ⟨_,by conv=>lhs;reduce⟩
def c39_ok:=fk Tryz.func39 c39 (by kernel_rfl)
def Qt1:=b0 0xaf13e89f03ae3f19e310ab12e120400d3a80310e5022011c3f10221f14b6f721530700403330b02231405233 ⟨_,by conv=>lhs;reduce⟩
def c40:=f1 0xa02e6a0630b0222146c6f520312060571123b10a220201ac Qt1 ⟨_,by conv=>lhs;reduce⟩
def c40_ok:=fk Tryz.func40 c40 (by kernel_rfl)
def c41_b0:=b0 0x9c916e88c9039ce6f18ce31005e03d9cc20ee53d0124d011210204e05e22d0118e56f1022701c0f15f1a1f040523003ed0114d03ecd035ea036f1022701c0f1ac6f91f31530700401331f16f13234c ⟨_,by conv=>lhs;reduce⟩
def c41_b1:=b0 0xfe918e80ee9030fee8f10eee3105e010e9cc20ee53d0124d011610204e05e22d0ffffffffffffffff3f4e1c3022014012c8f17f1dd15e00304d48e43e42ecd55e03022004012c8f17f15f110e6f6c1f3532700402330b7f18f142309e ⟨_,by conv=>lhs;reduce⟩
def c41_b2:=b0 0x44e911ce843e90344eedf143ee3105e045e9cc20ee53d0124d01159e910204e05e22d055de931ae5022014012cdf1bf1022014012ccf1af1022011c9f10f1dd15e0030503022004012cdf1bf14d15e0030403022011c9f10f14d15e0030cd15e03022004012ccf1af15f145e6fcd1f9538700402330bbf1df14233ee ⟨_,by conv=>lhs;reduce⟩
def c41_b3:=b1 0xce8003cf131511c0cba951080685711ce127536700402330baf1cf142338e c41_b2 ⟨_,by conv=>lhs;reduce⟩
def c41_b4:=b1 0x27e919e826e90327ee9f126ee31510cba951070665710ce120be61ae012dd51f1001215cd80039f10f1012dd51f1010115cd9f10f11c1f30570400d0119e5022011c9f10f128e6f62355347004033380130b0f19f152320e c41_b3 ⟨_,by conv=>lhs;reduce⟩
def c41:=f3 0xa04e5f16ce6f2251951042645819e1230518751051625718e1207e012dd51f1081015cd0f15204b04648e43e42e35e023022701c0f11f080430b0f19230a04e5f1cd6f2251651040605716e1230480230b512c6f32320ee58d122d11234016de c41_b0 c41_b1 c41_b4 ⟨_,by conv=>lhs;reduce⟩
def c41_ok:=fk Tryz.func41 c41 (by kernel_rfl)
def c42_b0:=b0 0x9de89d903211014c84514cbd010c37f1024c90114cbd8f1026c901406d4f1b108e11224533700431033129d ⟨_,by conv=>lhs;reduce⟩
def c42_b1:=b0 0x10ee810e903212016c801414e96d04816de4c3d0114d010c37f1af1026c901406d4f14f11c10ae024c91314cbd3265357004310331210e ⟨_,by conv=>lhs;reduce⟩
def c42_b2:=b2 0xace8ac90321e6f21a56ea13e0e12e226c4c210e0fe0eeac9c8c741916557104c2cd026c901406d4f16214009ee3a1d9230ae6f22014007ee2a1d92308e6f226c4c29d8dac9c8c741806357104c2cd026c901406d4f1621402de80233d6f22256f11207e014e3c35f13206e215e022241c1152153070043103312ac c42_b0 c42_b1 ⟨_,by conv=>lhs;reduce⟩
def c42:=f1 0xa713e02e4f1320a57ea13e0e12e220470230b026c900406d4f1622016c800456d0321ce50b0221f14bf14f19230a57ea13e0e12e2204ba0430bbf13230be4d15e021be50221f0422e6f426c4c2ac9c8c4150605710b0221f1442304e06c6cd01111d1d22d04e116de4cad420a56ea13e0e12e22046a0430b0222140c6f423710e10a3203020237e c42_b2 ⟨_,by conv=>lhs;reduce⟩
def c42_ok:=fk Tryz.func42 c42 (by kernel_rfl)
def c43:=f0 0xa3a14e120a2a14e121403ce77f234c6f22a814e126408e06230b02201406d0f196f72050121de54141323711234015c ⟨_,by conv=>lhs;reduce⟩
def c43_ok:=fk Tryz.func43 c43 (by kernel_rfl)
def c44:=f0 0xa716e05e0d914e022011c1f102200406d7f17f1b1f30a816e0e15e0e14e32040c7c9605530b02200406d7f11f12f070331f1b230a06e0e15e0e14e8f1420470735122308e117e13702709e01ed5452a6f72710e10e146f1a42160504038d ⟨_,by conv=>lhs;reduce⟩
def c44_ok:=fk Tryz.func44 c44 (by kernel_rfl)
def QjJ:=b0 0xcc914e8bc903cce4f1bce31003e80033f131042a023022024015c4f10221f04dc6f721530700403330b0221f044f15235c ⟨_,by conv=>lhs;reduce⟩
def c45:=f1 0xa02e5a0433f16d6f32043130605714e123713e120ab12e12047073011ee51f723230ac12e12040c46cda0430b0221f142f0cda0430b02210456fa23b10a2202018d QjJ ⟨_,by conv=>lhs;reduce⟩
def Qt0:=fk Tryz.func45 c45 (by kernel_rfl)
def c48:=f0 0xa713e02e022031c0b0221f045f18206e115e14703700ce011fe50221f041c6f820a03e712e6132047073412204e011ee527276f32371710a32030202cc ⟨_,by conv=>lhs;reduce⟩
def QtX:=fk Tryz.func48 c48 (by kernel_rfl)
def c56:=f0 0xa04e70530122de5414152b11234019 ⟨_,by conv=>lhs;reduce⟩
def QtP:=fk Tryz.func56 c56 (by kernel_rfl)
def c57:=f0 0xa02f3283f73922201383f14501383f0402cd562e93d0221f140562e9ad02cd572e53d0224040572e5ad0c1f30133875d5d331d3e17246f3275d5d321d0a22032214c ⟨_,by conv=>lhs;reduce⟩
def QtO:=fk Tryz.func57 c57 (by kernel_rfl)
def c59_b0:=b0 0x9ee809e903210ae06813a3d0114d00ecd14e0b3014c3bf17f1af1910be112255347004310331209e ⟨_,by conv=>lhs;reduce⟩
def c59_b1:=b1 0x6de86d90321a713e02eaf115e6f32a109e08ea740645710b0221f1442313a8dae12037040cd900eed0122ee57f1022701c02200406d4f10122ee57f19f10c1f3309e022131c323532700431033126d c59_b0 ⟨_,by conv=>lhs;reduce⟩
def c59_b2:=b1 0xdce8dc90317e6f2106d5d4ddcccbc74190625710b02200406d4f16207e022131c32153070043103312dc c59_b1 ⟨_,by conv=>lhs;reduce⟩
def c59:=f1 0xa3a13e1d12e220dcccbc4150605710b02201406d4f16230a03e1d12e5f1320470735f122305e114e13702700ce01ed52521c6f72711d10a3203020218e c59_b2 ⟨_,by conv=>lhs;reduce⟩
def c59_ok:=fk Tryz.func59 c59 (by kernel_rfl)
def c60:=f0 0xa06eb03601632f10f11f00153616192b11256013c ⟨_,by conv=>lhs;reduce⟩
def c60_ok:=fk Tryz.func60 c60 (by kernel_rfl)
def c61:=f0 0xa06e046301838f10225f340207d0fcd9f19f1a209e041301838f10225f247f17208e117e1af70af70ae02454ad50225f140225f044f5231c2b6f0c2b12a2a2a4226017d ⟨_,by conv=>lhs;reduce⟩
def QwV:=fk Tryz.func61 c61 (by kernel_rfl)
def c62:=f0 0xa02f52811f51820f30881413e136a1037777752d13e146a138116a1047777752d0f7096200f308010175d5d32d0123456572e9ad2a147a1381281047777752d2a122a1027777752d4a1017777752d8146a132a1181047777752d2a145a1381181047777752d8145a1381037777752d9277777521d77777511d75d5d301d0e32052251230232c ⟨_,by conv=>lhs;reduce⟩
def QtM:=fk Tryz.func62 c62 (by kernel_rfl)
def c64:=f0 0xa2da12e12a712e12044004ee00d6a70316e50221f5405e6f5209d9409de0c4601232e54f10221f442f06a0430b0221f44ad6fb204c9404ce0c468ca0430220141f242f00c9c9600d073316e50220141f240220041f242f000d270f1fa70316e50221f145c6f9c205f405e0c4601231e53f10221f042f03a0430b02230466fb205330e6e1122fe6e112710a22020109e ⟨_,by conv=>lhs;reduce⟩
def QtK:=fk Tryz.func64 c64 (by kernel_rfl)
def QjE:=b0 0xce8cf03212018806466d028302595f04028906406d3f1a1f05f358777351d5e072133c421530700431033120c ⟨_,by conv=>lhs;reduce⟩
def c65:=f1 0xa02e3f1ec6f22810cba340605710b0221f0442303e086cd8160602774d7773d72d11c266f420e10a220201fc QjE ⟨_,by conv=>lhs;reduce⟩
def QtJ:=fk Tryz.func65 c65 (by kernel_rfl)
def c66:=f0 0xa06eb03601632f10f11f001630f15192b11256013c ⟨_,by conv=>lhs;reduce⟩
def QtI:=fk Tryz.func66 c66 (by kernel_rfl)
def c67:=f0 0x712433e8cd4181417777752d3141308 ⟨_,by conv=>lhs;reduce⟩
def QtH:=fk Tryz.func67 c67 (by kernel_rfl)
def QtG:=b0 0x8f14e87f038e4f17e31003e030c3014e3c301ecd4f13f16104802380b3024c301ecd0f12196f621530700414ea03302234 ⟨_,by conv=>lhs;reduce⟩
def c68:=f1 0xa02e118c6f220430306057112304e11204e11212019c QtG ⟨_,by conv=>lhs;reduce⟩
def c68_ok:=fk Tryz.func68 c68 (by kernel_rfl)
def c69:=f0 0xa02e0c263ae3de25e0230f12f00c2646e43e25e023512f038e42e35e35e02321b2b11212011c ⟨_,by conv=>lhs;reduce⟩
def c69_ok:=fk Tryz.func69 c69 (by kernel_rfl)
def c70:=f0 0xa06e020c30ffffffffffffffff3f4e1c32f11f1520a06e010c32f11f1421401ce46e43e25e5232c6f22a06e01b32f11f1421408e38e42e35e35e02396f22056112304e1125601ac ⟨_,by conv=>lhs;reduce⟩
def c70_ok:=fk Tryz.func70 c70 (by kernel_rfl)
def c72_b0:=b0 0xdee80de9032105e048144e53d0114d0a01348e43e42e35e1120e0e05e742d8f15f17108e022131c321530700431033120de ⟨_,by conv=>lhs;reduce⟩
def c72_b1:=b0 0x49ee849e9032105e068144e53d0114d0a01311221130e0e05e742dff1df1af15f19103ce022131c3275367004310331249e ⟨_,by conv=>lhs;reduce⟩
def c72_b2:=b1 0x43ee860356e6f215149e48e47e43e42e41e1ae19e18e1cba5103c0665710bbf13201ce022131c3255347004310331243e c72_b1 ⟨_,by conv=>lhs;reduce⟩
def c72_b3:=b1 0x1aee81ae90357e6f215143e42e41e1ae19e18eba510b0645710b0121ce51f1010115cd9f10f1720370470230bbf13230be0121ce51f1001215cd80039f10f172037040c28e96b0201ed28e4f3ae3de25e073af11f0b0201ed28e4f46e43e25e073af11f038e42e35e35e073af12f00c56032380130b0f19f12f070239f19c230ae219e022241c11523532700431033121ae c72_b2 ⟨_,by conv=>lhs;reduce⟩
def c72:=f2 0xa04e5f158e6f22511ae19e18e51061625710b0f118e6f3230510de0ce0be51060605710b0121ce51f1081015cd0f16204b04648e43e42e35e023022701c0f11f080430b0f192300a04e0114d0a01010e0e05e742d6f15204b03601331f16f11f070536f17206e35ea01300ecd70edd022701c0f17204b05680230bdd022701c0f11f080230b514c6fa23144e58d121d112340159e c72_b0 c72_b3 ⟨_,by conv=>lhs;reduce⟩
def c72_ok:=fk Tryz.func72 c72 (by kernel_rfl)
def c73_b0:=b0 0xce8cf0321004e80034f131040122ee56f11f13206e022131c321530700431033120c ⟨_,by conv=>lhs;reduce⟩
def c73:=f1 0xa04e4f1ac6f2200cba4150605710b02201406d4176f62371123401bc c73_b0 ⟨_,by conv=>lhs;reduce⟩
def c73_ok:=fk Tryz.func73 c73 (by kernel_rfl)
def QjD:=b0 0x8d915e87d9038de5f17de310a8ca12e120400d01235e53f10b2015c5f10221f149d6f821530700403330b0221f145f15231d ⟨_,by conv=>lhs;reduce⟩
def c74:=f1 0xa712e12053130605715e1230a8ca12e120400d4f122304e113e1470370ace011fe50221f04bc6f820a8ca12e12040c4600d8a70324e50221f242f00c468a0430b0221f142f00ca0430b02210466f4c23710a22020101e QjD ⟨_,by conv=>lhs;reduce⟩
def QtF:=fk Tryz.func74 c74 (by kernel_rfl)
def QjC:=b0 0xdf15e8cf031ce5f10ce3104e0281373d0114d6f14f151006e80136f1311406de2a4237d6f2206e80036f1311402de80233d6f2225022004015c5f10f15230ab13e1d12e220400d01236e56f10b2015c5f10f172306e02790117bd5f14f12c6f521530700402330b0f1214237 ⟨_,by conv=>lhs;reduce⟩
def c75:=f1 0xac13e02e31ed6f327154030605715e12304e71137ad76f22b11d122130202fd QjC ⟨_,by conv=>lhs;reduce⟩
def QtE:=fk Tryz.func75 c75 (by kernel_rfl)
def c80:=f0 0xa06eb03601632f10f11f001630f15192b11256013c ⟨_,by conv=>lhs;reduce⟩
def Qtz:=fk Tryz.func80 c80 (by kernel_rfl)
def Qjo:=b0 0x8e88f03210a04e5f122040423022011c5f10f11f16205e11221530700431033128 ⟨_,by conv=>lhs;reduce⟩
def c89:=f1 0xa13e14e120871040605710b4166f323711234017c Qjo ⟨_,by conv=>lhs;reduce⟩
def Qtq:=fk Tryz.func89 c89 (by kernel_rfl)
def c90:=f0 0xa04e14e02314e0b3044c302200406d0f11f1920a04e0c0ee9600d0122ee51f102203406d0f12f00122ee51f102202406d0f14c214006ee3ae3de25e8f2307e6f22a04e0c660122ee51f102203406d0f12f00122ee51f102202406d0f13c21406de46e43e25e8f237d6f22a04eb0660122ee51f102203406d0f11f00122ee51f102202406d0f13c21406ce38e42e35e35e8f237c6f22a04e00d0122ee51f102203406d0f1821409e48e43e42e35e023a6f220502201406d41423b11234011fe ⟨_,by conv=>lhs;reduce⟩
def c90_ok:=fk Tryz.func90 c90 (by kernel_rfl)
def c91:=f0 0xa02e0c463e80fa0430220141f142f00c7f600d083316e50220141f140220046142f000d3e80fa80316e50221049c2b10a220201bc ⟨_,by conv=>lhs;reduce⟩
def Qtp:=fk Tryz.func91 c91 (by kernel_rfl)
def c92:=f0 0xa02e0c4600d000000003b9ac9ff3fa70316e50221f342f000d02437d50225240223140221043c2b10a2202015c ⟨_,by conv=>lhs;reduce⟩
def Qto:=fk Tryz.func92 c92 (by kernel_rfl)
def c93:=f0 0xa04e705301250e5414152b11234019 ⟨_,by conv=>lhs;reduce⟩
def Qtn:=fk Tryz.func93 c93 (by kernel_rfl)
def c94:=f0 0xa04e705301251e5414152b11234019 ⟨_,by conv=>lhs;reduce⟩
def Qtm:=fk Tryz.func94 c94 (by kernel_rfl)
def Qjn:=b0 0x1e919e800e90301ee9f100ee310ab18e120400d00134433e8cd3f180032f1afba90f172101a8af4401839f102a9af4462201a820134ddaf049f12f1520af5a8777775a1dae5fb5902e6f321530700404d963022014014013c2f102200400406d0f19f10c233d ⟨_,by conv=>lhs;reduce⟩
def Qjm:=b0 0x2dee82de9032100be8003bf1310400d012352e5df91c95fb590f1520df41c8777741c1d1ce092134c425534700431033122de ⟨_,by conv=>lhs;reduce⟩
def Qjl:=b1 0x25e926e91585f3426ee824e90325ee23e925924ee5f3423ee510ab18e120400d001223cdbf15fb593f139e6f525022de2ce2beb53070645710b02204400406d0f127e6f72371be1235327004066302201402400406d0f102595f3491f3319e Qjm ⟨_,by conv=>lhs;reduce⟩
def c95:=f2 0xac18e1250253031625101585f3402200402400406d0f113e6f8230ac18e12502953205060509e022004014013c2f102200400406d0f1b230406330b02200400406d0f1612c6f823b186f356cd2248013ee Qjn Qjl ⟨_,by conv=>lhs;reduce⟩
def Qm6:=fk Tryz.func95 c95 (by kernel_rfl)
def c97:=f0 0xa04eb03637ea13e0324e50222f441f0b03637ea13e0324e50222f341f0b04c96076324e58013022021c0222f041f10222f141f0b036870324e50222f241f0073324e580130b510222045d1f3b146f1a2214019d ⟨_,by conv=>lhs;reduce⟩
def Qtl:=fk Tryz.func97 c97 (by kernel_rfl)
def c98:=f0 0xab14e120a04e03509d01017777752d0222f042fb26224006ee4a6f2321014006ee3a6f2307e6f223a04eb03670230222f441f0b03670230222f341f0b056072324e580131f10222f141f02a70324e50222f249c21400de2a6f231d6f22a04eb03637ea70324e50222f441f0b03637ea70324e50222f341f0b046071324e51f10222f141f02a70324e50226248c21407e802386f2205022204223b146f1a2214010ee ⟨_,by conv=>lhs;reduce⟩
def Qtk:=fk Tryz.func98 c98 (by kernel_rfl)
def QyA:=f0 0xa04eb0ef607ff324e58013022031c0b0222f045f11f11f0611c206e115e14703707e011fe502220486f82b146f1a221401dc ⟨_,by conv=>lhs;reduce⟩
def QqW:=fk Tryz.func100 QyA (by kernel_rfl)
def QeI:=b0 0xde80d9032103e0cd9813cc3d0114d0203015fe55fb5902cc9011ccbd4f13f13f1b1f0a8ca12e120400d0425ee502cc9011ccbd4f13f15fb5971f3305f558214e77777551d5e0b2245c11621530700431033120d ⟨_,by conv=>lhs;reduce⟩
def QeH:=b0 0xaee80ae903210a8ca12e12040c6600d13e02360e502797f4402797f342f00c1be9600d07635de5801302cc9021ccbd02797f043f102797f142f00c4600d87035de502797f242f000d07335de50b0221f0402797f045d1f307f57877777571d7e0b2135c423532700431033120ae ⟨_,by conv=>lhs;reduce⟩
def Qyv:=f2 0xa712e12cc10ae09e08e3151625710b0221f1407e6f423cc10dfcec3150605710b0221f0442303e7113ccad220a8ca12e12040c4600d8a7035de50221f242f00c468a0430b0221f142f00ca0430b02210486f4c23710a22020130e QeI QeH ⟨_,by conv=>lhs;reduce⟩
def QqS:=fk Tryz.func105 Qyv (by kernel_rfl)
def Qyr:=f0 0xa713e02e5f13206e115e13702700ce016be51f721c6f720a03e712e6132047073412204e013de527276f32371710a320302026c ⟨_,by conv=>lhs;reduce⟩
def QqO:=fk Tryz.func109 Qyr (by kernel_rfl)
def Qym:=f0 0xa05e114e11700701336fe551071e5d0170e532237291f3711d11a1a421504021c ⟨_,by conv=>lhs;reduce⟩
def QqJ:=fk Tryz.func113 Qym (by kernel_rfl)
def QeF:=b0 0x8e88f03210a04e5f1220400141cd072013c5f10f11f16205e11221530700431033128 ⟨_,by conv=>lhs;reduce⟩
def Qyd:=f1 0xa13e14e120871040605710b4166f323711234017c QeF ⟨_,by conv=>lhs;reduce⟩
def QqB:=fk Tryz.func124 Qyd (by kernel_rfl)
def QeE:=b0 0x8e88f03210a04e5f1220400141cd092014c5f10f11f16205e11221530700431033128 ⟨_,by conv=>lhs;reduce⟩
def Qyc:=f1 0xa13e14e120871040605710b4166f323711234017c QeE ⟨_,by conv=>lhs;reduce⟩
def QqA:=fk Tryz.func125 Qyc (by kernel_rfl)
def Qyb:=f0 0xa06e0c9d96b0501ed9d4f702302a30224f447f11f002230225f3402930224f447f12f002330225f3402930224f447f1cc1f3007e0fcd7f1310470337f122307e051302830224f440225f24048302206406d0f1024549d50226140224044b26186f7c1f3b12a2a32360109e ⟨_,by conv=>lhs;reduce⟩
def Qqz:=fk Tryz.func126 Qyb (by kernel_rfl)
def Qya:=f0 0xa04eb06602630222f2401286e51f16721f001285e5412720c1f3b146f1a2214014c ⟨_,by conv=>lhs;reduce⟩
def Qqy:=fk Tryz.func130 Qya (by kernel_rfl)
def Qx9:=f0 0xa04e022031c0b02250401287e54127291f31d146f1a2214011c ⟨_,by conv=>lhs;reduce⟩
def Qqx:=fk Tryz.func131 Qx9 (by kernel_rfl)
def QeD:=b0 0xbf14e8af03be4f1ae31003e0281333d0114d4f13f151048023022004015c4f10221f040c6f721530700403330b02240405234 ⟨_,by conv=>lhs;reduce⟩
def Qx8:=f1 0xa02e11bc6f223143130605711231338d121d10a220201cc QeD ⟨_,by conv=>lhs;reduce⟩
def Qqw:=fk Tryz.func132 Qx8 (by kernel_rfl)
def QeA:=b0 0xef18e8df032ce8f11ce31007e0281373d0114d8f17f1510401289e58f10f13c6f321530700401632f1113239 ⟨_,by conv=>lhs;reduce⟩
def Qx5:=f1 0xa06e21ac6f227187204060508e6196f2231378d121d1125601bc QeA ⟨_,by conv=>lhs;reduce⟩
def Qqt:=fk Tryz.func135 Qx5 (by kernel_rfl)
def Qx3:=f0 0xa06eb03601632f10f11f001630f15192b11256013c ⟨_,by conv=>lhs;reduce⟩
def Qqr:=fk Tryz.func137 Qx3 (by kernel_rfl)
def Qx2:=f0 0xab14e120a04e03509d01017777752d0222f042fb26224002ee4a6f2321014002ee3a6f2303e6f223a04eb05607235de580131f10222f141f0b0362a7035de50222f241f005509d0122112a1037777752d0222f240222f142fb28c2140dce2a6f23ec6f22a04eb056702360e50222f440222f341f0b04607135de51f10222f141f02a7035de50226245c21407e802386f2205022204223b146f1a2214010ae ⟨_,by conv=>lhs;reduce⟩
def Qqq:=fk Tryz.func138 Qx2 (by kernel_rfl)
def Qx1:=f0 0xa712e120a13e12e121407e2a22386f22a812e121405e802366f2205022104223710a2202019 ⟨_,by conv=>lhs;reduce⟩
def Qqp:=fk Tryz.func139 Qx1 (by kernel_rfl)
def Qx0:=f0 0xa06eb03637ea0135de52f11f11f037ea0135de5516192b11256013c ⟨_,by conv=>lhs;reduce⟩
def Qqo:=fk Tryz.func140 Qx0 (by kernel_rfl)
def Qey:=b0 0x9e89f032103e03030707d015fe55fb593f16102e0203015fe55fb592f15205f55877777551d5e0b2135c421530700431033129 ⟨_,by conv=>lhs;reduce⟩
def QxP:=f1 0xa03e112e3f12f1bc6f4209873250605710b02220466f42371710a32030202dc Qey ⟨_,by conv=>lhs;reduce⟩
def Qqd:=fk Tryz.func151 QxP (by kernel_rfl)
def Qbs:=b0 0xcc903b81e2d1d3b1d21a ⟨_,by conv=>lhs;reduce⟩
def Qew:=b0 0x2519c9cd5f800303719cbcd00111cdbf7b95f22af2a971f15cc ⟨_,by conv=>lhs;reduce⟩
def QxL:=f2 0xa717e06e0193e50194e5af2a93d6f51a1a10f39ca2a520cc10e0500192e5d8f9892230af1a81e1a1dae009c7cd320a07e1d16e9f1320470739f122309e18f4881e75d5d481d8e14703700ce01291e51f14721c6f92711d11a56f2a422706026d Qbs Qew ⟨_,by conv=>lhs;reduce⟩
def Qqa:=fk Tryz.func155 QxL (by kernel_rfl)
def QxK:=f0 0xa02e11095e5d222e10a2202014 ⟨_,by conv=>lhs;reduce⟩
def Qp9:=fk Tryz.func156 QxK (by kernel_rfl)
def QxJ:=f0 0xa03e022011c4220172e517261f3711a2213019 ⟨_,by conv=>lhs;reduce⟩
def Qp8:=fk Tryz.func157 QxJ (by kernel_rfl)
def QxI:=f0 0xa02e022041c80130b022304022104921d10a220201b ⟨_,by conv=>lhs;reduce⟩
def Qp7:=fk Tryz.func158 QxI (by kernel_rfl)
def QxH:=f0 0xa02e11096e5d222e10a2202014 ⟨_,by conv=>lhs;reduce⟩
def Qp6:=fk Tryz.func159 QxH (by kernel_rfl)
def QxE:=f0 0xa04f248052052c022011c1f10172e5472022214a1f377241d46f1a22124212c ⟨_,by conv=>lhs;reduce⟩
def Qp3:=fk Tryz.func162 QxE (by kernel_rfl)
def Qes:=b0 0x5c915e84c9035ce5f14ce310ab14e12040ccc96b04d901edcc4f0673022024015c5f10222f04022011c5f11f11f02a033022024015c5f10222f042f000d870324e5022011c5f11f16c6f0d1f31530700402330b1f161423b ⟨_,by conv=>lhs;reduce⟩
def Qxx:=f1 0xac14e12052130605715e1230ab14e120403730b0225040b3166f623b146f1a22140102e Qes ⟨_,by conv=>lhs;reduce⟩
def QpV:=fk Tryz.func177 Qxx (by kernel_rfl)
def Qer:=b0 0xdf16e8cf031ce6f10ce31005e80035f1310400d0163aae51f10b2015c6f10222f142f722c6f91f31530700403330b02251405236 ⟨_,by conv=>lhs;reduce⟩
def Qxw:=f1 0xa04e11dc6f2206521406057112371127146f1a221401ec Qer ⟨_,by conv=>lhs;reduce⟩
def QpU:=fk Tryz.func178 Qxw (by kernel_rfl)
def Qeq:=b0 0x29e911ce828e91329eedf128ee310ae05813a3d0114d022011cdf15f1af12ae6f81453370047053df122325e ⟨_,by conv=>lhs;reduce⟩
def Qep:=b1 0x9c918e88c9039ce8f18ce3106e02cc10d2c3d0114d5f16f15105eaf131e6f212c1a8762160f31d91ae5f11de212ca21ca8765218063501ce80130b5f14214021ee3a0d92322e6f220ae04813a3d001215cd8003cf15f103813a3d010115cdcf15f1af1b1f00ce0263abe50b5f1022011c8f11f102999f14a1f31400cee2a0d9230de6f2207e80037f1310ae03813a3d001115cdbf15f102813a3d0114d7f103813a3d010115cdbf15f1af11c1f30be035d93abe580030b5f1022011c8f11f102999f14b1f31402de80233d6f222502999f0422313a8dae1209f59877777591d9e0b2015c8f10222f04ac6f721530700403330b0222f04615232c Qeq ⟨_,by conv=>lhs;reduce⟩
def Qxv:=f1 0xa04e6f136e6f222c187652160605718e123717e1206e1d110d2cad2c6f221d1121d146f1a22140137e Qep ⟨_,by conv=>lhs;reduce⟩
def QpT:=fk Tryz.func179 Qxv (by kernel_rfl)
def Qen:=b0 0x615e8af03be5f1ae310ac14e120401231f1022011c5f10f10c6f621530700402330b6104235 ⟨_,by conv=>lhs;reduce⟩
def Qxt:=f1 0xab14e1205103060571123b11234016c Qen ⟨_,by conv=>lhs;reduce⟩
def QpR:=fk Tryz.func181 Qxt (by kernel_rfl)
def Qbr:=b0 0x0 ⟨_,by conv=>lhs;reduce⟩
def Qej:=b0 0x6f16880036f26931155c ⟨_,by conv=>lhs;reduce⟩
def Qxo:=f2 0xa713e02e6f2698c6f32616105c10e0500192e5d4f94922376f1687161d6e220a03e712e5f1320470736122305e14f4481e75d5d441d4e13702707eade6e0291e527286f8271710a320302029c Qbr Qej ⟨_,by conv=>lhs;reduce⟩
def QpM:=fk Tryz.func187 Qxo (by kernel_rfl)
def Qbq:=b0 0x0 ⟨_,by conv=>lhs;reduce⟩
def Qei:=b0 0xa75f15804f4487f9793215ec ⟨_,by conv=>lhs;reduce⟩
def Qxm:=f2 0xa3a5f15804f4487f9790d6f32754375430ec10e0500192e5d7f97922307f4781e75d5d471d7e01aee52f72420a85f15804f44801e75d5d42d320400d001241cd117007016be52f721f17230a05f15814f4486101e75d5d42d42047073312206e013de537286f3237151d1e75d5d441d46f1a32115144221d Qbq Qei ⟨_,by conv=>lhs;reduce⟩
def QjP:=fk Tryz.func189 Qxm (by kernel_rfl)
def VC:=b0 0x7f03481e2d1d341d213 ⟨_,by conv=>lhs;reduce⟩
def qo:=b0 0xa04b04600d00113cd4f7493f2391f003630220242f04032b0e502201460437493c1f3157 ⟨_,by conv=>lhs;reduce⟩
def Qxl:=f2 0x3023220710e05001afe5d19256f22136cd1a2210bc VC qo ⟨_,by conv=>lhs;reduce⟩
def QpK:=fk Tryz.func190 Qxl (by kernel_rfl)
def Qxk:=f0 0xa02e110b2e5d222e10a2202014 ⟨_,by conv=>lhs;reduce⟩
def QpJ:=fk Tryz.func192 Qxk (by kernel_rfl)
def Qxj:=f0 0xa05e07235de580136132252b1124501a ⟨_,by conv=>lhs;reduce⟩
def QpI:=fk Tryz.func193 Qxj (by kernel_rfl)
def Qxi:=f0 0xa05e07235de580135132252b1124501a ⟨_,by conv=>lhs;reduce⟩
def QpH:=fk Tryz.func194 Qxi (by kernel_rfl)
def Qxe:=f0 0xa06eb000e960c501ed00e3f022302898f440224f442f070330224f441f00c56022302898f340224f342f070330224f34bc208f58877777581d8e0b205c95c02207c91c02208c91c0243abe50b7f10224f240224f147f10158e53f720223f048c1f307e022021c0224f0401287e52f137296f81f3b166f2a2a3226010ce ⟨_,by conv=>lhs;reduce⟩
def QpD:=fk Tryz.func214 Qxe (by kernel_rfl)
def Qxd:=f0 0xa06e0f1220a06e01130f18013615204802351223711256012c ⟨_,by conv=>lhs;reduce⟩
def QpC:=fk Tryz.func215 Qxd (by kernel_rfl)
def Qxb:=f0 0xac14e12b11234015 ⟨_,by conv=>lhs;reduce⟩
def QpA:=fk Tryz.func217 Qxb (by kernel_rfl)
def Qeg:=b0 0xce8cf03210034179cd5f072dd02393f344f102393f3471042a02302595f243205f558214e77777551d5e0b2245c11621530700431033120c ⟨_,by conv=>lhs;reduce⟩
def Qxa:=f1 0xa02f4283f939fc6f2273230cba3250605710b0221f04423054381e75d5d431d3e01313021e75d5d42d0077cd17266f521e75d5d421d0a22042210d Qeg ⟨_,by conv=>lhs;reduce⟩
def Qpz:=fk Tryz.func218 Qxa (by kernel_rfl)
def Qef:=b0 0x9e89f03210a0400d00153cd012bce52f4f20bde5d0220042f041f182019821444d04f1487141d4e11321530700431033129 ⟨_,by conv=>lhs;reduce⟩
def Qw9:=f1 0x198214060571083c303dd02203456f521a12109c Qef ⟨_,by conv=>lhs;reduce⟩
def Qpy:=fk Tryz.func219 Qw9 (by kernel_rfl)
def Qee:=b0 0xae8af0321005e80035f1310400d012bee57fb792f72420657877777571d7e0b2135c42153070043103312a ⟨_,by conv=>lhs;reduce⟩
def Qw8:=f1 0xa04e519c6f220a985250605710b4186f32371127146f1a221401ac Qee ⟨_,by conv=>lhs;reduce⟩
def Qpx:=fk Tryz.func220 Qw8 (by kernel_rfl)
def Qpw:=b0 0xa0400d00113cd3f10f14203e007251dd32150700435276b37 ⟨_,by conv=>lhs;reduce⟩
def Qw7:=f1 0x5025020605050dd22222302c Qpw ⟨_,by conv=>lhs;reduce⟩
def Qwj:=fk Tryz.func222 Qw7 (by kernel_rfl)
def Qed:=b0 0x30ee830e90321036e935e912cacd5f028132c3d0114d6f10112cccdcf102595f24cf102595f24b1f00ce021d91311dbd3245337004310331230e ⟨_,by conv=>lhs;reduce⟩
def Qec:=b1 0x6ce86c90321101585f0402cc1d1e1c3d0114d8f102595f043fe6f7117711f2c1c5456c5c4c854170f017711f1d2c1c54630e2fe2ee6c5c4c86541b06357101d2cd8f1321402cee4a01e9232de6f221d101c7e0cd8f12114028ee3a01e92329e6f2208e1d10233c6e0cd8003af1af18f1610ae0233c5e501d2cd8f19f102797f14721401bee2a01e9231ce6f22101585f14064c2d5e17711f3d0124d01121027722d02797f4402797f3402595f14b108e0fe1d20404e93c4e0cd01130fead017711f2cd02595f140343c5e5800301d2cd8f19f102797f148f12c1f314002ee802303e6f222502797f04223009e00111cd6f11f141042a0239f122309e02797f2432051d6dd021c90111cbd6f102595f048f17208e071831d5dd0b021c90111cbd6f102595f048207f578216e77777571d7e0b2245c11621530700431033126c Qed ⟨_,by conv=>lhs;reduce⟩
def Qw5:=f1 0xa04f3485f75946e6f2217711f2c1c5456c5c4c54160605710b0f13232d5e1517711fc05f3581e2d1d351d5e01211021e27e1d32d142c7cd1d11d1e1cad1c6f521e2d1d341d123342147e Qec ⟨_,by conv=>lhs;reduce⟩
def Qpu:=fk Tryz.func232 Qw5 (by kernel_rfl)
def Qw4:=f0 0xa04e80b3044c30171dcd0f102233432282711234010c ⟨_,by conv=>lhs;reduce⟩
def Qpt:=fk Tryz.func233 Qw4 (by kernel_rfl)
def Qw3:=f0 0xa04eb09d960c501ed9d3f022302696f140223f442f070330223f441f00c56022302696f040223f342f070330223f34bc206f26877261d6e0520ef2c0220ff1c0243c5e50b5f10223f240223f145f10222f144c1f305e022021c02250402220476f72b11a1a32140105e ⟨_,by conv=>lhs;reduce⟩
def Qps:=fk Tryz.func234 Qw3 (by kernel_rfl)
def QwZ:=f0 0xa06e0f1220a06e01130f18013615204802351223711256012c ⟨_,by conv=>lhs;reduce⟩
def Qpp:=fk Tryz.func241 QwZ (by kernel_rfl)
end Go.Pf
namespace Go.Ev
open Go Go.RowKit
def Qwv (res:List XY) (y:IV) (s':Ext) (e:Env) (o:Qk):Prop:=QnC res e o=some y/\Qc o 0=some (.ext s')
def Qwu (res:List XY) (Q:Ext->Prop) (e:Env) (o:Qk):Prop:=QnC res e o=some (.tup [])/\∃ s',Q s'/\Qc o 0=some (.ext s')
def Ql2 (pre post:List IV):Env:=(pre.length,.cb 0)::(Yd 0 pre++Yd (pre.length+1) post)
theorem Qdw (e f t) (h:∀ v,(t,v) ∉ e):look (e++f) t=look f t:=by
 induction e with
 | nil=>rfl
 | cons p r ih =>
   obtain ⟨k,v⟩:=p;simp only[QAB,look];rw[if_neg (fun e=>h v (by simp[e])),ih (fun v hv=>h v (by simp[hv]))]
theorem QnK (e f t) (h:∃ v,(t,v)∈e):look (e++f) t=look e t:=by
 induction e with
 | nil=>simp at h
 | cons p r ih =>
   obtain ⟨k,v⟩:=p;simp only[QAB,look]
   grind
section
variable {P:Program} {K:World->Prop}
theorem Q5 {f A pre post s s' y} (hok:Qnc P f A) (hlen:pre.length+post.length+1<=A.nt) (hv:s'.v=s.v) (hy:QI y=true)
  (h:WpF P K (FnF (Qwv A.res y s')) [.code A.code] (Ql2 pre post) [(0,.ext s)]):QcX P K f pre post s y s':=by
 refine ⟨hv,fun ok O D w us vs hp hul=>?_⟩
 obtain ⟨fn,hfn,hok⟩:=hok;unfold Qcw at hok;split at hok
 ·rename_i c hbody
  simp only[Qzm,beq_iff_eq] at hok;obtain ⟨⟨hfit,hnt⟩,hres⟩:=hok
  have hvl:vs.length=post.length:=by
   have:=hp.len;simp only[Qzp] at this;omega
  let args:List Value:=us++s.v::vs
  let a:Act:={ tmps:=args.toArray++Array.replicate (fn.ntmps-args.toArray.size) undef,defers:=[] }
  let w0:ZR:=⟨w,fun b=>b<w.heap.size/\¬ O b,fun _ h=>h.1,fun _=>undef⟩
  have hctx:Ctx P K ok w0:=⟨fun w' h=>hp.hK w' h,fun b hb=>by
   by_cases hbl:b<w.heap.size
   ·exact hp.own b (Classical.byContradiction fun hn=>hb ⟨hbl,hn⟩)
   ·exact hp.new b (QAA.1 hbl)⟩
  let lo:Nat->Option AO:=Qc [(0,.ext s)]
  have hlo:∀ i ob,lo i=some ob->i=0/\ob=.ext s:=by
   intro i ob hi;simp only[lo,Qc] at hi
   grind
  have hokk:∀ b,ok b/\¬ O b->okL ok lo (fun _=>.ext O D) b:=fun b hb=>⟨hb.1,fun i ob _ hbad=>hb.2 hbad⟩
  have hdata:∀ k x u,(pre++post)[k]?=some x->(us++vs)[k]?=some u->Qv (okL ok lo (fun _=>.ext O D)) w x u:=fun k x u h1 h2=>(hp.args k x u h1 h2).mono fun b hb _=>⟨hokk b hb,rfl⟩
  have htmp:∀ t u,args[t]?=some u->a.tmps.getD t undef=u:=fun t u hu=>by
   have hlt:t<args.length:=(Qzl.1 hu).1;simp only[a,QzY,QAD,QAk,hlt,if_true,List.getElem?_toArray,hu,QAd]
  have hrel:Rel ok ⟨A.nt,[]⟩ w0 (look (Ql2 pre post)) lo a w (fun _=>.ext O D):=by
   refine ⟨QL.refl _ _,⟨[],rfl,QAL,by simp⟩,?_,fun t=>?_,fun i ob hi=>?_,fun i j oi oj b hij hi hj=>?_,fun t ht=>by simp at ht⟩
   ·simp[a,args,hnt];omega
   ·simp only[Ql2,look]
    split
    ·rename_i ht
     subst ht;rw[htmp pre.length s.v (by simp[args,<- hul])]
     exact .cb 0 s O D rfl rfl
    ·rename_i ht
     by_cases hin:∃ v,(t,v)∈Yd 0 pre
     ·rw[QnK _ _ _ hin]
      rcases XO pre 0 t with h1 | ⟨x,_,h2,h3⟩
      ·rw[h1];exact .iv _ _ (.any _)
      ·rw[h3]
       simp only[Nat.sub_zero] at h2;have hlt:t<us.length:=by rw[hul];exact (Qzl.1 h2).1
       rw[htmp t us[t] (by grind)]
       exact .iv _ _ (hdata t x _ (by rw[QzA (by omega)];exact h2) (by rw[QzA hlt];exact Qzk hlt))
     ·rw[Qdw _ _ _ (fun v hv=>hin ⟨v,hv⟩)]
      rcases XO post (pre.length+1) t with h1 | ⟨x,hle,h2,h3⟩
      ·rw[h1];exact .iv _ _ (.any _)
      ·rw[h3]
       have hlt:t-(pre.length+1)<vs.length:=by rw[hvl];exact (Qzl.1 h2).1
       have hg:=Qzk hlt
       rw[htmp t vs[t-(pre.length+1)] (by
        grind)]
       exact .iv _ _ (hdata (t-1) x _ (by rw[Qzz (by omega)];rw[<- h2];congr 1;omega) (by rw[Qzz (by omega),<- hg];congr 1;omega))
   ·obtain ⟨rfl,rfl⟩:=hlo i ob hi
    refine ⟨fun b hb=>⟨fun hf=>hf.2 hb,hp.lt b (hp.sub b hb),hp.sub b hb⟩,fun b hb=>?_,hp.J⟩
    by_cases hbo:O b
    ·exact .inl hbo
    ·exact .inr ⟨⟨hp.lt b hb,hbo⟩,hokk b ⟨(hp.okd b hb).resolve_left hbo,hbo⟩⟩
   grind
  refine Qkj (ac:=A.code) (R:=fun v w'=>∃ O' D',VI ok O w s' y O' D' v w') hctx hfn hbody hfit hrel h (fun w1 e' o' a' w' L' hle hf hr'=>?_)
  obtain ⟨hf1,hf2⟩:=hf;obtain ⟨v,h1,h2⟩:=YK hr' (fun b hb=>hctx.ok b fun h=>hb (hle.fr b h)) hres hf1
  refine ⟨v,h1,?_⟩;have hob:=hr'.objs 0 _ hf2;cases hL:L' 0 with
  | ext O' D' =>
    rw[hL] at hob;obtain ⟨g1,g2,g3⟩:=hob;refine ⟨O',D',XB hy h2,hle.keeps hr'.below,g3,fun b hb=>?_,fun b hb=>(g1 b hb).2.2,fun b hb=>?_,fun b hb=>?_⟩
    ·by_cases hbl:b<w.heap.size
     ·exact .inl (Classical.byContradiction fun hn=>(g1 b hb).1 (hle.fr b ⟨hbl,hn⟩))
     ·exact .inr (QAA.1 hbl)
    ·rcases g2 b hb with h | ⟨h,_⟩
     ·exact (g1 b h).2.1
     ·exact hr'.frl b h
    ·exact (g2 b hb).imp (fun h=>h) (fun h=>h.2.1)
  | _=>rw[hL] at hob;exact hob.elim
 ·simp at hok
theorem YS {f A xs s s' y} (hok:Qnc P f A) (hlen:xs.length<=A.nt) (hv:s'.v=s.v) (hy:QI y=true)
  (h:WpF P K (FnF (Qwv A.res y s')) [.code A.code] (Yd 0 xs) [(0,.ext s)]):UT P K f xs s y s':=by
 refine ⟨hv,fun ok O D w vs hp=>?_⟩
 obtain ⟨fn,hfn,hok⟩:=hok;unfold Qcw at hok;split at hok
 ·rename_i c hbody
  simp only[Qzm,beq_iff_eq] at hok;obtain ⟨⟨hfit,hnt⟩,hres⟩:=hok;have hvl:vs.length=xs.length:=hp.len
  let a:Act:={ tmps:=vs.toArray++Array.replicate (fn.ntmps-vs.toArray.size) undef,defers:=[] }
  let w0:ZR:=⟨w,fun b=>b<w.heap.size/\¬ O b,fun _ h=>h.1,fun _=>undef⟩
  have hctx:Ctx P K ok w0:=⟨fun w' h=>hp.hK w' h,fun b hb=>by
   by_cases hbl:b<w.heap.size
   ·exact hp.own b (Classical.byContradiction fun hn=>hb ⟨hbl,hn⟩)
   ·exact hp.new b (QAA.1 hbl)⟩
  let lo:Nat->Option AO:=Qc [(0,.ext s)]
  have hlo:∀ i ob,lo i=some ob->i=0/\ob=.ext s:=by
   intro i ob hi;simp only[lo,Qc] at hi
   grind
  have hokk:∀ b,ok b/\¬ O b->okL ok lo (fun _=>.ext O D) b:=fun b hb=>⟨hb.1,fun i ob _ hbad=>hb.2 hbad⟩
  have hdata:∀ k x u,xs[k]?=some x->vs[k]?=some u->Qv (okL ok lo (fun _=>.ext O D)) w x u:=fun k x u h1 h2=>(hp.args k x u h1 h2).mono fun b hb _=>⟨hokk b hb,rfl⟩
  have htmp:∀ t u,vs[t]?=some u->a.tmps.getD t undef=u:=fun t u hu=>by
   have hlt:t<vs.length:=(Qzl.1 hu).1;simp only[a,QzY,QAD,QAk,hlt,if_true,List.getElem?_toArray,hu,QAd]
  have hrel:Rel ok ⟨A.nt,[]⟩ w0 (look (Yd 0 xs)) lo a w (fun _=>.ext O D):=by
   refine ⟨QL.refl _ _,⟨[],rfl,QAL,by simp⟩,?_,fun t=>?_,fun i ob hi=>?_,fun i j oi oj b hij hi hj=>?_,fun t ht=>by simp at ht⟩
   ·simp[a,hnt];omega
   ·rcases XO xs 0 t with h1 | ⟨x,_,h2,h3⟩
    ·rw[h1];exact .iv _ _ (.any _)
    ·rw[h3]
     simp only[Nat.sub_zero] at h2;have hlt:t<vs.length:=by rw[hvl];exact (Qzl.1 h2).1
     rw[htmp t vs[t] (Qzk hlt)];exact .iv _ _ (hdata t x _ h2 (Qzk hlt))
   ·obtain ⟨rfl,rfl⟩:=hlo i ob hi
    refine ⟨fun b hb=>⟨fun hf=>hf.2 hb,hp.lt b (hp.sub b hb),hp.sub b hb⟩,fun b hb=>?_,hp.J⟩
    by_cases hbo:O b
    ·exact .inl hbo
    ·exact .inr ⟨⟨hp.lt b hb,hbo⟩,hokk b ⟨(hp.okd b hb).resolve_left hbo,hbo⟩⟩
   grind
  refine Qkj (ac:=A.code) (R:=fun v w'=>∃ O' D',VI ok O w s' y O' D' v w') hctx hfn hbody hfit hrel h (fun w1 e' o' a' w' L' hle hf hr'=>?_)
  obtain ⟨hf1,hf2⟩:=hf;obtain ⟨v,h1,h2⟩:=YK hr' (fun b hb=>hctx.ok b fun h=>hb (hle.fr b h)) hres hf1
  refine ⟨v,h1,?_⟩;have hob:=hr'.objs 0 _ hf2;cases hL:L' 0 with
  | ext O' D' =>
    rw[hL] at hob;obtain ⟨g1,g2,g3⟩:=hob;refine ⟨O',D',XB hy h2,hle.keeps hr'.below,g3,fun b hb=>?_,fun b hb=>(g1 b hb).2.2,fun b hb=>?_,fun b hb=>?_⟩
    ·by_cases hbl:b<w.heap.size
     ·exact .inl (Classical.byContradiction fun hn=>(g1 b hb).1 (hle.fr b ⟨hbl,hn⟩))
     ·exact .inr (QAA.1 hbl)
    ·rcases g2 b hb with h | ⟨h,_⟩
     ·exact (g1 b h).2.1
     ·exact hr'.frl b h
    ·exact (g2 b hb).imp (fun h=>h) (fun h=>h.2.1)
  | _=>rw[hL] at hob;exact hob.elim
 ·simp at hok
end
section
variable {P:Program} {K:World->Prop}
def Rnd (P:Program) (K:World->Prop) (ps:List Nat) (asn body:AC) (ks ids:List Nat) (eK:Env) (x:List IV) (o:Qk) (wy:Way) (o':Qk):Prop :=
 x.length=ps.length/\WpF P K (fun w1 e1 o1=>w1=.fall/\WpF P K (fun w2 e2 o2=>w2=wy/\Q1 ks ids e2=eK/\ZE ids o2 ids=o') [.code body] e1 o1) [.code asn] (Uf ps x eK) o
inductive UF (P:Program) (K:World->Prop) (ps:List Nat) (asn body:AC) (ks ids:List Nat) (eK:Env):List (List IV)->Qk->Way->Qk->Prop
 | nil (o):UF P K ps asn body ks ids eK [] o .fall o
 | stop (x r o o' wy) (hn:wy≠.fall) (h:Rnd P K ps asn body ks ids eK x o wy o'):UF P K ps asn body ks ids eK (x::r) o wy o'
 | next (x r o o1 o' wy) (h:Rnd P K ps asn body ks ids eK x o .fall o1) (hr:UF P K ps asn body ks ids eK r o1 wy o'):UF P K ps asn body ks ids eK (x::r) o wy o'
theorem UF.index {ps asn body ks ids eK L o o' wy} (h:UF P K ps asn body ks ids eK L o wy o') :
  ∃ (St:Nat->Qk) (Wy:Nat->Way) (m:Nat),St 0=o/\St m=o'/\(if m=0 then .fall else Wy (m-1))=wy/\m<=L.length/\(∀ i,i+1<m->Wy i=.fall)/\(m=L.length\/(0<m/\Wy (m-1)≠.fall)) /\
   ∀ i x,i<m->L[i]?=some x->Rnd P K ps asn body ks ids eK x (St i) (Wy i) (St (i+1)):=by
 induction h with
 | nil o=>exact ⟨fun _=>o,fun _=>.fall,0,rfl,rfl,rfl,Qzq _,fun _ _=>rfl,.inl rfl,fun i x hi=>absurd hi (Nat.not_lt_zero _)⟩
 | stop x r o o' wy hn h =>
   refine ⟨fun i=>if i=0 then o else o',fun _=>wy,1,rfl,rfl,rfl,by simp,fun i hi=>by omega,.inr ⟨by omega,hn⟩,fun i y hi hy=>?_⟩
   grind
 | next x r o o1 o' wy h _ ih =>
   obtain ⟨St,Wy,m,h1,h2,h3,h4,h5,h6,h7⟩:=ih;refine ⟨fun i=>if i=0 then o else St (i-1),fun i=>if i=0 then .fall else Wy (i-1),m+1,rfl,by simp[h2],?_,by simp;omega,fun i hi=>?_,?_,fun i y hi hy=>?_⟩
   all_goals grind
theorem Za {F f ps asn body ks ids k e o o' g fs cs L wy}
  (hf:QcO (f.av (look e))=some (g,fs,cs)) (hc:callee P g=true) (hit:Qbz P K g fs cs L) (hr:UF P K ps asn body ks ids (Q1 ks ids e) L (ZE ids o ids) wy o')
  (h:WpF P K F (QdA wy k) (Q1 ks ids e) o'):WpF P K F (.code (.range f ps asn body ks ids)::k) e o:=by
 obtain ⟨St,Wy,m,h1,h2,h3,h4,h5,h6,h7⟩:=hr.index;refine .range F f ps asn body ks ids k e o g fs cs L St Wy m (fun i e1 o1=>WpF P K (fun w2 e2 o2=>w2=Wy i/\Q1 ks ids e2=Q1 ks ids e/\ZE ids o2 ids=St (i+1)) [.code body] e1 o1) hf hc hit h1 h4 h5 h6 (fun i x hi hx=>(h7 i x hi hx).1) (fun i x hi hx=>(h7 i x hi hx).2) (fun i e1 o1 _ hM=>hM) ?_
 rw[h3,h2];exact h
theorem UF.all {ps:List Nat} {asn body:AC} {ks ids:List Nat} {eK:Env}:∀ (L:List (List IV)) (so:Nat->Qk),(∀ i x,L[i]?=some x->Rnd P K ps asn body ks ids eK x (so i) .fall (so (i+1)))->UF P K ps asn body ks ids eK L (so 0) .fall (so L.length)
 | [],so,_=>.nil _
 | x::r,so,h=>by
   refine .next x r _ _ _ _ (h 0 x rfl) ?_;have:=UF.all r (fun i=>so (i+1)) (fun i y hy=>h (i+1) y (by simpa using hy))
   simpa using this
@[simp] theorem Qra (k):QdA .fall k=k:=rfl
@[simp] theorem Qsh (k):QdA .ret k=.code .ret::k:=rfl
@[simp] theorem Qrb (id k):QdA (.exit id) k=.code (.exit id)::k:=rfl
attribute [simp] QcO Uf Qwv Qwu Ql2
end
def YY:Nat->List AV->Env
 | _,[]=>[]
 | i,x::r=>(i,x)::YY (i+1) r
theorem Ji:∀ xs i t,look (YY i xs) t=.iv .any\/∃ x,i<=t/\xs[t-i]?=some x/\look (YY i xs) t=x
 | [],i,t=>.inl rfl
 | x::r,i,t=>by
   simp only[YY,look];split
   ·rename_i h
    subst h;exact .inr ⟨x,Qzq _,by simp,rfl⟩
   ·rename_i h
    rcases Ji r (i+1) t with h1 | ⟨y,h1,h2,h3⟩
    all_goals grind
def Qiq (P:Program) (fn:Func) (A:AFn) (pins:List Nat):Bool :=
 (match fn.body with | some c=>Ql P ⟨A.nt,pins⟩ A.code c | none=>false)&&fn.ntmps==A.nt&&QG P A.res fn.results.toList
def Qmq (P:Program) (f:FuncId) (A:AFn) (pins:List Nat):Prop:=∃ fn,P.funcs[f]?=some fn/\Qiq P fn A pins=true
theorem Qnc.p {P f A} (h:Qnc P f A):Qmq P f A []:=by
 obtain ⟨fn,h1,h2⟩:=h;exact ⟨fn,h1,h2⟩
def Qdh (e:Env) (o:Qk):List XY->Option (List AV)
 | []=>some []
 | x::r=>match QnD e o x,Qdh e o r with
   | some y,some ys=>some (y::ys)
   | _,_=>none
def QrY (res:List XY) (e:Env) (o:Qk):Option AV :=
 match res with
 | []=>some (.iv (.tup []))
 | [x]=>QnD e o x
 | xs=>(Qdh e o xs).map .tup
def QnE (ids:List Nat) (o:Qk) (y:AV) (z:AV):Prop :=
 match y with
 | .iv r=>imm (fun i=>if ids.contains i then none else Qc o i) 40 z=some r
 | y=>z=rn (nth ids) y
@[simp] theorem Qvj (ids o r z):QnE ids o (.iv r) z=(imm (fun i=>if ids.contains i then none else Qc o i) 40 z=some r):=rfl
@[simp] theorem QrZ (ids o i n z):QnE ids o (.aref i n) z=(z=.aref (nth ids i) n):=rfl
@[simp] theorem QuG (ids o i n z):QnE ids o (.loc i n) z=(z=.loc (nth ids i) n):=rfl
@[simp] theorem QuH (ids o cs z):QnE ids o (.agg cs) z=(z=.agg (rnL (nth ids) cs)):=rfl
def Qrq (res:List XY) (ids:List Nat) (pe:List (Nat × Nat × Nat)) (y:AV) (o1:Qk) (e:Env) (o:Qk):Prop :=
 (∃ z,QrY res e o=some z/\QnE ids o y z)/\(∀ p∈o1,Qc o (nth ids p.1)=some (rnO (nth ids) p.2))/\(∀ q∈pe,look e q.1=.loc q.2.1 q.2.2)
section
variable {P:Program} {K:World->Prop}
theorem Qdi {fn rs tmps v w} (hrs:fn.results.toList=[rs]) (hv:(Yw tmps rs).run P w=.ok v w):(results fn tmps).run P w=.ok v w:=by
 have hfun:results fn tmps=(do
   let vs <- fn.results.mapM (Yw tmps)
   pure (if h:vs.size=1 then vs[0] else .tuple vs)):=by
  unfold results
  congr 1
 rw[hfun,QAM,hrs];simp[List.mapM_cons,hv]
theorem results_none {fn tmps w} (hrs:fn.results.toList=[]):(results fn tmps).run P w=.ok undef w:=by
 have hfun:results fn tmps=(do
   let vs <- fn.results.mapM (Yw tmps)
   pure (if h:vs.size=1 then vs[0] else .tuple vs)):=by
  unfold results
  congr 1
 rw[hfun,QAM,hrs];simp[undef]
theorem Qkw {ok0 N w0 a w L e o fn res z} (h:Rel ok0 N w0 (look e) (Qc o) a w L) (hf:QG P res fn.results.toList=true) (hv:QrY res e o=some z) :
  ∃ v,(results fn a.tmps).run P w=.ok v w/\Qs (okL ok0 (Qc o) L) w (Qc o) L z v:=by
 match res,hv with
 | [],hv =>
   simp only[QrY,Option.some.injEq] at hv;subst hv
   have hrs:fn.results.toList=[]:=by
    generalize fn.results.toList=l at hf;cases l with
    | nil=>rfl
    | cons r s=>simp[QG] at hf
   exact ⟨undef,results_none hrs,.iv _ _ WE⟩
 | [x],hv =>
   obtain ⟨rs,hrs⟩:∃ rs,fn.results.toList=[rs]:=by
    generalize fn.results.toList=l at hf
    match l,hf with
    | [r],h=>exact ⟨r,rfl⟩
    | [],h=>cases x<;>simp[QG] at h
    | r::_::_,h=>cases x<;>cases r<;>simp[QG] at h
   rw[hrs] at hf;obtain ⟨v,hv1,hv2⟩:=Qe2 h hf hv;exact ⟨v,Qdi hrs hv1,hv2⟩
 | x::x2::r,hv =>
   simp only[QrY,Qzo] at hv;obtain ⟨zs,hzs,rfl⟩:=hv
   have many:∀ res rs zs,QG P res rs=true->Qdh e o res=some zs->∃ vs,(rs.mapM (Yw a.tmps)).run P w=.ok vs w/\vs.length=zs.length /\
     ∀ (k:Nat) (z:AV) (v:Value),zs[k]?=some z->vs[k]?=some v->Qs (okL ok0 (Qc o) L) w (Qc o) L z v:=by
    intro res
    induction res with
    | nil =>
      intro rs zs hf hv;cases rs with
      | cons=>simp[QG] at hf
      | nil =>
        simp only[Qdh,Option.some.injEq] at hv;subst hv;exact ⟨[],by simp,rfl,by simp⟩
    | cons y r ih =>
      intro rs zs hf hv;cases rs with
      | nil=>cases y<;>simp[QG] at hf
      | cons s rs =>
        obtain ⟨h1,h2⟩:=Uv hf;simp only[Qdh] at hv;split at hv
        ·rename_i u us hu hus
         injection hv with hv
         subst hv;obtain ⟨v,hr,hrep⟩:=Qe2 h h1 hu;obtain ⟨vs,hrs,hl,hreps⟩:=ih rs us h2 hus;refine ⟨v::vs,by simp[List.mapM_cons,hr,hrs],by simp[hl],fun k z u hz hu=>?_⟩
         grind
        ·cases hv
   obtain ⟨vs,hrs,hl,hreps⟩:=many _ _ _ hf hzs
   have hzl:2<=zs.length:=by
    simp only[Qdh] at hzs
    grind
   refine ⟨.tuple vs.toArray,?_,.tup _ _ hl hreps⟩
   have hfun:results fn a.tmps=(do
     let vs <- fn.results.mapM (Yw a.tmps)
     pure (if h:vs.size=1 then vs[0] else .tuple vs)):=by
    unfold results
    congr 1
   rw[hfun,QAM];have hsz:¬ (vs.length=1):=by omega
   simp[hrs,hsz]
theorem JT {f A args o o1 y} (ids st pins pe) (hok:Qmq P f A pins) (hlen:args.length<=A.nt) (hnd:ids.Nodup)
  (ho1:∀ p∈o1,p.1<ids.length/\Y3 p.2=true/\clO (o1.map (·.1)) p.2=true) (hy:clA (o1.map (·.1)) y=true)
  (hst:∀ i∈st,nth ids i=i/\(∃ cs,Qc o i=some (.box cs))/\(∃ cs,Qc o1 i=some (.box cs))/\∃ t off,(t,i,off)∈pe/\pins.contains t=true/\args[t]?=some (.loc i off))
  (h:WpF P K (FnF (Qrq A.res ids pe y o1)) [.code A.code] (YY 0 args) o):ZG P K f args o st y o1:=by
 intro w ok L vs hK hnew hown hlaid hvl hvs;obtain ⟨fn,hfn,hok⟩:=hok;unfold Qiq at hok;split at hok
 ·rename_i c hbody
  simp only[Qzm,beq_iff_eq] at hok;obtain ⟨⟨hfit,hnt⟩,hresf⟩:=hok
  let a:Act:={ tmps:=vs.toArray++Array.replicate (fn.ntmps-vs.toArray.size) undef,defers:=[] }
  let w0:ZR:=⟨w,FrO w (Qc o) L,fun _ h=>h.1,fun t=>a.tmps.getD t undef⟩
  have hctx:Ctx P K ok w0:=⟨fun w' h=>hK w' h,fun b hb=>by
   by_cases hbl:b<w.heap.size
   ·exact hown b (Classical.byContradiction fun hn=>hb ⟨hbl,hn⟩)
   ·exact hnew b (QAA.1 hbl)⟩
  have hget:∀ t (hlt:t<vs.length),a.tmps.getD t undef=vs[t]:=fun t hlt=>by
   simp[a,QzY,QAD,hlt]
  have hrel:Rel ok ⟨A.nt,pins⟩ w0 (look (YY 0 args)) (Qc o) a w L:=by
   refine ⟨QL.refl _ _,⟨[],rfl,QAL,by simp⟩,?_,fun t=>?_,hlaid.objs,hlaid.apart,fun t _=>rfl⟩
   ·simp[a,hnt];omega
   ·rcases Ji args 0 t with h1 | ⟨z,_,h2,h3⟩
    ·rw[h1];exact .iv _ _ (.any _)
    ·rw[h3]
     simp only[Nat.sub_zero] at h2;have hlt:t<vs.length:=by rw[hvl];exact (Qzl.1 h2).1
     rw[hget t hlt];exact hvs t z _ h2 (Qzk hlt)
  refine (Qkj (ac:=A.code) (R:=fun v w'=>∃ L',QgQ (FrO w (Qc o) L) ok w' (Qc o1) L'/\Qs (okL ok (Qc o1) L') w' (Qc o1) L' y v/\QL (FrO w (Qc o) L) w w'/\∀ i∈st,∀ ob,Qc o i=some ob->∃ ob',Qc o1 i=some ob'/\Yn ob ob' (L i) (L' i)) hctx hfn hbody hfit hrel h (fun w1 e1 o2 a1 w' L' hle hf hr'=>?_)).mono fun e w' ⟨v,he,L',h1⟩=>⟨v,L',he,h1⟩
  obtain ⟨⟨z,hz,hzy⟩,hobs,hpe⟩:=hf;obtain ⟨v,hrun,hrep⟩:=Qkw hr' hresf hz
  let m:=nth ids
  let L1:Nat->Lay:=fun j=>L' (m j)
  have hinj:∀ i j,i<ids.length->j<ids.length->m i=m j->i=j:=fun i j hi hj e=>by
   have h1:=Yb hnd hi;have h2:=Yb hnd hj
   grind
  have hlo1:∀ i ob,Qc o1 i=some ob->Qc o2 (m i)=some (rnO m ob)/\L1 i=L' (m i):=fun i ob hob=>⟨hobs (i,ob) (QU hob),rfl⟩
  have hdom:∀ i,(o1.map (·.1)).contains i=true->(Qc o1 i).isSome=true:=fun i hi=>by
   obtain ⟨ob,hob⟩:=Yk (o:=o1) (by simpa using hi)
   rw[hob];rfl
  have hlt1:∀ i ob,Qc o1 i=some ob->i<ids.length:=fun i ob hob=>(ho1 (i,ob) (QU hob)).1
  have hokc:∀ b,okL ok (Qc o2) L' b->okL ok (Qc o1) L1 b:=fun b hb=>⟨hb.1,fun i ob hob hbb=>hb.2 _ _ (hlo1 i ob hob).1 hbb⟩
  have hFr:∀ b,FrO w (Qc o) L b->w1.fr b:=fun b hb=>hle.fr b hb
  refine ⟨v,hrun,L1,⟨fun i ob hob=>?_,fun i j oi oj b hij hi hj h1 h2=>?_⟩,?_,hle.keeps hr'.below,fun i hi ob hob=>?_⟩
  ·obtain ⟨_,h2,h3⟩:=ho1 (i,ob) (QU hob)
   exact Qe1 hokc hdom hlo1 h3 h2 (fun b hb hf=>((hr'.objs _ _ (hlo1 i ob hob).1).lt hb).1 (hFr b hf)) (hr'.objs _ _ (hlo1 i ob hob).1)
  ·exact hr'.apart (m i) (m j) _ _ b (fun e=>hij (hinj i j (hlt1 i oi hi) (hlt1 j oj hj) e)) (hlo1 i oi hi).1 (hlo1 j oj hj).1 h1 h2
  ·unfold QnE at hzy
   split at hzy
   ·rename_i r
    have hs:=(XD hr' (ok1:=okL ok (Qc o1) L1) hokc (lo':=fun i=>if ids.contains i then none else Qc o2 i)
     (fun id ob hob=>by
       split at hob
       ·cases hob
       ·exact hob)
     (fun id ob b hob hb=>by
       split at hob
       ·cases hob
       ·rename_i hni
        refine ⟨(hctx.le hle).ok b ((hr'.objs id ob hob).lt hb).1,fun i oi hi hbb=>?_⟩
        refine hr'.apart (m i) id _ ob b (fun e=>hni ?_) (hlo1 i oi hi).1 hob hbb hb
        rw[<- e];have hil:=hlt1 i oi hi;simp only[m,nth,List.getD_eq_getElem?_getD,Qzk hil,QAd,List.contains_eq_mem,decide_eq_true_eq];exact Qzr hil) 40).1 z v r hrep hzy
    exact .iv _ _ hs
   ·subst hzy
    exact Qdf hokc hdom hlo1 hy hrep
  ·obtain ⟨hmi,⟨cs,hcs⟩,⟨cs',hcs'⟩,t,off,hpm,hpin,hat⟩:=hst i hi
   refine ⟨_,hcs',?_⟩;rw[hcs] at hob;injection hob with hob
   subst hob;have hlt:t<vs.length:=by rw[hvl];exact (Qzl.1 hat).1
   have hr0:=hvs t _ _ hat (Qzk hlt);have hr1:=hr'.env t;rw[hpe (t,i,off) hpm] at hr1;rw[hr'.pin t hpin] at hr1;have hpv:w1.pin t=vs[t]:=by rw[hle.pin];exact hget t hlt
   rw[hpv] at hr1;have hL1:L1 i=L' i:=by show L' (nth ids i)=L' i;rw[hmi]
   generalize vs[t]=pv at hr0 hr1;cases hr0 with
   | loc _ _ c0 b0 g1 g2 =>
     cases hr1 with
     | loc _ _ c1 _ g3 g4 =>
       rw[g2,hL1,g4];simp only[Yn]
 ·simp at hok
theorem ZG.none {f args o o' st y} (h:ZG P K f args o st y o'):ZG P K f args o [] y o' :=
 fun w ok L vs h1 h2 h3 h4 h5 h6=>(h w ok L vs h1 h2 h3 h4 h5 h6).mono fun _ _ ⟨v,L',a,b,c,d,_⟩=>⟨v,L',a,b,c,d,fun _ h=>by simp at h⟩
@[simp] theorem QuF (ids o cs z):QnE ids o (.tup cs) z=(z=.tup (rnL (nth ids) cs)):=rfl
attribute [simp] QrY Qdh Qrq YY
end
theorem Yn.trans {a b c x y z} (h:Yn a b x y) (k:Yn b c y z):Yn a c x z:=by
 cases a<;>cases b<;>cases x<;>cases y<;>first | exact h.elim | skip
 all_goals cases c<;>cases z<;>first | exact k.elim | skip
 all_goals simp only[Yn] at h k |-
 all_goals grind
section
variable {P:Program} {K:World->Prop}
inductive QbA (P:Program) (K:World->Prop) (gc:FuncId) (fs cs:List AV) (st:List Nat):List (List IV)->Qk->Bool->Qk->Prop
 | nil (o):QbA P K gc fs cs st [] o true o
 | stop (x r o o') (h:ZG P K gc (fs++x.map AV.iv++cs) o st (.iv (.bool false)) o') (hn:∀ p∈o',Y3 p.2=true):QbA P K gc fs cs st (x::r) o false o'
 | next (x r o o' o'' b) (h:ZG P K gc (fs++x.map AV.iv++cs) o st (.iv (.bool true)) o') (hn:∀ p∈o',Y3 p.2=true) (hr:QbA P K gc fs cs st r o' b o''):QbA P K gc fs cs st (x::r) o b o''
def Qu8 (fs cs:List AV) (us vs:List Value) (st:List Nat) (o0:Qk) (L0:Nat->Lay) (o:Qk) (O D:Nat->Prop) (w:World):Prop :=
 ∃ L,(∀ b,O b↔qv (Qc o) L b)/\(∀ b,O b->D b)/\(∀ b,D b->b<w.heap.size)/\QgQ (fun b=>D b/\¬ O b) D w (Qc o) L/\(∀ p∈o,Y3 p.2=true) /\
  (∀ (k:Nat) (x:AV) (u:Value),fs[k]?=some x->us[k]?=some u->Qs (okL D (Qc o) L) w (Qc o) L x u) /\
  (∀ (k:Nat) (x:AV) (u:Value),cs[k]?=some x->vs[k]?=some u->Qs (okL D (Qc o) L) w (Qc o) L x u) /\
  ∀ i∈st,∀ ob,Qc o0 i=some ob->∃ ob',Qc o i=some ob'/\Yn ob ob' (L0 i) (L i)
theorem Qu8.stay {fs cs us vs st o0 o L0 O D w w'} (h:Qu8 fs cs us vs st o0 L0 o O D w) (hk:QL D w w'):Qu8 fs cs us vs st o0 L0 o O D w':=by
 obtain ⟨L,h1,h2,h3,h4,h5,h6,h7,h8⟩:=h;have hok:∀ b,okL D (Qc o) L b->Yy w b->okL D (Qc o) L b/\w'.heap[b]?=w.heap[b]?:=fun b hb _=>⟨hb,hk.block b hb.1⟩
 have hown:∀ id ob b,Qc o id=some ob->(L id).has b->w'.heap[b]?=w.heap[b]?:=fun id ob b ho hb=>hk.block b (h2 b ((h1 b).2 ⟨id,ob,ho,hb⟩))
 have all:∀ x v,Qs (okL D (Qc o) L) w (Qc o) L x v->Qs (okL D (Qc o) L) w' (Qc o) L x v:=fun x v hx=>hx.move hok hown
 refine ⟨L,h1,h2,fun b hb=>QzJ (h3 b hb) hk.size,⟨fun id ob ho=>?_,h4.apart⟩,h5,fun k x u a b=>all _ _ (h6 k x u a b),fun k x u a b=>all _ _ (h7 k x u a b),h8⟩
 exact (h4.objs id ob ho).move ⟨hk.os,hk.tape,hk.output,hk.size⟩ hok (fun b hb=>⟨fun hf=>hf.2 ((h1 b).2 ⟨id,ob,ho,hb⟩),hown id ob b ho hb⟩) (fun b hb hb'=>⟨hb,hb',hk.block b hb.1⟩) all
def Qzg (g:FuncId) (fs cs:List AV) (us vs:List Value) (st:List Nat) (o0:Qk) (L0:Nat->Lay) (o:Qk):Ext :=
 ⟨.func (.func g) us.toArray vs.toArray,rfl,Qu8 fs cs us vs st o0 L0 o,fun _ _ _ _ h hk=>h.stay hk⟩
end
section
variable {P:Program} {K:World->Prop}
theorem Qa5 {f args xs o r} (hg:Good P K f xs r) (hx:imms (Qc o) 40 args=some xs):ZG P K f args o [] (.iv r) []:=by
 intro w ok L vs hK hnew hown hlaid hvl hvs
 let a:Act:={ tmps:=vs.toArray,defers:=[] }
 let w0:ZR:=⟨w,FrO w (Qc o) L,fun _ h=>h.1,fun t=>a.tmps.getD t undef⟩
 have hget:∀ t (hlt:t<vs.length),a.tmps.getD t undef=vs[t]:=fun t hlt=>by
  simp[a,QzY,hlt]
 have hrel:Rel ok ⟨vs.length,[]⟩ w0 (look (YY 0 args)) (Qc o) a w L:=by
  refine ⟨QL.refl _ _,⟨[],rfl,QAL,by simp⟩,?_,fun t=>?_,hlaid.objs,hlaid.apart,fun t _=>rfl⟩
  ·simp[a]
  ·rcases Ji args 0 t with h1 | ⟨z,_,h2,h3⟩
   ·rw[h1];exact .iv _ _ (.any _)
   ·rw[h3]
    simp only[Nat.sub_zero] at h2;have hlt:t<vs.length:=by rw[hvl];exact (Qzl.1 h2).1
    rw[hget t hlt];exact hvs t z _ h2 (Qzk hlt)
 have hs:=(XD hrel (ok1:=ok) (fun b hb=>hb.1) (lo':=Qc o) (fun _ _ h=>h) (fun id ob b hob hb=>hown b ⟨id,ob,hob,hb⟩) 40).2 args xs hx
 refine (hg w ok vs (hK w (QL.refl _ _)) hnew (by rw[hvl,hs.1]) fun k x u hk hu=>?_).mono fun e w' ⟨v,he,hrep,hb⟩=>⟨v,fun _=>.one 0,he,⟨by simp[Qc],by simp[Qc]⟩,?_,Below.keep hb fun b h=>h.1,by simp⟩
 ·have hlt:k<args.length:=by rw[<- hs.1];exact (Qzl.1 hk).1
  exact hs.2 k args[k] x u (Qzk hlt) hk (hvs k _ u (Qzk hlt) hu)
 ·exact .iv _ _ (hrep.mono fun b hb _=>⟨⟨hb,by simp[Qc]⟩,rfl⟩)
theorem QdG {lo:Nat->Option AO} {id n et sz mv:Nat} {rows:List (List IV)} (hid:lo id=some (.arr et sz (rows.map (List.map .iv)) mv)) (hmv:mv<=n) (hn:n<=rows.length) :
  ∀ (mk:List (Option IV)) (k:Nat),mk.length+2<=k->imms lo k (mk.map fun x=>match x with | some y=>AV.iv y | none=>.aref id n)=some (mk.map fun x=>x.getD (.sl sz (rows.take n)))
 | [],k+1,_=>rfl
 | some y::r,k+1,h=>by
   simp only[Qzv] at h;have ih:=QdG hid hmv hn r k (by omega)
   cases k with
   | zero=>omega
   | succ k =>
     simp only[QzH,imms,imm,ih,QAd]
 | none::r,k+1,h=>by
   simp only[Qzv] at h;have ih:=QdG hid hmv hn r k (by omega)
   cases k with
   | zero=>omega
   | succ k =>
     have e1:n<=(rows.map (List.map AV.iv)).length:=by simpa using hn
     have e2:immss lo k ((rows.map (List.map AV.iv)).take n)=some (rows.take n):=by
      cases k with
      | zero=>omega
      | succ k=>simp only[immss,<- QAH];exact Vk _
     simp only[QzH,imms,imm,ih,hid,hmv,e1,and_self,if_true,e2,QAt,Option.getD_none]
theorem Qbo {C:Env->Qk->Prop} {g:FuncId} {id n et sz mv:Nat} {d:Option Nat} {e:Env} {o:Qk} {avs:List AV} {rows:List (List IV)} {r:IV} (mk:List (Option IV)) (hl:mk.length<=30)
  (hg:Good P K g (mk.map fun x=>x.getD (.sl sz (rows.take n))) r) (h1:avs=mk.map fun x=>match x with | some y=>AV.iv y | none=>.aref id n)
  (hid:Qc o id=some (.arr et sz (rows.map (List.map .iv)) mv)) (hmv:mv<=n) (hn:n<=rows.length)
  (h:C (bnd d (.iv r) (Qkc (Xh [id] [] o) e)) (QmM [id] (Xh [id] [] o) o [])):HK P K g [id] d C e o avs:=by
 have hrn:∀ rows:List (List IV),(rows.map (List.map AV.iv)).map (rnL (nth [id]))=rows.map (List.map AV.iv):=fun rows=>QaP _ rows
 refine ZH (args0:=mk.map fun x=>match x with | some y=>AV.iv y | none=>.aref 0 n) (o0:=[(0,.arr et sz (rows.map (List.map .iv)) mv)]) (st:=[]) (y:=.iv r) (o1:=[])
  (Qa5 hg (QdG rfl hmv hn mk 40 (by omega))) ?_ ?_ ?_
 ·rw[h1,List.map_map]
  refine QAN fun x _=>?_
  cases x<;>simp[rn,nth]
 ·refine ⟨by simp,?_,?_,?_,by simp⟩
  ·rw[QzX]
   intro z hz;obtain ⟨x,_,rfl⟩:=QzI.1 hz;cases x<;>simp[clA]
  ·intro p hp
   simp only[QzK] at hp;subst hp;refine ⟨by simp,?_,?_,rfl⟩
   ·simp only[nth,List.getD_cons_zero,rnO,hrn,hid]
   ·simp only[clO,QzX]
    intro z hz;obtain ⟨x,_,rfl⟩:=QzI.1 hz;exact Qd6 _ x
  ·intro i hi h
   simp at hi;subst hi;simp[Qc] at h
 ·simpa[rn] using h
end
end Go.Ev
namespace Go.Pf
open Go Go.Ev Go.Proofs
attribute [simp] c5 c6 c7 c9 c10 c11 c12 c13 c14 c15 c16 c17 c18 c24 c25 c26 c27 c28 c29 c30 c33 c34 c35 c36 c37 c38 c39 c40 c41 c42 c43 c44 c45 c48 c56 c57 c59 c60 c61 c62 c64 c65 c66 c67 c68 c69 c70 c72 c73 c74 c75 c80 c89 c90 c91 c92 c93 c94 c95 c97 c98 QyA Qyv Qyr Qym Qyd Qyc Qyb Qya Qx9 Qx8 Qx5 Qx3 Qx2 Qx1 Qx0 QxP QxL QxK QxJ QxI QxH QxE Qxx Qxw Qxv Qxt Qxo Qxm Qxl Qxk Qxj Qxi Qxe Qxd Qxb Qxa Qw9 Qw8 Qw7 Qw5 Qw4 Qw3 QwZ
abbrev Gd:=Ev.Good Tryz.prog
abbrev Gh:=ZG Tryz.prog
abbrev Gp:=QcY Tryz.prog
attribute [simp] q9 IntKind.inR IntKind.min IntKind.max IntKind.bits IntKind.signed
end Go.Pf
