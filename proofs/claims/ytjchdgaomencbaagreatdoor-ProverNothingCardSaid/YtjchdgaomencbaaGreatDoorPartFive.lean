/- The laws that compare with the reference: ProofsBroke, ProofsFailures, ProofsGood. -/
import Derived.Test.YtjchdgaomencbaaGreatDoorPartFour
import Derived.Lib.ItoaNum
import Derived.Lib.ItoaMem
import Derived.Lib.AtoiTie
import Derived.Lib.Strings
import Derived.Lib.SplitLaws
import Derived.Test.YtjchdgaomencbaaGreatDoorPartThree
import Derived.ChangeAgain
import Derived.WalkSmall
import Derived.Test.YtjchdgaomencbaaGreatDoorCards
import Derived.Test.YtjchdgaomencbaaGreatDoorTie
import Derived.ProofKit
import Derived.OpenShut
import Derived.Lay
import Derived.Lib.LaidTab
import Derived.Stop.LaidErr
import Derived.JoinedCond
set_option linter.all false
namespace Go.Pf
open Go Go.Ev Go.Proofs Go.RowKit
variable {K:World->Prop} (hK:∀ w w',K w->Below w.heap.size w w'->K w')
set_option maxRecDepth 8000
theorem Qb3:∀ ds:List Qs,(QP ds).length<=2 ^ ZB ds
 | []=>by show 1<=2 ^ 0;decide
 | d::r=>by
   have ih:=Qb3 r;by_cases h2:d.frm=2
   ·have e1:ZB (d::r)=ZB r+1:=by simp[ZB,h2]
    rw[e1,Nat.pow_succ];simp[QP,Ur,h2];omega
   ·have e1:ZB (d::r)=ZB r:=by simp[ZB,h2]
    rw[e1];by_cases h0:d.frm=0
    ·simp[QP,Ur,h0];omega
    ·by_cases h1:d.frm=1
     ·simp[QP,Ur,h1];omega
     ·simp[QP,Ur,h0,h1,h2]
theorem Qkn (c:Qn):(ZS c [] c.deeds).length<=2 ^ ZB c.deeds:=by
 refine QMe (QMg _ _) ?_;simpa using Qb3 c.deeds
theorem Qqy {p:Qf} (h:¬ QgV p):Ql8 p:=by
 unfold QgV Qug Qod at h;simp only[not_or] at h;exact ⟨by omega,by omega,by omega,by omega,by omega⟩
theorem QdE {p:Qf} (h:¬ QgV p) (hp:OkP p):1<=sets p.machine p.machine.levers.length/\sets p.machine p.machine.levers.length<=48/\2 ^ ZB p.chain.deeds<=48:=by
 have h1:ways p<=48:=by
  unfold QgV at h
  grind
 have hl:=hp.machine.leak;simp only[inR] at hl
 have h2:1<=sets p.machine p.machine.levers.length:=by
  have h3:=VF Z8 p.machine.levers fun l hl=>(hp.machine.span hl).1
  unfold sets;rw[QLQ (QLS _)];have h4:1*Q8 Z8 p.machine.levers<=(p.machine.lhi-p.machine.llo+1)*Q8 Z8 p.machine.levers:=QMm (by omega) (by omega)
  omega
 unfold ways at h1;have hpos:1<=(2 ^ ZB p.chain.deeds:Nat):=Nat.pos_of_ne_zero (by simp)
 generalize (2 ^ ZB p.chain.deeds:Nat)=W at *;generalize sets p.machine p.machine.levers.length=S at *;have a1:S*1<=S*(W:Int):=QME (by omega) (by omega)
 have a2:1*(W:Int)<=S*(W:Int):=QMm h2 (by omega)
 omega
theorem QBQ {p:Qf} (h:¬ QgV p):Few p:=by
 refine ⟨⟨Qqy h,fun hp=>by have:=QdE h hp;omega⟩,fun hp=>?_,fun hp=>?_,fun hp=>?_⟩
 ·have h1:=Qkn p.chain;have h2:=QdE h hp;omega
 ·have h1:=Qar hp.machine;have h2:=QdE h hp;omega
 ·have h1:=Qkn p.chain
  have h2:=QdE h hp;have h3:=Qar hp.machine;rw[Wx,UG,Wt];have h4:(ZS p.chain [] p.chain.deeds).length*(QW p.machine [] p.machine.levers).length<=48*48:=Nat.mul_le_mul (by omega) (by omega)
  omega
include hK
omit hK
def QEd (p:Qf) (r:Int):Qf:=⟨p.chain,p.machine,p.trials,p.need,r⟩
theorem qa {c n:Nat}:XY c n=1↔c=n:=by
 unfold XY;omega
theorem UE {c n:Nat} (hn:n≠0):XY c n=2↔c=0:=by
 unfold XY;omega
def QK4 (p:Qf) (i:Nat):Nat:=(List.range i).countP fun k=>decide (0<=(tr p k).broke)
include hK
omit hK
theorem QmP (p:Qf):JF p<=999999999:=by
 unfold JF
 have h:∀ (l:List Q7) (b:Int),l.foldl (fun b t=>min b (Qe0 p t)) b<=b:=by
  intro l
  induction l with
  | _=>grind
 exact h _ _
include hK
omit hK
theorem U9:∀ (ls:List ZC) (s:List Int),s.length=ls.length->(∀ i (h:i<ls.length) (h':i<s.length),inR s[i] ls[i].lo ls[i].hi)->s∈QV ls
 | [],s,hl,_=>by
   have:s=[]:=QLV hl;subst this;simp[QV]
 | l::ls,[],hl,_=>by cases hl
 | l::ls,x::s,hl,h=>by
   have h0:=h 0 (by simp) (by simp)
   simp only[QMW,inR] at h0
   have hr:=U9 ls s (by simpa using hl) (fun i h1 h2=>by
    have:=h (i+1) (by simpa using h1) (by simpa using h2)
    grind)
   simp only[QV,acc,QMl,QL5,QMi];refine ⟨(x-l.lo).toNat,by omega,s,hr,?_⟩
   grind
theorem Qmz {m:Machine} {s:Qk} (h:Vq m s):s∈QW m [] m.levers:=by
 simp only[QW,QMr,decide_eq_true_eq];refine ⟨?_,h⟩;obtain ⟨⟨h1,h2,h3⟩,_⟩:=h;simp only[inR] at h2;simp only[Zi,QMl,QL5,QMi,QL4];refine ⟨s.shorts,U9 _ _ h1 h3,(s.leak-m.llo).toNat,by omega,?_⟩
 have:m.llo+((s.leak-m.llo).toNat:Int)=s.leak:=by omega
 rw[this]
theorem QFg {p:Qf} (hp:OkP p) {t:Q7} (h:t∈Qr p):kE p true=0:=by
 unfold kE
 grind
theorem V4 {α:Type} (f:α->Int):∀ (l:List α) (t:α),t∈l->(span (l.map f)).1<=f t/\f t<=(span (l.map f)).2
 | [],_,h=>by cases h
 | a::r,t,h=>by
   have mono:∀ (l:List α) (x u:Int),(l.map f).foldl min x<=x/\u<=(l.map f).foldl max u:=by
    intro l
    induction l with
    | cons b l ih =>
      intro x u;simp only[QMb,QMH];have:=ih (min x (f b)) (max u (f b));omega
    | _=>grind
   have key:∀ (l:List α) (x u:Int),t∈l->(l.map f).foldl min x<=f t/\f t<=(l.map f).foldl max u:=by
    intro l
    induction l with
    | cons b l ih =>
      intro x u h;simp only[QMb,QMH];rcases QLX.1 h with rfl | h
      ·have:=mono l (min x (f t)) (max u (f t))
       omega
      ·exact ih _ _ h
    | _=>grind
   simp only[QMb,span];rcases QLX.1 h with rfl | h
   ·exact mono r _ _
   ·exact key r _ _ h
def Qp9 (k:Int) (b:Bool):Prop:=k=3\/(k=1/\b=true)\/(k=2/\b=false)
theorem Qvs {p:Qf} (hp:OkP p) (e:Nat->Int):((Yh p e).length:Int)=Xw p.chain.deeds/\(Yh p e).length<=12:=by
 have h1:=Xj e hp.chain.deeds p.chain.deeds.length (QLS _) (QLS _);have h2:=OkD.cnt hp.chain.deeds p.chain.deeds.length (QLS _) (QLS _);have h3:=hp.chain.len;refine ⟨h1,?_⟩;unfold Yh;omega
theorem QuZ {α:Type} (f:α->Int) (a:Int):∀ l:List α,l≠[]->(∀ t∈l,a<=f t)->a<=(span (l.map f)).1
 | [],h,_=>absurd rfl h
 | b::r,_,h=>by
   have key:∀ (l:List α) (x:Int),(∀ t∈l,a<=f t)->a<=x->a<=(l.map f).foldl min x:=by
    intro l
    induction l with
    | _=>grind
   simp only[QMb,span]
   grind
theorem QuY {α:Type} (f:α->Int) (a:Int):∀ l:List α,l≠[]->(∀ t∈l,f t<=a)->(span (l.map f)).2<=a
 | [],h,_=>absurd rfl h
 | b::r,_,h=>by
   have key:∀ (l:List α) (x:Int),(∀ t∈l,f t<=a)->x<=a->(l.map f).foldl max x<=a:=by
    intro l
    induction l with
    | _=>grind
   simp only[QMb,span]
   grind
instance (k:Int) (b:Bool):Decidable (Qp9 k b):=by unfold Qp9;infer_instance
include hK
omit hK
def QHO:=f0 0xa522210f02f3283f73922201383f14501383f0402cd57ae93d0221f14057ae9ad02cd576e53d0224040576e5ad0c1f30133875d5d331d3e17246f3275d5d321d0a22032214c ⟨_,by conv=>lhs;reduce⟩
def QHN:=f0 0xa922210f02f3283f73922201383f14501383f0402cd57ae93d0221f14057ae9ad02cd576e53d0224040576e5ad0c1f30133875d5d331d3e17246f3275d5d321d0a22032214c ⟨_,by conv=>lhs;reduce⟩
def QHM:=f0 0xa922210f02f6283f1c3922201383f44501383f04024d47ce93d0221f44047ce9ad02cc393e53d0224040393e5ad0c1f30163874d7773d631d3e11c246f3274d7773d621d0a22062214c ⟨_,by conv=>lhs;reduce⟩
def QLy:=f0 0xa522210f02f0c2801b21a4198f635f305773d74d7773d75d5d0c2d0221fb40221fa402cc378e93d0221f940378e9ad016de501c243450016ce4cd0721044c1f3773d74d7773d75d5d0c21d0a2200c2216c ⟨_,by conv=>lhs;reduce⟩
def QLz:=f0 0xa822210f02f0c2801b21a4198f635f305773d74d7773d75d5d0c2d0221fb40221fa402cc378e93d0221f940378e9ad80016de4cd01c2434016ce50721044c1f3773d74d7773d75d5d0c21d0a2200c2216c ⟨_,by conv=>lhs;reduce⟩
def QLx:=f0 0xa9523210f02f0c2801b21a4198f635f305773d74d7773d75d5d0c2d0221fb40221fa402cc378e93d0221f940378e9ad016de501c243450016ce4cd0721044c1f3773d74d7773d75d5d0c21d0a2200c2216c ⟨_,by conv=>lhs;reduce⟩
def QEN:=fk Tryz.func152 QHO (by kernel_rfl)
def QEM:=fk Tryz.func152 QHN (by kernel_rfl)
def QEL:=fk Tryz.func153 QHM (by kernel_rfl)
def QFZ:=fk Tryz.func97 QLy (by kernel_rfl)
def QF0:=fk Tryz.func97 QLz (by kernel_rfl)
def QFY:=fk Tryz.func97 QLx (by kernel_rfl)
@[simp] theorem QAB {α:Type} (lod:Nat->Option AO) (ids:List Nat) (f:α->List IV) (l:List α):List.map (Qms lod ids∘List.map AV.iv∘f) l=List.map (List.map AV.iv∘f) l :=
 QMG fun a _=>Qg3 lod ids (f a)
include hK
@[simp] def prA (p:Qf) (ds ss bs ts:AV):List AV:=[ds,ss,.iv (.int .i64 p.chain.wrong),.iv (Q0 p.machine.levers),.iv (.int .i64 p.machine.water),.iv (.int .i64 p.machine.llo),.iv (.int .i64 p.machine.lhi),bs,.iv (.int .i64 p.machine.wrong),ts,.iv (.int .i64 p.need),.iv (.int .i64 p.rule)]
omit hK
def prv:Qs:=⟨4,0,0,0,0⟩
def Js (D:List Qs):List Qs:=D++[prv]
theorem XT (D:List Qs):(Js D).length=D.length+1:=by simp[Js]
theorem QgN (D:List Qs) {k:Nat} (h:k<=D.length):(Js D).take k=D.take k:=by
 unfold Js;grind
theorem QaK (D:List Qs) {k:Nat} (h:k<D.length):(Js D)[k]'(by rw[XT];omega)=D[k]:=by
 unfold Js;grind
theorem Qch (D:List Qs):(Js D)[D.length]'(by rw[XT];omega)=prv:=by
 unfold Js;simp
theorem QaL (D:List Qs) {k:Nat} (h:k<=D.length):cnt (Js D) k=cnt D k:=by
 rw[<- WQ (Js D) k D.length h,QgN D (QLS _),QLU]
theorem Ql4 (D:List Qs):YD (Js D)=YD D:=by
 unfold YD Js;rw[Z5];simp[XH,ZR,prv]
theorem Qja (D:List Qs):pv (Js D)=pv D++[D.length]:=by
 unfold pv Js;rw[Z5];simp[XH,Q1,prv]
theorem Qz7 (D:List Qs) {k:Nat} (h:k<=D.length):wn (Js D) k=wn D k:=by unfold wn;rw[QgN D h]
theorem QkJ (D:List Qs) (e e':Nat->Int) (h:∀ i,i<D.length->e' i=e i):∀ k,k<=D.length->cab (Js D) e' k=cab D e k
 | 0,_=>rfl
 | k+1,hk=>by
   rw[Vh (Js D) e' k (by rw[XT];omega),Vh D e k (by omega),QaK D (by omega),Qz7 D (by omega),h k (by omega),QkJ D e e' h k (by omega)]
theorem QeQ (D:List Qs) (e:Nat->Int):cab (Js D) e (D.length+1)=cab (Js D) e D.length:=by
 rw[Vh (Js D) e D.length (by rw[XT];omega),Qch]
 simp[Jj,prv]
theorem Ql5 (D:List Qs) (h:D≠[]) (k:Nat):Qac (Js D) k=Qac D k:=by
 unfold Qac;rw[Ql4]
 have hlt:(YD D).getD k 0<D.length:=by
  by_cases hk:k<(YD D).length
  ·rw[List.getD_eq_getElem?_getD,QLN hk,QMU]
   exact Qjh (QLR hk)
  ·rw[List.getD_eq_getElem?_getD,List.getElem?_eq_none (by omega),Option.getD_none]
   grind
 generalize (YD D).getD k 0=j at *;unfold Js
 grind
theorem Qtm {D:List Qs} (h:OkD D D.length):OkD (Js D) (Js D).length:=by
 intro i hi _;rw[XT] at hi;by_cases hl:i<D.length
 ·rw[QaK D hl,QaL D (by omega)]
  exact h i hl hl
 ·have:i=D.length:=by omega
  subst this;rw[Qch];exact .inr (.inr ⟨.inr rfl,rfl,rfl,rfl,rfl⟩)
theorem QrP (e:List Int) (x:Int) (i:Nat) (h:i<e.length):QC (e++[x]) i=QC e i:=by
 unfold QC
 grind
def Qqd (c:Qn):Qn:=⟨Js c.deeds,c.sights,c.wrong⟩
theorem Qz8 {c:Qn} (h:OkC c) (hl:c.deeds.length<12):OkC (Qqd c):=by
 refine ⟨by show (Js c.deeds).length<=12;rw[XT];omega,h.slen,h.wrong,Qtm h.deeds,fun s hs=>?_⟩
 have:=h.sights s hs;obtain ⟨h1,h2,h3,h4⟩:=this;simp only[inR] at h1;refine ⟨?_,h2,?_,h4⟩
 ·show inR s.after 0 (Js c.deeds).length
  rw[XT];simp only[inR];omega
 ·show inR s.pos 0 (cnt (Js c.deeds) s.after.toNat-1)
  rw[QaL _ (by omega)]
  exact h3
theorem Qci {c:Qn} (h:OkC c) {e:List Int} (he:e.length=c.deeds.length):QZ (Js c.deeds) c.sights (QC (e++[0]))=QZ c.deeds c.sights (QC e):=by
 unfold QZ;by_cases hD:c.deeds=[]
 ·have:c.sights=[]:=by
   refine QM1.2 fun s hs=>?_
   have:=(h.sights s hs).2.2.1;rw[hD] at this;simp[inR,cnt] at this;omega
  rw[this];rfl
 ·refine List.countP_congr fun s hs=>?_
  have h1:=(h.sights s hs).1;simp only[inR] at h1
  have hr:We (Js c.deeds) (QC (e++[0])) s=We c.deeds (QC e) s:=by
   unfold We QfD;rw[QkJ c.deeds (QC e) (QC (e++[0])) (fun i hi=>QrP e 0 i (by omega)) _ (by omega),Ql5 _ hD]
  rw[hr]
theorem Qqb (D:List Qs) (e:List Int):QvL (Js D) (e++[0])↔QvL D e:=by
 unfold QvL;constructor
 ·rintro ⟨h1,h2⟩
  have hl:e.length=D.length:=by rw[XT] at h1;simpa using h1
  refine ⟨hl,fun i hi hi'=>?_⟩
  have:=h2 i (by grind) (by simp;omega)
  rw[QaK D hi,QM3 hi'] at this;exact this
 ·rintro ⟨h1,h2⟩
  refine ⟨by rw[XT];simp[h1],fun i hi hi'=>?_⟩
  rw[XT] at hi;by_cases hl:i<D.length
  ·rw[QaK D hl,QM3 (by omega)]
   grind
  ·have:i=D.length:=by omega
   subst this;rw[Qch];have:(e++[0])[D.length]'hi'=0:=by simp[<- h1]
   rw[this];exact ⟨by simp[inR],fun _=>rfl⟩
theorem Qqc {c:Qn} (h:OkC c) (e:List Int):Qns (Qqd c) (e++[0])↔Qns c e:=by
 unfold Qns;have e1:(Qqd c).deeds=Js c.deeds:=rfl;have e2:(Qqd c).sights=c.sights:=rfl;have e3:(Qqd c).wrong=c.wrong:=rfl;rw[e1,e2,e3,Qqb];constructor
 ·rintro ⟨h1,h2⟩
  rw[Qci h h1.1] at h2;exact ⟨h1,h2⟩
 ·rintro ⟨h1,h2⟩
  refine ⟨h1,?_⟩;rw[Qci h h1.1];exact h2
theorem Qb4:∀ D:List Qs,QP (Js D)=(QP D).map (·++[0])
 | []=>by simp[Js,QP,Ur,prv]
 | d::D=>by
   have ih:=Qb4 D;have e:Js (d::D)=d::Js D:=rfl;rw[e];simp only[QP,ih,QNc,List.map_map];rfl
theorem Qoy {c:Qn} (h:OkC c):ZS (Qqd c) [] (Qqd c).deeds=(ZS c [] c.deeds).map (·++[0]):=by
 have e1:(Qqd c).deeds=Js c.deeds:=rfl;unfold ZS;rw[e1,Qb4];simp only[QL4,List.map_id',List.filter_map]
 congr 1
 refine QNf fun e _=>?_
 simp only[Function.comp_apply];exact decide_eq_decide.2 (Qqc h e)
def Vk (p:Qf) (w:Int):Qf:=⟨Qqd p.chain,p.machine,p.trials++[⟨w,0,-1⟩],p.need,p.rule⟩
def QkI (t:Q7):Q7:=⟨t.ends++[0],t.set⟩
theorem Ug {p:Qf} {w:Int} (hp:OkP p):Qr (Vk p w)=(Qr p).map QkI:=by
 have e1:(Vk p w).chain=Qqd p.chain:=rfl;have e2:(Vk p w).machine=p.machine:=rfl;unfold Qr;rw[e1,e2,Qoy hp.chain];simp only[List.flatMap_map,QNc,List.map_map];rfl
theorem Qz6 {p:Qf} {w:Int} (hp:OkP p) (hl:p.chain.deeds.length<12) (hw:inR w 0 9999):OkP (Vk p w):=by
 have e1:(Vk p w).chain.deeds=Js p.chain.deeds:=rfl;have e2:(Vk p w).trials=p.trials++[⟨w,0,-1⟩]:=rfl;refine ⟨Qz8 hp.chain hl,hp.machine,hp.need,hp.rule,?_,fun i h h'=>?_⟩
 ·rw[e1,e2,Qja];simp[hp.many]
 ·have hm:=hp.many
  simp only[e1,Qja,e2] at h h' |-;simp at h h';by_cases hi:i<p.trials.length
  ·have h1:=hp.trials i (by omega) hi
   rw[QM3 hi,QM3 (by omega)]
   have h2:=Jm Q1 p.chain.deeds 0 _ (QLR (show i<(pv p.chain.deeds).length by omega))
   rw[QaL _ (by omega)]
   exact h1
  ·have:i=p.trials.length:=by omega
   subst this;have e3:(p.trials++[(⟨w,0,-1⟩:Vt)])[p.trials.length]'(by simp)=⟨w,0,-1⟩:=by simp
   have e4:(pv p.chain.deeds++[p.chain.deeds.length])[p.trials.length]'(by simp;omega)=p.chain.deeds.length:=by simp[hm]
   rw[e3,e4,QaL _ (QLS _)];have:=OkD.cnt hp.chain.deeds p.chain.deeds.length (QLS _) (QLS _);exact ⟨hw,by simp[inR],by simp only[inR];omega⟩
theorem Qz5 {p:Qf} {w:Int} {i:Nat} (h:i<p.trials.length):tr (Vk p w) i=tr p i:=by
 have e2:(Vk p w).trials=p.trials++[⟨w,0,-1⟩]:=rfl;unfold tr
 grind
theorem QeP (p:Qf) (w:Int):tr (Vk p w) p.trials.length=⟨w,0,-1⟩:=by
 have e2:(Vk p w).trials=p.trials++[⟨w,0,-1⟩]:=rfl;unfold tr
 grind
theorem QgM (p:Qf) (w:Int) (t:Q7):ZZ (Vk p w) (QkI t)=ZZ p t:=by
 have e2:(Vk p w).trials.length=p.trials.length+1:=by show (p.trials++[_]).length=_;simp
 unfold ZZ;rw[e2,QMn,QMQ]
 have h0:ZX (Vk p w) p.trials.length (QkI t)=false:=by
  unfold ZX;rw[QeP];simp
 simp only[List.countP_singleton,h0];simp only[QMh,if_false,QMV];refine List.countP_congr fun i hi=>?_
 have hi:=QMi.1 hi
 have:ZX (Vk p w) i (QkI t)=ZX p i t:=by
  unfold ZX J7;rw[Qz5 hi];rfl
 rw[this]
theorem Qtk (p:Qf) (w:Int) (e:Nat->Int):Yh (Vk p w) e=cab (Js p.chain.deeds) e p.chain.deeds.length:=by
 have e1:(Vk p w).chain.deeds=Js p.chain.deeds:=rfl;unfold Yh;rw[e1,XT,QeQ]
theorem Qcg {p:Qf} (hp:OkP p) {w:Int} {t:Q7} (ha:p.need*den t.set<=num p.machine t.set w 0) {k:Nat} (hk:k∈Yh (Vk p w) (QC (QkI t).ends)):Zj (Vk p w) k (QkI t)=true:=by
 have e2:(Vk p w).trials.length=p.trials.length+1:=by show (p.trials++[_]).length=_;simp
 have e1:(Vk p w).chain.deeds=Js p.chain.deeds:=rfl;unfold Zj;rw[List.any_eq_true,e2];refine ⟨p.trials.length,QMi.2 (by omega),?_⟩
 have hth:Zy (Vk p w) p.trials.length (QC (QkI t).ends)=Yh (Vk p w) (QC (QkI t).ends):=by
  rw[Qtk];unfold Zy;rw[e1,Qja]
  have:(pv p.chain.deeds++[p.chain.deeds.length]).getD p.trials.length 0=p.chain.deeds.length:=by
   rw[List.getD_eq_getElem?_getD,hp.many];simp
  rw[this]
 have hbr:QF (Vk p w) p.trials.length (QC (QkI t).ends) = -1:=by
  unfold QF;rw[QeP];rfl
 unfold Ua;rw[hth,hbr];unfold J7;rw[QeP];simp only[QLP,decide_eq_true_eq,QMk,decide_eq_false_iff_not];refine ⟨⟨ha,?_⟩,by omega⟩
 unfold inN
 grind
@[simp] theorem QEz (L:List (List IV)) (a b c d e:IV):emb L++[[.iv a,.iv b,.iv c,.iv d,.iv e]]=emb (L++[[a,b,c,d,e]]):=by simp[emb]
theorem YT {p:Qf} (hp:OkP p):kL p true=Qr p:=by unfold kL;grind
theorem Qi9 {p:Qf} {w:Int} (hp:OkP p) (ho:OkP (Vk p w)) (hk:kE p true=0):kE (Vk p w) true=0:=by
 have hne:=(YU hk).2.2.2;unfold kE;rw[if_pos ho,if_pos rfl,if_neg];rw[Ug hp];intro e;exact hne (List.map_eq_nil_iff.1 e)
theorem Ql2 {p:Qf} {w:Int} (hp:OkP p) (ho:OkP (Vk p w)) (ha:∀ t∈Qr p,p.need*den t.set<=num p.machine t.set w 0):Wi (Vk p w)=[]:=by
 unfold Wi;split
 ·rw[YT ho,Ug hp]
  refine QM1.2 fun x hx=>?_
  simp only[acc,QMl,QMi] at hx;obtain ⟨i,hi,hx⟩:=hx;rw[if_pos] at hx
  ·cases hx
  ·refine QMf.2 fun t' ht=>?_
   obtain ⟨t,ht2,rfl⟩:=QL5.1 ht;have hl:=(Qvs ho (QC (QkI t).ends)).1;have hil:i<(Yh (Vk p w) (QC (QkI t).ends)).length:=by omega
   rw[List.getD_eq_getElem?_getD,QLN hil,QMU];exact Qcg hp (ha t ht2) (QLR hil)
 ·rfl
theorem Qqa {p:Qf} {w:Int} (hp:OkP p) (ho:OkP (Vk p w)) (ha:∀ t∈Qr p,p.need*den t.set<=num p.machine t.set w 0) (hk:kE p true=0):rCond p=2↔rGood (Vk p w)=1:=by
 have hne:=(YU hk).2.2.2;have hl:(Qr p).length≠0:=fun e=>hne (QLV e)
 have hg:∀ t∈Qr p,Vr (Vk p w) (QkI t)=decide ((ZZ p t:Int)<p.rule):=fun t ht=>by
  unfold Vr;have e1:((Yh (Vk p w) (QC (QkI t).ends)).all fun (k:Nat)=>Zj (Vk p w) k (QkI t))=true:=QMf.2 fun k hk=>Qcg hp (ha t ht) hk
  rw[e1,QgM];rfl
 unfold rCond rGood;rw[if_pos hk,if_pos (Qi9 hp ho hk),YT hp,YT ho,Ug hp,UE hl,qa,List.countP_eq_length,QNg]
 grind
theorem Qc3 (m:Machine) (l:List Qk) (mn load:Int):0<=Ww m l mn load/\(Ww m l mn load<=9999->Xk m l (Ww m l mn load) mn load):=by
 classical
 unfold Ww;refine ⟨by omega,fun h=>?_⟩
 have:=List.findIdx_getElem (p:=fun (n:Nat)=>decide (Xk m l n mn load)) (xs:=List.range 10000) (w:=by
  grind)
 simpa using this
theorem U0 {p:Qf} (hp:OkP p) (hk:kE p true=0):tE p.machine (W2 0 0 p.need)=0/\tL p.machine (W2 0 0 p.need)=QW p.machine [] p.machine.levers:=by
 have hne:=(YU hk).2.2.2;have hb:W2 0 0 p.need=true:=decide_eq_true ⟨by simp[inR],by simp[inR],hp.need⟩
 rw[hb];refine ⟨?_,by unfold tL;exact if_pos ⟨hp.machine,rfl⟩⟩
 unfold tE;rw[if_pos hp.machine,if_pos rfl,if_neg];intro e;refine hne ?_;unfold Qr;rw[e];simp
theorem QkO {p:Qf} (hp:OkP p) (hk:kE p true=0):(Zz p.machine 0 p.need).2=0\/(Zz p.machine 0 p.need).2=3:=by
 unfold Zz;rw[if_pos (U0 hp hk).1]
 grind
theorem qA {p:Qf} (hp:OkP p) (hk:kE p true=0) (h:(Zz p.machine 0 p.need).2=0) :
  inR (Zz p.machine 0 p.need).1 0 9999/\∀ t∈Qr p,p.need*den t.set<=num p.machine t.set (Zz p.machine 0 p.need).1 0:=by
 unfold Zz at *;rw[if_pos (U0 hp hk).1] at *;split at h
 ·cases h
 ·rename_i h1
  rw[if_neg h1,(U0 hp hk).2];rw[(U0 hp hk).2] at h1;have:=Qc3 p.machine (QW p.machine [] p.machine.levers) 0 p.need;refine ⟨⟨this.1,by simp only;omega⟩,fun t ht=>this.2 (by omega) t.set (Qmz (QbG ht).2)⟩
include hK
omit hK
def chD (x fin:Int) (d:Qs):Qs :=
 if d.what=1 then ⟨d.what,d.pos,fin,(d.bar+x).tmod 100,(d.smith+x).tmod 100⟩ else if d.what=2 then ⟨d.what,d.pos,fin,d.bar,d.smith⟩ else d
def chL (x fin:Int) (D:List Qs) (i:Nat):List (List IV):=((D.take i).map (chD x fin)++D.drop i).map dC
def mvN (n:Nat):Nat->Nat
 | 0=>0
 | _+1=>n
def chP (p:Qf) (x fin:Int):Qf:=⟨⟨p.chain.deeds.map (chD x fin),[],p.chain.wrong⟩,p.machine,p.trials,p.need,p.rule⟩
theorem QdT:∀ l:List Int,l≠[]->(span l).1∈l/\(span l).2∈l
 | [],h=>absurd rfl h
 | a::r,_=>by
   have key:∀ (r:List Int) (x u:Int),(r.foldl min x=x\/r.foldl min x∈r)/\(r.foldl max u=u\/r.foldl max u∈r):=by
    intro r
    induction r with
    | cons b r ih =>
      intro x u;obtain ⟨h1,h2⟩:=ih (min x b) (max u b);simp only[QMH,QLX];refine ⟨?_,?_⟩
      ·rcases h1 with h1 | h1
       ·rw[h1];omega
       grind
      ·rcases h2 with h2 | h2
       ·rw[h2];omega
       grind
    | _=>grind
   obtain ⟨h1,h2⟩:=key r a a;simp only[span,QLX];exact ⟨h1,h2⟩
include hK
omit hK
structure Rod where
 long:Int
 wear:Int
 grow:Int
 deriving DecidableEq
structure Qo where
 whn:Int
 rod:Int
 count:Int
 rest:Int
 off:Int
 wlo:Int
 whi:Int
 deriving DecidableEq
structure Zm where
 iron:Int
 glo:Int
 ghi:Int
 rods:List Rod
 reads:List Qo
 wrong:Int
 deriving DecidableEq
@[simp] def roC (r:Rod):List IV:=[.int .i64 r.long,.int .i64 r.wear,.int .i64 r.grow]
@[simp] def reC (x:Qo):List IV:=[.int .i64 x.whn,.int .i64 x.rod,.int .i64 x.count,.int .i64 x.rest,.int .i64 x.off,.int .i64 x.wlo,.int .i64 x.whi]
@[simp] def qd (l:List Rod):IV:=.sl 3 (l.map roC)
@[simp] def Y7 (l:List Qo):IV:=.sl 7 (l.map reC)
@[simp] def puC (p:Zm):List IV:=[.int .i64 p.iron,.int .i64 p.glo,.int .i64 p.ghi,qd p.rods,Y7 p.reads,.int .i64 p.wrong]
@[simp] def puV (p:Zm):IV:=.agg (puC p)
def J3 (r:Rod):Prop:=inR r.long 1 9999/\inR r.wear 0 (min 9 (r.long-1))/\inR r.grow 0 50
instance (r:Rod):Decidable (J3 r):=by unfold J3;infer_instance
def Z3 (n:Nat) (x:Qo):Prop:=(x.whn=1\/x.whn=2)/\inR x.rod 0 ((n:Int)-1)/\inR x.count 0 99/\inR x.rest 0 9999/\inR x.off 0 99/\inR x.wlo (-50) x.whi/\x.whi<=50
instance (n:Nat) (x:Qo):Decidable (Z3 n x):=by unfold Z3;infer_instance
structure OkU (p:Zm):Prop where
 iron:inR p.iron 0 50
 guess:inR p.glo 1 p.ghi
 most:p.ghi<=99999
 wrong:inR p.wrong 0 8
 rlen:p.rods.length<=4
 xlen:p.reads.length<=8
 rods:∀ r∈p.rods,J3 r
 reads:∀ x∈p.reads,Z3 p.rods.length x
def okU (p:Zm):Bool:=decide (inR p.iron 0 50)&&decide (inR p.glo 1 p.ghi)&&decide (p.ghi<=99999)&&decide (inR p.wrong 0 8)&&decide (p.rods.length<=4)&&decide (p.reads.length<=8)&&decide (∀ r∈p.rods,J3 r)&&decide (∀ x∈p.reads,Z3 p.rods.length x)
theorem Qvq (p:Zm):okU p=true↔OkU p:=by
 simp only[okU,QLP,decide_eq_true_eq];exact ⟨fun ⟨⟨⟨⟨⟨⟨⟨h1,h2⟩,h3⟩,h4⟩,h5⟩,h6⟩,h7⟩,h8⟩=>⟨h1,h2,h3,h4,h5,h6,h7,h8⟩,fun ⟨h1,h2,h3,h4,h5,h6,h7,h8⟩=>⟨⟨⟨⟨⟨⟨⟨h1,h2⟩,h3⟩,h4⟩,h5⟩,h6⟩,h7⟩,h8⟩⟩
instance (p:Zm):Decidable (OkU p):=decidable_of_iff _ (Qvq p)
def Qad (p:Zm) (x:Qo):Int:=(p.rods.getD x.rod.toNat ⟨0,0,0⟩).grow
def QAm (p:Zm) (x:Qo) (len rl t:Int):Int:=len*(1000000+p.iron*t)-(x.count*rl+x.rest)*(1000000+Qad p x*t)
def QtO (p:Zm) (x:Qo) (len rl t:Int):Bool:=decide (QAm p x len rl t<=x.off*1000000 /\ -QAm p x len rl t<=x.off*1000000)
def Qg1 (x:Qo):Nat:=(x.whi-x.wlo+1).toNat
def qL (p:Zm) (x:Qo) (len rl:Int):Bool:=(List.range (Qg1 x)).any fun (i:Nat)=>QtO p x len rl (x.wlo+i)
def VO (a b:Int):List Int:=(List.range (b-a+1).toNat).map fun (i:Nat)=>a+i
theorem JG {a b x:Int}:x∈VO a b↔a<=x/\x<=b:=by
 simp only[VO,QL5,QMi];constructor
 ·omega
 ·intro h
  exact ⟨(x-a).toNat,by omega,by omega⟩
theorem UP (a b:Int):(VO a b).Pairwise (·<·):=by
 unfold VO;rw[List.pairwise_map];exact List.pairwise_lt_range.imp fun h=>by omega
def Xf:List Rod->List (List Int)
 | []=>[[]]
 | r::rs=>(VO (r.long-r.wear) r.long).flatMap fun n=>(Xf rs).map (n::·)
theorem Qe1:∀ (l:List Rod) (w:List Int),w∈Xf l->w.length=l.length
 | [],w,h=>by simp[Xf] at h;simp[h]
 | r::rs,w,h=>by
   simp only[Xf,QMl,QL5] at h;obtain ⟨n,_,v,hv,rfl⟩:=h;simp[Qe1 rs v hv]
theorem QdB:∀ (l:List Rod) (w:List Int),w∈Xf l->∀ (i:Nat) (h:i<l.length),l[i].long-l[i].wear<=w.getD i 0/\w.getD i 0<=l[i].long
 | [],w,h,i,hi=>by simp at hi
 | r::rs,w,h,i,hi=>by
   simp only[Xf,QMl,QL5] at h;obtain ⟨n,hn,v,hv,rfl⟩:=h;cases i with
   | zero=>simpa using JG.1 hn
   | succ i =>
     have:=QdB rs v hv i (by simpa using hi)
     simpa using this
def Qs8 (p:Zm) (wh:Int) (w:List Int) (len:Int) (x:Qo):Bool:=decide (x.whn=wh)&&!qL p x len (w.getD x.rod.toNat 0)
def wrU (p:Zm) (wh:Int) (w:List Int) (len:Int):Nat:=p.reads.countP (Qs8 p wh w len)
def Xh (p:Zm):List Int:=VO p.glo p.ghi
structure TrU where
 bef:Int
 aft:Int
 rods:List Int
def Qdz (p:Zm) (t:TrU):Nat:=wrU p 1 t.rods t.bef+wrU p 2 t.rods t.aft
def Qz4 (p:Zm):List TrU:=(Xh p).flatMap fun b=>(Xh p).flatMap fun a=>(Xf p.rods).map fun w=>⟨b,a,w⟩
def Um (p:Zm):List TrU:=(Qz4 p).filter fun t=>decide ((Qdz p t:Int)<=p.wrong)
def Qdb (p:Zm) (wh:Int) (w:List Int) (n:Nat):List Int:=(Xh p).filter fun len=>wrU p wh w len==n
def Qag (p:Zm) (wh:Int) (w:List Int):List Nat:=(List.range (p.reads.length+1)).filter fun n=>!(Qdb p wh w n).isEmpty
structure Grp where
 wrong:Nat
 lens:List Int
def VN (p:Zm) (wh:Int) (w:List Int):List Grp:=(Qag p wh w).map fun n=>⟨n,Qdb p wh w n⟩
structure Bun where
 rods:List Int
 bef:Grp
 aft:Grp
def Qcy (p:Zm):List Bun:=(Xf p.rods).flatMap fun w=>(VN p 1 w).flatMap fun g=>(VN p 2 w).map fun h=>⟨w,g,h⟩
def Vn (p:Zm):List Bun:=(Qcy p).filter fun x=>decide (((x.bef.wrong+x.aft.wrong:Nat):Int)<=p.wrong)
theorem Qec {p:Zm} {t:TrU}:t∈Um p↔t.bef∈Xh p/\t.aft∈Xh p/\t.rods∈Xf p.rods/\(Qdz p t:Int)<=p.wrong:=by
 simp only[Um,Qz4,QMr,QMl,QL5,decide_eq_true_eq]
 grind
theorem QeX (p:Zm) (wh:Int) (w:List Int) (len:Int):wrU p wh w len<=p.reads.length:=QMC
theorem X8 {p:Zm} {wh:Int} {w:List Int} {n:Nat} {len:Int}:len∈Qdb p wh w n↔len∈Xh p/\wrU p wh w len=n:=by
 simp[Qdb,QMr]
theorem Ye {p:Zm} {wh:Int} {w:List Int} {g:Grp}:g∈VN p wh w↔g.lens=Qdb p wh w g.wrong/\g.lens≠[]:=by
 simp only[VN,Qag,QL5,QMr,QMi];constructor
 ·grind
 ·rintro ⟨h1,h2⟩
  refine ⟨g.wrong,⟨?_,?_⟩,by rw[<- h1]⟩
  ·obtain ⟨x,hx⟩:=QMF _ h2
   rw[h1] at hx;have:=QeX p wh w x;have:=(X8.1 hx).2;omega
  grind
theorem Wq {p:Zm} {x:Bun}:x∈Vn p↔x.rods∈Xf p.rods/\x.bef∈VN p 1 x.rods/\x.aft∈VN p 2 x.rods/\((x.bef.wrong+x.aft.wrong:Nat):Int)<=p.wrong:=by
 simp only[Vn,Qcy,QMr,QMl,QL5,decide_eq_true_eq]
 grind
theorem JP {p:Zm} {t:TrU} (h:t∈Um p):∃ x∈Vn p,x.rods=t.rods/\t.bef∈x.bef.lens/\t.aft∈x.aft.lens:=by
 obtain ⟨hb,ha,hw,hn⟩:=Qec.1 h;have h1:t.bef∈Qdb p 1 t.rods (wrU p 1 t.rods t.bef):=X8.2 ⟨hb,rfl⟩;have h2:t.aft∈Qdb p 2 t.rods (wrU p 2 t.rods t.aft):=X8.2 ⟨ha,rfl⟩
 exact ⟨⟨t.rods,⟨_,Qdb p 1 t.rods (wrU p 1 t.rods t.bef)⟩,⟨_,Qdb p 2 t.rods (wrU p 2 t.rods t.aft)⟩⟩,
  Wq.2 ⟨hw,Ye.2 ⟨rfl,List.ne_nil_of_mem h1⟩,Ye.2 ⟨rfl,List.ne_nil_of_mem h2⟩,hn⟩,rfl,h1,h2⟩
theorem Yt {p:Zm} {x:Bun} (h:x∈Vn p) {b a:Int} (hb:b∈x.bef.lens) (ha:a∈x.aft.lens):⟨b,a,x.rods⟩∈Um p:=by
 obtain ⟨hw,hg,hh,hn⟩:=Wq.1 h;have h1:=(Ye.1 hg).1;have h2:=(Ye.1 hh).1;rw[h1] at hb;rw[h2] at ha;obtain ⟨hb1,hb2⟩:=X8.1 hb;obtain ⟨ha1,ha2⟩:=X8.1 ha;refine Qec.2 ⟨hb1,ha1,hw,?_⟩;simp only[Qdz,hb2,ha2];exact hn
theorem ZW {p:Zm} {x:Bun} (h:x∈Vn p):x.bef.lens.Pairwise (·<·)/\x.aft.lens.Pairwise (·<·)/\x.bef.lens≠[]/\x.aft.lens≠[]:=by
 obtain ⟨_,hg,hh,_⟩:=Wq.1 h;have h1:=Ye.1 hg;have h2:=Ye.1 hh;refine ⟨?_,?_,h1.2,h2.2⟩
 ·rw[h1.1];exact (UP _ _).filter _
 ·rw[h2.1];exact (UP _ _).filter _
theorem Qap {p:Zm}:Vn p=[]↔Um p=[]:=by
 constructor
 ·intro h
  refine QM1.2 fun t ht=>?_
  obtain ⟨x,hx,_⟩:=JP ht
  grind
 ·intro h
  refine QM1.2 fun x hx=>?_
  obtain ⟨_,_,h1,h2⟩:=ZW hx;obtain ⟨b,hb⟩:=QMF _ h1;obtain ⟨a,ha⟩:=QMF _ h2;have:=Yt hx hb ha
  grind
theorem Qte {l:List Int} (h:l.Pairwise (·<·)) (hne:l≠[]):l.head hne∈l/\l.getLast hne∈l/\∀ x∈l,l.head hne<=x/\x<=l.getLast hne:=by
 refine ⟨List.head_mem hne,List.getLast_mem hne,fun x hx=>⟨?_,?_⟩⟩
 ·cases l with
  | nil=>cases hx
  | cons a r =>
    rcases QLX.1 hx with rfl | hx
    ·grind
    ·exact Int.le_of_lt (List.rel_of_pairwise_cons h hx)
 ·obtain ⟨i,hi,rfl⟩:=QMz hx
  rw[List.getLast_eq_getElem];rcases Nat.lt_or_eq_of_le (Nat.le_sub_one_of_lt hi) with h1 | h1
  ·exact Int.le_of_lt (QMZ.1 h i _ hi (by omega) h1)
  grind
def Xp (l:List Int):Int:=l.headD 0
def Xc (l:List Int):Int:=l.getLastD 0
theorem Xi {l:List Int} (h:l.Pairwise (·<·)) (hne:l≠[]):Xp l∈l/\Xc l∈l/\∀ x∈l,Xp l<=x/\x<=Xc l:=by
 have:=Qte h hne
 have e1:Xp l=l.head hne:=by cases l with
  | cons a r=>rfl
  | _=>grind
 have e2:Xc l=l.getLast hne:=by cases l with
  | cons a r =>
    unfold Xc
    grind
  | _=>grind
 grind
theorem Qu0 {l:List Int} {a b:Int} (hne:l≠[]) (ha:a∈l) (hb:b∈l) (h:∀ x∈l,a<=x/\x<=b):span l=(a,b):=by
 have h1:=V4 (fun x:Int=>x) l a ha
 have h2:=V4 (fun x:Int=>x) l b hb
 have h3:=QuZ (fun x:Int=>x) a l hne (fun x hx=>(h x hx).1)
 have h4:=QuY (fun x:Int=>x) b l hne (fun x hx=>(h x hx).2)
 simp only[List.map_id'] at h1 h2 h3 h4
 grind
def UN (t:TrU):Int:=t.aft-t.bef
def loB (x:Bun):Int:=Xp x.aft.lens-Xc x.bef.lens
def hiB (x:Bun):Int:=Xc x.aft.lens-Xp x.bef.lens
def QdO (p:Zm):Int × Int:=((span ((Vn p).map loB)).1,(span ((Vn p).map hiB)).2)
theorem Qa0 (p:Zm):QdO p=span ((Um p).map UN):=by
 by_cases hn:Um p=[]
 ·have:=Qap.2 hn
  simp[QdO,hn,this]
 ·have hb:Vn p≠[]:=fun h=>hn (Qap.1 h)
  have hlo:(Vn p).map loB≠[]:=by simpa using hb
  have hhi:(Vn p).map hiB≠[]:=by simpa using hb
  have h1:=(QdT _ hlo).1;have h2:=(QdT _ hhi).2
  symm
  obtain ⟨x,hx,ex⟩:=QL5.1 h1;obtain ⟨y,hy,ey⟩:=QL5.1 h2;obtain ⟨s1,s2,s3,s4⟩:=ZW hx;obtain ⟨s5,s6,s7,s8⟩:=ZW hy;refine Qu0 (by simpa using hn) ?_ ?_ ?_
  ·refine QL5.2 ⟨_,Yt hx (Xi s1 s3).2.1 (Xi s2 s4).1,?_⟩
   rw[<- ex];rfl
  ·refine QL5.2 ⟨_,Yt hy (Xi s5 s7).1 (Xi s6 s8).2.1,?_⟩
   rw[<- ey];rfl
  ·intro z hz
   obtain ⟨t,ht,rfl⟩:=QL5.1 hz;obtain ⟨u,hu,_,hub,hua⟩:=JP ht;obtain ⟨u1,u2,u3,u4⟩:=ZW hu;have e1:=(Xi u1 u3).2.2 _ hub;have e2:=(Xi u2 u4).2.2 _ hua;have f1:=(V4 loB _ _ hu).1;have f2:=(V4 hiB _ _ hu).2;simp only[loB,hiB,UN] at *;omega
def XI (b a part:Int):Bool:=decide (1000*(a-b)<=part*b)
theorem Qda {b a b' a' part:Int} (hp:0<=part) (hb:b<=b') (ha:a'<=a) (h:XI b a part=true):XI b' a' part=true:=by
 simp only[XI,decide_eq_true_eq] at *;have:part*b<=part*b':=QME hb hp;omega
def Qc8 (p:Zm) (part:Int):Int :=
 if (Vn p).all fun x=>XI (Xp x.bef.lens) (Xc x.aft.lens) part then 1 else if (Vn p).any fun x=>XI (Xc x.bef.lens) (Xp x.aft.lens) part then 3 else 2
theorem Qnx (p:Zm) (part:Int) (hp:0<=part):Qc8 p part=if (Um p).all fun t=>XI t.bef t.aft part then 1 else if (Um p).any fun t=>XI t.bef t.aft part then 3 else 2:=by
 have e1:((Vn p).all fun x=>XI (Xp x.bef.lens) (Xc x.aft.lens) part)=((Um p).all fun t=>XI t.bef t.aft part):=by
  rw[Bool.eq_iff_iff];simp only[QMf];constructor
  ·intro h t ht
   obtain ⟨u,hu,_,hub,hua⟩:=JP ht;obtain ⟨u1,u2,u3,u4⟩:=ZW hu;exact Qda hp ((Xi u1 u3).2.2 _ hub).1 ((Xi u2 u4).2.2 _ hua).2 (h u hu)
  ·intro h x hx
   obtain ⟨u1,u2,u3,u4⟩:=ZW hx;exact h _ (Yt hx (Xi u1 u3).1 (Xi u2 u4).2.1)
 have e2:((Vn p).any fun x=>XI (Xc x.bef.lens) (Xp x.aft.lens) part)=((Um p).any fun t=>XI t.bef t.aft part):=by
  rw[Bool.eq_iff_iff];simp only[List.any_eq_true];constructor
  ·rintro ⟨x,hx,h⟩
   obtain ⟨u1,u2,u3,u4⟩:=ZW hx;exact ⟨_,Yt hx (Xi u1 u3).2.1 (Xi u2 u4).1,h⟩
  ·rintro ⟨t,ht,h⟩
   obtain ⟨u,hu,_,hub,hua⟩:=JP ht;obtain ⟨u1,u2,u3,u4⟩:=ZW hu;exact ⟨u,hu,Qda hp ((Xi u1 u3).2.2 _ hub).2 ((Xi u2 u4).2.2 _ hua).1 h⟩
 unfold Qc8;rw[e1,e2]
def QLB (p:Zm):Option Nat:=(List.range 1001).find? fun (i:Nat)=>decide (Qc8 p i=1)
def Qvb (p:Zm) (rod:Nat):List Int:=YG ((Vn p).map fun x=>x.rods.getD rod 0)
theorem Qm8 {p:Zm} {rod:Nat} {n:Int}:n∈Qvb p rod↔∃ t∈Um p,t.rods.getD rod 0=n:=by
 unfold Qvb;rw[Jy,QL5];constructor
 ·rintro ⟨x,hx,e⟩
  obtain ⟨_,_,h1,h2⟩:=ZW hx;obtain ⟨b,hb⟩:=QMF _ h1;obtain ⟨a,ha⟩:=QMF _ h2;exact ⟨_,Yt hx hb ha,e⟩
 ·rintro ⟨t,ht,e⟩
  obtain ⟨x,hx,h1,_⟩:=JP ht
  grind
end Go.Pf
namespace Go.Pf
open Go
set_option maxRecDepth 8000
abbrev Txt:=List UInt8
def Qea (w:Txt):Option Int :=
 if w.head?=some 45 then
  (if (w.drop 1).length<=9/\(w.drop 1).head?≠some 48 then (Lib.decNat (w.drop 1)).map fun (m:Nat) => -(m:Int) else none)
 else if w.length<=9/\(w.head?=some 48->w.length<=1) then (Lib.decNat w).map fun (m:Nat)=>(m:Int) else none
theorem QgB (u:Nat):Lib.decDigits u≠[]:=by
 rw[Lib.decDigits];split<;>simp
theorem US:∀ (l:Txt) (acc m:Nat) (c:UInt8),Lib.decFrom acc l=some m->Lib.decFrom acc (l++[c])=(Lib.digitVal c).map fun d=>m*10+d
 | [],acc,m,c,h=>by
   cases h;simp only[QL4,Lib.decFrom]
   grind
 | b::r,acc,m,c,h=>by
   simp only[QL1,Lib.decFrom] at h |-;cases hb:Lib.digitVal b with
   | some d =>
     rw[hb] at h;exact US r _ m c h
   | _=>grind
theorem Qb1 {d:Nat} (h:d<10):Lib.digitVal (UInt8.ofNat (48+d))=some d:=by
 have:(UInt8.ofNat (48+d)).toNat=48+d:=by simp;omega
 unfold Lib.digitVal
 grind
theorem Qcx (u:Nat):Lib.decFrom 0 (Lib.decDigits u)=some u:=by
 induction u using Nat.strongRecOn with
 | ind u ih =>
   rw[Lib.decDigits];split
   ·rename_i h
    have:=Qb1 h;simp only[Lib.decFrom,this];simp
   ·rename_i h
    rw[US _ _ _ _ (ih (u / 10) (by omega)),Qb1 (by omega)]
    simp;omega
theorem WO (u:Nat):Lib.decNat (Lib.decDigits u)=some u:=by
 unfold Lib.decNat;rw[if_neg (by simpa[List.isEmpty_iff] using QgB u),Qcx]
theorem UM (u:Nat):∃ d,d<10/\(Lib.decDigits u).head?=some (UInt8.ofNat (48+d))/\(d=0->u=0):=by
 induction u using Nat.strongRecOn with
 | ind u ih =>
   rw[Lib.decDigits];split
   ·rename_i h
    exact ⟨u,h,by simp,id⟩
   ·rename_i h
    obtain ⟨d,h1,h2,h3⟩:=ih (u / 10) (by omega)
    grind
theorem QqS {d:Nat} (h:d<10):UInt8.ofNat (48+d)≠45:=by
 intro e;have:=congrArg UInt8.toNat e;simp at this;omega
theorem QcV {d:Nat} (h:d<10) (e:UInt8.ofNat (48+d)=48):d=0:=by
 have:=congrArg UInt8.toNat e;simp at this;omega
theorem qu:∀ (n:Nat) (l:Txt),l.length=n->∀ u,Lib.decNat l=some u->(l.head?=some 48->l.length<=1)->Lib.decDigits u=l
 | 0,l,hl,u,h,_=>by
   have:=QLV hl;subst this;cases h
 | n+1,l,hl,u,h,hz=>by
   have hne:l≠[]:=fun e=>by grind
   obtain ⟨r,c,rfl⟩:∃ r c,l=r++[c]:=⟨l.dropLast,l.getLast hne,(QMM hne).symm⟩
   have hr:r.length=n:=by simpa using hl
   have h':Lib.decFrom 0 (r++[c])=some u:=by
    unfold Lib.decNat at h
    grind
   have hdv:∀ d,Lib.digitVal c=some d->d<10/\c=UInt8.ofNat (48+d):=fun d hd=>by
    unfold Lib.digitVal at hd;split at hd
    ·rename_i hc
     injection hd with hd
     refine ⟨by omega,UInt8.toNat_inj.1 ?_⟩
     simp;omega
    ·cases hd
   cases hm:Lib.decFrom 0 r with
   | none =>
     exfalso
     have:∀ (l:Txt) (acc:Nat),Lib.decFrom acc l=none->Lib.decFrom acc (l++[c])=none:=by
      intro l
      induction l with
      | nil=>intro acc h;cases h
      | cons b t ih =>
        intro acc h;simp only[QL1,Lib.decFrom] at h |-
        grind
     grind
   | some m =>
     rw[US r 0 m c hm,QLT] at h';obtain ⟨d,hd,rfl⟩:=h';obtain ⟨hd10,rfl⟩:=hdv d hd;by_cases hr0:r=[]
     ·subst hr0
      cases hm;rw[Lib.decDigits];simp[hd10]
     ·have hpos:0<r.length:=QMJ.2 hr0
      have hhead:r.head?≠some 48:=fun e=>by
       grind
      have hm':Lib.decNat r=some m:=by
       unfold Lib.decNat
       grind
      have ih:=qu n r hr m hm' (fun e=>absurd e hhead)
      have hm0:m≠0:=fun e=>by
       subst e;have e1:Lib.decDigits 0=[48]:=by rw[Lib.decDigits];rfl
       grind
      rw[Lib.decDigits,dif_neg (by omega)]
      grind
theorem Qm3 {w:Txt} {v:Int} (h:Qea w=some v):Lib.itoa v=w/\(Lib.trimPrefix w [45]).length<=9/\Lib.atoiAll w=.ok v:=by
 unfold Qea at h;split at h
 ·rename_i h45
  obtain ⟨r,rfl⟩:∃ r,w=45::r:=by
   cases w with
   | _=>grind
  simp only[List.drop_succ_cons,List.drop_zero] at h;split at h
  ·rename_i hc
   rw[QLT] at h;obtain ⟨m,hm,rfl⟩:=h;have hd:=qu _ r rfl m hm (fun e=>absurd e hc.2)
   have hm1:1<=m:=by
    rcases Nat.eq_zero_or_pos m with h0 | h0
    ·subst h0
     exfalso;have e1:Lib.decDigits 0=[48]:=by rw[Lib.decDigits];rfl
     grind
    ·exact h0
   refine ⟨by rw[Lib.itoa_neg m hm1,hd],by simp[Lib.trimPrefix,Lib.hasPrefix,hc.1],?_⟩
   rw[Lib.atoiAll_short _ (by simp;omega)]
   simp[Lib.atoi,hm,Lib.NumEnd.ofOption]
  ·cases h
 ·rename_i h45
  split at h
  ·rename_i hc
   rw[QLT] at h;obtain ⟨m,hm,rfl⟩:=h;have hd:=qu _ w rfl m hm hc.2;obtain ⟨d,hd10,hh,_⟩:=UM m;rw[hd] at hh;refine ⟨by rw[Lib.itoa_nonneg,hd],?_,?_⟩
   ·have:Lib.hasPrefix w [45]=false:=by
     cases w with
     | nil=>rfl
     | cons a r =>
       have:a≠45:=fun e=>h45 (by rw[e];rfl)
       simp[Lib.hasPrefix,List.isPrefixOf,Ne.symm this]
    simp[Lib.trimPrefix,this,hc.1]
   ·rw[Lib.atoiAll_short _ (by omega)]
    cases w with
    | nil=>cases hm
    | cons a r =>
      have e45:a≠45:=fun e=>h45 (by rw[e];rfl)
      have e43:a≠43:=fun e=>by
       subst e;simp at hh;have:=congrArg UInt8.toNat hh;simp at this;omega
      simp[Lib.atoi,e45,e43,hm,Lib.NumEnd.ofOption]
  ·cases h
theorem Qf2 {w:Txt} {v:Int} (h1:Lib.itoa v=w) (h2:(Lib.trimPrefix w [45]).length<=9):Qea w=some v:=by
 unfold Lib.itoa at h1;split at h1
 ·rename_i hv
  subst h1;obtain ⟨d,hd10,hh,h0⟩:=UM v.natAbs
  have hz:(Lib.decDigits v.natAbs).head?≠some 48:=fun e=>by
   rw[hh] at e;injection e with e
   have:=h0 (QcV hd10 e);omega
  have hl:(Lib.decDigits v.natAbs).length<=9:=by simpa[Lib.trimPrefix,Lib.hasPrefix] using h2
  simp[Qea,hz,hl,WO];omega
 ·rename_i hv
  subst h1;obtain ⟨d,hd10,hh,h0⟩:=UM v.toNat
  have h45:(Lib.decDigits v.toNat).head?≠some 45:=fun e=>by
   rw[hh] at e;injection e with e
   exact QqS hd10 e
  have hp:Lib.hasPrefix (Lib.decDigits v.toNat) [45]=false:=by
   cases hw:Lib.decDigits v.toNat with
   | nil=>rfl
   | cons a r =>
     have:a≠45:=fun e=>h45 (by rw[hw,e];rfl)
     simp[Lib.hasPrefix,List.isPrefixOf,Ne.symm this]
  have hl:(Lib.decDigits v.toNat).length<=9:=by simpa[Lib.trimPrefix,hp] using h2
  have h48:(Lib.decDigits v.toNat).head?=some 48->(Lib.decDigits v.toNat).length<=1:=fun e=>by
   rw[hh] at e;injection e with e
   have:=h0 (QcV hd10 e);rw[this,Lib.decDigits];simp
  unfold Qea;rw[if_neg h45,if_pos ⟨hl,h48⟩,WO];simp;omega
end Go.Pf
namespace Go.Pf
open Go Go.Ev Go.Proofs Go.RowKit
set_option maxRecDepth 8000
structure Qd where
 proof:Qf
 pull:Zm
@[simp] def hoC (h:Qd):List IV:=[QA h.proof.chain.deeds,Qz h.proof.chain.sights,.int .i64 h.proof.chain.wrong,Q0 h.proof.machine.levers,.int .i64 h.proof.machine.water,.int .i64 h.proof.machine.llo,.int .i64 h.proof.machine.lhi,XS h.proof.machine.bals,.int .i64 h.proof.machine.wrong,
 Xr h.proof.trials,.int .i64 h.proof.need,.int .i64 h.proof.rule,.int .i64 h.pull.iron,.int .i64 h.pull.glo,.int .i64 h.pull.ghi,qd h.pull.rods,Y7 h.pull.reads,.int .i64 h.pull.wrong]
@[simp] def hoV (h:Qd):IV:=.agg (hoC h)
def okH (h:Qd):Prop:=OkP h.proof/\OkU h.pull
noncomputable instance (h:Qd):Decidable (okH h):=Classical.propDecidable _
def Ji:Txt:=[121,101,115]
def tNo:Txt:=[110,111]
def qY:Txt:=[110,111,110,101]
def Qe5:Txt:=[119,104,97,116]
def Vx:Txt:=[115,117,114,101,108,121]
def qC:Txt:=[110,101,118,101,114]
def U4:Txt:=[112,101,114,104,97,112,115]
def VK:List Txt->Txt
 | []=>[]
 | [x]=>x
 | x::y::r=>x++32::VK (y::r)
def Qlq (l:List Int):Txt:=if l=[] then qY else VK (l.map Lib.itoa)
def Xa (l:List Int) (e:Int):Txt:=if e=0 then Qlq l else if e=3 then qY else tNo
def Uv (n e:Int):Txt:=if e=0 then (if n=1 then Vx else if n=2 then qC else U4) else Xa [] e
inductive Vv where
 | weld | cut | turn | prove | undo | see | balance | read
 | who | wher | first | pulls | broke | loads | failures | condemned | proved | opn | good | worth | weight | stretch | best | holds | rods
 deriving DecidableEq
def ZA:List (Txt × Nat × Vv):=[
 ([119,101,108,100],4,.weld),([99,117,116],2,.cut),([116,117,114,110],0,.turn),([112,114,111,118,101],3,.prove),([117,110,100,111],0,.undo),
 ([115,101,101],5,.see),([98,97,108,97,110,99,101],4,.balance),([114,101,97,100],7,.read),
 ([119,104,111],1,.who),([119,104,101,114,101],1,.wher),([102,105,114,115,116],0,.first),([112,117,108,108,115],2,.pulls),([98,114,111,107,101],1,.broke),
 ([108,111,97,100,115],1,.loads),([102,97,105,108,117,114,101,115],0,.failures),([99,111,110,100,101,109,110,101,100],0,.condemned),([112,114,111,118,101,100],1,.proved),
 ([111,112,101,110],0,.opn),([103,111,111,100],0,.good),([119,111,114,116,104],0,.worth),([119,101,105,103,104,116],0,.weight),([115,116,114,101,116,99,104],0,.stretch),
 ([98,101,115,116],0,.best),([104,111,108,100,115],1,.holds),([114,111,100,115],1,.rods)]
def Xd (w:Txt):Option (Nat × Vv):=(ZA.find? fun p=>p.1==w).map (·.2)
def nI (l:List Int) (i:Nat):Int:=l.getD i 0
def Qg (h:Qd) (d:Qs):Qd:={ h with proof:={ h.proof with chain:={ h.proof.chain with deeds:=h.proof.chain.deeds++[d] } } }
def Zq (h:Qd) (v:Vv) (l:List Int):Option Qd :=
 match v with
 | .weld=>some (Qg h ⟨1,nI l 0,nI l 1,nI l 2,nI l 3⟩)
 | .cut=>some (Qg h ⟨2,nI l 0,nI l 1,0,0⟩)
 | .turn=>some (Qg h ⟨3,0,0,0,0⟩)
 | .prove=>some { h with proof:={ h.proof with chain:={ h.proof.chain with deeds:=h.proof.chain.deeds++[⟨4,0,0,0,0⟩] },trials:=h.proof.trials++[⟨nI l 0,nI l 1,nI l 2⟩] } }
 | .undo=>match h.proof.chain.deeds.getLast? with
   | none=>none
   | some d=>some { h with proof:={ h.proof with chain:={ h.proof.chain with deeds:=h.proof.chain.deeds.dropLast },trials:=if d.what=4 then h.proof.trials.dropLast else h.proof.trials } }
 | .see=>some { h with proof:={ h.proof with chain:={ h.proof.chain with sights:=h.proof.chain.sights++[⟨nI l 0,nI l 1,nI l 2,nI l 3,nI l 4⟩] } } }
 | .balance=>some { h with proof:={ h.proof with machine:={ h.proof.machine with bals:=h.proof.machine.bals++[⟨nI l 0,nI l 1,nI l 2,nI l 3⟩] } } }
 | .read=>some { h with pull:={ h.pull with reads:=h.pull.reads++[⟨nI l 0,nI l 1,nI l 2,nI l 3,nI l 4,nI l 5,nI l 6⟩] } }
 | _=>none
def QJ:Vv->Bool
 | .weld | .cut | .turn | .prove | .undo | .see | .balance | .read=>true
 | _=>false
def Q6 (out:List Txt) (c:UInt8):List Txt:=if c=32 then out++[[]] else out.set (out.length-1) (out.getD (out.length-1) []++[c])
def spl (s:Txt):List Txt:=s.foldl Q6 [[]]
@[simp] def strs (l:List Txt):IV:=.sl 1 (l.map fun s=>[.str s])
theorem QkY (x:List Txt) (l:Txt) (c:UInt8):Q6 (x++[l]) c=x++Q6 [l] c:=by
 unfold Q6
 grind
theorem Qg6 (s:Txt):∀ (x:List Txt) (l:Txt),s.foldl Q6 (x++[l])=x++s.foldl Q6 [l]:=by
 induction s with
 | nil=>intro x l;rfl
 | cons c s ih =>
   intro x l;simp only[QMH];rw[QkY];by_cases h:c=32
   ·have e:Q6 [l] c=[l]++[[]]:=by simp[Q6,h]
    grind
   ·have e:Q6 [l] c=[l++[c]]:=by simp[Q6,h]
    rw[e,ih]
theorem Qmv (s:Txt):∀ l:Txt,s.foldl Q6 [l]≠[]:=by
 induction s with
 | nil=>intro l;simp
 | cons c s ih =>
   intro l;simp only[QMH];by_cases h:c=32
   ·have e:Q6 [l] c=[l]++[[]]:=by simp[Q6,h]
    rw[e,Qg6];simp
   ·have e:Q6 [l] c=[l++[c]]:=by simp[Q6,h]
    grind
theorem Qe7 (a b:Txt):spl (a++32::b)=spl a++spl b:=by
 unfold spl;rw[QNe];have h:=Qmv a [];generalize a.foldl Q6 [[]]=x at *;obtain ⟨y,l,rfl⟩:∃ y l,x=y++[l]:=⟨x.dropLast,x.getLast h,(QMM h).symm⟩
 simp only[QMH];have e:Q6 (y++[l]) 32=(y++[l])++[[]]:=by simp[Q6]
 rw[e,Qg6]
theorem Qjs (a:Txt) (h:32 ∉ a):spl a=[a]:=by
 have:∀ (a l:Txt),32 ∉ a->a.foldl Q6 [l]=[l++a]:=by
  intro a
  induction a with
  | nil=>intro l _;simp
  | cons c s ih =>
    intro l h;simp only[QLX,not_or] at h;have e:Q6 [l] c=[l++[c]]:=by simp[Q6,Ne.symm h.1]
    grind
 have:=this a [] h;simpa[spl] using this
theorem X6 (s:Txt):spl (32::s)=[]::spl s:=by
 have:=Qe7 [] s;simpa[spl] using this
theorem Qqx (s:Txt):∀ l:Txt,s.foldl Q6 [l]=(l++(spl s).headD [])::(spl s).tail:=by
 induction s with
 | nil=>intro l;simp[spl]
 | cons c s ih =>
   intro l;by_cases h:c=32
   ·subst h
    rw[X6,QMH];have e:Q6 [l] 32=[l]++[[]]:=by simp[Q6]
    rw[e,Qg6];simp[spl]
   ·have e:∀ l,Q6 [l] c=[l++[c]]:=fun l=>by simp[Q6,h]
    rw[QMH,e,ih]
    have:spl (c::s)=([c]++(spl s).headD [])::(spl s).tail:=by
     unfold spl
     grind
    grind
theorem QdS (c:UInt8) (s:Txt) (h:c≠32):spl (c::s)=(c::(spl s).headD [])::(spl s).tail:=by
 have e:Q6 [[]] c=[[c]]:=by simp[Q6,h]
 unfold spl;rw[QMH,e,Qqx];rfl
theorem QcJ:∀ s:Txt,Lib.splitK [32] 0 (Lib.count s [32]) s=spl s
 | []=>by
   rw[Lib.count_miss (by simp[Lib.index])]
   rfl
 | c::s=>by
   have ih:=QcJ s;by_cases h:c=32
   ·subst h
    have hix:Lib.index ((32:UInt8)::s) [32]=0:=by rw[Lib.index];grind
    rw[Lib.count_cons_eq,Nat.add_comm,Lib.splitK,hix,X6,<- ih];simp
   ·rw[Lib.count_cons_ne c 32 s h,QdS c s h,<- ih]
    have hp:([32]:List UInt8).isPrefixOf (c::s)=false:=by grind
    have hix:Lib.index (c::s) [32]=if Lib.index s [32] == -1 then -1 else Lib.index s [32]+1:=by rw[Lib.index,hp];simp
    cases hk:Lib.count s [32] with
    | zero=>simp[Lib.splitK]
    | succ k =>
      have hm:¬ Lib.index s [32] = -1:=fun e=>by rw[Lib.count_miss e] at hk;cases hk
      have hge:=Lib.index_ge s [32];obtain ⟨j,hj⟩:∃ j:Nat,Lib.index s [32]=j:=⟨(Lib.index s [32]).toNat,by omega⟩
      have h1:¬ ((j:Int) == -1)=true:=by simp
      have h2:¬ ((j:Int)+1 == -1)=true:=by simp;omega
      have h3:((j:Int)+1).toNat=j+1:=by omega
      simp only[Lib.splitK,hix,hj,if_neg h1,if_neg h2,h3,Int.toNat_natCast];simp
theorem QdR:∀ s:Txt,(spl s).length<=s.length+1
 | []=>by simp[spl]
 | c::s=>by
   have ih:=QdR s;by_cases h:c=32
   ·subst h;rw[X6];simp;exact ih
   ·rw[QdS c s h];simp;omega
theorem qD (s:Txt):∀ x∈spl s,x.length<=s.length:=by
 induction s with
 | nil=>intro x hx;simp[spl] at hx;subst hx;simp
 | cons c s ih =>
   intro x hx;by_cases h:c=32
   ·subst h
    rw[X6] at hx
    grind
   ·rw[QdS c s h] at hx
    rcases QLX.1 hx with rfl | hx
    ·cases hs:spl s with
     | _=>grind
    ·have:=ih x (List.mem_of_mem_tail hx);simp;omega
end Go.Pf
namespace Go.Ev
open Go Go.RowKit
section
variable {P:Program} {K:World->Prop}
end
section
variable {P:Program} {K:World->Prop}
theorem Qbk {ok w' fr o1 L'} (h:Qmb fr ok w' (Qc o1) L') (hlt:∀ b,fr b->b<w'.heap.size) :
  Rel ok ⟨0,[]⟩ ⟨w',fr,hlt,fun _=>undef⟩ (look []) (Qc o1) { tmps:=#[],defers:=[] } w' L' :=
 ⟨Zx.refl _ _,⟨[],rfl,List.nodup_nil,by simp⟩,rfl,fun t=>.iv _ _ (.any _),h.objs,h.apart,fun t ht=>by simp at ht⟩
theorem WI (hK:∀ w w',K w->Below w.heap.size w w'->K w') {f xs y o1 r} (h:QQ P K f (xs.map .iv) [] [] y o1) (hi:imm (Qc o1) 40 y=some r):Good P K f xs r:=by
 intro w ok vs hk hnew hl hvs;have hn:∀ b,¬ qx (Qc []) (fun _=>.one 0) b:=fun b ⟨id,ob,h1,_⟩=>by simp[Qc] at h1
 have hFr:∀ b,b<w.heap.size->FrO w (Qc []) (fun _=>.one 0) b:=fun b hb=>⟨hb,hn b⟩
 refine (h w ok (fun _=>.one 0) vs (fun w' hkeep=>hK w w' hk (hkeep.mono hFr).below) hnew (fun b hb=>absurd hb (hn b)) ⟨by simp[Qc],by simp[Qc]⟩ (by simpa using hl) (fun k x u hx hu=>?_)).mono
  fun e w' ⟨v,L',he,hlaid,hrep,hkeep,_⟩=>⟨v,he,?_,(hkeep.mono hFr).below⟩
 ·rw[QLW,QLT] at hx
  obtain ⟨z,hz,rfl⟩:=hx;exact .iv _ _ ((hvs k z u hz hu).mono fun b hb _=>⟨⟨hb,by simp[Qc]⟩,rfl⟩)
 ·have hlt:∀ b,FrO w (Qc []) (fun _=>.one 0) b->b<w'.heap.size:=fun b hb=>QMv hb.1 hkeep.size
  refine (JK (Qbk hlaid hlt) (ok1:=ok) (fun b hb=>hb.1) (lo':=Qc o1) (fun _ _ h=>h) (fun id ob b hob hb=>?_) 40).1 y v r hrep hi
  by_cases hbl:b<w.heap.size
  ·exact absurd (hFr b hbl) ((hlaid.objs id ob hob).lt hb).1
  ·exact hnew b (QMK.1 hbl)
theorem QQ.give {f args o rows st r cs xs} (h:QQ P K f args o st (.iv r) ((0,.box cs)::rows)) (hst0:∀ i∈st,i=0)
  (hx:imms (fun i=>if i=0 then Option.none else Qc ((0,.box cs)::rows) i) 40 cs=some xs):QQ P K f args o st (.iv r) [(0,.box (xs.map .iv))]:=by
 intro w ok L vs hK hnew hown hlaid hvl hvs;refine (h w ok L vs hK hnew hown hlaid hvl hvs).mono fun e w' ⟨v,L',he,hl',hrep,hkeep,hst⟩=>⟨v,L',he,?_,?_,hkeep,?_⟩
 ·have h0:Qc ((0,AO.box cs)::rows) 0=some (.box cs):=rfl
  have hlt:∀ b,FrO w (Qc o) L b->b<w'.heap.size:=fun b hb=>QMv hb.1 hkeep.size
  have one0:∀ i ob,Qc [(0,AO.box (xs.map AV.iv))] i=some ob->i=0/\ob=.box (xs.map .iv):=fun i ob hob=>by
   simp only[Qc] at hob
   grind
  have hsub:∀ b,okL ok (Qc ((0,AO.box cs)::rows)) L' b->okL ok (Qc [(0,AO.box (xs.map AV.iv))]) L' b:=fun b hb=>⟨hb.1,fun i ob hob=>by
   obtain ⟨rfl,rfl⟩:=one0 i ob hob;exact hb.2 0 _ h0⟩
  have hs:=(JK (Qbk hl' hlt) (ok1:=okL ok (Qc [(0,AO.box (xs.map AV.iv))]) L') hsub (lo':=fun i=>if i=0 then Option.none else Qc ((0,.box cs)::rows) i)
   (fun id ob hob=>by
     split at hob
     ·cases hob
     ·exact hob)
   (fun id ob b hob hb=>by
     split at hob
     ·cases hob
     ·rename_i hid
      refine ⟨?_,fun i oi hi=>?_⟩
      ·have hnf:=((hl'.objs id ob hob).lt hb).1
       by_cases hbl:b<w.heap.size
       ·exact hown b (Classical.byContradiction fun hno=>hnf ⟨hbl,hno⟩)
       ·exact hnew b (QMK.1 hbl)
      ·obtain ⟨rfl,rfl⟩:=one0 i oi hi
       exact fun hb0=>hl'.apart 0 id _ ob b (fun e=>hid e.symm) h0 hob hb0 hb) 40).2 cs xs hx
  refine ⟨fun i ob hob=>?_,fun i j oi oj b hij hi hj=>?_⟩
  ·obtain ⟨rfl,rfl⟩:=one0 i ob hob
   have hob0:=hl'.objs 0 _ h0;generalize L' 0=l0 at hob0;cases l0 with
   | box b =>
     obtain ⟨hB,t,us,hb,hul,h1,hcx⟩:=hob0;refine ⟨hB,t,us,hb,by rw[QL6,hs.1];exact hul,h1,fun k x u hk hu=>?_⟩
     grind
   | _=>exact hob0.elim
  grind
 ·cases hrep with
  | iv _ _ hr=>exact .iv _ _ (hr.mono fun b hb _=>⟨⟨hb.1,fun i ob hob=>by
    simp only[Qc] at hob;split at hob
    ·rename_i hi
     subst hi;exact hb.2 0 _ (show Qc ((0,AO.box cs)::rows) 0=some (.box cs) from rfl)
    ·cases hob⟩,rfl⟩)
 ·intro i hi ob hob
  have hi0:=hst0 i hi;subst hi0;obtain ⟨ob',h1,h2⟩:=hst 0 hi ob hob
  have:ob'=.box cs:=by
   have h0:Qc ((0,AO.box cs)::rows) 0=some (.box cs):=rfl;rw[h0] at h1;injection h1 with h1
   exact h1.symm
  subst this;refine ⟨_,rfl,?_⟩;cases ob<;>simp only[Vl] at h2 |-
  grind
end
end Go.Ev
namespace Go.Pf
open Go Go.Ev Go.Proofs Go.RowKit
set_option maxRecDepth 8000
structure KW (w:World):Prop where
 shaped:w.ShapedOpen Tryz.prog
 tab : Lib.TabIs Tryz.prog w "internal/strconv.uint64pow10" .u64 Lib.pow10Tab
 syn : ∃ tp p, w.var? Tryz.prog "strconv.ErrSyntax" = some #[.iface tp p]
 rng : ∃ tp p, w.var? Tryz.prog "strconv.ErrRange" = some #[.iface tp p]
theorem QwX {n:String} {cs:Array Value} {w:World} (h:w.var? Tryz.prog n=some cs):∃ g,Tryz.prog.globalNamed n=some g/\g<w.heap.size:=by
 unfold World.var? at h;cases hg:Tryz.prog.globalNamed n with
 | _=>grind
theorem QdF {n:String} {cs:Array Value} {w w':World} (h:w.var? Tryz.prog n=some cs) (hb:Below w.heap.size w w'):w'.var? Tryz.prog n=some cs:=by
 obtain ⟨g,hg,hlt⟩:=QwX h;exact var?_below hb hg hlt h
theorem hKW:∀ w w',KW w->Below w.heap.size w w'->KW w':=fun w w' ⟨h1,h2,⟨t1,p1,h3⟩,t2,p2,h4⟩ hb =>
 ⟨World.ShapedOpen.keptBut h1 (hb.frame (fun _=>False)) (fun _ c=>c.elim),QdF h2 hb,⟨t1,p1,QdF h3 hb⟩,t2,p2,QdF h4 hb⟩
theorem Qwx (s:Txt) (hs:s.length<=1000):Ev.Good Tryz.prog KW 191 [.str s,.str [32]] (strs (spl s)):=by
 intro w ok vs hk hok hl hx
 obtain ⟨v0,v1,rfl⟩:∃ v0 v1,vs=[v0,v1]:=by
  match vs,hl with
  | [a,b],_=>grind
 have r0:=hx 0 _ v0 rfl rfl;have r1:=hx 1 _ v1 rfl rfl;cases r0;cases r1;have:=Any.strings_Split_shaped Tryz.laysM146 ⟨s.toArray⟩ ⟨[32].toArray⟩ w hk.shaped (by simp[ByteArray.size];omega) (by simp[ByteArray.size])
 refine this.mono fun e w' ⟨he,hw⟩=>?_
 subst he hw;have hb:=QI w (.cells ((Lib.splitB ⟨[32].toArray⟩ 0 (Lib.countB ⟨s.toArray⟩ ⟨[32].toArray⟩) ⟨s.toArray⟩).map Value.string).toArray (Tryz.laysM146_ren.t 9))
 have hd:(Lib.splitB ⟨[32].toArray⟩ 0 (Lib.countB ⟨s.toArray⟩ ⟨[32].toArray⟩) ⟨s.toArray⟩).map (·.data.toList)=spl s:=by
  rw[Lib.splitB_data];exact QcJ s
 have hlen:=Lib.splitB_all ⟨[32].toArray⟩ (by simp[ByteArray.size]) 0 _ ⟨s.toArray⟩ rfl
 generalize Lib.countB ⟨s.toArray⟩ ⟨[32].toArray⟩=n at *;generalize Lib.splitB ⟨[32].toArray⟩ 0 n ⟨s.toArray⟩=L at *;refine ⟨_,rfl,?_,hb⟩;have hl2:(spl s).length=n+1:=by grind
 have hnl:n+1<=maxLen:=by
  have:=QdR s;simp only[maxLen];omega
 have rep:=QY.sl (ok:=ok) (w:=w.alloc (.cells (L.map Value.string).toArray (Tryz.laysM146_ren.t 9))) 1 ((spl s).map fun s=>[IV.str s]) w.heap.size 0 (n+1) (fun k=>.string (L.getD k default)) (by simp[hl2]) hnl (by simp) (fun k hk=>?_) (fun i j c x hi hj=>?_)
 ·simpa[hl2] using rep
 ·simp[hl2] at hk
  have hkl:k<L.length:=by omega
  refine ⟨hok _ (QLS _),?_,rfl⟩;rw[QL9];exact Jp w _ _ k _ (by simp[hkl])
 ·simp only[QLW,QLT] at hi
  obtain ⟨t,ht,rfl⟩:=hi
  have hj0:j=0:=by
   grind
  subst hj0;simp at hj;subst hj;rw[<- hd,QLW,QLT] at ht;obtain ⟨z,hz,rfl⟩:=ht;have e:L.getD (i*1+0) default=z:=by simp[hz]
  rw[e];have:=QY.str (ok:=ok) (w:=w.alloc (.cells (L.map Value.string).toArray (Tryz.laysM146_ren.t 9))) z.data.toList;simpa using this
theorem QhU (n:Int) (h : -9223372036854775808<=n/\n<=9223372036854775807):Ev.Good Tryz.prog KW 241 [.int .i64 n] (.str (Lib.itoa n)):=by
 intro w ok vs hk hok hl hx
 obtain ⟨v0,rfl⟩:∃ v0,vs=[v0]:=by
  match vs,hl with
  | [a],_=>exact ⟨a,rfl⟩
 have r0:=hx 0 _ v0 rfl rfl;cases r0;refine (Any.strconv_Itoa Tryz.laysM171 n h.1 h.2 w hk.tab).mono fun e w' ⟨he,k,os,hw⟩=>?_
 subst he hw;exact ⟨_,rfl,.str _,⟨rfl,rfl,rfl,by simp[Go.Sort.grow],fun b hb=>Array.getElem?_append_left hb⟩⟩
theorem Qv9 (s p:Txt):Ev.Good Tryz.prog KW 242 [.str s,.str p] (.str (Lib.trimPrefix s p)):=by
 intro w ok vs hk hok hl hx
 obtain ⟨v0,v1,rfl⟩:∃ v0 v1,vs=[v0,v1]:=by
  match vs,hl with
  | [a,b],_=>grind
 have r0:=hx 0 _ v0 rfl rfl;have r1:=hx 1 _ v1 rfl rfl;cases r0;cases r1;refine (Any.strings_TrimPrefix Tryz.lays101 ⟨s.toArray⟩ ⟨p.toArray⟩ w).mono fun e w' ⟨he,hw⟩=>?_
 subst he hw;exact ⟨_,rfl,.str _,Below.refl _ _⟩
theorem Qwa (s:Txt) (hs:s.length<=1000):Ev.Good Tryz.prog KW 240 [.str s] (.tup (match Lib.atoiAll s with | .ok v=>[.int .i64 v,.lit .nilIface] | .range=>[.int .i64 (Lib.atoiSat s),.ifn] | _=>[.int .i64 0,.ifn])):=by
 intro w ok vs hk hok hl hx
 obtain ⟨v0,rfl⟩:∃ v0,vs=[v0]:=by
  match vs,hl with
  | [a],_=>exact ⟨a,rfl⟩
 have r0:=hx 0 _ v0 rfl rfl;cases r0
 have two:∀ (w':World) (n:Int) (z:IV) (u:Value),QY ok w' z u->QY ok w' (.tup [.int .i64 n,z]) (.tuple #[.int .i64 n,u]):=fun w' n z u hz=>by
  refine .tup [.int .i64 n,z] [.int .i64 n,u] rfl fun k x v hk hv=>?_
  match k,hk,hv with
  | 0,hk,hv=>injection hk with hk;injection hv with hv;subst hk hv;exact .int _ _
  | 1,hk,hv=>grind
  | k+2,hk,hv=>simp at hk
 cases h:Lib.atoiAll s with
 | ok v =>
   refine (Any.strconv_Atoi_ok Tryz.laysC172 ⟨s.toArray⟩ (by simp[ByteArray.size];omega) v (by simpa using h) w).mono fun e w' ⟨he,hw⟩=>?_
   subst he;refine ⟨_,rfl,two _ _ _ _ (.lit _),?_⟩;rcases hw with rfl | ⟨t,rfl⟩
   ·exact Below.refl _ _
   ·exact ⟨rfl,rfl,rfl,by rw[Lib.bytesWorld_size];omega,fun j hj=>Lib.bytesWorld_at_old _ _ _ j hj⟩
 | range =>
   obtain ⟨tp,p,hv⟩:=hk.rng;refine (Any.strconv_Atoi_range_var Tryz.laysC172 ⟨s.toArray⟩ (by simp[ByteArray.size];omega) (by simpa using h) tp p w hv).mono fun e w' ⟨N,he,_,_,hb⟩=>?_
   subst he;exact ⟨_,rfl,two _ _ _ _ (.ifn _ rfl),hb⟩
 | _ =>
   obtain ⟨tp,p,hv⟩:=hk.syn;refine (Any.strconv_Atoi_syntax_var Tryz.laysC172 ⟨s.toArray⟩ (by simp[ByteArray.size];omega) (by simpa using h) tp p w hv).mono fun e w' ⟨N,he,_,_,hb⟩=>?_
   subst he;exact ⟨_,rfl,two _ _ _ _ (.ifn _ rfl),hb⟩
theorem QvZ (l:List Txt) (hl0:l.length<=1000000) (hj:(Lib.join l [32]).length<=140737488355328):Ev.Good Tryz.prog KW 291 [strs l,.str [32]] (.str (Lib.join l [32])):=by
 intro w ok vs hk hok hl hx
 obtain ⟨v0,v1,rfl⟩:∃ v0 v1,vs=[v0,v1]:=by
  match vs,hl with
  | [a,b],_=>grind
 have r0:=hx 0 _ v0 rfl rfl;have r1:=hx 1 _ v1 rfl rfl;cases r1
 have none_:∀ (a:Option Addr) (c:Nat),l=[]->Calls Tryz.prog 291 [Value.slice a 0 c,.string ⟨[32].toArray⟩].toArray w (fun e w'=>∃ v,e=.returned v/\QY ok w' (.str (Lib.join l [32])) v/\Below w.heap.size w w'):=fun a c h0=>by
  subst h0;refine (Any.strings_Join_none Tryz.lays156 Tryz.Builder_Extra_156 a c ⟨[32].toArray⟩ w).mono fun e w' ⟨he,hw⟩=>?_
  subst he hw;exact ⟨_,rfl,.str [],Below.refl _ _⟩
 simp only[strs] at r0;generalize hrows:(l.map fun s=>[IV.str s])=rows at r0
 have hrl:rows.length=l.length:=by grind
 cases r0 with
 | sl _ _ b off cap u hlc hc hsz hu hxx =>
   have hcell:∀ (j:Nat) (x:ByteArray),(l.map fun s=>(⟨s.toArray⟩:ByteArray))[j]?=some x->w.cell? ⟨b,off+j,none⟩=some (.string x):=fun j x hj=>by
    rw[QLW,QLT] at hj;obtain ⟨s,hs,rfl⟩:=hj;have hjl:=(QLO.1 hs).1;have h1:=(hu j (by rw[hrl];omega)).2.1
    have h2:=hxx j 0 [.str s] (.str s) (by grind) rfl
    simp only[QNr,QMV] at h2;cases h2':u j with
    | _=>rw[h2'] at h2;first | (cases h2;rw[h1,h2']) | cases h2
   by_cases h0:l=[]
   ·grind
   ·have hbk:b<w.heap.size:=QMD w ⟨b,off+0,none⟩ (hu 0 (by grind)).2.1
    have hd:(l.map fun s=>(⟨s.toArray⟩:ByteArray)).map (·.data.toList)=l:=by simp[List.map_map,Function.comp_def]
    have:=Any.strings_Join Tryz.lays156 Tryz.Builder_Extra_156 b off cap (l.map fun s=>(⟨s.toArray⟩:ByteArray)) ⟨[32].toArray⟩ w hcell hbk (by simp;omega) (by simp;omega) (by rw[hd];exact hj)
    rw[hd,QL6,<- hrl] at this;refine this.mono fun e w' ⟨he,hb⟩=>?_
    subst he;exact ⟨_,rfl,.str _,hb⟩
 | _=>grind
end Go.Pf
namespace Go.Pf
open Go Go.Ev Go.Proofs Go.RowKit Go.ChangeShapes Go.WideShapes Go.Proofs.YtjchdgaomencbaaGreatDoor
theorem own:ownKnob Tryz.prog.godebug=none:=by kernel_rfl
theorem Ym:laidOutB Tryz.prog=true:=by kernel_rfl
noncomputable def ZM (os:Os):World:=World.laidAll Tryz.prog os Rows.proverNothingRow.laid
theorem Uf (os:Os) (args:Array Value):laidMet Tryz.prog Rows.proverNothingRow.laid ((ZM os).forCall (fun _ _=>0) ⟨#[],args,[]⟩).memory :=
 laidMet_laidAll args (by kernel_rfl) (by kernel_rfl)
theorem QH2 : "*" ++ "errors.errorString" = "*errors.errorString" := by decide
set_option maxRecDepth 100000 in
theorem Qun (u : TypeId) (h : Tryz.prog.typeName? 3 u = some "*errors.errorString") : u = 420 :=
 typeName_ptr_named (nm := "errors.errorString") (by rw [QH2]; kernel_rfl) (by kernel_rfl) (by decide) u (by rw [QH2]; exact h)
def qX (es:List Sh) (row:List IV):Prop:=∀ (j:Nat) (s:Sh) (x:IV),es[j]?=some s->row[j]?=some x->Qck s x
abbrev shI:Sh:=Sh.int IntKind.i64
theorem QcR:∀ rows:List (List IV),(∀ row∈rows,row.length=5)->(∀ row∈rows,qX [shI,shI,shI,shI,shI] row)->∃ fs:List Qs,rows=fs.map dC
 | [],_,_=>⟨[],rfl⟩
 | row::rows,hrl,hr=>by
   obtain ⟨fs,hfs⟩:=QcR rows (fun r hr'=>hrl r (by simp[hr'])) (fun r hr'=>hr r (by simp[hr']))
   have h1:=hrl row (by simp)
   match row,h1 with
   | [c0,c1,c2,c3,c4],_ =>
     have h0:=hr [c0,c1,c2,c3,c4] (by simp) 0 _ c0 rfl rfl
     have h1:=hr [c0,c1,c2,c3,c4] (by simp) 1 _ c1 rfl rfl
     have h2:=hr [c0,c1,c2,c3,c4] (by simp) 2 _ c2 rfl rfl
     have h3:=hr [c0,c1,c2,c3,c4] (by simp) 3 _ c3 rfl rfl
     have h4:=hr [c0,c1,c2,c3,c4] (by simp) 4 _ c4 rfl rfl
     cases h0 with
     | int _ n0 _ _ =>
     cases h1 with
     | int _ n1 _ _ =>
     cases h2 with
     | int _ n2 _ _ =>
     cases h3 with
     | int _ n3 _ _ =>
     cases h4 with
     | int _ n4 _ _ =>
     exact ⟨⟨n0,n1,n2,n3,n4⟩::fs,by simp[hfs]⟩
theorem Qba:∀ rows:List (List IV),(∀ row∈rows,row.length=5)->(∀ row∈rows,qX [shI,shI,shI,shI,shI] row)->∃ fs:List Xq,rows=fs.map sC
 | [],_,_=>⟨[],rfl⟩
 | row::rows,hrl,hr=>by
   obtain ⟨fs,hfs⟩:=Qba rows (fun r hr'=>hrl r (by simp[hr'])) (fun r hr'=>hr r (by simp[hr']))
   have h1:=hrl row (by simp)
   match row,h1 with
   | [c0,c1,c2,c3,c4],_ =>
     have h0:=hr [c0,c1,c2,c3,c4] (by simp) 0 _ c0 rfl rfl
     have h1:=hr [c0,c1,c2,c3,c4] (by simp) 1 _ c1 rfl rfl
     have h2:=hr [c0,c1,c2,c3,c4] (by simp) 2 _ c2 rfl rfl
     have h3:=hr [c0,c1,c2,c3,c4] (by simp) 3 _ c3 rfl rfl
     have h4:=hr [c0,c1,c2,c3,c4] (by simp) 4 _ c4 rfl rfl
     cases h0 with
     | int _ n0 _ _ =>
     cases h1 with
     | int _ n1 _ _ =>
     cases h2 with
     | int _ n2 _ _ =>
     cases h3 with
     | int _ n3 _ _ =>
     cases h4 with
     | int _ n4 _ _ =>
     exact ⟨⟨n0,n1,n2,n3,n4⟩::fs,by simp[hfs]⟩
theorem Qbb:∀ rows:List (List IV),(∀ row∈rows,row.length=3)->(∀ row∈rows,qX [shI,shI,shI] row)->∃ fs:List ZC,rows=fs.map leC
 | [],_,_=>⟨[],rfl⟩
 | row::rows,hrl,hr=>by
   obtain ⟨fs,hfs⟩:=Qbb rows (fun r hr'=>hrl r (by simp[hr'])) (fun r hr'=>hr r (by simp[hr']))
   have h1:=hrl row (by simp)
   match row,h1 with
   | [c0,c1,c2],_ =>
     have h0:=hr [c0,c1,c2] (by simp) 0 _ c0 rfl rfl
     have h1:=hr [c0,c1,c2] (by simp) 1 _ c1 rfl rfl
     have h2:=hr [c0,c1,c2] (by simp) 2 _ c2 rfl rfl
     cases h0 with
     | int _ n0 _ _ =>
     cases h1 with
     | int _ n1 _ _ =>
     cases h2 with
     | int _ n2 _ _ =>
     exact ⟨⟨n0,n1,n2⟩::fs,by simp[hfs]⟩
theorem Qfx:∀ rows:List (List IV),(∀ row∈rows,row.length=4)->(∀ row∈rows,qX [shI,shI,shI,shI] row)->∃ fs:List Qy,rows=fs.map baC
 | [],_,_=>⟨[],rfl⟩
 | row::rows,hrl,hr=>by
   obtain ⟨fs,hfs⟩:=Qfx rows (fun r hr'=>hrl r (by simp[hr'])) (fun r hr'=>hr r (by simp[hr']))
   have h1:=hrl row (by simp)
   match row,h1 with
   | [c0,c1,c2,c3],_ =>
     have h0:=hr [c0,c1,c2,c3] (by simp) 0 _ c0 rfl rfl
     have h1:=hr [c0,c1,c2,c3] (by simp) 1 _ c1 rfl rfl
     have h2:=hr [c0,c1,c2,c3] (by simp) 2 _ c2 rfl rfl
     have h3:=hr [c0,c1,c2,c3] (by simp) 3 _ c3 rfl rfl
     cases h0 with
     | int _ n0 _ _ =>
     cases h1 with
     | int _ n1 _ _ =>
     cases h2 with
     | int _ n2 _ _ =>
     cases h3 with
     | int _ n3 _ _ =>
     exact ⟨⟨n0,n1,n2,n3⟩::fs,by simp[hfs]⟩
theorem Qa9:∀ rows:List (List IV),(∀ row∈rows,row.length=3)->(∀ row∈rows,qX [shI,shI,shI] row)->∃ fs:List Vt,rows=fs.map trC
 | [],_,_=>⟨[],rfl⟩
 | row::rows,hrl,hr=>by
   obtain ⟨fs,hfs⟩:=Qa9 rows (fun r hr'=>hrl r (by simp[hr'])) (fun r hr'=>hr r (by simp[hr']))
   have h1:=hrl row (by simp)
   match row,h1 with
   | [c0,c1,c2],_ =>
     have h0:=hr [c0,c1,c2] (by simp) 0 _ c0 rfl rfl
     have h1:=hr [c0,c1,c2] (by simp) 1 _ c1 rfl rfl
     have h2:=hr [c0,c1,c2] (by simp) 2 _ c2 rfl rfl
     cases h0 with
     | int _ n0 _ _ =>
     cases h1 with
     | int _ n1 _ _ =>
     cases h2 with
     | int _ n2 _ _ =>
     exact ⟨⟨n0,n1,n2⟩::fs,by simp[hfs]⟩
theorem Qfw:∀ rows:List (List IV),(∀ row∈rows,row.length=3)->(∀ row∈rows,qX [shI,shI,shI] row)->∃ fs:List Rod,rows=fs.map roC
 | [],_,_=>⟨[],rfl⟩
 | row::rows,hrl,hr=>by
   obtain ⟨fs,hfs⟩:=Qfw rows (fun r hr'=>hrl r (by simp[hr'])) (fun r hr'=>hr r (by simp[hr']))
   have h1:=hrl row (by simp)
   match row,h1 with
   | [c0,c1,c2],_ =>
     have h0:=hr [c0,c1,c2] (by simp) 0 _ c0 rfl rfl
     have h1:=hr [c0,c1,c2] (by simp) 1 _ c1 rfl rfl
     have h2:=hr [c0,c1,c2] (by simp) 2 _ c2 rfl rfl
     cases h0 with
     | int _ n0 _ _ =>
     cases h1 with
     | int _ n1 _ _ =>
     cases h2 with
     | int _ n2 _ _ =>
     exact ⟨⟨n0,n1,n2⟩::fs,by simp[hfs]⟩
theorem QcQ:∀ rows:List (List IV),(∀ row∈rows,row.length=7)->(∀ row∈rows,qX [shI,shI,shI,shI,shI,shI,shI] row)->∃ fs:List Qo,rows=fs.map reC
 | [],_,_=>⟨[],rfl⟩
 | row::rows,hrl,hr=>by
   obtain ⟨fs,hfs⟩:=QcQ rows (fun r hr'=>hrl r (by simp[hr'])) (fun r hr'=>hr r (by simp[hr']))
   have h1:=hrl row (by simp)
   match row,h1 with
   | [c0,c1,c2,c3,c4,c5,c6],_ =>
     have h0:=hr [c0,c1,c2,c3,c4,c5,c6] (by simp) 0 _ c0 rfl rfl
     have h1:=hr [c0,c1,c2,c3,c4,c5,c6] (by simp) 1 _ c1 rfl rfl
     have h2:=hr [c0,c1,c2,c3,c4,c5,c6] (by simp) 2 _ c2 rfl rfl
     have h3:=hr [c0,c1,c2,c3,c4,c5,c6] (by simp) 3 _ c3 rfl rfl
     have h4:=hr [c0,c1,c2,c3,c4,c5,c6] (by simp) 4 _ c4 rfl rfl
     have h5:=hr [c0,c1,c2,c3,c4,c5,c6] (by simp) 5 _ c5 rfl rfl
     have h6:=hr [c0,c1,c2,c3,c4,c5,c6] (by simp) 6 _ c6 rfl rfl
     cases h0 with
     | int _ n0 _ _ =>
     cases h1 with
     | int _ n1 _ _ =>
     cases h2 with
     | int _ n2 _ _ =>
     cases h3 with
     | int _ n3 _ _ =>
     cases h4 with
     | int _ n4 _ _ =>
     cases h5 with
     | int _ n5 _ _ =>
     cases h6 with
     | int _ n6 _ _ =>
     exact ⟨⟨n0,n1,n2,n3,n4,n5,n6⟩::fs,by simp[hfs]⟩
theorem Qfv:∀ rows:List (List IV),(∀ row∈rows,row.length=1)->(∀ row∈rows,qX [Sh.str] row)->∃ fs:List Txt,rows=fs.map fun s=>[IV.str s]
 | [],_,_=>⟨[],rfl⟩
 | row::rows,hrl,hr=>by
   obtain ⟨fs,hfs⟩:=Qfv rows (fun r hr'=>hrl r (by simp[hr'])) (fun r hr'=>hr r (by simp[hr']))
   have h1:=hrl row (by simp)
   match row,h1 with
   | [c],_ =>
     have hc:=hr [c] (by simp) 0 _ c rfl rfl
     cases hc with
     | str s _=>exact ⟨s::fs,by simp[hfs]⟩
theorem QE6:shp Tryz.prog 7 40=some [.sl 40 [shI,shI,shI,shI,shI],.sl 40 [shI,shI,shI,shI,shI],shI,.sl 24 [shI,shI,shI],shI,shI,shI,.sl 32 [shI,shI,shI,shI],shI,.sl 24 [shI,shI,shI],shI,shI,shI,shI,shI,.sl 24 [shI,shI,shI],.sl 56 [shI,shI,shI,shI,shI,shI,shI],shI]:=by kernel_rfl
theorem QK6:shp Tryz.prog 7 3=some [shI]:=by kernel_rfl
theorem QK5:shp Tryz.prog 7 9=some [.str]:=by kernel_rfl
theorem QE5:shp Tryz.prog 7 41=some [.sl 16 [.str]]:=by kernel_rfl
theorem QE4:shp Tryz.prog 7 53=some [shI,shI,shI,shI,shI,shI,shI]:=by kernel_rfl
theorem QEY:∃ fs,Tryz.prog.underlying 53=some (.struct fs):=⟨_,Tryz.underlying53⟩
theorem QEZ:∃ fs,Tryz.prog.underlying 40=some (.struct fs):=⟨_,Tryz.underlying40⟩
set_option maxRecDepth 100000 in
theorem Qz2 {x:IV} (h:QcC Tryz.prog 3 x):∃ n,x=.int .i64 n:=by
 obtain ⟨ss,h1,h2⟩:=h;rw[QK6] at h1;injection h1 with h1
 subst h1;rw[Tryz.underlying3] at h2;obtain ⟨s,hs,hf⟩:=h2;injection hs with hs _
 subst hs;cases hf with
 | int _ n h1 h2=>exact ⟨n,rfl⟩
set_option maxRecDepth 100000 in
theorem Qz1 {x:IV} (h:QcC Tryz.prog 9 x):∃ t,x=.str t:=by
 obtain ⟨ss,h1,h2⟩:=h;rw[QK5] at h1;injection h1 with h1
 subst h1;rw[Tryz.underlying9] at h2;obtain ⟨s,hs,hf⟩:=h2;injection hs with hs _
 subst hs;cases hf with
 | str t _=>exact ⟨t,rfl⟩
set_option maxRecDepth 100000 in
theorem QaJ {x:IV} (h:QcC Tryz.prog 41 x):∃ l,x=strs l:=by
 obtain ⟨ss,h1,h2⟩:=h;rw[QE5] at h1;injection h1 with h1
 subst h1;rw[Tryz.underlying41] at h2;obtain ⟨s,hs,hf⟩:=h2;injection hs with hs _
 subst hs;cases hf with
 | sl _ _ rows hw hm hrl hr =>
   obtain ⟨fs,rfl⟩:=Qfv rows hrl hr;exact ⟨fs,rfl⟩
set_option maxRecDepth 100000 in
theorem JQ {x:IV} (h:QcC Tryz.prog 40 x):∃ h,x=hoV h:=by
 obtain ⟨ss,h1,h2⟩:=h;rw[QE6] at h1;injection h1 with h1
 subst h1;obtain ⟨fs',hu⟩:=QEZ;rw[hu] at h2;obtain ⟨xs,rfl,hl,hf⟩:=h2
 match xs,hl with
 | [a0,a1,a2,a3,a4,a5,a6,a7,a8,a9,a10,a11,a12,a13,a14,a15,a16,a17],_ =>
   have h0:=hf 0 _ a0 rfl rfl;have h1:=hf 1 _ a1 rfl rfl;have h2:=hf 2 _ a2 rfl rfl;have h3:=hf 3 _ a3 rfl rfl;have h4:=hf 4 _ a4 rfl rfl;have h5:=hf 5 _ a5 rfl rfl;have h6:=hf 6 _ a6 rfl rfl;have h7:=hf 7 _ a7 rfl rfl;have h8:=hf 8 _ a8 rfl rfl;have h9:=hf 9 _ a9 rfl rfl;have h10:=hf 10 _ a10 rfl rfl;have h11:=hf 11 _ a11 rfl rfl;have h12:=hf 12 _ a12 rfl rfl;have h13:=hf 13 _ a13 rfl rfl;have h14:=hf 14 _ a14 rfl rfl;have h15:=hf 15 _ a15 rfl rfl;have h16:=hf 16 _ a16 rfl rfl;have h17:=hf 17 _ a17 rfl rfl;cases h0 with
   | sl _ _ rows0 _ _ hrl0 hr0 =>
   cases h1 with
   | sl _ _ rows1 _ _ hrl1 hr1 =>
   cases h2 with
   | int _ n2 _ _ =>
   cases h3 with
   | sl _ _ rows3 _ _ hrl3 hr3 =>
   cases h4 with
   | int _ n4 _ _ =>
   cases h5 with
   | int _ n5 _ _ =>
   cases h6 with
   | int _ n6 _ _ =>
   cases h7 with
   | sl _ _ rows7 _ _ hrl7 hr7 =>
   cases h8 with
   | int _ n8 _ _ =>
   cases h9 with
   | sl _ _ rows9 _ _ hrl9 hr9 =>
   cases h10 with
   | int _ n10 _ _ =>
   cases h11 with
   | int _ n11 _ _ =>
   cases h12 with
   | int _ n12 _ _ =>
   cases h13 with
   | int _ n13 _ _ =>
   cases h14 with
   | int _ n14 _ _ =>
   cases h15 with
   | sl _ _ rows15 _ _ hrl15 hr15 =>
   cases h16 with
   | sl _ _ rows16 _ _ hrl16 hr16 =>
   cases h17 with
   | int _ n17 _ _ =>
   obtain ⟨l0,rfl⟩:=QcR rows0 hrl0 hr0;obtain ⟨l1,rfl⟩:=Qba rows1 hrl1 hr1;obtain ⟨l3,rfl⟩:=Qbb rows3 hrl3 hr3;obtain ⟨l7,rfl⟩:=Qfx rows7 hrl7 hr7;obtain ⟨l9,rfl⟩:=Qa9 rows9 hrl9 hr9;obtain ⟨l15,rfl⟩:=Qfw rows15 hrl15 hr15;obtain ⟨l16,rfl⟩:=QcQ rows16 hrl16 hr16;exact ⟨⟨⟨⟨l0,l1,n2⟩,⟨l3,n4,n5,n6,l7,n8⟩,l9,n10,n11⟩,⟨n12,n13,n14,l15,l16,n17⟩⟩,rfl⟩
set_option maxRecDepth 100000 in
theorem QpW {x:IV} (h:QcC Tryz.prog 53 x):∃ a b c d e f g,x=.agg [.int .i64 a,.int .i64 b,.int .i64 c,.int .i64 d,.int .i64 e,.int .i64 f,.int .i64 g]:=by
 obtain ⟨ss,h1,h2⟩:=h;rw[QE4] at h1;injection h1 with h1
 subst h1;obtain ⟨fs',hu⟩:=QEY;rw[hu] at h2;obtain ⟨xs,rfl,hl,hf⟩:=h2
 match xs,hl with
 | [a0,a1,a2,a3,a4,a5,a6],_ =>
   have h0:=hf 0 _ a0 rfl rfl;have h1:=hf 1 _ a1 rfl rfl;have h2:=hf 2 _ a2 rfl rfl;have h3:=hf 3 _ a3 rfl rfl;have h4:=hf 4 _ a4 rfl rfl;have h5:=hf 5 _ a5 rfl rfl;have h6:=hf 6 _ a6 rfl rfl;cases h0 with
   | int _ n0 _ _ =>
   cases h1 with
   | int _ n1 _ _ =>
   cases h2 with
   | int _ n2 _ _ =>
   cases h3 with
   | int _ n3 _ _ =>
   cases h4 with
   | int _ n4 _ _ =>
   cases h5 with
   | int _ n5 _ _ =>
   cases h6 with
   | int _ n6 _ _ =>
   exact ⟨n0,n1,n2,n3,n4,n5,n6,rfl⟩
theorem Qlt {W:World} (hL:laidMetH Tryz.prog Rows.proverNothingRow.laid W) (hsh:W.ShapedOpen Tryz.prog):KW W:=by
 have hl:laidMet Tryz.prog Rows.proverNothingRow.laid W:=by
  rw[MakeChecks.laidMetH_plain _ _ _ (by kernel_rfl)] at hL
  exact hL
 have h2:=hl.tail.tail;have h4:=h2.tail.tail;have h5:=h4.tail;refine ⟨hsh,?_,?_,?_⟩
 ·exact Lib.tabIs_of_head (n:=20) (rest:=Rows.proverNothingRow.laid.drop 3) (g:=5) (t:=424) (e:=311) (by kernel_rfl) (by kernel_rfl) Tryz.underlying424 Tryz.underlying311 (by kernel_rfl) (by kernel_rfl) h2
 ·obtain ⟨a0, s0, hv0, _⟩ := laid_sentinel h5 (show Tryz.prog.globalNamed "strconv.ErrSyntax" = some 1 by kernel_rfl) (show (Tryz.prog.globals[1]?).map (·.type) = some 286 by kernel_rfl) Tryz.underlying286 Qun Tryz.underlying420 Tryz.underlying422 rfl rfl Tryz.underlying9 (by kernel_rfl) (by kernel_rfl)
  exact ⟨_,_,hv0⟩
 ·obtain ⟨a0, s0, hv0, _⟩ := laid_sentinel h4 (show Tryz.prog.globalNamed "strconv.ErrRange" = some 2 by kernel_rfl) (show (Tryz.prog.globals[2]?).map (·.type) = some 286 by kernel_rfl) Tryz.underlying286 Qun Tryz.underlying420 Tryz.underlying422 rfl rfl Tryz.underlying9 (by kernel_rfl) (by kernel_rfl)
  exact ⟨_,_,hv0⟩
set_option maxRecDepth 100000
theorem JJ {P:Program} {f:FuncId} {fn:Func} {s:ChangeSpec} {c:OpenClaim}
  (k1:c.wf (OpenSpec.ofChange s)=true) (k2:laidOutB P=true) (k3:mapsRowed P=true) (k4:fn.params.all (P.readableRec ·)=true) (k5:namedTie P c.named s.vars=true)
  (k6:(c.stops==[])=true) (k7:(P.stops==[])=true) (k8:(c.knobs==[])=true) (k9:(P.stopKnobs==[])=true)
  (k10:(c.inPlace==P.inPlace f)=true) (k11:(c.unfollowed==P.unfollowed f)=true) (k12:(c.recurses==P.recurses f)=true) (k13:(c.named==P.varsNamed f)=true)
  (k14:(c.maps==(fn.params.toList++s.plain.varTypes P).any (P.mapsRec ·))=true) (k15:(c.ifaces==(fn.params.toList++s.plain.varTypes P).any (P.ifacesRec ·))=true) (k16:(c.mapsOut==P.mapsAmong fn.resultTypes.toList)=true)
  (k17:(c.loops==(fn.params.toList++s.plain.varTypes P).any (P.loopsFrom ·))=true) (k17b:(c.wideKeys==(fn.params.toList++s.plain.varTypes P++fn.resultTypes.toList).any (P.wideKeysFrom ·))=true)
  (k18:s.vars.all (P.varReadable ·)=true) (k19:fn.resultTypes.all (fun t=>P.readableRec t&&decide (t<P.types.size))=true) (k20:(c.ifacesOut==fn.resultTypes.toList.any (P.ifacesRec ·))=true) (k21:(c.loopsOut==fn.resultTypes.toList.any (P.loopsFrom ·))=true)
  (k22:(c.plainKeys==P.plainKeys)=true) (k23:c.shortTexts.isNone=true) (k23b:P.stopsHeard=true) (k24:P.mayEnter=true) (k24b:(c.lifted==P.liftsFinal)=true) (k24c:(P.make==some c.make)=true)
  (k25:(c.kinds==(if c.domain.isEmpty then [] else fn.params.toList.map fun t=>match P.underlying t with | some (.int k)=>some k | _=>none))=true) (k26:(c.pinned==c.pinnedBy)=true)
  (k27:(c.veiled==(fn.params.toList++s.plain.varTypes P++fn.resultTypes.toList).any (P.veiledRec ·))=true) (k28:c.veiledFits P fn.params.toList (fn.params.toList++s.plain.varTypes P++fn.resultTypes.toList)=true):joinedFacts P f fn s c=true:=by
 simp only[joinedFacts,QLP];exact ⟨⟨⟨⟨⟨⟨⟨⟨⟨⟨⟨⟨⟨⟨⟨⟨⟨⟨⟨⟨⟨⟨⟨⟨⟨⟨⟨⟨⟨⟨⟨k1,k2⟩,k3⟩,k4⟩,k5⟩,k6⟩,k7⟩,k8⟩,k9⟩,k10⟩,k11⟩,k12⟩,k13⟩,k14⟩,k15⟩,k16⟩,k17⟩,k17b⟩,k18⟩,k19⟩,k20⟩,k21⟩,k22⟩,k23⟩,k23b⟩,k24⟩,k24b⟩,k24c⟩,k25⟩,k26⟩,k27⟩,k28⟩
theorem QlF:mapsRowed Tryz.prog=true:=by kernel_rfl
theorem QlE:(Tryz.prog.stops==[])=true:=by kernel_rfl
theorem QlD:(Tryz.prog.stopKnobs==[])=true:=by kernel_rfl
theorem qt:Tryz.prog.stopsHeard=true:=by kernel_rfl
theorem Qdj:Tryz.prog.mayEnter=true:=by kernel_rfl
theorem QlB:(Rows.proverNothingRow.plainKeys==Tryz.prog.plainKeys)=true:=by kernel_rfl
theorem QlA:(Rows.proverNothingRow.lifted==Tryz.prog.liftsFinal)=true:=by kernel_rfl
theorem Qlz:(Tryz.prog.make==some Rows.proverNothingRow.make)=true:=by kernel_rfl
theorem Qdi:Tryz.pinned.checked.prog.looks []=true:=by kernel_rfl
end Go.Pf
namespace Go.Proofs
open Go.Shelf Go.RowKit Go.Lib
variable {P:Program} {ρ:Ren}
set_option maxHeartbeats 2000000 in
set_option maxRecDepth 100000 in
theorem QlY (L:SlLaysE0.n41 P ρ) (i0:TypeInfo) (z:Value) (size bytes:Nat) (hi:P.info? (ρ.t 23)=some i0) (hz0:i0.zero=some z) (hz1:i0.size=size) (hz2:i0.bytes=bytes) (hzs:z.cells.size=size) (hsz:0<size)
  (z23:∀ w,(Go.sizeOf (ρ.t 23)).run P w=.ok size w) (a:Addr) (c:Nat) (w:World) :
  Calls P (ρ.f 41) #[.slice (some a) 0 c] w fun e w'=>∃ v',e=.returned v'/\w'.ownsRow w.heap.size (ρ.t 23) size v' 0 []/\Below w.heap.size w w':=by
 have mixed:=L.mixed;have t4:=L.t4;have a4:=L.a4;have z4:=L.z4;have v4:=L.v4;have t22:=L.t22;have a22:=L.a22;have z22:=L.z22;have v22:=L.v22;have q22:∀ (w:World) (a:Option Addr) (n c n' c':Nat),(binOp .eql (ρ.t 22) (.slice a n c) (.slice none n' c')).run P w=.ok (.bool a.isNone) w:=fun w a n c n' c'=>Lib.run_eql_slice_nil w _ _ a n c n' c' L.t22
 have u22:∀ w,Sem.run P (underlying (ρ.t 22)) w=.ok (TypeDesc.slice (ρ.t 23)) w:=run_underlying t22
 obtain ⟨_,_,FG⟩:=L.f41
 go_enter FG,SlBodyN.n41_ntmps ρ
 go_wp2_with (at_builtin;refine wpList_append_own _ rfl _ _ (ρ.t 22) rfl w.heap.size (ρ.t 23) i0 z size bytes t22 hi hz0 hz1 hz2 hzs hsz _ _ _ rfl (World.ownsRow_made w #[] 0 (QLS _) (QMX _) (by simp)) a 0 c [] rfl ?qc1 ?qc2 ?qc3 ?qc4 ?qc5 ?qc6 ?_)
 case qc1=>simp
 case qc2=>grind
 case qc3=>grind
 case qc4=>simp
 case qc5=>simp
 case qc6=>simp
 intro v' w1 hown hgrow hnil
 go_wp2
 go_ret
 refine ⟨v',rfl,by simpa using hown,?_⟩
 exact ((Below.refl _ w).alloc (QLS _) _).grown hgrow (by simp) (by intro k hk;simp[Value.ownBlock] at hk;omega)
end Go.Proofs
namespace Go.Ev
open Go Go.RowKit
section
variable {P:Program} {K:World->Prop}
theorem QoR {f:FuncId} {e:TypeId} {sz bytes:Nat}
  (hcl:∀ (b off n c:Nat) (news:List Value) (w:World),news.length=n*sz->n<=maxLen->n*bytes<=140737488355328->(∀ (j:Nat) (u:Value),news[j]?=some u->w.cell? ⟨b,off+j,none⟩=some u)->(∀ u∈news,u.oneCell'=true) ->
    Calls P f #[.slice (some ⟨b,off,none⟩) n c] w fun x w'=>∃ v',x=.returned v'/\w'.ownsRow w.heap.size e sz v' n news/\v'≠.slice none 0 0/\Below w.heap.size w w')
  (hnil:∀ w:World,Calls P f #[.slice none 0 0] w fun x w'=>x=.returned (.slice none 0 0)/\w'=w)
  (hzero:∀ (a:Addr) (w:World),Calls P f #[.slice (some a) 0 0] w fun x w'=>∃ v',x=.returned v'/\w'.ownsRow w.heap.size e sz v' 0 []/\Below w.heap.size w w')
  (rows:List (List IV)) (hb:rows.length*bytes<=140737488355328) (hsz:∀ c∈rows,c.length=sz):VZ P K f [.sl sz rows] (.aref 0 rows.length) e sz rows 0:=by
 by_cases hne:rows=[]
 ·subst hne
  intro w ok vs hk hnew hl hvs
  obtain ⟨v0,rfl⟩:∃ v0,vs=[v0]:=by
   match vs,hl with
   | [v],_=>exact ⟨v,rfl⟩
  have hrep:=hvs 0 _ v0 rfl rfl
  have fin:∀ (v':Value) (w':World),w'.ownsRow w.heap.size e sz v' 0 []->Below w.heap.size w w' ->
    ∃ v l,Ending.returned v'=.returned v/\QG (fun b=>b<w.heap.size) (okL ok (one (Yj e sz [] 0)) (fun _=>l)) w' (one (Yj e sz [] 0)) (fun _=>l) (Yj e sz [] 0) l /\
     QB (okL ok (one (Yj e sz [] 0)) (fun _=>l)) w' (one (Yj e sz [] 0)) (fun _=>l) (ren 0 (.aref 0 0)) v/\Below w.heap.size w w':=by
   intro v' w' hown hbel;have hsl:=Y9 hown;have hge:∀ b,v'.ownBlock=some b->w.heap.size<=b:=fun b h=>(hown.lt b h).1
   have hown0:w'.ownsRow 0 e sz v' 0 []:=by
    obtain ⟨h1,h2⟩:=hown;refine ⟨h1,?_⟩
    grind
   refine ⟨v',.arr v' [],rfl,⟨⟨by simpa using hown0,fun b h1 h2=>by grind⟩,QMX _,by simp,by simp,by simp⟩,?_,hbel⟩
   exact QB.aref (ok:=okL ok (one (Yj e sz [] 0)) (fun _=>.arr v' [])) (w:=w') (lo:=one (Yj e sz [] 0)) (L:=fun _=>.arr v' []) 0 e sz [] 0 v' [] (by simp[one,Yj]) rfl hsl
  cases hrep with
  | nils _=>exact (hnil w).mono fun x w' ⟨h1,h2⟩=>by subst h1 h2;exact fin _ _ ⟨by simp,.inl ⟨rfl,rfl⟩⟩ (Below.refl _ _)
  | nilz _ a=>exact (hzero a w).mono fun x w' ⟨v',h1,h2,h3⟩=>by grind
  | sl _ _ b off cap u hlc hc hs hu hx=>exact (hcl b off 0 cap [] w (by simp) (by simp) (by simp) (by simp) (by simp)).mono fun x w' ⟨v',h1,h2,_,h3⟩=>by grind
 ·exact UT hcl rows hb hsz hne
end
end Go.Ev
namespace Go.Pf
open Go Go.Ev Go.Proofs Go.RowKit Go.Shelf
set_option maxRecDepth 8000
noncomputable def QhQ (t:TypeId) (h:(Tryz.prog.info? t).isSome=true):TypeInfo:=(Tryz.prog.info? t).get h
noncomputable def QuC (i:TypeInfo) (h:i.zero.isSome=true):Value:=i.zero.get h
section
variable {K:World->Prop}
theorem Qb2 {f:FuncId} {ρ:Ren} {e:TypeId} (sz bytes:Nat) (L:SlLaysE0.n41 Tryz.prog ρ) (hf:ρ.f 41=f) (he:ρ.t 23=e) (h1:(Tryz.prog.info? e).isSome=true) (h2:(QhQ e h1).zero.isSome=true) (h3:(QhQ e h1).size=sz) (h4:(QhQ e h1).bytes=bytes) (h5:(QuC (QhQ e h1) h2).cells.size=sz) (h0:0<sz)
  (hz:∀ w,(Go.sizeOf e).run Tryz.prog w=.ok sz w) (rows:List (List IV)) (hb:rows.length*bytes<=140737488355328) (hsz:∀ c∈rows,c.length=sz):VZ Tryz.prog K f [.sl sz rows] (.aref 0 rows.length) e sz rows 0:=by
 subst hf he;have hi:Tryz.prog.info? (ρ.t 23)=some (QhQ _ h1):=by simp[QhQ]
 have hz0:(QhQ _ h1).zero=some (QuC _ h2):=by simp[QuC]
 exact QoR (fun b off n c news w g1 g2 g3 g4 g5=>AnyE.slices_Clone L _ _ sz bytes hi hz0 h3 h4 h5 h0 hz b off n c news w g1 g2 g3 g4 g5) (fun w=>AnyE.slices_Clone_nil L 0 0 w)
  (fun a w=>QlY L _ _ sz bytes hi hz0 h3 h4 h5 h0 hz a 0 w) rows hb hsz
theorem QB3 (l:List Qs) (hl:l.length<=1000):VZ Tryz.prog K 155 [QA l] (.aref 0 l.length) 162 5 (l.map dC) 0:=by
 have h:=Qb2 (K:=K) (f:=155) (e:=162) 5 40 Tryz.clone155 rfl rfl (by kernel_rfl) (by kernel_rfl) (by kernel_rfl) (by kernel_rfl) (by kernel_rfl) (by decide) Tryz.sizeOf162 (l.map dC) (by simp;omega) (by simp)
 simpa using h
theorem QB2 (l:List Xq) (hl:l.length<=1000):VZ Tryz.prog K 156 [Qz l] (.aref 0 l.length) 166 5 (l.map sC) 0:=by
 have h:=Qb2 (K:=K) (f:=156) (e:=166) 5 40 Tryz.clone156 rfl rfl (by kernel_rfl) (by kernel_rfl) (by kernel_rfl) (by kernel_rfl) (by kernel_rfl) (by decide) Tryz.sizeOf166 (l.map sC) (by simp;omega) (by simp)
 simpa using h
theorem QB1 (l:List ZC) (hl:l.length<=1000):VZ Tryz.prog K 157 [Q0 l] (.aref 0 l.length) 191 3 (l.map leC) 0:=by
 have h:=Qb2 (K:=K) (f:=157) (e:=191) 3 24 Tryz.clone157 rfl rfl (by kernel_rfl) (by kernel_rfl) (by kernel_rfl) (by kernel_rfl) (by kernel_rfl) (by decide) Tryz.sizeOf191 (l.map leC) (by simp;omega) (by simp)
 simpa using h
theorem QB0 (l:List Qy) (hl:l.length<=1000):VZ Tryz.prog K 158 [XS l] (.aref 0 l.length) 168 4 (l.map baC) 0:=by
 have h:=Qb2 (K:=K) (f:=158) (e:=168) 4 32 Tryz.clone158 rfl rfl (by kernel_rfl) (by kernel_rfl) (by kernel_rfl) (by kernel_rfl) (by kernel_rfl) (by decide) Tryz.sizeOf168 (l.map baC) (by simp;omega) (by simp)
 simpa using h
theorem QBZ (l:List Rod) (hl:l.length<=1000):VZ Tryz.prog K 159 [qd l] (.aref 0 l.length) 187 3 (l.map roC) 0:=by
 have h:=Qb2 (K:=K) (f:=159) (e:=187) 3 24 Tryz.clone159 rfl rfl (by kernel_rfl) (by kernel_rfl) (by kernel_rfl) (by kernel_rfl) (by kernel_rfl) (by decide) Tryz.sizeOf187 (l.map roC) (by simp;omega) (by simp)
 simpa using h
theorem QBY (l:List Qo) (hl:l.length<=1000):VZ Tryz.prog K 160 [Y7 l] (.aref 0 l.length) 170 7 (l.map reC) 0:=by
 have h:=Qb2 (K:=K) (f:=160) (e:=170) 7 56 Tryz.clone160 rfl rfl (by kernel_rfl) (by kernel_rfl) (by kernel_rfl) (by kernel_rfl) (by kernel_rfl) (by decide) Tryz.sizeOf170 (l.map reC) (by simp;omega) (by simp)
 simpa using h
theorem QBX (l:List Vt) (hl:l.length<=1000):VZ Tryz.prog K 161 [Xr l] (.aref 0 l.length) 164 3 (l.map trC) 0:=by
 have h:=Qb2 (K:=K) (f:=161) (e:=164) 3 24 Tryz.clone161 rfl rfl (by kernel_rfl) (by kernel_rfl) (by kernel_rfl) (by kernel_rfl) (by kernel_rfl) (by decide) Tryz.sizeOf164 (l.map trC) (by simp;omega) (by simp)
 simpa using h
end
end Go.Pf
namespace Go.Proofs
open Go.Shelf
def Tryz.keys351_ren:Go.Shelf.Ren:=⟨fun | 10=>351 | n=>n,fun | 23=>144 | 26=>3 | 3=>47 | 28=>153 | 0=>0 | 27=>152 | 33=>137 | 4=>4 | n=>n,fun | n=>n⟩
theorem Tryz.keys351:Go.Proofs.SlLaysZI.n10 Tryz.prog Tryz.keys351_ren:={
 mixed:=by kernel_rfl
 f10:=⟨Tryz.f351.name,by decide,Tryz.func351.trans (congrArg some (by kernel_rfl))⟩
 t0:=Tryz.underlying0
 a0:=Tryz.isAgg0
 z0:=Tryz.sizeOf0
 v0:=Tryz.zeroValue0
 t4:=Tryz.underlying4
 a4:=Tryz.isAgg4
 z4:=Tryz.sizeOf4
 v4:=Tryz.zeroValue4
 t23:=Tryz.underlying144
 a23:=Tryz.isAgg144
 z23:=Tryz.sizeOf144
 v23:=Tryz.zeroValue144
 t26:=Tryz.underlying3
 a26:=Tryz.isAgg3
 z26:=Tryz.sizeOf3
 v26:=Tryz.zeroValue3
 t33:=Tryz.underlying137
 a33:=Tryz.isAgg137
 z33:=Tryz.sizeOf137
 v33:=Tryz.zeroValue137 }
end Go.Proofs
namespace Go.Pf
open Go Go.Ev Go.Proofs Go.RowKit Go.Shelf
set_option maxRecDepth 8000
theorem Vy (lb:Array Value) (S:List Int->Prop) (N:Nat) (hN:N<=1000000) (w:World) (hseq:SeqGives Fence.wide 2 Tryz.prog 351 lb encZ S N w) :
  Calls Tryz.prog 84 #[.func (.func 351) #[] lb] w fun e w'=>∃ (v:Value) (ss:List Int),e=.returned v/\S ss /\
   w'.ownsRow w.heap.size 3 1 v ss.length ((ss.mergeSort (fun x y=>decide (x<=y))).map encZ)/\(v=.slice none 0 0↔ss=[])/\Below w.heap.size w w':=by
 refine (callsIn_wide (n:=5)).1 ?_;exact AnyZI.sorted_in Tryz.sorted84 Fence.wide 5 trivial trivial trivial trivial rfl (by omega) (Tryz.sorts149 _) (enters_of Tryz.func149 (by kernel_rfl) rfl) 351 lb trivial (enters_of Tryz.func351 (by kernel_rfl) rfl) S N (by unfold maxLen;omega) (by omega) w hseq
section
variable {K:World->Prop}
theorem QvS (kvs:List (MK × IV)) (ks:List Int) (hk:kvs.map (·.1)=ks.map (fun x=>MK.int .i64 x)) (hwf:∀ x∈ks,-9223372036854775808<=x/\x<9223372036854775808) (hlen:ks.length<=1000000) :
  Ev.Good Tryz.prog K 84 [.clo 351 [] [.ptr [.map kvs]]] (Zd (ks.mergeSort fun x y=>decide (x<=y))):=by
 intro w ok vs hK hnew hl hvs
 obtain ⟨v0,rfl⟩:∃ v0,vs=[v0]:=by
  match vs,hl with
  | [v],_=>exact ⟨v,rfl⟩
 have hrep:=hvs 0 _ v0 rfl rfl
 have fin:∀ (v:Value) (w':World) (ss:List Int),ss.Perm ks->w'.ownsRow w.heap.size 3 1 v ss.length ((ss.mergeSort (fun x y=>decide (x<=y))).map encZ)->Below w.heap.size w w' ->
   ∃ v1,Ending.returned v=.returned v1/\QY ok w' (Zd (ks.mergeSort fun x y=>decide (x<=y))) v1/\Below w.heap.size w w':=fun v w' ss hp ho hb=>by
  refine ⟨v,rfl,?_,hb⟩;have e1:ss.mergeSort (fun x y=>decide (x<=y))=ks.mergeSort fun x y=>decide (x<=y):=mergeSort_of_perm_i hp
  rw[e1] at ho;have hl2:ss.length=ks.length:=hp.length_eq;have e3:(ks.mergeSort fun x y=>decide (x<=y)).length=ss.length:=by simp[hl2]
  generalize (ks.mergeSort fun x y=>decide (x<=y))=zs at *
  obtain ⟨h1,h2 | ⟨g,cap,cur,h2,h3,h4,h5,h6,h7,h8⟩⟩:=ho
  ·obtain ⟨rfl,h2⟩:=h2
   have:zs=[]:=QLV (by omega)
   subst this;exact .nils _
  ·subst h2
   rw[<- e3];refine Wg zs g cap (by omega) h6 (hnew g h3) fun j z hj=>?_
   have hjl:=(QLO.1 hj).1;have:(cur.toList.take (ss.length*1))[j]?=some (.int .i64 z):=by grind
   rw[QMw,if_pos (by omega)] at this
   simp only[World.cell?,h4];simpa using this
 cases hrep with
 | clo _ _ _ us vs' h1 h2 hf hc =>
   obtain rfl:us=[]:=QLV h1
   obtain ⟨p,rfl⟩:∃ p,vs'=[p]:=by
    match vs',h2 with
    | [v],_=>exact ⟨v,rfl⟩
   have hp:=hc 0 _ p rfl rfl;cases hp with
   | ptr _ b off u hu hx =>
     have hcell:=(hu 0 (by simp)).2.1
     rw[QMV] at hcell;have hbw:b<w.heap.size:=QMD w ⟨b,off,none⟩ hcell;have hm:=hx 0 _ rfl;generalize u 0=u0 at hcell hm;cases hm with
     | mapn =>
       have hk0:ks=[]:=by simpa using hk.symm
       subst hk0;refine (Vy _ _ 0 (by omega) w (Jh (ρ:=Tryz.keys351_ren) { Tryz.keys351 with } Fence.wide 2 trivial rfl b off w hbw hcell)).mono ?_
       grind
     | map _ r es clock hok hr hmr hd hxx =>
       have hks:kvs.length=ks.length:=by simpa using congrArg List.length hk
       have hkey:∀ (i:Nat) (x:MapEntry),es[i]?=some x->∃ n:Int,ks[i]?=some n/\x.key=.int .i64 n:=fun i x hx=>by
        obtain ⟨k,h3,h4⟩:=hmr.keys i x hx;rw[<- QLW,hk,QLW,QLT] at h3;obtain ⟨n,h5,rfl⟩:=h3;exact ⟨n,h5,h4⟩
       have hrd:∀ (i:Nat) (x:MapEntry),es[i]?=some x->∃ n:Int,ks[i]?=some n/\x.key=.int .i64 n/\WideElems.rd Tryz.prog 3 QgW x=some (.int .i64 n,.nil):=fun i x hx=>by
        obtain ⟨n,h3,h4⟩:=hkey i x hx;exact ⟨n,h3,h4,QtJ h4 (hwf n (QL2 h3))⟩
       have hlist:es.toList.map (fun x=>intOf (WideElems.rg Tryz.prog 3 QgW x).1)=ks:=by
        refine List.ext_getElem? fun i=>?_
        rw[QLW];cases hx:es[i]? with
        | none =>
          have:es.size<=i:=by
           grind
          have hz:=hmr.size
          grind
        | some x =>
          obtain ⟨n,h3,h4,h5⟩:=hrd i x hx;rw[Array.getElem?_toList,hx,h3];simp[WideElems.rg,h5,intOf]
       have hown:w.ownsMap Tryz.prog 3 QgW r ks.length (DataW.map ((es.toList.map (WideElems.rg Tryz.prog 3 QgW)).foldr DataW.insert [])):=by
        refine ⟨es,clock,hr,⟨by have:=hmr.size;unfold maxLen;omega,⟨fun x hx=>?_,?_,?_⟩,fun x hx=>?_⟩,by grind,rfl⟩
        ·obtain ⟨i,hi⟩:=QMp hx
         exact hmr.born i x (by simpa using hi)
        ·rw[List.nodup_iff_pairwise_ne] at *
         refine QMZ.2 fun i j hi hj hij heq=>?_
         simp at hi hj heq;have:=hmr.apart i j es[i] es[j] (by simp[hi]) (by simp[hj]) heq
         omega
        ·refine QMZ.2 fun i j hi hj hij heq=>?_
         simp at hi hj heq;obtain ⟨k1,h3,h4⟩:=hmr.keys i es[i] (by simp[hi])
         obtain ⟨k2,h5,h6⟩:=hmr.keys j es[j] (by simp[hj])
         rw[QLT] at h3 h5;obtain ⟨p,h7,rfl⟩:=h3;obtain ⟨q,h8,rfl⟩:=h5;rw[h4,h6] at heq
         have:p.1=q.1:=by
          cases hp1:p.1<;>cases hq1:q.1<;>rw[hp1,hq1] at heq<;>simp[MK.val] at heq |-<;>simp_all
         grind
        ·obtain ⟨i,hi⟩:=QMp hx
         grind
       have hperm:(intKeys (DataW.map ((es.toList.map (WideElems.rg Tryz.prog 3 QgW)).foldr DataW.insert []))).Perm ks:=by
        have:=(sorted_perm (es.toList.map (WideElems.rg Tryz.prog 3 QgW))).map fun p=>intOf p.1
        rw[List.map_map] at this;refine this.trans ?_;rw[show es.toList.map ((fun p=>intOf p.1)∘WideElems.rg Tryz.prog 3 QgW)=ks from hlist]
       have hsz:=hown.size_le;refine (Vy _ _ _ (by omega) w (UB (ρ:=Tryz.keys351_ren) { Tryz.keys351 with } Fence.wide 2 trivial rfl (by omega) b off r _ _ w hbw hcell hown)).mono ?_
       grind
end
end Go.Pf
namespace Go.Pf
open Go Go.Ev Go.Proofs Go.RowKit
variable {K:World->Prop} (hK:∀ w w',K w->Below w.heap.size w w'->K w')
set_option maxRecDepth 8000
include hK
theorem JL (x a b:Int):Ev.Good Tryz.prog K 95 [.int .i64 x,.int .i64 a,.int .i64 b] (.bool (decide (inR x a b))):=by
 refine Qb hK QCd (by simp) ?_
 by_cases h:a<=x<;>simp[inR,h]
theorem YW (x a b:Int):Ev.Good Tryz.prog K 117 [.int .i64 x,.int .i64 a,.int .i64 b] (.bool (decide (inR x a b))):=by
 refine Qb hK QzH (by simp) ?_
 simp;exact cK (Xx hK x a b) (by simp)
theorem Qwj (n:Int):Ev.Good Tryz.prog K 215 [.int .i64 n] (.bool (decide (n=1\/n=2))):=by
 refine Qb hK QyN (by simp) ?_
 by_cases h:n=1<;>simp[h]
theorem QwM (n:Int):Ev.Good Tryz.prog K 118 [.int .i64 n] (.bool (decide (n=1\/n=2))):=by
 refine Qb hK QzG (by simp) ?_
 by_cases h:n=1<;>simp[h]
theorem Qwl (r:Rod):Ev.Good Tryz.prog K 213 [.agg (roC r)] (.bool (decide (J3 r))):=by
 refine Qb hK QyP (by simp) ?_
 simp;refine cK (JL hK _ _ _) ?_;by_cases h1:inR r.long 1 9999
 ·have h1':=h1
  simp only[inR] at h1';simp[h1,J3,QcX];refine ⟨by omega,cK (JL hK _ _ _) ?_⟩
  by_cases h2:inR r.wear 0 (min 9 (r.long-1))
  ·simp[h2]
   exact cK (JL hK _ _ _) (by simp)
  ·simp[h2]
 ·simp[h1,J3]
theorem Qwk (p:Zm) (x:Qo) (hl:p.rods.length<=1000):Ev.Good Tryz.prog K 214 [.agg (reC x),.ptr (puC p)] (.bool (decide (Z3 p.rods.length x))):=by
 refine Qb hK QyO (by simp) ?_
 simp;refine cK (Qwj hK _) ?_;by_cases h1:x.whn=1\/x.whn=2
 ·simp[h1,Z3]
  intro _;refine ⟨by omega,cK (JL hK _ _ _) ?_⟩
  by_cases h2:inR x.rod 0 ((p.rods.length:Int)-1)
  ·simp[h2]
   refine cK (JL hK _ _ _) ?_;by_cases h3:inR x.count 0 99
   ·simp[h3]
    refine cK (JL hK _ _ _) ?_;by_cases h4:inR x.rest 0 9999
    ·simp[h4]
     refine cK (JL hK _ _ _) ?_;by_cases h5:inR x.off 0 99
     ·simp[h5]
      refine cK (JL hK _ _ _) ?_;by_cases h6:inR x.wlo (-50) x.whi
      ·simp[h6]
      ·simp[h6]
     ·simp[h5]
    ·simp[h4]
   ·simp[h3]
  ·simp[h2]
 ·simp[h1,Z3]
theorem Qv0 (r:Qo) (g:FuncId) (cs:List IV) (q:Qo->Bool) (hg:Ev.Good Tryz.prog K g ([.agg (reC r)]++cs) (.bool (q r))) (hc:callee Tryz.prog g=true):Ev.Good Tryz.prog K 253 [.agg (reC r),.ptr [.clo g [] cs]] (.bool (!q r)):=by
 refine Qb hK Qyq (by simp) ?_
 simp;exact ⟨hc,cK hg (by simp)⟩
theorem QrC (r:Rod) (g:FuncId) (q:Rod->Bool) (hg:Ev.Good Tryz.prog K g [.agg (roC r)] (.bool (q r))) (hc:callee Tryz.prog g=true):Ev.Good Tryz.prog K 251 [.agg (roC r),.ptr [.fn g]] (.bool (!q r)):=by
 refine Qb hK Qys (by simp) ?_
 simp;exact ⟨hc,cK hg (by simp)⟩
theorem QvY (l:List Rod) (g:FuncId) (cs:List IV) (p:Rod->Bool) (hg:∀ x∈l,Ev.Good Tryz.prog K g ([.agg (roC x)]++cs) (.bool (p x))) (hc:callee Tryz.prog g=true) (hl:l.length<=1000):Ev.Good Tryz.prog K 299 [qd l,.clo g [] cs] (.int .i64 (fi p l)):=by
 refine Qb hK Qya (by simp) ?_
 simp;intro _;refine Qj (fun i=>[(0,AV.iv (qd l)),(1,AV.iv (.clo g [] cs)),(7,AV.iv (.int .i64 l.length)),(8,AV.iv (IV.int IntKind.i64 (i:Nat)))]) (fun _=>[]) l.length (fun i=>∀ x∈l.take i,p x=false) (by simp) ?_ ?_
 ·intro h
  rw[Qa Qik.eq_1];rw[QLU] at h;simp[UQ p l h]
 ·intro i hi h ih
  rw[Qa Qik.eq_1];have hgi:=hg l[i] (QLR hi);simp[hi] at ih |-;refine ⟨hc,cK hgi ?_⟩;by_cases hp:p l[i]=true
  ·simp[hp,Qh5 p l i hi hp h]
  ·have hp':p l[i]=false:=by simpa using hp
   simp[hp'];refine ⟨by omega,ih ?_⟩
   rw[QLM hi]
   grind
theorem QvX (l:List Qo) (g:FuncId) (cs:List IV) (p:Qo->Bool) (hg:∀ x∈l,Ev.Good Tryz.prog K g ([.agg (reC x)]++cs) (.bool (p x))) (hc:callee Tryz.prog g=true) (hl:l.length<=1000):Ev.Good Tryz.prog K 300 [Y7 l,.clo g [] cs] (.int .i64 (fi p l)):=by
 refine Qb hK Qx9 (by simp) ?_
 simp;intro _;refine Qj (fun i=>[(0,AV.iv (Y7 l)),(1,AV.iv (.clo g [] cs)),(7,AV.iv (.int .i64 l.length)),(8,AV.iv (IV.int IntKind.i64 (i:Nat)))]) (fun _=>[]) l.length (fun i=>∀ x∈l.take i,p x=false) (by simp) ?_ ?_
 ·intro h
  rw[Qa Qij.eq_1];rw[QLU] at h;simp[UQ p l h]
 ·intro i hi h ih
  rw[Qa Qij.eq_1];have hgi:=hg l[i] (QLR hi);simp[hi] at ih |-;refine ⟨hc,cK hgi ?_⟩;by_cases hp:p l[i]=true
  ·simp[hp,Qh5 p l i hi hp h]
  ·have hp':p l[i]=false:=by simpa using hp
   simp[hp'];refine ⟨by omega,ih ?_⟩
   rw[QLM hi]
   grind
theorem Qv2 (l:List Rod) (g:FuncId) (cs:List IV) (p:Rod->Bool) (hg:∀ x∈l,Ev.Good Tryz.prog K g ([.agg (roC x)]++cs) (.bool (p x))) (hc:callee Tryz.prog g=true) (hl:l.length<=1000):Ev.Good Tryz.prog K 250 [qd l,.clo g [] cs] (.bool (l.any p)):=by
 refine Qb hK Qyt (by simp) ?_
 simp;refine cK (QvY hK l g cs p hg hc hl) ?_;simp[VR]
theorem Qv1 (l:List Qo) (g:FuncId) (cs:List IV) (p:Qo->Bool) (hg:∀ x∈l,Ev.Good Tryz.prog K g ([.agg (reC x)]++cs) (.bool (p x))) (hc:callee Tryz.prog g=true) (hl:l.length<=1000):Ev.Good Tryz.prog K 252 [Y7 l,.clo g [] cs] (.bool (l.any p)):=by
 refine Qb hK Qyr (by simp) ?_
 simp;refine cK (QvX hK l g cs p hg hc hl) ?_;simp[VR]
theorem Qwi (l:List Rod) (g:FuncId) (q:Rod->Bool) (hg:∀ x,Ev.Good Tryz.prog K g [.agg (roC x)] (.bool (q x))) (hc:callee Tryz.prog g=true) (hl:l.length<=1000):Ev.Good Tryz.prog K 216 [qd l,.fn g] (.bool (l.all q)):=by
 refine Qb hK QyM (by simp) ?_
 simp;refine cK (Qv2 hK l 251 [.ptr [.fn g]] (fun x=>!q x) (fun x _=>QrC hK x g q (hg x) hc) (by kernel_rfl) hl) ?_
 simp[List.all_eq_not_any_not]
theorem Qwh (l:List Qo) (g:FuncId) (cs:List IV) (q:Qo->Bool) (hg:∀ x,Ev.Good Tryz.prog K g ([.agg (reC x)]++cs) (.bool (q x))) (hc:callee Tryz.prog g=true) (hl:l.length<=1000):Ev.Good Tryz.prog K 217 [Y7 l,.clo g [] cs] (.bool (l.all q)):=by
 refine Qb hK QyL (by simp) ?_
 simp;refine cK (Qv1 hK l 253 [.ptr [.clo g [] cs]] (fun x=>!q x) (fun x _=>Qv0 hK x g cs q (hg x) hc) (by kernel_rfl) hl) ?_
 simp[List.all_eq_not_any_not]
theorem Qn1 (p:Zm) (hl:p.rods.length<=1000) (hx:p.reads.length<=1000):Ev.Good Tryz.prog K 131 [puV p] (.int .i64 (if OkU p then 0 else 40)):=by
 refine Qb hK Qzx (by simp) ?_
 have no:∀ q:Prop,(OkU p->q)->¬ q->¬ OkU p:=fun q h1 h2 h=>h2 (h1 h)
 simp;refine cK (JL hK _ _ _) ?_;by_cases h1:inR p.iron 0 50
 ·simp[h1]
  refine cK (JL hK _ _ _) ?_;by_cases h2:inR p.glo 1 p.ghi
  ·simp[h2]
   by_cases h3:p.ghi<=99999
   ·have h3':¬ 99999<p.ghi:=by omega
    simp[h3'];intro _;refine cK (JL hK _ _ _) ?_;by_cases h4:inR p.wrong 0 8
    ·simp[h4]
     intro _;by_cases h5:p.rods.length<=4
     ·have h5':¬ (4:Int)<p.rods.length:=by omega
      simp[h5'];intro _;by_cases h6:p.reads.length<=8
      ·have h6':¬ (8:Int)<p.reads.length:=by omega
       simp[h6'];intros;refine cK (Qwi hK p.rods 213 (fun r=>decide (J3 r)) (Qwl hK) (by kernel_rfl) hl) ?_
       by_cases h7:∀ r∈p.rods,J3 r
       ·have h7':p.rods.all (fun r=>decide (J3 r))=true:=by simpa using h7
        simp only[h7'];simp;refine cK (Qwh hK p.reads 214 [.ptr (puC p)] (fun x=>decide (Z3 p.rods.length x)) (fun x=>Qwk hK p x hl) (by kernel_rfl) hx) ?_
        by_cases h8:∀ x∈p.reads,Z3 p.rods.length x
        ·have h8':p.reads.all (fun x=>decide (Z3 p.rods.length x))=true:=by simpa using h8
         have hok:OkU p:=⟨h1,h2,h3,h4,h5,h6,h7,h8⟩;simp only[h8'];simp[hok]
        ·have h8':p.reads.all (fun x=>decide (Z3 p.rods.length x))=false:=by simpa using h8
         have:=no _ (fun h=>h.reads) h8
         simp only[h8'];simp[this]
       ·have h7':p.rods.all (fun r=>decide (J3 r))=false:=by simpa using h7
        have:=no _ (fun h=>h.rods) h7
        simp only[h7'];simp[this]
      ·have h6':(8:Int)<p.reads.length:=by omega
       have:=no _ (fun h=>h.xlen) h6
       grind
     ·have h5':(4:Int)<p.rods.length:=by omega
      have:=no _ (fun h=>h.rlen) h5
      grind
    ·have:=no _ (fun h=>h.wrong) h4
     simp[h4,this]
   ·have h3':99999<p.ghi:=by omega
    have:=no _ (fun h=>h.most) h3
    grind
  ·have:=no _ (fun h=>h.guess) h2
   simp[h2,this]
 ·have:=no _ (fun h=>h.iron) h1
  simp[h1,this]
omit hK
theorem QcW {a b A B:Int} (h0:0<=a) (h1:a<=A) (h2 : -B<=b) (h3:b<=B) : -(A*B)<=a*b/\a*b<=A*B:=by
 have hB:0<=B:=by omega
 have hA:0<=A:=by omega
 have e1:a*b<=a*B:=QME h3 h0;have e2:a*B<=A*B:=QMm h1 hB;have e3:a*(-B)<=a*b:=QME h2 h0
 grind
theorem Qum {p:Zm} {x:Qo} {len rl t:Int} (hp:OkU p) (hx:Z3 p.rods.length x) (hlen:0<=len/\len<=99999) (hrl:0<=rl/\rl<=9999) (ht : -50<=t/\t<=50) :
  (0<=x.count*rl/\x.count*rl<=1000000)/\(-2500<=p.iron*t/\p.iron*t<=2500)/\(-2500<=Qad p x*t/\Qad p x*t<=2500) /\
  (-200000000000<=len*(1000000+p.iron*t)/\len*(1000000+p.iron*t)<=200000000000) /\
  (-4000000000000<=(x.count*rl+x.rest)*(1000000+Qad p x*t)/\(x.count*rl+x.rest)*(1000000+Qad p x*t)<=4000000000000)/\(0<=x.off*1000000/\x.off*1000000<=99000000):=by
 obtain ⟨hw,hr,hc,hrest,hoff,hwl,hwh⟩:=hx;have hi:=hp.iron;simp only[inR] at *;have hlt:x.rod.toNat<p.rods.length:=by omega
 have hg:0<=Qad p x/\Qad p x<=50:=by
  unfold Qad;rw[List.getD_eq_getElem?_getD,QLN hlt];have:=(hp.rods _ (QLR hlt)).2.2;simpa[inR] using this
 have b1:=QcW hc.1 hc.2 (b:=rl) (B:=9999) (by omega) (by omega)
 have b1':=QMN hc.1 hrl.1;have b2:=QcW hi.1 hi.2 (b:=t) (B:=50) (by omega) (by omega)
 have b3:=QcW hg.1 hg.2 (b:=t) (B:=50) (by omega) (by omega)
 have b4:=QcW hlen.1 hlen.2 (b:=1000000+p.iron*t) (B:=1002500) (by omega) (by omega)
 have b5:=QcW (a:=x.count*rl+x.rest) (A:=1000000) (by omega) (by omega) (b:=1000000+Qad p x*t) (B:=1002500) (by omega) (by omega)
 omega
theorem QqY (p:Zm) (x:Qo) (len rl t:Int):QtO p x len rl t=decide (max (QAm p x len rl t) (-QAm p x len rl t)<=x.off*1000000):=by
 unfold QtO
 grind
theorem Qmh {n:Nat} {x:Qo} (hx:Z3 n x):x.wlo+Qg1 x=x.whi+1:=by
 obtain ⟨_,_,_,_,_,h,_⟩:=hx;simp only[inR] at h;unfold Qg1;omega
theorem QmJ {p:Zm} {x:Qo} {len rl:Int} (h:∀ j:Nat,j<Qg1 x->QtO p x len rl (x.wlo+j)=false):qL p x len rl=false:=by
 unfold qL
 grind
theorem QmK {p:Zm} {x:Qo} {len rl:Int} (j:Nat) (hj:j<Qg1 x) (h:QtO p x len rl (x.wlo+j)=true):qL p x len rl=true :=
 List.any_eq_true.2 ⟨j,QMi.2 hj,h⟩
include hK
theorem QwL (p:Zm) (n:Int) (hl:p.rods.length<=1000):Ev.Good Tryz.prog K 119 [puV p,.int .i64 n] (.bool (decide (inR n 0 ((p.rods.length:Int)-1)))):=by
 refine Qb hK QzF (by simp) ?_
 simp;intro _;refine ⟨by omega,cK (YW hK _ _ _) ?_⟩
 simp
theorem QvU (p:Zm) (x:Qo) (len rl:Int) (hp:OkU p) (hx:Z3 p.rods.length x) (hlen:0<=len/\len<=99999) (hrl:0<=rl/\rl<=9999) :
  Ev.Good Tryz.prog K 350 [puV p,.agg (reC x),.int .i64 len,.int .i64 rl] (.bool (qL p x len rl)):=by
 refine Qb hK QxM (by simp) ?_
 have h1:=hx.2.1;have h3:=hx.2.2.2.1;have hwl:=hx.2.2.2.2.2.1;have hwh:=hx.2.2.2.2.2.2;simp only[inR] at h1 h3 hwl;have b0:=(Qum hp hx hlen hrl (t:=0) (by omega)).1
 have hlt:x.rod.toNat<p.rods.length:=by omega
 have hwp:=Qmh hx;simp;refine ⟨by omega,by omega,?_⟩
 have e0:AV.iv (.int .i64 x.wlo)=AV.iv (.int .i64 (x.wlo+((0:Nat):Int))):=by simp
 rw[e0];refine Qj (fun i=>[(2,AV.iv (.int .i64 len)),(4,AV.iv (.ptr (puC p))),(5,AV.iv (.ptr (reC x))),(9,AV.iv (.int .i64 (x.count*rl+x.rest))),(10,AV.iv (.int .i64 (x.wlo+(i:Nat))))]) (fun _=>[]) (Qg1 x) (fun i=>∀ j:Nat,j<i->QtO p x len rl (x.wlo+j)=false) (by simp) ?_ ?_
 ·intro h
  have hn:=QmJ h;rw[Qa Qig.eq_1];have:¬ x.wlo+((Qg1 x:Nat):Int)<=x.whi:=by omega
  simp[this,hn]
 ·intro i hi h ih
  rw[Qa Qig.eq_1];have hle:x.wlo+(i:Int)<=x.whi:=by omega
  obtain ⟨b1,b2,b3,b4,b5,b6⟩:=Qum hp hx hlen hrl (t:=x.wlo+(i:Int)) (by omega)
  have hgr:p.rods[x.rod.toNat].grow=Qad p x:=by simp[Qad,hlt]
  have hab:=QqY p x len rl (x.wlo+(i:Int));have her:QAm p x len rl (x.wlo+(i:Int))=len*(1000000+p.iron*(x.wlo+i))-(x.count*rl+x.rest)*(1000000+Qad p x*(x.wlo+i)):=rfl;generalize hE:QAm p x len rl (x.wlo+(i:Int))=E at *;by_cases hh:QtO p x len rl (x.wlo+(i:Int))=true
  ·have hr:=QmK i hi hh
   rw[hh] at hab
   have hm:(if E < -E then -E else E)<=x.off*1000000:=by
    grind
   simp[hle,hlt,hgr,hr];omega
  ·have hf:QtO p x len rl (x.wlo+(i:Int))=false:=by simpa using hh
   rw[hf] at hab
   have hm:¬ (if E < -E then -E else E)<=x.off*1000000:=by
    grind
   have ih:=ih (fun j hj=>by
    grind)
   simp at ih;simp[hle,hlt,hgr]
   grind
theorem QtW (p:Zm) (hl:p.rods.length<=1000) (hx:p.reads.length<=1000):Ev.Good Tryz.prog K 56 [puV p] (.int .i64 (if OkU p then 0 else 40)):=by
 refine Qb hK QCP (by simp) ?_
 have no:∀ q:Prop,(OkU p->q)->¬ q->¬ OkU p:=fun q h1 h2 h=>h2 (h1 h)
 simp;refine cK (YW hK _ _ _) ?_;by_cases h1:inR p.iron 0 50
 ·simp[h1]
  refine cK (YW hK _ _ _) ?_;by_cases h2:inR p.glo 1 p.ghi
  ·simp[h2]
   by_cases h3:p.ghi<=99999
   ·have h3':¬ 99999<p.ghi:=by omega
    simp[h3'];intro _;refine cK (YW hK _ _ _) ?_;by_cases h4:inR p.wrong 0 8
    ·simp[h4]
     intro _;by_cases h5:p.rods.length<=4
     ·have h5':¬ (4:Int)<p.rods.length:=by omega
      simp[h5'];intro _;by_cases h6:p.reads.length<=8
      ·have h6':¬ (8:Int)<p.reads.length:=by omega
       simp[h6'];intros;refine Qj (fun i=>[(1,AV.iv (.ptr (puC p))),(3,AV.iv (IV.int IntKind.i64 (i:Nat)))]) (fun _=>[]) p.rods.length (fun i=>∀ r∈p.rods.take i,J3 r) (by simp) ?_ ?_
       ·intro h7
        rw[QLU] at h7;rw[Qa Qpj.eq_1];simp;intro _;refine Qj (fun i=>[(1,AV.iv (.ptr (puC p))),(5,AV.iv (IV.int IntKind.i64 (i:Nat)))]) (fun _=>[]) p.reads.length (fun i=>∀ x∈p.reads.take i,Z3 p.rods.length x) (by simp) ?_ ?_
        ·intro h8
         rw[QLU] at h8;rw[Qa Qpi.eq_1];have hok:OkU p:=⟨h1,h2,h3,h4,h5,h6,h7,h8⟩;simp[hok]
        ·intro i hi h8 ih
         have bad:¬ Z3 p.rods.length p.reads[i]->¬ OkU p:=fun hb hh=>hb (hh.reads _ (QLR hi))
         have ih:=fun hr:Z3 p.rods.length p.reads[i]=>ih (by
          rw[QLM hi]
          grind)
         rw[Qa Qpi.eq_1];generalize hX:p.reads[i]=X at *;simp[hi,hX] at ih |-;intros;refine cK (QwM hK X.whn) ?_;by_cases k1:X.whn=1\/X.whn=2
         ·simp[k1]
          refine cK (by simpa using QwL hK p X.rod hl) ?_
          by_cases k2:inR X.rod 0 ((p.rods.length:Int)-1)
          ·simp[k2]
           refine cK (YW hK _ _ _) ?_;by_cases k3:inR X.count 0 99
           ·simp[k3]
            refine cK (YW hK _ _ _) ?_;by_cases k4:inR X.rest 0 9999
            ·simp[k4]
             refine cK (YW hK _ _ _) ?_;by_cases k5:inR X.off 0 99
             ·simp[k5]
              refine cK (YW hK _ _ _) ?_;by_cases k6:inR X.wlo (-50) X.whi
              ·simp[k6]
               by_cases k7:X.whi<=50
               ·have ih:=ih ⟨k1,k2,k3,k4,k5,k6,k7⟩
                grind
               ·have:=bad (fun hh=>k7 hh.2.2.2.2.2.2)
                grind
              ·simp[k6,bad (fun hh=>k6 hh.2.2.2.2.2.1)]
             ·simp[k5,bad (fun hh=>k5 hh.2.2.2.2.1)]
            ·simp[k4,bad (fun hh=>k4 hh.2.2.2.1)]
           ·simp[k3,bad (fun hh=>k3 hh.2.2.1)]
          ·simp[k2,bad (fun hh=>k2 hh.2.1)]
         ·simp[k1,bad (fun hh=>k1 hh.1)]
       ·intro i hi h7 ih
        have bad:¬ J3 p.rods[i]->¬ OkU p:=fun hb hh=>hb (hh.rods _ (QLR hi))
        have ih:=fun hr:J3 p.rods[i]=>ih (by
         rw[QLM hi]
         grind)
        rw[Qa Qpj.eq_1];generalize hX:p.rods[i]=X at *;simp[hi,hX] at ih |-;intros;refine cK (YW hK _ _ _) ?_;by_cases k1:inR X.long 1 9999
        ·have k1':=k1
         simp only[inR] at k1';simp[k1];have hmin:(if X.long-1<9 then X.long-1 else 9)=min 9 (X.long-1):=by split<;>omega
         refine ⟨by omega,cK (by simpa[hmin] using YW hK X.wear 0 (min 9 (X.long-1))) ?_⟩
         by_cases k2:inR X.wear 0 (min 9 (X.long-1))
         ·simp[k2]
          refine cK (YW hK _ _ _) ?_;by_cases k3:inR X.grow 0 50
          ·have ih:=ih ⟨k1,k2,k3⟩
           simp[k3]
           grind
          ·simp[k3,bad (fun hh=>k3 hh.2.2)]
         ·simp[k2,bad (fun hh=>k2 hh.2.1)]
        ·simp[k1,bad (fun hh=>k1 hh.1)]
      ·have h6':(8:Int)<p.reads.length:=by omega
       have:=no _ (fun h=>h.xlen) h6
       grind
     ·have h5':(4:Int)<p.rods.length:=by omega
      have:=no _ (fun h=>h.rlen) h5
      grind
    ·have:=no _ (fun h=>h.wrong) h4
     simp[h4,this]
   ·have h3':99999<p.ghi:=by omega
    have:=no _ (fun h=>h.most) h3
    grind
  ·have:=no _ (fun h=>h.guess) h2
   simp[h2,this]
 ·have:=no _ (fun h=>h.iron) h1
  simp[h1,this]
@[simp] def tuV (t:TrU):List IV:=[.int .i64 t.bef,.int .i64 t.aft,Zd t.rods]
omit hK
def QH0 (p:Zm) (t:TrU) (x:Qo):Bool:=!qL p x (if x.whn=2 then t.aft else t.bef) (t.rods.getD x.rod.toNat 0)
structure QLD (p:Zm) (t:TrU):Prop where
 bef:0<=t.bef/\t.bef<=99999
 aft:0<=t.aft/\t.aft<=99999
 len:t.rods.length=p.rods.length
 rods:∀ r∈t.rods,0<=r/\r<=9999
theorem QaP {p:Zm} (hp:OkU p) {w:List Int} (hw:w∈Xf p.rods):w.length=p.rods.length/\∀ r∈w,0<=r/\r<=9999:=by
 have hl:=Qe1 _ _ hw;refine ⟨hl,fun r hr=>?_⟩
 obtain ⟨i,hi,rfl⟩:=QMz hr;have hb:=QdB _ _ hw i (by omega)
 have hr:=hp.rods _ (QLR (show i<p.rods.length by omega))
 simp only[J3,inR] at hr
 grind
theorem QwZ {p:Zm} (hp:OkU p) {t:TrU} (ht:t∈Qz4 p):QLD p t:=by
 simp only[Qz4,QMl,QL5] at ht;obtain ⟨b,hb,a,ha,w,hw,rfl⟩:=ht;have hb:=JG.1 hb;have ha:=JG.1 ha;have hg:=hp.guess;have hm:=hp.most;simp only[inR] at hg;obtain ⟨h1,h2⟩:=QaP hp hw;exact ⟨⟨by simp only;omega,by simp only;omega⟩,⟨by simp only;omega,by simp only;omega⟩,h1,h2⟩
include hK
omit hK
theorem W6:∀ l:List Rod,(∀ r∈l,J3 r)->(Xf l).length<=10 ^ l.length
 | [],_=>by simp[Xf]
 | r::rs,h=>by
   have ih:=W6 rs fun x hx=>h x (by simp[hx])
   have hr:=(h r (by simp)).2.1
   simp only[inR] at hr;simp only[Xf,List.length_flatMap,QL6]
   have:((VO (r.long-r.wear) r.long).map fun _=>(Xf rs).length).sum<=10*10 ^ rs.length:=by
    rw[List.map_const',List.sum_replicate_nat];refine Nat.mul_le_mul ?_ ih;simp[VO];omega
   grind
def QtK (first:List Int) (lo:Int) (rs:List Rod) (i:Nat):List (List Int):=(Xf rs).map fun w=>first++(lo+i)::w
theorem QgZ (first:List Int) (r:Rod) (rs:List Rod):(Xf (r::rs)).map (first++·)=acc (QtK first (r.long-r.wear) rs) (r.long-(r.long-r.wear)+1).toNat:=by
 simp only[Xf,VO,acc,QNc,List.flatMap_map,List.map_map];rfl
include hK
omit hK
def QBj (p:Zm):Nat:=(p.ghi-p.glo+1).toNat
def Qvk (p:Zm) (b:Int) (j:Nat):List TrU:=(Xf p.rods).map fun w=>⟨b,p.glo+j,w⟩
def QFb (p:Zm) (i:Nat):List TrU:=acc (Qvk p (p.glo+i)) (QBj p)
noncomputable def uE (p:Zm) (is:Bool):Int:=if OkU p then (if is=true then (if Um p=[] then 3 else 0) else 1) else 40
def uL (p:Zm) (is:Bool):List TrU:=if OkU p/\is=true then Um p else []
include hK
omit hK
def QBi (part:Int) (t:TrU):Bool:=XI t.bef t.aft part
def Qc9 (T:List TrU) (part:Int):Int:=if T.all (QBi part) then 1 else if T.any (QBi part) then 3 else 2
theorem Qgc (p:Zm) (part:Int) (hp:0<=part):Qc9 (Um p) part=Qc8 p part:=(Qnx p part hp).symm
def QlV (T:List TrU):Option Nat:=(List.range 1001).find? fun i=>decide (Qc9 T (i:Nat)=1)
def Qvc (T:List TrU) (rod:Nat):List Int:=T.map fun t=>t.rods.getD rod 0
theorem U6 {α:Type} (f:α->Int) (l:List α) (i:Nat) (h:i<l.length):span ((l.take (i+1)).map f)=if i=0 then (f l[i],f l[i]) else (min (span ((l.take i).map f)).1 (f l[i]),max (span ((l.take i).map f)).2 (f l[i])):=by
 rw[QLM h,QL8,QM2,Qa2];cases i with
 | zero=>simp
 | succ i =>
   have:¬ (l.take (i+1)).map f=[]:=by
    intro c;have:=congrArg List.length c
    grind
   grind
include hK
omit hK in
theorem QE0 {p:Zm} {is:Bool} {t:TrU} (h:t∈uL p is):OkU p/\is=true/\t∈Um p:=by
 unfold uL at h
 grind
omit hK in
theorem QAz {p:Zm} {is:Bool} {t:TrU} (h:t∈uL p is):(0<=t.bef/\t.bef<=99999)/\(0<=t.aft/\t.aft<=99999):=by
 obtain ⟨hp,_,ht⟩:=QE0 h;have:=QwZ hp (QMr.1 ht).1;exact ⟨this.bef,this.aft⟩
omit hK in
theorem QaV {p:Zm} {is:Bool} (h:uE p is=0):OkU p/\is=true/\uL p is=Um p/\Um p≠[]:=by
 unfold uE at h;split at h
 ·rename_i hp
  cases is
  ·simp at h
  ·simp only[if_true] at h
   split at h
   ·cases h
   ·rename_i hne
    exact ⟨hp,rfl,by simp[uL,hp],hne⟩
 ·cases h
structure QHY (p:Zm):Prop where
 rods:p.rods.length<=1000
 reads:p.reads.length<=1000
 all:OkU p->(Qz4 p).length<=1000000
def Qcq (n:Int):Bool:=decide (inR n 0 1000)
def QqH (p:Zm) (n:Int):Bool:=decide (inR n 0 ((p.rods.length:Int)-1))
noncomputable def Wj (p:Zm) (part:Int):Int:=if uE p (Qcq part)=0 then Qc9 (Um p) part else 0
noncomputable def Wk (p:Zm):Int × Int:=if uE p true=0 then (match QlV (Um p) with | some n=>((n:Int),0) | none=>(0,3)) else (0,uE p true)
noncomputable def Qd5 (p:Zm) (rod:Int):List Int:=if uE p (QqH p rod)=0 then YF (Qvc (Um p) rod.toNat) ((p.rods.getD rod.toNat ⟨0,0,0⟩).long-(p.rods.getD rod.toNat ⟨0,0,0⟩).wear) (p.rods.getD rod.toNat ⟨0,0,0⟩).long else []
omit hK
@[simp] def Qhs (w:List Int):List IV:=[.int .i64 (w.getD 0 0),.int .i64 (w.getD 1 0),.int .i64 (w.getD 2 0),.int .i64 (w.getD 3 0)]
def Qf6 (w:List Int):List IV:=[.agg (Qhs w)]
def q0 {α:Type} (pc:Nat->List α) (i n:Nat):List α:=((List.range n).drop i).flatMap pc
theorem V7 {α:Type} (pc:Nat->List α) {i n:Nat} (h:i<n):q0 pc i n=pc i++q0 pc (i+1) n:=by
 unfold q0;rw[QMq (by simpa using h),QML]
 simp
theorem Wf {α:Type} (pc:Nat->List α) (n:Nat):q0 pc n n=[]:=by
 unfold q0;rw[QMA (by simp)]
 rfl
theorem QmL {α:Type} (pc:Nat->List α) (n:Nat):q0 pc 0 n=acc pc n:=by simp[q0,acc]
def QaQ (p:Zm) (first:List Int):List (List IV):=((Xf (p.rods.drop first.length)).map (first++·)).map Qf6
theorem QkL {p:Zm} {first:List Int} (h:first.length<p.rods.length):QaQ p first=q0 (fun i:Nat=>QaQ p (first++[p.rods[first.length].long-p.rods[first.length].wear+i])) 0 (p.rods[first.length].wear+1).toNat:=by
 have e1:p.rods.drop first.length=p.rods[first.length]::p.rods.drop (first.length+1):=QMq h
 have e2:(p.rods[first.length].long-(p.rods[first.length].long-p.rods[first.length].wear)+1).toNat=(p.rods[first.length].wear+1).toNat:=by congr 1;omega
 rw[QmL];unfold QaQ;rw[e1,QgZ,e2];simp only[acc,QNc,QL3,QMa,QMs,QL9]
 congr 1
 funext i
 simp[QtK,Function.comp_def]
include hK
theorem Qno (p:Zm) (hp:OkU p):∀ (n:Nat) (first:List Int),first.length+n=p.rods.length->Qak Tryz.prog K 301 [puV p,.int .i64 (first.length:Nat),.agg (Qhs first)] [] (QaQ p first) (fun b=>.bool b)
 | 0,first,hn=>by
   intro s b s' hf;refine QO QpE (by simp) hf.v rfl ?_
   have e1:p.rods.drop first.length=[]:=QMA (by omega)
   have e2:first.length=p.rods.length:=by omega
   have hw:QaQ p first=[Qf6 first]:=by simp[QaQ,e1,Xf]
   rw[hw] at hf;simp[e2];intros;cases hf with
   | stop _ _ _ _ hg =>
     refine Za (by simpa[Qf6] using hg) rfl ?_
     simp
   | next _ _ _ s1 _ _ hg hr =>
     cases hr;refine Za (by simpa[Qf6] using hg) rfl ?_
     simp
 | n+1,first,hn=>by
   intro s b s' hf;refine QO QpE (by simp) hf.v rfl ?_
   have hlt:first.length<p.rods.length:=by omega
   have hne:¬ (first.length:Int)=p.rods.length:=by omega
   have h4:first.length<4:=by have:=hp.rlen;omega
   have hro:=hp.rods _ (QLR hlt);obtain ⟨r1,r2,r3⟩:=hro;simp only[inR] at r1 r2 r3;rw[QkL hlt] at hf
   have ih:∀ i:Nat,Qak Tryz.prog K 301 [puV p,.int .i64 (first.length+1:Nat),.agg (Qhs (first++[p.rods[first.length].long-p.rods[first.length].wear+i]))] [] (QaQ p (first++[p.rods[first.length].long-p.rods[first.length].wear+i])) (fun b=>.bool b):=fun i=>by
    have:=Qno p hp n (first++[p.rods[first.length].long-p.rods[first.length].wear+(i:Int)]) (by simp;omega)
    simpa using this
   generalize hR:p.rods[first.length]=R at *
   generalize hpc:(fun i:Nat=>QaQ p (first++[R.long-R.wear+i]))=pc at *
   have ih:∀ i:Nat,Qak Tryz.prog K 301 [puV p,.int .i64 (first.length+1:Nat),.agg (Qhs (first++[R.long-R.wear+i]))] [] (pc i) (fun b=>.bool b):=fun i=>by grind
   obtain ⟨N,hN⟩:∃ N,N=(R.wear+1).toNat:=⟨_,rfl⟩
   rw[<- hN] at hf;have hNv:(N:Int)=R.wear+1:=by omega
   clear hpc hn hN
   match first,h4,hlt,hne,hR,ih with
   | [],_,hlt,hne,hR,ih =>
     have hM:0<p.rods.length:=by simpa using hlt
     have hR0:p.rods[0]'hM=R:=hR;have hne':¬ (0:Int)=p.rods.length:=by omega
     simp[hM,hR0,hne']
     (repeat' first | omega | (with_reducible apply And.intro) | intro _)
     refine Yr N (fun k e o=>∃ si,e=[(1,AV.iv (.int .i64 (([]:List Int).length:Nat))),(3,AV.cb 0),(4,AV.iv (.ptr (puC p))),(6,AV.loc 6 0),(9,AV.loc 9 0)] /\
      o=[(0,.ext si),(6,.box ((Qhs ([]++[R.long-R.wear+(k:Int)])).map AV.iv)),(9,.box [.iv (.int .i64 R.long),.iv (.int .i64 R.wear),.iv (.int .i64 R.grow)])]/\ZT Tryz.prog K (q0 pc k N) si b s') ?_ ?_ _ _ ⟨s,by simp,by simp,by simpa using hf⟩
     ·rintro e o ⟨si,rfl,rfl,hfd⟩
      rw[Wf] at hfd;cases hfd;have q:¬ R.long-R.wear+(N:Int)<=R.long:=by omega
      rw[Qa Vi.eq_1];simp[q]
      try (intros;omega)
     ·rintro k e o hk ⟨si,rfl,rfl,hfd⟩ ihl
      rw[V7 pc hk] at hfd;have q:R.long-R.wear+(k:Int)<=R.long:=by omega
      have q3:R.long-R.wear+((k:Int)+1)=R.long-R.wear+k+1:=by omega
      rw[Qa Vi.eq_1];simp[q]
      (repeat' first | omega | (with_reducible apply And.intro) | intro _)
      rcases hfd.append with ⟨s1,hf1,hf2⟩ | ⟨rfl,hf1⟩
      ·refine ZJ (by simpa using ih k _ _ _ hf1) rfl ?_
       cases b
       all_goals
        simp
        (repeat' first | omega | (with_reducible apply And.intro) | intro _)
        exact ihl _ _ ⟨s1,by simp,by simp[q3],by simpa using hf2⟩
      ·refine ZJ (by simpa using ih k _ _ _ hf1) rfl ?_
       simp
   | [a],_,hlt,hne,hR,ih =>
     have hM:1<p.rods.length:=by simpa using hlt
     have hR0:p.rods[1]'hM=R:=hR;have hne':¬ (1:Int)=p.rods.length:=by omega
     simp[hM,hR0,hne']
     (repeat' first | omega | (with_reducible apply And.intro) | intro _)
     refine Yr N (fun k e o=>∃ si,e=[(1,AV.iv (.int .i64 (([a]:List Int).length:Nat))),(3,AV.cb 0),(4,AV.iv (.ptr (puC p))),(6,AV.loc 6 0),(9,AV.loc 9 0)] /\
      o=[(0,.ext si),(6,.box ((Qhs ([a]++[R.long-R.wear+(k:Int)])).map AV.iv)),(9,.box [.iv (.int .i64 R.long),.iv (.int .i64 R.wear),.iv (.int .i64 R.grow)])]/\ZT Tryz.prog K (q0 pc k N) si b s') ?_ ?_ _ _ ⟨s,by simp,by simp,by simpa using hf⟩
     ·rintro e o ⟨si,rfl,rfl,hfd⟩
      rw[Wf] at hfd;cases hfd;have q:¬ R.long-R.wear+(N:Int)<=R.long:=by omega
      rw[Qa Vi.eq_1];simp[q]
      try (intros;omega)
     ·rintro k e o hk ⟨si,rfl,rfl,hfd⟩ ihl
      rw[V7 pc hk] at hfd;have q:R.long-R.wear+(k:Int)<=R.long:=by omega
      have q3:R.long-R.wear+((k:Int)+1)=R.long-R.wear+k+1:=by omega
      rw[Qa Vi.eq_1];simp[q]
      (repeat' first | omega | (with_reducible apply And.intro) | intro _)
      rcases hfd.append with ⟨s1,hf1,hf2⟩ | ⟨rfl,hf1⟩
      ·refine ZJ (by simpa using ih k _ _ _ hf1) rfl ?_
       cases b
       all_goals
        simp
        (repeat' first | omega | (with_reducible apply And.intro) | intro _)
        exact ihl _ _ ⟨s1,by simp,by simp[q3],by simpa using hf2⟩
      ·refine ZJ (by simpa using ih k _ _ _ hf1) rfl ?_
       simp
   | [a,a2],_,hlt,hne,hR,ih =>
     have hM:2<p.rods.length:=by simpa using hlt
     have hR0:p.rods[2]'hM=R:=hR;have hne':¬ (2:Int)=p.rods.length:=by omega
     simp[hM,hR0,hne']
     (repeat' first | omega | (with_reducible apply And.intro) | intro _)
     refine Yr N (fun k e o=>∃ si,e=[(1,AV.iv (.int .i64 (([a,a2]:List Int).length:Nat))),(3,AV.cb 0),(4,AV.iv (.ptr (puC p))),(6,AV.loc 6 0),(9,AV.loc 9 0)] /\
      o=[(0,.ext si),(6,.box ((Qhs ([a,a2]++[R.long-R.wear+(k:Int)])).map AV.iv)),(9,.box [.iv (.int .i64 R.long),.iv (.int .i64 R.wear),.iv (.int .i64 R.grow)])]/\ZT Tryz.prog K (q0 pc k N) si b s') ?_ ?_ _ _ ⟨s,by simp,by simp,by simpa using hf⟩
     ·rintro e o ⟨si,rfl,rfl,hfd⟩
      rw[Wf] at hfd;cases hfd;have q:¬ R.long-R.wear+(N:Int)<=R.long:=by omega
      rw[Qa Vi.eq_1];simp[q]
      try (intros;omega)
     ·rintro k e o hk ⟨si,rfl,rfl,hfd⟩ ihl
      rw[V7 pc hk] at hfd;have q:R.long-R.wear+(k:Int)<=R.long:=by omega
      have q3:R.long-R.wear+((k:Int)+1)=R.long-R.wear+k+1:=by omega
      rw[Qa Vi.eq_1];simp[q]
      (repeat' first | omega | (with_reducible apply And.intro) | intro _)
      rcases hfd.append with ⟨s1,hf1,hf2⟩ | ⟨rfl,hf1⟩
      ·refine ZJ (by simpa using ih k _ _ _ hf1) rfl ?_
       cases b
       all_goals
        simp
        (repeat' first | omega | (with_reducible apply And.intro) | intro _)
        exact ihl _ _ ⟨s1,by simp,by simp[q3],by simpa using hf2⟩
      ·refine ZJ (by simpa using ih k _ _ _ hf1) rfl ?_
       simp
   | [a,a2,a3],_,hlt,hne,hR,ih =>
     have hM:3<p.rods.length:=by simpa using hlt
     have hR0:p.rods[3]'hM=R:=hR;have hne':¬ (3:Int)=p.rods.length:=by omega
     simp[hM,hR0,hne']
     (repeat' first | omega | (with_reducible apply And.intro) | intro _)
     refine Yr N (fun k e o=>∃ si,e=[(1,AV.iv (.int .i64 (([a,a2,a3]:List Int).length:Nat))),(3,AV.cb 0),(4,AV.iv (.ptr (puC p))),(6,AV.loc 6 0),(9,AV.loc 9 0)] /\
      o=[(0,.ext si),(6,.box ((Qhs ([a,a2,a3]++[R.long-R.wear+(k:Int)])).map AV.iv)),(9,.box [.iv (.int .i64 R.long),.iv (.int .i64 R.wear),.iv (.int .i64 R.grow)])]/\ZT Tryz.prog K (q0 pc k N) si b s') ?_ ?_ _ _ ⟨s,by simp,by simp,by simpa using hf⟩
     ·rintro e o ⟨si,rfl,rfl,hfd⟩
      rw[Wf] at hfd;cases hfd;have q:¬ R.long-R.wear+(N:Int)<=R.long:=by omega
      rw[Qa Vi.eq_1];simp[q]
      try (intros;omega)
     ·rintro k e o hk ⟨si,rfl,rfl,hfd⟩ ihl
      rw[V7 pc hk] at hfd;have q:R.long-R.wear+(k:Int)<=R.long:=by omega
      have q3:R.long-R.wear+((k:Int)+1)=R.long-R.wear+k+1:=by omega
      rw[Qa Vi.eq_1];simp[q]
      (repeat' first | omega | (with_reducible apply And.intro) | intro _)
      rcases hfd.append with ⟨s1,hf1,hf2⟩ | ⟨rfl,hf1⟩
      ·refine ZJ (by simpa using ih k _ _ _ hf1) rfl ?_
       cases b
       all_goals
        simp
        (repeat' first | omega | (with_reducible apply And.intro) | intro _)
        exact ihl _ _ ⟨s1,by simp,by simp[q3],by simpa using hf2⟩
      ·refine ZJ (by simpa using ih k _ _ _ hf1) rfl ?_
       simp
   | _::_::_::_::_,h4,_,_,_,_=>simp at h4;omega
omit hK
theorem Qgl (x y:Int):∀ l:List (Int × Nat),QbU (QbL l x) y=QbU l y+(if x=y then 1 else 0)
 | []=>by simp[QbL,QbU]
 | p::r=>by
   unfold QbL;by_cases h:p.1=x
   ·simp only[h,if_true,QbU]
    grind
   ·simp only[h,if_false,QbU]
    by_cases h2:p.1=y
    ·grind
    ·simp[h2,Qgl x y r]
theorem Qn8 (y:Int):∀ l:List Int,QbU (XX l) y=l.count y:=by
 refine X7 (by simp[XX,QbU]) fun l x ih=>?_
 rw[XR,Qgl,ih,List.count_append,List.count_singleton]
 grind
def Qfh (p:Zm) (wh:Int) (w:List Int) (l:List Int):List Int:=l.flatMap fun len=>List.replicate (wrU p wh w len) len
def QtC (p:Zm) (wh:Int) (w:List Int):List Int:=Qfh p wh w (Xh p)
theorem Qfg (p:Zm) (wh:Int) (w:List Int) (y:Int):∀ l:List Int,l.Nodup->(Qfh p wh w l).count y=if y∈l then wrU p wh w y else 0
 | [],_=>by simp[Qfh]
 | a::r,h=>by
   rw[QNs] at h;have ih:=Qfg p wh w y r h.2;have e:Qfh p wh w (a::r)=List.replicate (wrU p wh w a) a++Qfh p wh w r:=by simp[Qfh]
   grind
theorem Qqz {p:Zm} {wh:Int} {w:List Int} {len:Int} (h:len∈Xh p):QbU (XX (QtC p wh w)) len=wrU p wh w len:=by
 have hnd:(Xh p).Nodup:=(UP _ _).imp fun h=>by omega
 rw[Qn8,QtC,Qfg p wh w len _ hnd,if_pos h]
theorem Qkp (w:List Int) (n:Nat) (h:n<4):[IV.int .i64 (w.getD 0 0),.int .i64 (w.getD 1 0),.int .i64 (w.getD 2 0),.int .i64 (w.getD 3 0)].drop n=.int .i64 (w.getD n 0)::[IV.int .i64 (w.getD 0 0),.int .i64 (w.getD 1 0),.int .i64 (w.getD 2 0),.int .i64 (w.getD 3 0)].drop (n+1):=by
 grind
def UX (x:Bun):List IV:=Qhs x.rods++[.int .i64 (x.bef.wrong:Nat),Zd x.bef.lens,.int .i64 (x.aft.wrong:Nat),Zd x.aft.lens]
def VL (x:Bun):List IV:=[.agg (UX x)]
include hK
theorem QvH (p:Zm) (hp:OkU p):Qal Tryz.prog K 254 [puV p] [] (QaQ p []):=by
 intro s b s' hf;refine QO Qyp (by simp) hf.v rfl ?_
 have ih:=Qno hK p hp p.rods.length [] (by simp) _ _ _ hf
 simp;refine ZJ (by simpa using ih) rfl ?_
 simp
theorem Qwg (x:Bun) (h1:x.bef.wrong<=1000) (h2:x.aft.wrong<=1000):Ev.Good Tryz.prog K 220 [.agg (UX x)] (.int .i64 ((x.bef.wrong+x.aft.wrong:Nat):Int)):=by
 refine Qb hK QyI (by simp) ?_
 simp[UX];omega
theorem QvW (p:Zm) (wh:Int) (w:List Int) (hp:OkU p) (hw:w∈Xf p.rods) (hg:p.ghi-p.glo<=100000):Ev.Good Tryz.prog K 302 [puV p,.int .i64 wh,.agg (Qhs w)] (.map (Qaf (XX (QtC p wh w)))):=by
 refine Qb hK Qx8 (by simp) ?_
 have hgu:=hp.guess;have hmo:=hp.most;have hxl:=hp.xlen;simp only[inR] at hgu;obtain ⟨hwl,hwb⟩:=QaP hp hw;obtain ⟨G,hG⟩:∃ G,G=(p.ghi-p.glo+1).toNat:=⟨_,rfl⟩
 have hGv:p.glo+(G:Int)=p.ghi+1:=by omega
 have hlens:Xh p=(List.range G).map fun (i:Nat)=>p.glo+i:=by rw[hG];rfl
 have hseq:QtC p wh w=Qfh p wh w ((List.range G).map fun (i:Nat)=>p.glo+i):=by rw[QtC,hlens]
 rw[hseq];clear hseq hlens hG;simp;have e0:AV.iv (IV.int .i64 p.glo)=AV.iv (.int .i64 (p.glo+((0:Nat):Int))):=by simp
 rw[e0]
 refine Qj (fun i=>[(1,AV.iv (.int .i64 wh)),(3,AV.iv (.ptr (puC p))),(5,AV.iv (.ptr (Qhs w))),(7,AV.oref 11),(8,AV.iv (IV.int IntKind.i64 (p.glo+(i:Nat))))])
  (fun i=>[(11,AO.mapd (Qaf (XX (Qfh p wh w ((List.range i).map fun (i:Nat)=>p.glo+i)))))]) G (fun i=>True) trivial ?_ ?_
 ·intro _
  have q2:¬ p.ghi+1<=p.ghi:=by omega
  rw[hGv,Qa Qih.eq_1];simp[q2]
 ·intro i hi _ ih
  have q1:p.glo+(i:Int)<=p.ghi:=by omega
  have q3:p.glo+((i:Int)+1)=p.glo+i+1:=by omega
  have hS:Qfh p wh w ((List.range (i+1)).map fun (i:Nat)=>p.glo+i)=Qfh p wh w ((List.range i).map fun (i:Nat)=>p.glo+i)++List.replicate (wrU p wh w (p.glo+i)) (p.glo+i):=by
   rw[QMn,QL8];simp[Qfh]
  rw[hS] at ih
  have hlS:∀ n:Nat,(Qfh p wh w ((List.range n).map fun (i:Nat)=>p.glo+i)).length<=n*8:=by
   intro n
   induction n with
   | zero=>simp[Qfh]
   | succ n ihn =>
     have e:Qfh p wh w ((List.range (n+1)).map fun (i:Nat)=>p.glo+i)=Qfh p wh w ((List.range n).map fun (i:Nat)=>p.glo+i)++List.replicate (wrU p wh w (p.glo+n)) (p.glo+n):=by
      rw[QMn,QL8];simp[Qfh]
     have hwr:=QeX p wh w (p.glo+n)
     grind
  have hl1:=hlS i;rw[Qa Qih.eq_1];generalize Qfh p wh w ((List.range i).map fun (i:Nat)=>p.glo+i)=S at *
  have hlen:0<=p.glo+(i:Int)/\p.glo+(i:Int)<=99999:=by omega
  unfold wrU at ih;generalize hL:p.glo+(i:Int)=len at *;simp[q1,q3] at ih |-;intros;have eS:S=S++List.replicate ((p.reads.take 0).countP (Qs8 p wh w len)) len:=by simp
  rw[eS]
  refine Qj (fun k=>[(1,AV.iv (.int .i64 wh)),(3,AV.iv (.ptr (puC p))),(5,AV.iv (.ptr (Qhs w))),(7,AV.oref 11),(8,AV.iv (IV.int IntKind.i64 len)),(26,AV.iv (Y7 p.reads)),(27,AV.iv (.int .i64 p.reads.length)),(28,AV.iv (.int .i64 (k:Nat)))])
   (fun k=>[(11,AO.mapd (Qaf (XX (S++List.replicate ((p.reads.take k).countP (Qs8 p wh w len)) len))))]) p.reads.length (fun i=>True) trivial ?_ ?_
  ·intro _
   rw[Qa Qii.eq_1,QLU];simp
   grind
  ·intro k hk _ ih2
   have hx:=hp.reads _ (QLR hk);have hcl:(p.reads.take k).countP (Qs8 p wh w len)<=k:=QMe QMC (by simp;omega)
   rw[QLM hk,QMQ] at ih2;generalize hX:p.reads[k]=X at *;have hr:=hx.2.1;simp only[inR] at hr;have hr4:X.rod.toNat<4:=by have:=hp.rlen;omega
   have hrl:0<=w.getD X.rod.toNat 0/\w.getD X.rod.toNat 0<=9999:=by
    have hlt:X.rod.toNat<w.length:=by omega
    have:w.getD X.rod.toNat 0=w[X.rod.toNat]:=by simp[hlt]
    rw[this];exact hwb _ (QLR hlt)
   have hg:=QvU hK p X len (w.getD X.rod.toNat 0) hp hx hlen hrl;have hdp:=Qkp w X.rod.toNat hr4;have hb:Qs8 p wh w len X=(decide (X.whn=wh)&&!qL p X len (w.getD X.rod.toNat 0)):=rfl
   have hlen2:(S++List.replicate ((p.reads.take k).countP (Qs8 p wh w len)) len).length<=900000:=by
    simp;omega
   rw[<- List.replicate_append_replicate,<- QMY] at ih2;have hc1:[X].countP (Qs8 p wh w len)=if Qs8 p wh w len X then 1 else 0:=by simp
   rw[hc1,hb] at ih2;generalize S++List.replicate ((p.reads.take k).countP (Qs8 p wh w len)) len=S2 at *;have hle:=Qev len S2;have hkk:=Yz (XX S2);have hf:=JN len (XX S2);have hi2:=WL len (XX S2);rw[Qa Qii.eq_1];have hr1:0<=X.rod/\X.rod<4/\X.rod<=4:=by omega
   simp only[List.getD_eq_getElem?_getD] at hdp hg ih2;generalize w[X.rod.toNat]?.getD 0=ww at *;by_cases hw2:X.whn=wh
   ·generalize qL p X len ww=rb at *
    cases rb
    ·simp[hw2,XR] at ih2
     generalize XX S2=kv at *;simp[hk,hX,hw2];refine ⟨hr1,?_⟩;simp[hdp,hw2];refine cK (by simpa[hw2] using hg) ?_
     simp[hkk,hf,hi2]
     grind
    ·simp[hw2] at ih2
     simp[hk,hX,hw2];refine ⟨hr1,?_⟩;simp[hdp,hw2];refine cK (by simpa[hw2] using hg) ?_
     simp
     grind
   ·simp[hw2] at ih2
    simp[hk,hX,hw2]
    grind
omit hK
def QBO (f:Int->Nat) (kvs:List (MK × List (List IV))) (x:Int):List (MK × List (List IV)) :=
 mins (.int .i64 (f x:Nat)) (((Qw (.int .i64 (f x:Nat)) kvs).getD [])++[[.int .i64 x]]) kvs
def gby (f:Int->Nat) (l:List Int):List (MK × List (List IV)):=l.foldl (QBO f) []
theorem QaC (f:Int->Nat) (l:List Int) (x:Int):gby f (l++[x])=QBO f (gby f l) x:=by simp[gby]
theorem QfP {α:Type} (k:MK) (v:α):∀ kvs:List (MK × α),(mins k v kvs).map (·.1)=if k∈kvs.map (·.1) then kvs.map (·.1) else kvs.map (·.1)++[k]
 | []=>by simp[mins]
 | p::r=>by
   have ih:=QfP k v r;unfold mins
   grind
theorem Qgm (f:Int->Nat):∀ l,ZE (some .i64) (gby f l):=by
 refine X7 trivial fun l x ih=>?_
 rw[QaC];exact JI _ _ _ ih
theorem Qkc (f:Int->Nat) (n:Nat):∀ l,(Qw (.int .i64 (n:Nat)) (gby f l)).getD []=(l.filter fun x=>f x==n).map fun x=>[IV.int .i64 x]:=by
 refine X7 rfl fun l x ih=>?_
 rw[QaC,QBO,VQ,QNu,QL8]
 grind
theorem QrF (f:Int->Nat):∀ l,∃ ks:List Nat,(gby f l).map (·.1)=ks.map (fun n:Nat=>MK.int .i64 (n:Int))/\ks.Nodup/\∀ n,n∈ks↔∃ y∈l,f y=n:=by
 refine X7 ⟨[],rfl,List.nodup_nil,by simp⟩ fun l x ih=>?_
 obtain ⟨ks,h1,h2,h3⟩:=ih;rw[QaC,QBO,QfP,h1]
 have hm:MK.int .i64 ((f x:Nat):Int)∈ks.map (fun n:Nat=>MK.int .i64 (n:Int))↔f x∈ks:=by
  grind
 by_cases h:f x∈ks
 ·grind
 ·rw[if_neg (fun e=>h (hm.1 e))]
  refine ⟨ks++[f x],by simp,?_,fun n=>?_⟩
  all_goals grind
theorem QwY (f:Int->Nat) (n:Nat) (l:List Int):((Qw (.int .i64 (n:Nat)) (gby f l)).getD []).length<=l.length:=by
 rw[Qkc]
 grind
theorem Qg7 (ks cs:List Nat) (h1:ks.Nodup) (h2:cs.Pairwise (·<·)) (h3:∀ n,n∈ks↔n∈cs) :
  (ks.map fun n:Nat=>(n:Int)).mergeSort (fun x y=>decide (x<=y))=cs.map fun n:Nat=>(n:Int):=by
 have hp:ks.Perm cs:=(List.perm_ext_iff_of_nodup h1 (h2.imp fun h=>by omega)).2 h3
 rw[mergeSort_of_perm_i (hp.map fun n:Nat=>(n:Int))]
 refine List.mergeSort_of_pairwise ?_
 grind
def grC (g:Grp):List IV:=[.int .i64 (g.wrong:Nat),Zd g.lens]
def Up (l:List Grp):IV:=.sl 2 (l.map grC)
theorem QfQ {α β:Type} (g:α->β) (k:MK):∀ l:List (MK × α),Qw k (l.map fun p=>(p.1,g p.2))=(Qw k l).map g
 | []=>rfl
 | p::r=>by
   simp only[QMb,Qw];split
   ·rfl
   ·exact QfQ g k r
theorem QbI {α β:Type} (kk:Option IntKind) (g:α->β):∀ l:List (MK × α),ZE kk l->ZE kk (l.map fun p=>(p.1,g p.2))
 | [],_=>trivial
 | _::r,h=>⟨h.1,QbI kk g r h.2⟩
include hK
theorem QvV (kvs:List (MK × IV)):Ev.Good Tryz.prog K 303 [.map kvs] (.clo 351 [] [.ptr [.map kvs]]):=by
 refine Qb hK Qx7 (by simp) ?_
 simp
theorem QnR (p:Zm) (wh:Int) (w:List Int) (hp:OkU p) (hw:w∈Xf p.rods) (hg:p.ghi-p.glo<=100000):Ev.Good Tryz.prog K 255 [puV p,.int .i64 wh,.agg (Qhs w)] (Up (VN p wh w)):=by
 refine Qb hK Qyo (by simp) ?_
 have hgu:=hp.guess;have hxl:=hp.xlen;have hmo:=hp.most;simp only[inR] at hgu;have h380:=QvW hK p wh w hp hw hg;have hget:=fun (len:Int) (h:len∈Xh p)=>Qqz (wh:=wh) (w:=w) h
 have hkk:=Yz (XX (QtC p wh w));have hfind:=fun (x:Int)=>JN x (XX (QtC p wh w))
 obtain ⟨G,hG⟩:∃ G,G=(p.ghi-p.glo+1).toNat:=⟨_,rfl⟩
 have hGv:p.glo+(G:Int)=p.ghi+1:=by omega
 have hlens:Xh p=(List.range G).map fun (i:Nat)=>p.glo+i:=by rw[hG];rfl
 simp;refine cK (by simpa using h380) ?_
 generalize Qaf (XX (QtC p wh w))=cn at *;simp;have e0:AV.iv (IV.int .i64 p.glo)=AV.iv (.int .i64 (p.glo+((0:Nat):Int))):=by simp
 rw[e0]
 refine Qj (fun i=>[(3,AV.iv (.ptr (puC p))),(7,AV.iv (.map cn)),(8,AV.oref 17),(9,AV.iv (IV.int IntKind.i64 (p.glo+(i:Nat))))])
  (fun i=>[(17,AO.mapr 3 1 (gby (wrU p wh w) ((List.range i).map fun (i:Nat)=>p.glo+i)) none)]) G (fun i=>True) trivial ?_ ?_
 ·intro _
  have q2:¬ p.ghi+1<=p.ghi:=by omega
  rw[hGv,Qa Qim.eq_1,<- hlens];simp[q2];refine cK (by simpa using QvV hK _) ?_
  simp;obtain ⟨ks,hk1,hk2,hk3⟩:=QrF (wrU p wh w) (Xh p)
  have hkb:∀ n∈ks,n<=8:=fun n hn=>by
   obtain ⟨y,_,e⟩:=(hk3 n).1 hn;have:=QeX p wh w y;omega
  have hcp:(Qag p wh w).Pairwise (·<·):=List.pairwise_lt_range.filter _
  have hkc:∀ n,n∈ks↔n∈Qag p wh w:=fun n=>by
   rw[hk3];simp only[Qag,QMr,QMi];constructor
   ·rintro ⟨y,hy,e⟩
    have:=QeX p wh w y;have h5:y∈Qdb p wh w n:=X8.2 ⟨hy,e⟩
    grind
   ·rintro ⟨_,h⟩
    cases hz:Qdb p wh w n with
    | cons a r =>
      have h5:a∈Qdb p wh w n:=by rw[hz];simp
      exact ⟨a,(X8.1 h5).1,(X8.1 h5).2⟩
    | _=>grind
  have hperm:ks.Perm (Qag p wh w):=(List.perm_ext_iff_of_nodup hk2 (hcp.imp fun h=>by omega)).2 hkc
  have hcl:(Qag p wh w).length<=p.reads.length+1:=by
   have:=QMg (fun n=>!(Qdb p wh w n).isEmpty) (List.range (p.reads.length+1))
   simpa[Qag] using this
  have hkl:=hperm.length_eq;have hsort:=Qg7 ks _ hk2 hcp hkc
  have h173:=QvS (K:=K) ((gby (wrU p wh w) (Xh p)).map fun p=>(p.1,IV.sl 1 p.2)) (ks.map fun n:Nat=>(n:Int)) (by rw[List.map_map,List.map_map];exact hk1) (fun x hx=>by
   grind) (by simp;omega)
  rw[hsort] at h173;refine cK h173 ?_
  have hfnd:∀ n:Nat,n∈Qag p wh w->(Qw (.int .i64 ((n:Nat):Int)) ((gby (wrU p wh w) (Xh p)).map fun p=>(p.1,IV.sl 1 p.2))).getD (.sl 1 [])=Zd (Qdb p wh w n):=fun n hn=>by
   have h5:=Qkc (wrU p wh w) n (Xh p);rw[QfQ];cases hz:Qw (.int .i64 ((n:Nat):Int)) (gby (wrU p wh w) (Xh p)) with
   | none =>
     rw[hz] at h5;simp[Zd,Qdb];simpa using h5
   | some v =>
     rw[hz] at h5;simp[Zd,Qdb];simpa using h5
  have hkk2:=QbI (some .i64) (fun r:List (List IV)=>IV.sl 1 r) _ (Qgm (wrU p wh w) (Xh p))
  generalize ((gby (wrU p wh w) (Xh p)).map fun p=>(p.1,IV.sl 1 p.2))=mv at *
  simp only[VN];generalize Qag p wh w=cs at *;simp[-List.map_map];intros
  refine Qj (fun i=>[(8,AV.iv (.map mv)),(10,AV.aref 10 i),(44,.iv (Zd (cs.map fun n:Nat=>(n:Int)))),(45,AV.iv (.int .i64 cs.length)),(46,AV.iv (IV.int IntKind.i64 (i:Nat)))])
   (fun i=>[(10,AO.arr 206 2 (emb ((cs.take i).map fun n=>grC ⟨n,Qdb p wh w n⟩)) 0)]) cs.length (fun i=>True) trivial ?_ ?_
  ·intro _
   rw[Qa Qil.eq_1];simp[QLQ,Up,Zd]
  ·intro i hi _ ih2
   rw[Qa Qil.eq_1];rw[QLM hi,QL8] at ih2;have hf1:=hfnd _ (QLR hi);simp[grC,Zd] at ih2;simp[hi,Zd,hkk2,hf1]
   repeat' first | omega | exact ih2 | apply And.intro
 ·intro i hi _ ih
  have q1:p.glo+(i:Int)<=p.ghi:=by omega
  have q3:p.glo+((i:Int)+1)=p.glo+i+1:=by omega
  have hS:((List.range (i+1)).map fun (i:Nat)=>p.glo+(i:Int))=((List.range i).map fun (i:Nat)=>p.glo+(i:Int))++[p.glo+(i:Int)]:=by
   rw[QMn,QL8];rfl
  have hmem:p.glo+(i:Int)∈Xh p:=JG.2 ⟨by omega,by omega⟩
  have hgt:=hget _ hmem;have hf1:=hfind (p.glo+(i:Int));rw[hgt] at hf1;rw[hS,QaC] at ih;have hk1:=Qgm (wrU p wh w) ((List.range i).map fun (i:Nat)=>p.glo+(i:Int))
  have hl1:=QwY (wrU p wh w) (wrU p wh w (p.glo+i)) ((List.range i).map fun (i:Nat)=>p.glo+(i:Int))
  have hwr:=QeX p wh w (p.glo+i);rw[QL6,List.length_range] at hl1;unfold QBO at ih;generalize gby (wrU p wh w) ((List.range i).map fun (i:Nat)=>p.glo+(i:Int))=kvs at *
  generalize wrU p wh w (p.glo+i)=n at *;have hk2:=JI n (((Qw (.int .i64 ((n:Nat):Int)) kvs).getD [])++[[.int .i64 (p.glo+(i:Int))]]) kvs hk1;have hfm:=VQ (.int .i64 ((n:Nat):Int)) (.int .i64 ((n:Nat):Int)) (((Qw (.int .i64 ((n:Nat):Int)) kvs).getD [])++[[.int .i64 (p.glo+(i:Int))]]) kvs;rw[if_pos rfl] at hfm;rw[Qa Qim.eq_1];simp[q3] at ih;simp[q1,hkk,hf1,hk1,hk2,hfm]
  grind
omit hK
def QEQ (p:Zm) (w:List Int):List (List IV):=(VN p 1 w).flatMap fun g=>(VN p 2 w).map fun h=>VL ⟨w,g,h⟩
theorem Qaz (p:Zm) (wh:Int) (w:List Int):(VN p wh w).length<=p.reads.length+1:=by
 have:=QMg (fun n=>!(Qdb p wh w n).isEmpty) (List.range (p.reads.length+1))
 simpa[VN,Qag] using this
include hK
theorem QtH (p:Zm) (w:List Int) (hp:OkU p) (hw:w∈Xf p.rods) (hg:p.ghi-p.glo<=100000) {ks:Env} (hks:ZH [2,3] [0,3] ks=[(2,.iv (.ptr (puC p))),(3,.loc 3 0)])
  (s:Ext) (b:Bool) (s1:Ext) (hf:ZT Tryz.prog K (QEQ p w) s b s1) :
  Rnd Tryz.prog K [12] QaH QeD [2,3] [0,3] (ZH [2,3] [0,3] ks) (Qf6 w) [(0,.ext s),(3,.box [.cb 0])] (if b then .fall else .ret) [(0,.ext s1),(3,.box [.cb 0])]:=by
 have h1:=QnR hK p 1 w hp hw hg;have h2:=QnR hK p 2 w hp hw hg;have hl1:=Qaz p 1 w;have hl2:=Qaz p 2 w;have hxl:=hp.xlen;unfold QEQ at hf;generalize VN p 1 w=G1 at *;generalize VN p 2 w=G2 at *;rw[hks];refine ⟨rfl,?_⟩;simp[Qf6,QaH,QeD];refine cK (by simpa using h2) ?_
 simp;refine cK (by simpa using h1) ?_
 simp[Up];intros
 refine Yr G1.length (fun i e o=>∃ si,e=[(2,AV.iv (.ptr (puC p))),(3,AV.loc 3 0),(4,AV.loc 4 0),(5,.iv (Up G2)),(18,.iv (Up G1)),(19,.iv (.int .i64 (G1.length:Nat))),(20,.iv (.int .i64 (i:Nat)))] /\
  o=[(0,.ext si),(3,.box [.cb 0]),(4,.box ((Qhs w).map AV.iv))]/\ZT Tryz.prog K ((G1.drop i).flatMap fun g=>G2.map fun h=>VL ⟨w,g,h⟩) si b s1) ?_ ?_ _ _ ⟨s,by simp[Up],by simp,by simpa using hf⟩
 ·rintro e o ⟨si,rfl,rfl,hfd⟩
  rw[QMA (QLS _)] at hfd;cases hfd;rw[Qa Qiw.eq_1];simp[Up]
 ·rintro i e o hi ⟨si,rfl,rfl,hfd⟩ ih
  rw[QMq hi,QML] at hfd;rw[Qa Qiw.eq_1];generalize hX:G1[i]=X at *;simp[hi,Up,hX,grC];intros
  refine Yr G2.length (fun k e o=>∃ si,e=[(2,AV.iv (.ptr (puC p))),(3,AV.loc 3 0),(4,AV.loc 4 0),(5,.iv (Up G2)),(7,AV.loc 7 0),(18,.iv (Up G1)),(19,.iv (.int .i64 (G1.length:Nat))),(20,.iv (.int .i64 (i:Nat))),(24,.iv (Up G2)),(25,.iv (.int .i64 (G2.length:Nat))),(26,.iv (.int .i64 (k:Nat)))] /\
   o=[(0,.ext si),(3,.box [.cb 0]),(4,.box ((Qhs w).map AV.iv)),(7,.box ((grC X).map AV.iv))]/\ZT Tryz.prog K (((G2.drop k).map fun h=>VL ⟨w,X,h⟩)++(G1.drop (i+1)).flatMap fun g=>G2.map fun h=>VL ⟨w,g,h⟩) si b s1) ?_ ?_ _ _ ⟨si,by simp[Up,grC],by simp[grC],by simpa using hfd⟩
  ·rintro e o ⟨si,rfl,rfl,hfd⟩
   rw[QMA (QLS _)] at hfd;rw[Qa Qix.eq_1];simp[Up]
   (repeat' first | omega | (with_reducible apply And.intro) | intro _)
   exact ih _ _ ⟨si,by simp[Up],by simp,by simpa using hfd⟩
  ·rintro k e o hk ⟨si,rfl,rfl,hfd⟩ ih2
   rw[QMq hk,QMb,QL1] at hfd;rw[Qa Qix.eq_1];generalize hY:G2[k]=Y at *;simp[hk,Up,hY,grC];have hit:VL ⟨w,X,Y⟩=[.agg (UX ⟨w,X,Y⟩)]:=rfl;rw[hit] at hfd;cases hfd with
   | stop _ _ _ _ hg =>
     refine Za (by simpa[UX] using hg) rfl ?_
     simp
   | next _ _ _ s1 _ _ hg hr =>
     refine Za (by simpa[UX] using hg) rfl ?_
     simp
     (repeat' first | omega | (with_reducible apply And.intro) | intro _)
     exact ih2 _ _ ⟨s1,by simp[Up],by simp[grC],hr⟩
theorem Qfz (p:Zm) (hp:OkU p) (hg:p.ghi-p.glo<=100000) {ks:Env} (hks:ZH [2,3] [0,3] ks=[(2,.iv (.ptr (puC p))),(3,.loc 3 0)]) :
  ∀ (Ws:List (List Int)) (hW:∀ w∈Ws,w∈Xf p.rods) (s:Ext) (b:Bool) (s':Ext),ZT Tryz.prog K (Ws.flatMap (QEQ p)) s b s' ->
   ∃ wy,(wy=.fall\/wy=.ret)/\UC Tryz.prog K [12] QaH QeD [2,3] [0,3] (ZH [2,3] [0,3] ks) (Ws.map Qf6) [(0,.ext s),(3,.box [.cb 0])] wy [(0,.ext s'),(3,.box [.cb 0])]
 | [],_,s,b,s',h=>by
   cases h;exact ⟨.fall,.inl rfl,.nil _⟩
 | w::Ws,hW,s,b,s',h=>by
   rw[QML] at h;rcases h.append with ⟨s1,h1,h2⟩ | ⟨rfl,h1⟩
   ·obtain ⟨wy,h3,h4⟩:=Qfz p hp hg hks Ws (fun x hx=>hW x (by simp[hx])) s1 b s' h2
    exact ⟨wy,h3,.next _ _ _ _ _ _ (QtH hK p w hp (hW w (by simp)) hg hks s true s1 h1) h4⟩
   ·exact ⟨.ret,.inr rfl,.stop _ _ _ _ _ (by simp) (QtH hK p w hp (hW w (by simp)) hg hks s false s' h1)⟩
theorem QvI (p:Zm) (hp:OkU p) (hg:p.ghi-p.glo<=100000):Qal Tryz.prog K 219 [puV p] [] ((Qcy p).map VL):=by
 intro s b s' hf;refine QO QyJ (by simp) hf.v rfl ?_
 have hw:QaQ p []=(Xf p.rods).map Qf6:=by simp[QaQ]
 have hit:=QvH hK p hp;rw[hw] at hit
 have hb:(Qcy p).map VL=(Xf p.rods).flatMap (QEQ p):=by
  simp[Qcy,QNc,List.map_map,Function.comp_def];rfl
 rw[hb] at hf;simp;obtain ⟨wy,h1,h2⟩:=Qfz hK p hp hg (ks:=[(2,.iv (.ptr (puC p))),(3,.loc 3 0)]) rfl (Xf p.rods) (fun _ h=>h) s b s' hf
 refine Zc (wy:=wy) (o':=[(0,.ext s'),(3,.box [.cb 0])]) rfl (by kernel_rfl) hit ?_ ?_
 ·simpa[ZH,XG] using h2
 ·rcases h1 with rfl | rfl<;>simp
theorem Qbd (p:Zm) (hp:OkU p) {ks:Env} (hks:ZH [2,3] [0,3] ks=[(2,.iv (.ptr (puC p))),(3,.loc 3 0)]) :
  ∀ (Bs:List Bun) (hB:∀ x∈Bs,x∈Qcy p) (s:Ext) (b:Bool) (s':Ext),ZT Tryz.prog K ((Bs.filter fun x=>decide (((x.bef.wrong+x.aft.wrong:Nat):Int)<=p.wrong)).map VL) s b s' ->
   ∃ wy,(wy=.fall\/wy=.ret)/\UC Tryz.prog K [7] WV Qb9 [2,3] [0,3] (ZH [2,3] [0,3] ks) (Bs.map VL) [(0,.ext s),(3,.box [.cb 0])] wy [(0,.ext s'),(3,.box [.cb 0])]
 | [],_,s,b,s',h=>by
   cases h;exact ⟨.fall,.inl rfl,.nil _⟩
 | t::Ls,hB,s,b,s',h=>by
   have hbt:t.bef.wrong<=1000/\t.aft.wrong<=1000:=by
    have:=hB t (by simp)
    simp only[Qcy,QMl,QL5] at this;obtain ⟨w,_,g,hg,h,hh,rfl⟩:=this;have hxl:=hp.xlen;simp only[VN,Qag,QL5,QMr,QMi] at hg hh
    grind
   have hw:=Qwg hK t hbt.1 hbt.2;by_cases ht:((t.bef.wrong+t.aft.wrong:Nat):Int)<=p.wrong
   ·rw[QM6 (by simpa using ht)] at h
    cases h with
    | stop _ _ _ _ hg =>
      refine ⟨.ret,.inr rfl,.stop _ _ _ _ _ (by simp) ?_⟩
      rw[hks];refine ⟨rfl,?_⟩;simp[VL,UX,WV,Qb9];refine cK (by simpa[UX] using hw) ?_
      simp at ht;simp[ht];refine Za (by simpa[VL,UX] using hg) rfl ?_
      simp
    | next _ _ _ s1 _ _ hg hr =>
      obtain ⟨wy,h1,h2⟩:=Qbd p hp hks Ls (fun x hx=>hB x (by simp[hx])) s1 b s' hr
      refine ⟨wy,h1,.next _ _ _ _ _ _ ?_ h2⟩;rw[hks];refine ⟨rfl,?_⟩;simp[VL,UX,WV,Qb9];refine cK (by simpa[UX] using hw) ?_
      simp at ht;simp[ht];refine Za (by simpa[VL,UX] using hg) rfl ?_
      simp
   ·rw[QM7 (by simpa using ht)] at h
    obtain ⟨wy,h1,h2⟩:=Qbd p hp hks Ls (fun x hx=>hB x (by simp[hx])) s b s' h
    refine ⟨wy,h1,.next _ _ _ _ _ _ ?_ h2⟩;rw[hks];refine ⟨rfl,?_⟩;simp[VL,UX,WV,Qb9];refine cK (by simpa[UX] using hw) ?_
    simp at ht;have ht':¬ ((t.bef.wrong:Int)+t.aft.wrong<=p.wrong):=by omega
    simp[ht']
theorem QvJ (p:Zm) (hp:OkU p) (hg:p.ghi-p.glo<=100000):Qal Tryz.prog K 133 [puV p] [] ((Vn p).map VL):=by
 intro s b s' hf;refine QO Qzv (by simp) hf.v rfl ?_
 simp;obtain ⟨wy,h1,h2⟩:=Qbd hK p hp (ks:=[(2,.iv (.ptr (puC p))),(3,.loc 3 0)]) rfl (Qcy p) (fun _ h=>h) s b s' hf
 refine Zc (wy:=wy) (o':=[(0,.ext s'),(3,.box [.cb 0])]) rfl (by kernel_rfl) (QvI hK p hp hg) ?_ ?_
 ·simpa[ZH,XG] using h2
 ·rcases h1 with rfl | rfl<;>simp
omit hK
theorem Qj2 (p:Zm) (wh:Int) (w:List Int) (n:Nat):(Qdb p wh w n).length<=(p.ghi-p.glo+1).toNat:=by
 have:=QMg (fun len=>wrU p wh w len==n) (Xh p)
 simpa[Qdb,Xh,VO] using this
def VW (l:List Bun):IV:=.sl 8 (l.map UX)
include hK
theorem Qq3 (p:Zm) (hp:OkU p) (hg:p.ghi-p.glo<=100000) (hl:(Vn p).length<=1000000):QQ Tryz.prog K 218 [.nilr 8,.iv (.clo 133 [puV p] [])] [] [] (.iv (VW (Vn p))) []:=by
 refine Q2 [] [] [] [] QyK.p (by simp[QEJ]) (by simp) ?_ ?_ ?_ ?_
 ·simp
 ·simp[clA]
 ·simp
 have hit:=QvJ hK p hp hg;generalize Vn p=B at *;generalize hG:QgS QEJ.res [] [] (AV.iv (VW B)) []=G;simp;refine Zc (wy:=.fall) (o':=[(2,.box [.aref 3000 B.length]),(3000,.arr 208 8 (emb (B.map UX)) 0)]) rfl (by kernel_rfl) hit ?_ ?_
 ·have:=UC.all (P:=Tryz.prog) (K:=K) (ps:=[7]) (asn:=QeE) (body:=Qiy) (ks:=[2]) (ids:=[2,3000]) (eK:=[(2,.loc 2 0)]) (B.map VL)
   (fun i=>[(2,.box [.aref 3000 i]),(3000,.arr 208 8 (emb ((B.take i).map UX)) 0)]) fun i x hi=>by
   simp only[QLW,QLT] at hi;obtain ⟨y,hy,rfl⟩:=hi;obtain ⟨hlt,hy⟩:=QLO.1 hy;refine ⟨rfl,?_⟩;rw[QLM hlt,hy,QL8];simp[VL,UX,QeE,Qiy];exact ⟨by omega,by simp[emb]⟩
  simpa[QLQ,QE] using this
 ·simp[QLQ]
  rw[<- hG];refine ⟨⟨_,rfl,?_⟩,by simp,by simp⟩
  have h0:(fun i=>if ([]:List Nat).contains i then none else Qc [(2,AO.box [AV.aref 3000 B.length]),(3000,AO.arr 208 8 (emb (B.map UX)) 0)] i)=Qc [(2,AO.box [AV.aref 3000 B.length]),(3000,AO.arr 208 8 (emb (B.map UX)) 0)]:=rfl
  rw[Qvg,h0];simp[look,VW,QLQ]
  trace_state
theorem QwH (p:Zm) (hp:OkU p) (hg:p.ghi-p.glo<=100000) (hl:(Vn p).length<=1000000):Ev.Good Tryz.prog K 132 [.clo 133 [puV p] []] (VW (Vn p)):=by
 refine Qb hK Qzw (by simp) ?_
 simp;refine Qi (Qq3 hK p hp hg hl) rfl ?_ ?_
 ·refine ⟨by simp,by simp[clA],by simp,by simp,by simp⟩
 ·simp[VW]
omit hK
theorem VP {α β:Type} (f:α->List β) (c:Nat):∀ l:List α,(∀ x∈l,(f x).length<=c)->(l.flatMap f).length<=l.length*c
 | [],_=>by simp
 | a::r,h=>by
   have h1:=h a (by simp)
   have h2:=VP f c r fun x hx=>h x (by simp[hx])
   rw[QML,QL3,QMa,Nat.succ_mul];omega
theorem QaX {p:Zm} (hp:OkU p):(Vn p).length<=1000000:=by
 have hxl:=hp.xlen
 have h0:(Qcy p).length<=(Xf p.rods).length*81:=by
  refine VP _ _ _ fun w _=>?_
  have h1:=Qaz p 1 w
  have h2:=VP (fun g=>(VN p 2 w).map fun h=>(⟨w,g,h⟩:Bun)) 9 (VN p 1 w) fun g _=>by
   have:=Qaz p 2 w;simp;omega
  omega
 have h1:=QMg (fun x:Bun=>decide (((x.bef.wrong+x.aft.wrong:Nat):Int)<=p.wrong)) (Qcy p)
 have h2:=W6 p.rods hp.rods;have h3:10 ^ p.rods.length<=10 ^ 4:=QMS (by omega) hp.rlen
 unfold Vn;omega
def uT (p:Zm) (is:Bool):List Bun:=if OkU p/\is=true then Vn p else []
theorem QvE {p:Zm} {x:Bun} (h:x∈Vn p):(∀ n∈x.bef.lens,n∈Xh p)/\(∀ n∈x.aft.lens,n∈Xh p)/\x.bef.lens.length<=100000/\x.aft.lens.length<=100000\/¬ OkU p:=by
 by_cases hp:OkU p
 ·refine .inl ?_
  obtain ⟨_,hg,hh,_⟩:=Wq.1 h;have h1:=(Ye.1 hg).1;have h2:=(Ye.1 hh).1;have h3:=Qj2 p 1 x.rods x.bef.wrong;have h4:=Qj2 p 2 x.rods x.aft.wrong;have hgu:=hp.guess;have hmo:=hp.most;simp only[inR] at hgu;rw[h1,h2];exact ⟨fun n hn=>(X8.1 hn).1,fun n hn=>(X8.1 hn).1,by omega,by omega⟩
 ·exact .inr hp
theorem QaB {l:List Int} (h:0<l.length):l[0]=Xp l:=by
 cases l with
 | nil=>cases h
 | cons a r=>rfl
theorem QaA {l:List Int} (h:l.length-1<l.length):l[l.length-1]=Xc l:=by
 unfold Xc
 grind
structure QHX (x:Bun):Prop where
 bpos:0<x.bef.lens.length
 apos:0<x.aft.lens.length
 blen:x.bef.lens.length<=100000
 alen:x.aft.lens.length<=100000
 bh:0<=Xp x.bef.lens/\Xp x.bef.lens<=99999
 bl:0<=Xc x.bef.lens/\Xc x.bef.lens<=99999
 ah:0<=Xp x.aft.lens/\Xp x.aft.lens<=99999
 al:0<=Xc x.aft.lens/\Xc x.aft.lens<=99999
theorem QFv {p:Zm} (hp:OkU p) {x:Bun} (h:x∈Vn p):QHX x:=by
 obtain ⟨h1,h2,h3,h4⟩:=ZW h;obtain ⟨k1,k2,k3,k4⟩:=(QvE h).resolve_right (fun e=>e hp)
 have e1:=Xi h1 h3;have e2:=Xi h2 h4;have hgu:=hp.guess;have hmo:=hp.most;simp only[inR] at hgu
 have hin:∀ n∈Xh p,0<=n/\n<=99999:=fun n hn=>by
  have:=JG.1 hn;omega
 exact ⟨QMJ.2 h3,QMJ.2 h4,k3,k4,hin _ (k1 _ e1.1),hin _ (k1 _ e1.2.1),hin _ (k2 _ e2.1),hin _ (k2 _ e2.2.1)⟩
include hK
theorem Qj4 (p:Zm) (is:Bool) (hl:p.rods.length<=1000) (hx:p.reads.length<=1000) :
  Ev.Good Tryz.prog K 65 [puV p,.bool is] (.tup [puV p,VW (uT p is),.int .i64 (uE p is)]):=by
 refine Qb hK QCG (by simp) ?_
 simp;refine cK (by simpa using Qn1 hK p hl hx) ?_
 unfold uE uT;by_cases hp:OkU p
 ·have hgu:=hp.guess
  have hmo:=hp.most;simp only[inR] at hgu;cases is
  ·simp[hp,VW]
  ·have hln:=QaX hp
   simp[hp];refine cK (by simpa using QwH hK p hp (by omega) hln) ?_
   by_cases hn:Um p=[]
   ·have hb:=Qap.2 hn
    simp[hn,hb,VW]
   ·have hb:¬ Vn p=[]:=fun e=>hn (Qap.1 e)
    simp[hn,hb,VW]
    try omega
 ·simp[hp,VW]
theorem QnX (part b a:Int) (hpt:0<=part/\part<=1000) (hb:0<=b/\b<=99999) (ha:0<=a/\a<=99999):Ev.Good Tryz.prog K 142 [.int .i64 b,.int .i64 a,.ptr [.int .i64 part]] (.bool (XI b a part)):=by
 refine Qb hK Qzm (by simp) ?_
 have h1:=QcW hpt.1 hpt.2 (show -99999<=b by omega) hb.2
 simp[XI];omega
theorem QtU (T:List Bun) (h:∀ x∈T,QHX x) (hn:T.length<=1000000):Ev.Good Tryz.prog K 66 [VW T] (.agg [.int .i64 (span (T.map loB)).1,.int .i64 (span (T.map hiB)).2]):=by
 refine Qb hK QCF (by simp) ?_
 simp[VW];intros
 refine Qj (fun i=>[(2,AV.loc 2 0),(3,AV.loc 3 0),(9,AV.iv (.sl 8 (T.map UX))),(10,AV.iv (.int .i64 T.length)),(11,AV.iv (.int .i64 (i:Nat)))])
  (fun i=>[(2,AO.box [.iv (.int .i64 0),.iv (.int .i64 0)]),(3,AO.box [.iv (.int .i64 (span ((T.take i).map loB)).1),.iv (.int .i64 (span ((T.take i).map hiB)).2)])]) T.length (fun _=>True) trivial ?_ ?_
 ·intro _
  rw[Qa Qpd.eq_1,QLU];simp
 ·intro i hi _ ih
  have hb:=h _ (QLR hi);rw[U6 loB T i hi,U6 hiB T i hi] at ih;rw[Qa Qpd.eq_1];generalize hX:T[i]=X at *;obtain ⟨b1,b2,b3,b4,b5,b6,b7,b8⟩:=hb;have g1:=QaB b1;have g2:=QaB b2;have g3:=QaA (show X.bef.lens.length-1<X.bef.lens.length by omega)
  have g4:=QaA (show X.aft.lens.length-1<X.aft.lens.length by omega)
  have hlo:loB X=Xp X.aft.lens-Xc X.bef.lens:=rfl;have hhi:hiB X=Xc X.aft.lens-Xp X.bef.lens:=rfl;have q1:X.bef.lens.length-1<X.bef.lens.length:=by omega
  have q2:X.aft.lens.length-1<X.aft.lens.length:=by omega
  have q3:((X.bef.lens.length:Int)-1).toNat=X.bef.lens.length-1:=by omega
  have q4:((X.aft.lens.length:Int)-1).toNat=X.aft.lens.length-1:=by omega
  by_cases h0:i=0
  ·subst h0
   simp[hlo,hhi] at ih;simp[hi,hX,UX,b1,b2,g1,g2,g3,g4,q1,q2,q3,q4]
   grind
  ·have h0':¬ (i:Int)=0:=by omega
   rw[if_neg h0,if_neg h0] at ih;generalize span ((T.take i).map loB)=S1 at *;generalize span ((T.take i).map hiB)=S2 at *;simp[hlo,hhi,QcX,QcY] at ih;simp[hi,hX,UX,b1,b2,g1,g2,g3,g4,q1,q2,q3,q4,h0,h0',QcX,QcY]
   grind
theorem QtS (T:List Bun) (part:Int) (h:∀ x∈T,QHX x) (hpt:0<=part/\part<=1000) (hn:T.length<=1000000) :
  Ev.Good Tryz.prog K 75 [VW T,.int .i64 part] (.int .i64 (if T.all fun x=>XI (Xp x.bef.lens) (Xc x.aft.lens) part then 1 else if T.any fun x=>XI (Xc x.bef.lens) (Xp x.aft.lens) part then 3 else 2)):=by
 refine Qb hK QCw (by simp) ?_
 generalize hR:(if T.all fun x=>XI (Xp x.bef.lens) (Xc x.aft.lens) part then (1:Int) else if T.any fun x=>XI (Xc x.bef.lens) (Xp x.aft.lens) part then 3 else 2)=R
 simp[VW];intros
 refine Qj (fun i=>[(3,AV.iv (.ptr [.int .i64 part])),(5,AV.iv (.bool ((T.take i).any fun x=>XI (Xc x.bef.lens) (Xp x.aft.lens) part))),(6,AV.iv (.bool (!(T.take i).all fun x=>XI (Xp x.bef.lens) (Xc x.aft.lens) part))),(12,AV.iv (.sl 8 (T.map UX))),(13,AV.iv (.int .i64 T.length)),(14,AV.iv (.int .i64 (i:Nat)))])
  (fun i=>[]) T.length (fun _=>True) trivial ?_ ?_
 ·intro _
  rw[Qa Qo6.eq_1,QLU];cases hA:(T.all fun x=>XI (Xp x.bef.lens) (Xc x.aft.lens) part)<;>cases hE:(T.any fun x=>XI (Xc x.bef.lens) (Xp x.aft.lens) part)<;>simp[hA,hE] at hR<;>simp[hR]
 ·intro i hi _ ih
  have hb:=h _ (QLR hi);rw[QLM hi,List.any_append,List.all_append] at ih;rw[Qa Qo6.eq_1];generalize hX:T[i]=X at *;obtain ⟨b1,b2,b3,b4,b5,b6,b7,b8⟩:=hb;have g1:=QaB b1;have g2:=QaB b2;have g3:=QaA (show X.bef.lens.length-1<X.bef.lens.length by omega)
  have g4:=QaA (show X.aft.lens.length-1<X.aft.lens.length by omega)
  have q1:X.bef.lens.length-1<X.bef.lens.length:=by omega
  have q2:X.aft.lens.length-1<X.aft.lens.length:=by omega
  have q3:((X.bef.lens.length:Int)-1).toNat=X.bef.lens.length-1:=by omega
  have q4:((X.aft.lens.length:Int)-1).toNat=X.aft.lens.length-1:=by omega
  have w1:=QnX hK part _ _ hpt b6 b7;have w2:=QnX hK part _ _ hpt b5 b8;generalize ((T.take i).any fun x=>XI (Xc x.bef.lens) (Xp x.aft.lens) part)=e1 at *
  generalize ((T.take i).all fun x=>XI (Xp x.bef.lens) (Xc x.aft.lens) part)=e2 at *
  have k1:(([X]:List Bun).any fun x=>XI (Xc x.bef.lens) (Xp x.aft.lens) part)=XI (Xc X.bef.lens) (Xp X.aft.lens) part:=by simp
  have k2:(([X]:List Bun).all fun x=>XI (Xp x.bef.lens) (Xc x.aft.lens) part)=XI (Xp X.bef.lens) (Xc X.aft.lens) part:=by simp
  rw[k1,k2] at ih;generalize XI (Xc X.bef.lens) (Xp X.aft.lens) part=v1 at *;generalize XI (Xp X.bef.lens) (Xc X.aft.lens) part=v2 at *;have hcal:callee Tryz.prog 142=true:=by kernel_rfl
  have o1:(-9223372036854775808<=(X.bef.lens.length:Int)-1/\(X.bef.lens.length:Int)-1<=9223372036854775807)/\1<=(X.bef.lens.length:Int):=by omega
  have o2:(-9223372036854775808<=(X.aft.lens.length:Int)-1/\(X.aft.lens.length:Int)-1<=9223372036854775807)/\1<=(X.aft.lens.length:Int):=by omega
  cases e1<;>cases e2
  ·simp at ih
   simp[hi,hX,UX,b1,b2,g1,g2,g3,g4,q1,q2,q3,q4];intro _;refine ⟨o1.1,o1.2,hcal,cK (by simpa using w1) ?_⟩
   simp
   grind
  ·simp at ih
   simp[hi,hX,UX,b1,b2,g1,g2,g3,g4,q1,q2,q3,q4];intro _;refine ⟨o1.1,o1.2,hcal,cK (by simpa using w1) ?_⟩
   simp[b1,b2,g1,g2,g3,g4,q1,q2,q3,q4];intro _;refine ⟨o2.1,o2.2,hcal,cK (by simpa using w2) ?_⟩
   simp
   grind
  ·simp at ih
   simp[hi,hX,UX,b1,b2,g1,g2,g3,g4,q1,q2,q3,q4]
   grind
  ·simp at ih
   simp[hi,hX,UX,b1,b2,g1,g2,g3,g4,q1,q2,q3,q4];intro _;refine ⟨o2.1,o2.2,hcal,cK (by simpa using w2) ?_⟩
   simp
   grind
theorem Quc (p:Zm) (hl:p.rods.length<=1000) (hx:p.reads.length<=1000):Ev.Good Tryz.prog K 23 [puV p] (.tup [.agg [.int .i64 (span ((uL p true).map UN)).1,.int .i64 (span ((uL p true).map UN)).2],.int .i64 (uE p true)]):=by
 refine Qb hK QDl (by simp) ?_
 simp;refine cK (by simpa using Qj4 hK p true hl hx) ?_
 simp;by_cases hp:OkU p
 ·have hT:uT p true=Vn p:=by simp[uT,hp]
  have hL:uL p true=Um p:=by simp[uL,hp]
  have hs:=Qa0 p;rw[hT,hL,<- hs];refine cK (QtU hK (Vn p) (fun x hx=>QFv hp hx) (QaX hp)) ?_
  simp[QdO]
 ·have hT:uT p true=[]:=by simp[uT,hp]
  have hL:uL p true=[]:=by simp[uL,hp]
  rw[hT,hL];refine cK (QtU hK [] (by simp) (by simp)) ?_
  simp
theorem Qt1 (p:Zm) (part:Int) (hl:p.rods.length<=1000) (hx:p.reads.length<=1000):Ev.Good Tryz.prog K 37 [puV p,.int .i64 part] (.tup [.int .i64 (Wj p part),.int .i64 (uE p (Qcq part))]):=by
 refine Qb hK QC6 (by simp) ?_
 simp;refine cK (JL hK _ _ _) ?_;have hpd:decide (inR part 0 1000)=Qcq part:=rfl;rw[hpd];simp;refine cK (by simpa using Qj4 hK p (Qcq part) hl hx) ?_
 unfold Wj;by_cases h0:uE p (Qcq part)=0
 ·obtain ⟨hp,hb,hL,hne⟩:=QaV h0
  have hpt:=of_decide_eq_true hb;simp only[inR] at hpt;have hT:uT p (Qcq part)=Vn p:=by simp[uT,hp,hb]
  have hg:=QtS hK (Vn p) part (fun x hx=>QFv hp hx) hpt (QaX hp)
  have hh:=Qgc p part hpt.1;unfold Qc8 at hh;rw[<- hh] at hg;rw[hT];simp[h0];refine cK (by simpa using hg) ?_
  simp
 ·simp[h0]
theorem Qt8 (p:Zm) (hl:p.rods.length<=1000) (hx:p.reads.length<=1000):Ev.Good Tryz.prog K 27 [puV p] (.tup [.int .i64 (Wk p).1,.int .i64 (Wk p).2]):=by
 refine Qb hK QDh (by simp) ?_
 simp;refine cK (by simpa using Qj4 hK p true hl hx) ?_
 unfold Wk;by_cases h0:uE p true=0
 ·obtain ⟨hp,hb,hL,hne⟩:=QaV h0
  have hT:uT p true=Vn p:=by simp[uT,hp]
  rw[hT];simp[h0];refine Qj (fun i=>[(5,AV.iv (VW (Vn p))),(17,AV.iv (.int .i64 (i:Nat)))]) (fun _=>[]) 1001 (fun i=>∀ j,j<i->¬ Qc9 (Um p) (j:Nat)=1) (by simp) ?_ ?_
  ·intro h
   have hn:QlV (Um p)=none:=by
    unfold QlV
    grind
   rw[Qa QpG.eq_1];simp[hn]
  ·intro i hi h ih
   have hg:=QtS hK (Vn p) (i:Nat) (fun x hx=>QFv hp hx) (by omega) (QaX hp)
   have hh0:=Qgc p (i:Nat) (by omega)
   unfold Qc8 at hh0;rw[<- hh0] at hg;rw[Qa QpG.eq_1];have hi':(i:Int)<1001:=by omega
   simp[hi,hi'];refine cK (by simpa using hg) ?_
   by_cases hh:Qc9 (Um p) (i:Nat)=1
   ·have hs:QlV (Um p)=some i:=by
     unfold QlV;rw[List.find?_eq_some_iff_getElem];exact ⟨by simp[hh],i,by simpa using hi,by simp,fun j hj=>by simpa using h j hj⟩
    simp[hh,hs]
   ·have ih:=ih (fun j hj=>by
     grind)
    simp[hh] at ih |-
    grind
 ·simp[h0]
theorem Qwz (l:List Int) (hw:∀ x∈l,-1000000<=x/\x<=1000000) (hl:l.length<=1000000):Ev.Good Tryz.prog K 151 [.map (Qaf (XX l))] (Zd (YG l)):=by
 refine Qb hK Qzg (by simp) ?_
 simp;refine cK (by simpa using QnG hK (Qaf (XX l))) ?_
 simp;refine cK (qq l hw hl) ?_;simp
theorem QBl (T:List Bun) (rod:Nat) (hr:rod<4) (hw:∀ x∈T,0<=x.rods.getD rod 0/\x.rods.getD rod 0<=9999) (hn:T.length<=1000000):Ev.Good Tryz.prog K 96 [VW T,.int .i64 (rod:Nat)] (Zd (YG (T.map fun x=>x.rods.getD rod 0))):=by
 refine Qb hK QCc (by simp) ?_
 have h249:=Qwz hK (T.map fun x=>x.rods.getD rod 0) (fun x hx=>by
  grind) (by simpa using hn)
 simp[VW];intros
 refine Qj (fun i=>[(1,AV.iv (.int .i64 (rod:Nat))),(5,AV.oref 8),(9,AV.iv (.sl 8 (T.map UX))),(10,AV.iv (.int .i64 T.length)),(11,AV.iv (.int .i64 (i:Nat)))])
  (fun i=>[(8,AO.mapd (Qaf (XX ((T.take i).map fun x=>x.rods.getD rod 0))))]) T.length (fun _=>True) trivial ?_ ?_
 ·intro _
  rw[Qa Qo1.eq_1,QLU];simp;refine cK (by simpa using h249) ?_
  simp
 ·intro i hi _ ih
  have hb:=hw _ (QLR hi);have hdp:=Qkp T[i].rods rod hr;rw[QLM hi,QL8,QM2,XR] at ih;have hle:=Qev (T[i].rods.getD rod 0) ((T.take i).map fun x=>x.rods.getD rod 0)
  have hkk:=Yz (XX ((T.take i).map fun x=>x.rods.getD rod 0))
  have hf:=JN (T[i].rods.getD rod 0) (XX ((T.take i).map fun x=>x.rods.getD rod 0))
  have hi2:=WL (T[i].rods.getD rod 0) (XX ((T.take i).map fun x=>x.rods.getD rod 0))
  have hlen:((T.take i).map fun x=>x.rods.getD rod 0).length<=1000000:=by simp;omega
  rw[Qa Qo1.eq_1];generalize XX ((T.take i).map fun x=>x.rods.getD rod 0)=kv at *
  generalize hX:T[i]=X at *;simp only[List.getD_eq_getElem?_getD] at hf hi2 hle ih hb;clear hdp;rw[QL6,QM4] at hle;rcases (show rod=0\/rod=1\/rod=2\/rod=3 by omega) with rfl | rfl | rfl | rfl
  all_goals
   simp at ih;simp[hi,hX,UX,hkk,hf,hi2]
   repeat' first | omega | exact ih | intro _ | apply And.intro
theorem Qt0 (p:Zm) (rod:Int) (hl:p.rods.length<=1000) (hx:p.reads.length<=1000):Ev.Good Tryz.prog K 38 [puV p,.int .i64 rod] (.tup [Zd (Qd5 p rod),.int .i64 (uE p (QqH p rod))]):=by
 refine Qb hK QC5 (by simp) ?_
 simp;intro _;refine ⟨by omega,cK (JL hK _ _ _) ?_⟩
 have hpd:decide (inR rod 0 ((p.rods.length:Int)-1))=QqH p rod:=rfl;rw[hpd];simp;refine cK (by simpa using Qj4 hK p (QqH p rod) hl hx) ?_
 unfold Qd5;by_cases h0:uE p (QqH p rod)=0
 ·obtain ⟨hp,hb,hL,hne⟩:=QaV h0
  have hpt:=of_decide_eq_true hb;simp only[inR] at hpt;have hlt:rod.toNat<p.rods.length:=by omega
  have hT:uT p (QqH p rod)=Vn p:=by simp[uT,hp,hb]
  have hro:((rod.toNat:Nat):Int)=rod:=by omega
  have hgd:p.rods.getD rod.toNat ⟨0,0,0⟩=p.rods[rod.toNat]:=by simp[hlt]
  have hbd:∀ w∈Xf p.rods,0<=w.getD rod.toNat 0/\w.getD rod.toNat 0<=9999:=fun w hw=>by
   obtain ⟨h1,h2⟩:=QaP hp hw;have hl2:rod.toNat<w.length:=by omega
   have:w.getD rod.toNat 0=w[rod.toNat]:=by simp[hl2]
   rw[this];exact h2 _ (QLR hl2)
  have hg:=QBl hK (Vn p) rod.toNat (by have:=hp.rlen;omega) (fun x hx=>hbd _ (Wq.1 hx).1) (QaX hp)
  have he:YF (Qvc (Um p) rod.toNat) (p.rods[rod.toNat].long-p.rods[rod.toNat].wear) p.rods[rod.toNat].long=YG ((Vn p).map fun x=>x.rods.getD rod.toNat 0):=by
   refine Qhr (Vz _ _ _) (Jx _) fun x=>?_
   have hm:=Qm8 (p:=p) (rod:=rod.toNat) (n:=x);unfold Qvb at hm;rw[hm,JY];simp only[Qvc,QL5];constructor
   ·grind
   ·rintro ⟨t,ht,rfl⟩
    have hw:=(Qec.1 ht).2.2.1;have:=QdB _ _ hw rod.toNat hlt
    grind
  rw[hro] at hg;rw[hT,if_pos h0,hgd,he];simp[h0];refine cK (by simpa using hg) ?_
  simp
 ·simp[h0]
omit hK
def Qex (c:Qn) (ss:List Xq) (i:Nat):Nat:=((List.range i).map fun n=>QZ c.deeds ss (ZD c.deeds n)).foldl min ss.length
theorem Qdh (c:Qn) (ss:List Xq) (i:Nat):Qex c ss (i+1)=min (Qex c ss i) (QZ c.deeds ss (ZD c.deeds i)):=by
 unfold Qex;rw[QMn,QL8,QNe];rfl
def QBR (c:Qn) (ss:List Xq):Nat:=Qex c ss (2 ^ ZB c.deeds)
theorem Qkh (c:Qn) (ss:List Xq):∀ i,Qex c ss i<=ss.length
 | 0=>QLS _
 | i+1=>by
   rw[Qdh];exact QMe (Nat.min_le_left _ _) (Qkh c ss i)
def Qdg (c:Qn):Option Nat:=(List.range c.sights.length).find? fun i=>decide (0<QBR c (c.sights.take (i+1)))
noncomputable def Vp (c:Qn):Int × Int:=if OkC c then (match Qdg c with | some n=>((n:Int),0) | none=>(0,3)) else (0,20)
include hK
theorem QBA (c:Qn) (hc:OkC c) (ss:List Xq) (hs:∀ s∈ss,ZI s c.deeds) (hl:ss.length<=1000):Ev.Good Tryz.prog K 69 [.agg (VX c),Qz ss] (.int .i64 (QBR c ss:Nat)):=by
 refine Qb hK QCC (by simp) ?_
 have hit:=Qnq hK c (pmC c) (by have:=hc.len;have:=W9 c.deeds;omega) (Qjk hK c hc)
 have hcl:=hc.len;unfold QBR;generalize 2 ^ ZB c.deeds=N at *;simp;intros;refine Zc (wy:=.fall) (o':=[(5,.box [.iv (.int .i64 (Qex c ss N:Nat))])]) rfl (by kernel_rfl) hit ?_ ?_
 ·have:=UC.all (P:=Tryz.prog) (K:=K) (ps:=[11]) (asn:=Qif) (body:=Qo9) (ks:=[3,5]) (ids:=[5]) (eK:=[(3,.iv (.ptr [Qz ss])),(5,.loc 5 0)]) ((List.range N).map (XK c.deeds (pmC c)))
   (fun i=>[(5,.box [.iv (.int .i64 (Qex c ss i:Nat))])]) fun i x hi=>by
   simp only[QLW,QLT] at hi;obtain ⟨y,hy,rfl⟩:=hi;obtain ⟨hlt,hy⟩:=QLO.1 hy;rw[List.getElem_range] at hy;subst hy;have hg:=QnZ hK c.deeds (ZD c.deeds i) (pmC c i) ss hc.deeds (by omega) hs hl
   have hle:=Qkh c ss i;have hle2:=QcE c.deeds ss (ZD c.deeds i);refine ⟨rfl,?_⟩;rw[Qdh];generalize Qex c ss i=m at *;simp[XK,Qif,Qo9];refine Jf (by simpa using hg) (.inl rfl) ?_
   simp
   try omega
  simpa[Qex] using this
 ·simp
theorem Qub (c:Qn) (hl:c.deeds.length<=1000) (hs:c.sights.length<=1000):Ev.Good Tryz.prog K 24 [chV c] (.tup [.int .i64 (Vp c).1,.int .i64 (Vp c).2]):=by
 refine Qb hK QDk (by simp) ?_
 simp;refine Jf (by simpa using Qge hK c hl hs) (.inl rfl) ?_
 unfold Vp;by_cases hc:OkC c
 ·simp[hc]
  refine Jf (by simpa using QnI hK c hl) (.inl rfl) ?_
  simp;intros
  refine Qj (fun i=>[(1,AV.iv (.ptr [QA c.deeds,Qz c.sights,.int .i64 c.wrong])),(5,AV.loc 5 0),(16,AV.iv (.int .i64 c.sights.length)),(17,AV.iv (.int .i64 (i:Nat)))])
   (fun _=>[(5,AO.box ((VX c).map AV.iv))]) c.sights.length (fun i=>∀ j,j<i->¬ 0<QBR c (c.sights.take (j+1))) (by simp) ?_ ?_
  ·intro h
   have hn:Qdg c=none:=by
    unfold Qdg;rw[List.find?_eq_none];intro j hj;simpa using h j (by simpa using hj)
   rw[Qa QpH.eq_1];simp[hn]
  ·intro i hi h ih
   have hg:=QBA hK c hc (c.sights.take (i+1)) (fun s hs=>hc.sights s (QMt hs)) (by simp;omega)
   rw[Qa QpH.eq_1];simp[hi];refine ⟨by omega,by omega,fun _=>?_⟩
   refine Jf (by simpa[VX,QNt] using hg) (.inl rfl) ?_
   by_cases hh:0<QBR c (c.sights.take (i+1))
   ·have hs:Qdg c=some i:=by
     unfold Qdg;rw[List.find?_eq_some_iff_getElem];exact ⟨by simpa using hh,i,by simpa using hi,by simp,fun j hj=>by simpa using h j hj⟩
    simp[hh,hs]
   ·have ih:=ih (fun j hj=>by
     rcases Nat.lt_succ_iff_lt_or_eq.1 hj with h5 | h5
     ·exact h j h5
     ·rw[h5];exact hh)
    simp[hh] at ih |-;exact ⟨by omega,ih⟩
 ·simp[hc]
omit hK
structure Qam (a p:Qf):Prop where
 sub:(Qr a).Sublist (Qr p)
 fail:∀ t,ZZ a t=ZZ p t
 proved:∀ l t,Zj a l t=Zj p l t
 good:∀ t,Vr a t=Vr p t
 rule:a.rule=p.rule
 link:∀ l,Wu a l=Wu p l
def QK8 (p:Qf) (s:Xq):Qf:=⟨⟨p.chain.deeds,p.chain.sights++[s],p.chain.wrong⟩,p.machine,p.trials,p.need,p.rule⟩
def QK9 (p:Qf) (b:Qy):Qf:=⟨p.chain,⟨p.machine.levers,p.machine.water,p.machine.llo,p.machine.lhi,p.machine.bals++[b],p.machine.wrong⟩,p.trials,p.need,p.rule⟩
theorem QdI {α:Type} (f:α->Bool) {l l':List α} (h:∀ t∈l,t∈l') (hne:l≠[]) (h3:XY (l'.countP f) l'.length≠3):XY (l.countP f) l.length=XY (l'.countP f) l'.length:=by
 have hl:l.length≠0:=fun e=>hne (QLV e)
 obtain ⟨t,ht⟩:=QMF _ hne;have hl':l'.length≠0:=fun e=>by grind
 by_cases h1:XY (l'.countP f) l'.length=1
 ·rw[h1,qa,List.countP_eq_length]
  rw[qa,List.countP_eq_length] at h1
  grind
 ·have h2:XY (l'.countP f) l'.length=2:=by
   unfold XY at *;omega
  rw[h2,UE hl,QNg];rw[UE hl',QNg] at h2
  grind
theorem Qam.kE {a p:Qf} (h:Qam a p) (hp:OkP p) (hk:kE a true=0):kE p true=0:=by
 have hne:=(YU hk).2.2.2;obtain ⟨t,ht⟩:=QMF _ hne;exact QFg hp (h.sub.subset ht)
theorem Qam.len {a p:Qf} (h:Qam a p) (ha:OkP a) (hp:OkP p):(kL a true).length<=(kL p true).length:=by
 rw[YT ha,YT hp];exact h.sub.length_le
theorem Qam.rFail {a p:Qf} (h:Qam a p) (hp:OkP p) (hk:Go.Pf.kE a true=0):(rFail p).1<=(rFail a).1/\(rFail a).2<=(rFail p).2:=by
 have hne:=(YU hk).2.2.2;unfold Go.Pf.rFail;rw[YT (YU hk).1,YT hp];have e:(fun t=>(ZZ a t:Int))=fun t=>(ZZ p t:Int):=funext fun t=>by rw[h.fail t]
 rw[e];have h1:=QdT ((Qr a).map fun t=>(ZZ p t:Int)) (fun e=>hne (List.map_eq_nil_iff.1 e))
 obtain ⟨t1,ht1,e1⟩:=QL5.1 h1.1;obtain ⟨t2,ht2,e2⟩:=QL5.1 h1.2;rw[<- e1,<- e2];exact ⟨(V4 (fun t=>(ZZ p t:Int)) _ t1 (h.sub.subset ht1)).1,(V4 (fun t=>(ZZ p t:Int)) _ t2 (h.sub.subset ht2)).2⟩
theorem Qam.rCond {a p:Qf} (h:Qam a p) (hp:OkP p) (hk:Go.Pf.kE a true=0) (h3:rCond p≠3):rCond a=rCond p:=by
 have hkp:=h.kE hp hk;unfold Go.Pf.rCond at *;rw[if_pos hkp] at h3 |-;rw[if_pos hk,YT (YU hk).1];rw[YT hp] at h3 |-;have e:(fun t=>decide (a.rule<=(ZZ a t:Int)))=fun t=>decide (p.rule<=(ZZ p t:Int)):=funext fun t=>by rw[h.fail t,h.rule]
 rw[e];exact QdI _ (fun t ht=>h.sub.subset ht) (YU hk).2.2.2 h3
theorem Qam.rGood {a p:Qf} (h:Qam a p) (hp:OkP p) (hk:Go.Pf.kE a true=0) (h3:rGood p≠3):rGood a=rGood p:=by
 have hkp:=h.kE hp hk;unfold Go.Pf.rGood at *;rw[if_pos hkp] at h3 |-;rw[if_pos hk,YT (YU hk).1];rw[YT hp] at h3 |-;have e:Vr a=Vr p:=funext fun t=>h.good t
 rw[e];exact QdI _ (fun t ht=>h.sub.subset ht) (YU hk).2.2.2 h3
theorem Qam.rProved {a p:Qf} (h:Qam a p) (hp:OkP p) (hk:Go.Pf.kE a true=0) {link:Int} (hl:Wu p link=true) (h3:rProved p link≠3):rProved a link=rProved p link:=by
 have hkp:=h.kE hp hk;unfold Go.Pf.rProved at *;rw[h.link link];rw[hl] at h3 |-;rw[if_pos hkp] at h3 |-;rw[if_pos hk,YT (YU hk).1];rw[YT hp] at h3 |-;have e:Zj a link=Zj p link:=funext fun t=>h.proved link t
 rw[e];exact QdI _ (fun t ht=>h.sub.subset ht) (YU hk).2.2.2 h3
include hK
omit hK
def QLw (D:List Qs) (n:Nat):List Int:=(List.range D.length).map (ZD D n)
def VG (l:List Nat) (link:Int):Int:=fi (fun k:Nat=>decide ((k:Int)=link)) l
def QaR (c:Qn) (link:Int) (n:Nat):Int:=VG (cab c.deeds (ZD c.deeds n) c.deeds.length) link
def Va (c:Qn) (link:Int):Bool:=decide (inR link 0 ((Ql1 c.deeds:Int)-1))
include hK
theorem QwA (left all link:Int) (h:0<=all/\all<=1000000):Ev.Good Tryz.prog K 147 [.int .i64 left,.int .i64 all,.ptr [.int .i64 link]] (.bool (decide (inR link 0 (all-1)))):=by
 refine Qb hK Qzi (by simp) ?_
 simp
 repeat' first | omega | intro _ | apply And.intro
 refine cK (Yn hK _ _ _) ?_;simp
theorem QBu (link:Int):Ev.Good Tryz.prog K 81 [.int .i64 link] (.clo 147 [] [.ptr [.int .i64 link]]):=by
 refine Qb hK QCq (by simp) ?_
 simp
theorem QBs (l:List Nat) (link:Int) (hl:l.length<=1000000):Ev.Good Tryz.prog K 83 [Xm l,.int .i64 link] (.int .i64 (VG l link)):=by
 refine Qb hK QCo (by simp) ?_
 simp;intro _;refine Qj (fun i=>[(0,AV.iv (Xm l)),(1,AV.iv (.int .i64 link)),(7,AV.iv (.int .i64 l.length)),(8,AV.iv (.int .i64 (i:Nat)))]) (fun _=>[]) l.length (fun i=>∀ k,(h:k<l.length)->k<i->¬ ((l[k]:Nat):Int)=link) (by intro k _ h;omega) ?_ ?_
 ·intro h
  rw[Qa Qo4.eq_1]
  have:VG l link = -1:=by
   unfold VG fi
   grind
  simp[this]
 ·intro i hi h ih
  rw[Qa Qo4.eq_1];by_cases he:((l[i]:Nat):Int)=link
  ·have:VG l link=i:=by
    unfold VG fi
    grind
   simp[hi,he,this]
  ·have he':¬ link=((l[i]:Nat):Int):=fun e=>he e.symm
   have hn:∀ k,(h:k<l.length)->k<i+1->¬ ((l[k]:Nat):Int)=link:=fun k hk hki=>by
    grind
   have ih:=ih hn;simp[hi,he'] at ih |-
   grind
theorem QBt (D:List Qs) (e:Nat->Int) (pm:IV) (link:Int) (hl:D.length<=1000) (hc:(cab D e D.length).length<=1000):Ev.Good Tryz.prog K 82 [.agg (Vo D e pm),.ptr [.int .i64 link]] (.int .i64 (VG (cab D e D.length) link)):=by
 refine Qb hK QCp (by simp) ?_
 have g120:=QtP hK D e pm hl;have g119:=QBs hK (cab D e D.length) link (by omega)
 simp;refine cK (by simpa using g120) ?_
 simp;refine cK (by simpa using g119) ?_
 simp
theorem Qt7 (c:Qn) (link:Int) (hl:c.deeds.length<=1000) (hs:c.sights.length<=1000) :
  Ev.Good Tryz.prog K 30 [chV c,.int .i64 link] (.tup [Zd (if Yo c (Va c link)=0 then YG ((QX c).map (QaR c link)) else []),.int .i64 (Yo c (Va c link))]):=by
 refine Qb hK QDd (by simp) ?_
 have hcl:∀ n,OkC c->(cab c.deeds (ZD c.deeds n) c.deeds.length).length<=12:=fun n h=>by
  have h1:=Xj (ZD c.deeds n) h.deeds c.deeds.length (QLS _) (QLS _);have h2:=OkD.cnt h.deeds c.deeds.length (QLS _) (QLS _);have h3:=h.len;omega
 have hal:Ql1 c.deeds<=1000:=QMe (QMg _ _) hl
 have hg:=QtQ hK c hl hs 147 [.ptr [.int .i64 link]] (Va c link) (fun _=>QwA hK _ _ link (by omega)) (by kernel_rfl)
  82 [.ptr [.int .i64 link]] (QaR c link) (fun h _ n _=>QBt hK c.deeds (ZD c.deeds n) (pmC c n) link hl (by grind)) (by kernel_rfl) (fun h _ n _=>by
   have h1:=hcl n h;unfold QaR VG fi
   grind)
 simp;refine cK (by simpa using QBu hK link) ?_
 simp;refine cK (by simpa using hg) ?_
 simp
omit hK
def QLv (c:Qn) (ss:List Xq) (i:Nat):Nat:=(((QP c.deeds).take i).map fun e=>QZ c.deeds ss (QC e)).foldl min ss.length
def QLH (c:Qn) (ss:List Xq):Nat:=((QP c.deeds).map fun e=>QZ c.deeds ss (QC e)).foldl min ss.length
def plB (c:Qn) (n:Int):Bool:=decide (inR n 0 (Xw c.deeds-1))
noncomputable def QkM (c:Qn) (n:Int):List Int:=if Yo c (plB c n)=0 then YG ((QX c).map (Qmf c n)) else []
noncomputable def QdC (c:Qn) (n:Int):List Int:=if Yo c (Va c n)=0 then YG ((QX c).map (QaR c n)) else []
noncomputable def Yq (p:Qf) (n:Int):Int × Int:=if kE p (Z0 p n)=0 then Yk p.machine (tr p n.toNat).weight (tr p n.toNat).mins else (0,0)
noncomputable def qe (p:Qf) (n:Int):Int:=if kE p (Z0 p n)=0 then tE p.machine (W2 (tr p n.toNat).weight (tr p n.toNat).mins 0) else kE p (Z0 p n)
noncomputable def QD (p:Qf):Int × Int:=if kE p true=0 then Zz p.machine 0 p.need else (0,kE p true)
noncomputable def QR (h:Qd) (v:Vv) (l:List Int):Txt :=
 match v with
 | .who=>Xa (QkM h.proof.chain (nI l 0)) (Yo h.proof.chain (plB h.proof.chain (nI l 0)))
 | .wher=>Xa (QdC h.proof.chain (nI l 0)) (Yo h.proof.chain (Va h.proof.chain (nI l 0)))
 | .first=>Xa [(Vp h.proof.chain).1] (Vp h.proof.chain).2
 | .pulls=>Xa [(Yk h.proof.machine (nI l 0) (nI l 1)).1,(Yk h.proof.machine (nI l 0) (nI l 1)).2] (tE h.proof.machine (W2 (nI l 0) (nI l 1) 0))
 | .broke=>Xa (Ut h.proof (nI l 0)) (kE h.proof (Z0 h.proof (nI l 0)))
 | .loads=>Xa [(Yq h.proof (nI l 0)).1,(Yq h.proof (nI l 0)).2] (qe h.proof (nI l 0))
 | .failures=>Xa [(rFail h.proof).1,(rFail h.proof).2] (kE h.proof true)
 | .condemned=>Uv (rCond h.proof) (kE h.proof true)
 | .proved=>Uv (rProved h.proof (nI l 0)) (kE h.proof (Wu h.proof (nI l 0)))
 | .opn=>Xa (Wi h.proof) (kE h.proof true)
 | .good=>Uv (rGood h.proof) (kE h.proof true)
 | .worth=>Xa [(Y8 h.proof).1] (Y8 h.proof).2
 | .weight=>Xa [(QD h.proof).1] (QD h.proof).2
 | .stretch=>Xa [(span ((uL h.pull true).map UN)).1,(span ((uL h.pull true).map UN)).2] (uE h.pull true)
 | .best=>Xa [(Wk h.pull).1] (Wk h.pull).2
 | .holds=>Uv (Wj h.pull (nI l 0)) (uE h.pull (Qcq (nI l 0)))
 | .rods=>Xa (Qd5 h.pull (nI l 0)) (uE h.pull (QqH h.pull (nI l 0)))
 | _=>[]
noncomputable def doV (h:Qd) (v:Vv) (l:List Int):Txt × Qd :=
 if QJ v then (match Zq h v l with
  | some h'=>if okH h' then (Ji,h') else (tNo,h)
  | none=>(tNo,h))
 else (QR h v l,h)
def XN:List Txt->Option (List Int)
 | []=>some []
 | w::r=>match Qea w,XN r with
   | some x,some l=>some (x::l)
   | _,_=>none
theorem YN:∀ {ws:List Txt} {l:List Int},XN ws=some l->l.length=ws.length
 | [],l,h=>by simp[XN] at h;subst h;rfl
 | w::r,l,h=>by
   simp only[XN] at h;split at h
   ·rename_i x l' _ h2
    injection h with h
    subst h;simp[YN h2]
   ·cases h
def Q3 (t:Txt):Option (Vv × List Int):=match spl t with
 | []=>none
 | w::ws=>match Xd w with
   | none=>none
   | some (n,v)=>if ws.length=n then (XN ws).map fun l=>(v,l) else none
noncomputable def Qm (h:Qd) (t:Txt):Txt × Qd:=match Q3 t with
 | none=>(Qe5,h)
 | some (v,l)=>doV h v l
noncomputable def Qe (h:Qd) (s:List Txt) (i:Nat):Qd:=(s.take i).foldl (fun h t=>(Qm h t).2) h
noncomputable def QU (h:Qd) (s:List Txt) (i:Nat):List Txt:=(List.range i).map fun j=>(Qm (Qe h s j) (s.getD j [])).1
theorem Ze (h:Qd) (s:List Txt) (i:Nat) (hi:i<s.length):Qe h s (i+1)=(Qm (Qe h s i) s[i]).2:=by
 unfold Qe;rw[QLM hi,QNe];rfl
theorem XE (h:Qd) (s:List Txt) (i:Nat) (hi:i<s.length):QU h s (i+1)=QU h s i++[(Qm (Qe h s i) s[i]).1]:=by
 unfold QU;rw[QMn,QL8,QM2,List.getD_eq_getElem?_getD,QLN hi];rfl
noncomputable def Qma (h:Qd):Int:=if okH h then 0 else 120
noncomputable def QtF (h:Qd) (s:List Txt):Int:=if okH h then (if 40<s.length then 2 else 0) else 120
structure qy (h:Qd):Prop where
 proof:Few h.proof
 pull:QHY h.pull
theorem QBW {h:Qd} {v:Vv} {l:List Int} (ho:okH h):okH (doV h v l).2:=by
 unfold doV
 grind
theorem QqV {h:Qd} {t:Txt} (ho:okH h):okH (Qm h t).2:=by
 unfold Qm;split
 ·exact ho
 ·exact QBW ho
theorem Yd {h:Qd} {s:List Txt} (ho:okH h):∀ i,okH (Qe h s i)
 | 0=>ho
 | i+1=>by
   by_cases hi:i<s.length
   ·rw[Ze h s i hi]
    exact QqV (Yd ho i)
   ·have:Qe h s (i+1)=Qe h s i:=by
     unfold Qe;rw[QLQ (by omega),QLQ (by omega)]
    rw[this];exact Yd ho i
structure QK (h:Qd):Prop where
 proof:Ql8 h.proof
 rods:h.pull.rods.length<=1000
 reads:h.pull.reads.length<=1000
@[simp] def Qqo (k:Nat) (h:Qd):List AV:=[.aref k h.proof.chain.deeds.length,.aref (k+1) h.proof.chain.sights.length,.iv (.int .i64 h.proof.chain.wrong),.aref (k+2) h.proof.machine.levers.length,.iv (.int .i64 h.proof.machine.water),.iv (.int .i64 h.proof.machine.llo),.iv (.int .i64 h.proof.machine.lhi),
 .aref (k+3) h.proof.machine.bals.length,.iv (.int .i64 h.proof.machine.wrong),.aref (k+4) h.proof.trials.length,.iv (.int .i64 h.proof.need),.iv (.int .i64 h.proof.rule),.iv (.int .i64 h.pull.iron),.iv (.int .i64 h.pull.glo),.iv (.int .i64 h.pull.ghi),.aref (k+5) h.pull.rods.length,.aref (k+6) h.pull.reads.length,.iv (.int .i64 h.pull.wrong)]
@[simp] def Xu (k:Nat) (h:Qd):Qx:=[(k,.arr 162 5 (emb (h.proof.chain.deeds.map dC)) 0),(k+1,.arr 166 5 (emb (h.proof.chain.sights.map sC)) 0),(k+2,.arr 191 3 (emb (h.proof.machine.levers.map leC)) 0),(k+3,.arr 168 4 (emb (h.proof.machine.bals.map baC)) 0),
 (k+4,.arr 164 3 (emb (h.proof.trials.map trC)) 0),(k+5,.arr 187 3 (emb (h.pull.rods.map roC)) 0),(k+6,.arr 170 7 (emb (h.pull.reads.map reC)) 0)]
include hK
theorem Qj3 (h:Qd) (hs:QK h):QQ Tryz.prog K 101 [.iv (hoV h)] [] [] (.agg (Qqo 0 h)) (Xu 0 h):=by
 obtain ⟨⟨h1,h2,h3,h4,h5⟩,h6,h7⟩:=hs;refine Q2 [17,22,33,38,62,49,54] [] [] [] QzW.p (by simp[QD0]) (by simp) ?_ ?_ ?_ ?_
 ·intro q hq
  simp only[Xu,QLX,QLZ,or_false] at hq;rcases hq with rfl | rfl | rfl | rfl | rfl | rfl | rfl<;>exact ⟨by simp,rfl,Xz _ _ _ _ _⟩
 ·simp[clA,clAL]
 ·simp
 ·generalize hG:QgS QD0.res [17,22,33,38,62,49,54] [] (.agg (Qqo 0 h)) (Xu 0 h)=G
  simp[QD0];refine Yc (QB3 h.proof.chain.deeds h1) (by simp[Qc]) ?_
  simp;refine Yc (QB2 h.proof.chain.sights h2) (by simp[Qc]) ?_
  simp;refine Yc (QB1 h.proof.machine.levers h3) (by simp[Qc]) ?_
  simp;refine Yc (QB0 h.proof.machine.bals h4) (by simp[Qc]) ?_
  simp;refine Yc (QBZ h.pull.rods h6) (by simp[Qc]) ?_
  simp;refine Yc (QBY h.pull.reads h7) (by simp[Qc]) ?_
  simp;refine Yc (QBX h.proof.trials h5) (by simp[Qc]) ?_
  simp;rw[<- hG];refine ⟨⟨_,rfl,rfl⟩,fun q hq=>?_,by simp⟩
  simp only[Xu,QLX,QLZ,or_false] at hq;rcases hq with rfl | rfl | rfl | rfl | rfl | rfl | rfl<;>simp[rnO,nth,qK,emb]
omit hK
@[reducible] def QH (h:Qd):Qx:=[(0,.box ((hoC h).map AV.iv))]
def UW (r:Nat) (y:Txt) (h':Qd):Env->Qx->Prop:=QgS [QeS.tmp r] [0] [(0,0,0)] (.iv (.str y)) (QH h')
theorem Jg (h:Qd):∀ q∈QH h,q.1<1/\Zr q.2=true/\clO ((QH h).map (·.1)) q.2=true:=by
 intro q hq;simp only[QLX,QLZ,or_false] at hq;subst hq;exact ⟨by omega,rfl,Qia _ _⟩
theorem QS {r:Nat} {y:Txt} {h':Qd} {e:Env} {o:Qx} (h1:Ev.look e r=.iv (.str y)) (h2:Ev.look e 0=.loc 0 0) (h3:Qc o 0=some (.box ((hoC h').map AV.iv))):UW r y h' e o:=by
 refine ⟨⟨.iv (.str y),?_,rfl⟩,fun q hq=>?_,fun q hq=>?_⟩
 ·simp[Qvf,QqJ,h1]
 ·simp only[QLX,QLZ,or_false] at hq
  subst hq;refine h3.trans ?_;simp only[rnO,QfC]
 grind
section
theorem Qp {f:FuncId} {A:AFn} {r:Nat} {args:List IV} {h h':Qd} {y:Txt} (hok:ZO Tryz.prog f A [0]) (hres:A.res=[.tmp r]) (hlen:args.length<A.nt)
  (hrun:WpF Tryz.prog K (FnF (UW r y h')) [.code A.code] (Vj 0 (.loc 0 0::args.map .iv)) (QH h)):QQ Tryz.prog K f (.loc 0 0::args.map .iv) (QH h) [0] (.iv (.str y)) (QH h'):=by
 refine Q2 [0] [0] [0] [(0,0,0)] hok (by simp;omega) (by simp) (Jg h') (by simp[clA]) ?_ (by rw[hres];exact hrun)
 simp[nth,Qc]
 grind
theorem X9 {args0:List IV} {o:Qx} {h h':Qd} {a:Nat} (ho:Qc o a=some (.box ((hoC h).map AV.iv))):HOk [a] (.loc 0 0::args0.map .iv) o (QH h) (QH h'):=by
 refine ⟨by simp,?_,fun q hq=>?_,fun i hi h1=>?_,fun q hq=>⟨(Jg h' q hq).1,(Jg h' q hq).2.1⟩⟩
 ·simp[clA]
 ·have h1:=Jg h q hq
  refine ⟨h1.1,?_,h1.2.2,h1.2.1⟩;simp only[QLX,QLZ,or_false] at hq;subst hq;refine ho.trans ?_;simp only[rnO,QfC]
 ·simp at hi
  subst hi;simp[Qc] at h1
include hK
theorem Qn7 (h:Qd) (hs:QK h):Ev.Good Tryz.prog K 100 [hoV h] (.int .i64 (Qma h)):=by
 refine Qb hK QzX (by simp) ?_
 have g1:=Qn3 hK h.proof hs.proof;have g2:=Qn1 hK h.pull hs.rods hs.reads;simp;refine cK (by simpa using g1) ?_
 unfold Qma okH;by_cases h1:OkP h.proof
 ·simp[h1]
  refine cK (by simpa using g2) ?_
  by_cases h2:OkU h.pull<;>simp[h2]
 ·simp[h1]
end
theorem QLA (h:Qd):imms (fun i=>if i=0 then none else Qc ((0,.box (Qqo 1 h))::Xu 1 h) i) 40 (Qqo 1 h)=some (hoC h):=by
 simp[imms,imm,immss,Qc,QLQ]
def CH (K:World->Prop) (g:FuncId) (cs:List IV) (h h':Qd):Prop:=QQ Tryz.prog K g (.loc 0 0::cs.map .iv) ((0,.box (Qqo 1 h))::Xu 1 h) [0] (.iv (.tup [])) (QH h')
theorem Quv (h:Qd):∀ q∈((0,AO.box (Qqo 1 h))::Xu 1 h),q.1<8/\Zr q.2=true/\clO (((0,AO.box (Qqo 1 h))::Xu 1 h).map (·.1)) q.2=true:=by
 intro q hq;simp only[Xu,QLX,QLZ,or_false] at hq;rcases hq with rfl | rfl | rfl | rfl | rfl | rfl | rfl | rfl
 ·exact ⟨by omega,rfl,by simp[clO,clAL,clA]⟩
 all_goals exact ⟨by show (_:Nat)<8;omega,rfl,Xz _ _ _ _ _⟩
def QAe (h':Qd):Env->Qx->Prop:=QgS [] [0,1,2,3,4,5,6,7] [(0,0,0)] (.iv (.tup [])) ((0,.box (Qqo 1 h'))::Xu 1 h')
theorem Qb0 {h':Qd} {e:Env} {o:Qx} (h1:Ev.look e 0=.loc 0 0) (h2:∀ q∈((0,AO.box (Qqo 1 h'))::Xu 1 h'),Qc o q.1=some q.2):QAe h' e o:=by
 refine ⟨⟨.iv (.tup []),rfl,rfl⟩,fun q hq=>?_,fun q hq=>?_⟩
 ·have h3:=h2 q hq
  simp only[Xu,QLX,QLZ,or_false] at hq;rcases hq with rfl | rfl | rfl | rfl | rfl | rfl | rfl | rfl
  ·refine h3.trans ?_
   simp[rnO,rnL,rn,nth]
  all_goals
   refine h3.trans ?_;rw[YI]
 grind
section
variable {K:World->Prop}
theorem VU {f:FuncId} {A:AFn} {cs:List IV} {h h':Qd} (hok:ZO Tryz.prog f A [0]) (hres:A.res=[]) (hlen:cs.length<A.nt)
  (hrun:WpF Tryz.prog K (FnF (QAe h')) [.code A.code] (Vj 0 (.loc 0 0::cs.map .iv)) ((0,.box (Qqo 1 h))::Xu 1 h)):CH K f cs h h':=by
 refine QQ.give (Q2 [0,1,2,3,4,5,6,7] [0] [0] [(0,0,0)] hok (by simp;omega) (by decide) (Quv h') (by simp[clA]) ?_ (by rw[hres];exact hrun)) (by simp) (QLA h')
 simp[nth,Qc]
 grind
theorem Qsx:ZO Tryz.prog 290 QDf [0]:=⟨_,Tryz.func290,by kernel_rfl⟩
theorem QsC:ZO Tryz.prog 233 c233 [0]:=⟨_,Tryz.func233,by kernel_rfl⟩
theorem QsB:ZO Tryz.prog 234 QyC [0]:=⟨_,Tryz.func234,by kernel_rfl⟩
theorem QsA:ZO Tryz.prog 235 QDo [0]:=⟨_,Tryz.func235,by kernel_rfl⟩
theorem Qsz:ZO Tryz.prog 236 QDn [0]:=⟨_,Tryz.func236,by kernel_rfl⟩
theorem Qsy:ZO Tryz.prog 237 QDm [0]:=⟨_,Tryz.func237,by kernel_rfl⟩
def Zo (h:Qd) (s:Xq):Qd:={ h with proof:={ h.proof with chain:={ h.proof.chain with sights:=h.proof.chain.sights++[s] } } }
def XF (h:Qd) (b:Qy):Qd:={ h with proof:={ h.proof with machine:={ h.proof.machine with bals:=h.proof.machine.bals++[b] } } }
def ZN (h:Qd) (x:Qo):Qd:={ h with pull:={ h.pull with reads:=h.pull.reads++[x] } }
def Zb (h:Qd) (t:Vt):Qd:={ h with proof:={ h.proof with chain:={ h.proof.chain with deeds:=h.proof.chain.deeds++[⟨4,0,0,0,0⟩] },trials:=h.proof.trials++[t] } }
def ZP (h:Qd):Qd:={ h with proof:={ h.proof with chain:={ h.proof.chain with deeds:=h.proof.chain.deeds.dropLast },trials:=if (h.proof.chain.deeds.getLast?.map (·.what))=some 4 then h.proof.trials.dropLast else h.proof.trials } }
theorem QFR (h:Qd) (d:Qs) (hs:QK h):CH K 290 [.ptr (dC d)] h (Qg h d):=by
 obtain ⟨⟨h1,h2,h3,h4,h5⟩,h6,h7⟩:=hs;refine VU Qsx rfl (by simp[QDf]) ?_
 generalize hG:QAe (Qg h d)=G;simp[QDf];rw[<- hG]
 repeat' first | omega | exact Qb0 rfl (by
  intro q hq;simp only[Xu,QLX,QLZ,or_false] at hq;rcases hq with rfl | rfl | rfl | rfl | rfl | rfl | rfl | rfl<;>simp[Qc,Qg]) | intro _ | apply And.intro
theorem QFW (h:Qd) (a b c:Int) (hs:QK h):CH K 233 [.ptr [Zd [a,b,c]]] h (Zb h ⟨a,b,c⟩):=by
 obtain ⟨⟨h1,h2,h3,h4,h5⟩,h6,h7⟩:=hs;refine VU QsC rfl (by simp[c233]) ?_
 generalize hG:QAe (Zb h ⟨a,b,c⟩)=G;simp[c233];rw[<- hG]
 repeat' first | omega | exact Qb0 rfl (by
  intro q hq;simp only[Xu,QLX,QLZ,or_false] at hq;rcases hq with rfl | rfl | rfl | rfl | rfl | rfl | rfl | rfl<;>simp[Qc,Zb]) | intro _ | apply And.intro
theorem QFU (h:Qd) (a b c d e:Int) (hs:QK h):CH K 235 [.ptr [Zd [a,b,c,d,e]]] h (Zo h ⟨a,b,c,d,e⟩):=by
 obtain ⟨⟨h1,h2,h3,h4,h5⟩,h6,h7⟩:=hs;refine VU QsA rfl (by simp[QDo]) ?_
 generalize hG:QAe (Zo h ⟨a,b,c,d,e⟩)=G;simp[QDo];rw[<- hG]
 repeat' first | omega | exact Qb0 rfl (by
  intro q hq;simp only[Xu,QLX,QLZ,or_false] at hq;rcases hq with rfl | rfl | rfl | rfl | rfl | rfl | rfl | rfl<;>simp[Qc,Zo]) | intro _ | apply And.intro
theorem QFT (h:Qd) (a b c d:Int) (hs:QK h):CH K 236 [.ptr [Zd [a,b,c,d]]] h (XF h ⟨a,b,c,d⟩):=by
 obtain ⟨⟨h1,h2,h3,h4,h5⟩,h6,h7⟩:=hs;refine VU Qsz rfl (by simp[QDn]) ?_
 generalize hG:QAe (XF h ⟨a,b,c,d⟩)=G;simp[QDn];rw[<- hG]
 repeat' first | omega | exact Qb0 rfl (by
  intro q hq;simp only[Xu,QLX,QLZ,or_false] at hq;rcases hq with rfl | rfl | rfl | rfl | rfl | rfl | rfl | rfl<;>simp[Qc,XF]) | intro _ | apply And.intro
theorem QFS (h:Qd) (a b c d e f g:Int) (hs:QK h):CH K 237 [.ptr [Zd [a,b,c,d,e,f,g]]] h (ZN h ⟨a,b,c,d,e,f,g⟩):=by
 obtain ⟨⟨h1,h2,h3,h4,h5⟩,h6,h7⟩:=hs;refine VU Qsy rfl (by simp[QDm]) ?_
 generalize hG:QAe (ZN h ⟨a,b,c,d,e,f,g⟩)=G;simp[QDm];rw[<- hG]
 repeat' first | omega | exact Qb0 rfl (by
  intro q hq;simp only[Xu,QLX,QLZ,or_false] at hq;rcases hq with rfl | rfl | rfl | rfl | rfl | rfl | rfl | rfl<;>simp[Qc,ZN,emb]) | intro _ | apply And.intro
theorem QFV (h:Qd) (hne:h.proof.chain.deeds≠[]) (ht:(h.proof.chain.deeds.getLast?.map (·.what))=some 4->h.proof.trials≠[]) (hs:QK h):CH K 234 [.ptr [.int .i64 ((h.proof.chain.deeds.length:Int)-1)]] h (ZP h):=by
 obtain ⟨⟨h1,h2,h3,h4,h5⟩,h6,h7⟩:=hs;obtain ⟨D,d,hD⟩:∃ D d,h.proof.chain.deeds=D++[d]:=⟨_,_,(QMM hne).symm⟩
 have hr:QyC.res=[]:=rfl;obtain ⟨⟨⟨deeds,sights,cw⟩,m,trials,need,rule⟩,u⟩:=h;simp only at *;subst hD;refine Q2 [0] [0] [0] [(0,0,0)] QsB (by simp[QyC]) (by simp) (Jg _) (by simp[clA]) ?_ ?_
 ·simp[nth,Qc]
  grind
 ·rw[hr]
  have fin:∀ (e:Env) (o:Qx) (h':Qd),Ev.look e 0=.loc 0 0->Qc o 0=some (.box ((hoC h').map AV.iv))->QgS [] [0] [(0,0,0)] (.iv (.tup [])) (QH h') e o:=fun e o h' q1 q2=>by
   refine ⟨⟨.iv (.tup []),rfl,rfl⟩,fun q hq=>?_,fun q hq=>?_⟩
   ·simp only[QLX,QLZ,or_false] at hq
    subst hq;refine q2.trans ?_;simp only[rnO,QfC]
   grind
  generalize hG:QgS [] [0] [(0,0,0)] (.iv (.tup [])) (QH (ZP ⟨⟨⟨D++[d],sights,cw⟩,m,trials,need,rule⟩,u⟩))=G;simp at ht h1
  have tk:∀ x:List IV,List.take D.length (List.take (D.length+1) (D.map dC++[x]))=D.map dC:=fun x=>by
   grind
  by_cases h4:d.what=4
  ·have htl:1<=trials.length:=QMJ.2 (ht h4)
   have htn:((trials.length:Int)-1).toNat=trials.length-1:=by omega
   simp[QyC,h4,htn];rw[<- hG]
   repeat' first | omega | exact fin _ _ _ rfl (by simp[Qc,ZP,h4,List.dropLast_eq_take,tk]) | intro _ | apply And.intro
  ·simp[QyC,h4]
   rw[<- hG]
   repeat' first | omega | exact fin _ _ _ rfl (by simp[Qc,ZP,h4,tk]) | intro _ | apply And.intro
end
theorem QsD:ZO Tryz.prog 232 c232 [0]:=⟨_,Tryz.func232,by kernel_rfl⟩
theorem QsE:ZO Tryz.prog 231 QDp [0]:=⟨_,Tryz.func231,by kernel_rfl⟩
theorem Qs3:ZO Tryz.prog 162 QDQ [0]:=⟨_,Tryz.func162,by kernel_rfl⟩
theorem Qs2:ZO Tryz.prog 163 QDP [0]:=⟨_,Tryz.func163,by kernel_rfl⟩
theorem Qs1:ZO Tryz.prog 164 QDO [0]:=⟨_,Tryz.func164,by kernel_rfl⟩
theorem Qs0:ZO Tryz.prog 165 QDN [0]:=⟨_,Tryz.func165,by kernel_rfl⟩
theorem QsZ:ZO Tryz.prog 166 QAu [0]:=⟨_,Tryz.func166,by kernel_rfl⟩
theorem QsY:ZO Tryz.prog 167 c167 [0]:=⟨_,Tryz.func167,by kernel_rfl⟩
theorem QsX:ZO Tryz.prog 168 c168 [0]:=⟨_,Tryz.func168,by kernel_rfl⟩
theorem QsW:ZO Tryz.prog 169 QDM [0]:=⟨_,Tryz.func169,by kernel_rfl⟩
noncomputable def chT (h':Qd):Txt:=if okH h' then Ji else tNo
noncomputable def chH (h h':Qd):Qd:=if okH h' then h' else h
include hK
theorem Uh (h h':Qd) (g:FuncId) (cs:List IV) (hs:QK h) (hs':QK h') (hc:callee Tryz.prog g=true) (hg:CH K g cs h h') :
  QQ Tryz.prog K 232 (.loc 0 0::[IV.clo g [] cs].map .iv) (QH h) [0] (.iv (.str (chT h'))) (QH (chH h h')):=by
 refine Qp QsD rfl (by simp[c232]) ?_
 generalize hG:UW 4 (chT h') (chH h h')=G;have g28:=Qj3 hK h hs;have g9:=Qn7 hK h' hs';simp[c232];refine Qi (ids:=[11000,11001,11003,11007,11009,11015,11016]) g28 rfl ?_ ?_
 ·refine ⟨by decide,by simp[clA],by simp,?_,?_⟩
  ·simp[Qc]
   intro i hi;have:i=0\/i=1\/i=2\/i=3\/i=4\/i=5\/i=6:=by omega
   rcases this with rfl | rfl | rfl | rfl | rfl | rfl | rfl<;>simp[nth]
  intro q hq;simp only[Xu,QLX,QLZ,or_false] at hq;rcases hq with rfl | rfl | rfl | rfl | rfl | rfl | rfl<;>exact ⟨by show (_:Nat)<7;omega,rfl⟩
 ·simp[rn,rnL,nth,YI]
  refine ⟨hc,?_⟩;refine Qi (ids:=[5,11000,11001,11003,11007,11009,11015,11016]) hg (by simp[nth,rn]) ?_ ?_
  ·refine ⟨by decide,by simp[clA],fun q hq=>?_,fun i hi h1=>?_,fun q hq=>?_⟩
   ·have h1:=Quv h q hq
    refine ⟨h1.1,?_,h1.2.2,h1.2.1⟩;simp only[Xu,QLX,QLZ,or_false] at hq;rcases hq with rfl | rfl | rfl | rfl | rfl | rfl | rfl | rfl
    ·simp[Qc,nth,rnO,rnL,rn]
    all_goals
     rw[YI];simp[Qc,nth]
   ·simp at hi
    have:i=0\/i=1\/i=2\/i=3\/i=4\/i=5\/i=6\/i=7:=by omega
    rcases this with rfl | rfl | rfl | rfl | rfl | rfl | rfl | rfl<;>simp[Qc] at h1
   ·have h1:=Jg h' q hq
    grind
  ·simp[rn,nth]
   refine cK (by simpa using g9) ?_
   rw[<- hG];unfold Qma chT chH;by_cases ho:okH h'
   ·simp[ho]
    exact QS rfl rfl (by simp[Qc])
   ·simp[ho]
    exact QS rfl rfl (by simp[Qc])
theorem Qem (h:Qd) (d:Qs) (hs:QK h) (hs':QK (Qg h d)):QQ Tryz.prog K 231 (.loc 0 0::[IV.agg (dC d)].map .iv) (QH h) [0] (.iv (.str (chT (Qg h d)))) (QH (chH h (Qg h d))):=by
 refine Qp QsE rfl (by simp[QDp]) ?_
 generalize hG:UW 4 (chT (Qg h d)) (chH h (Qg h d))=G;have hg:=Uh hK h (Qg h d) 290 [.ptr (dC d)] hs hs' (by kernel_rfl) (QFR h d hs)
 simp[QDp];refine Qi hg (by simp[nth,rn]) (X9 (by simp[Qc])) ?_
 simp[nth,rn];rw[<- hG];exact QS rfl rfl (by simp[Qc])
theorem Qrt (h:Qd) (a b c d:Int) (hs:QK h) (hs':QK (Qg h ⟨1,a,b,c,d⟩)):QQ Tryz.prog K 162 (.loc 0 0::[Zd [a,b,c,d]].map .iv) (QH h) [0] (.iv (.str (chT (Qg h ⟨1,a,b,c,d⟩)))) (QH (chH h (Qg h ⟨1,a,b,c,d⟩))):=by
 refine Qp Qs3 rfl (by simp[QDQ]) ?_
 generalize hG:UW 4 (chT (Qg h ⟨1,a,b,c,d⟩)) (chH h (Qg h ⟨1,a,b,c,d⟩))=G;have hg:=Qem hK h ⟨1,a,b,c,d⟩ hs hs';simp[QDQ];refine Qi hg (by simp[nth,rn]) (X9 (by simp[Qc])) ?_
 simp[nth,rn];rw[<- hG];exact QS rfl rfl (by simp[Qc])
theorem Qrs (h:Qd) (a b:Int) (hs:QK h) (hs':QK (Qg h ⟨2,a,b,0,0⟩)):QQ Tryz.prog K 163 (.loc 0 0::[Zd [a,b]].map .iv) (QH h) [0] (.iv (.str (chT (Qg h ⟨2,a,b,0,0⟩)))) (QH (chH h (Qg h ⟨2,a,b,0,0⟩))):=by
 refine Qp Qs2 rfl (by simp[QDP]) ?_
 generalize hG:UW 4 (chT (Qg h ⟨2,a,b,0,0⟩)) (chH h (Qg h ⟨2,a,b,0,0⟩))=G;have hg:=Qem hK h ⟨2,a,b,0,0⟩ hs hs';simp[QDP];refine Qi hg (by simp[nth,rn]) (X9 (by simp[Qc])) ?_
 simp[nth,rn];rw[<- hG];exact QS rfl rfl (by simp[Qc])
theorem Qrr (h:Qd) (hs:QK h) (hs':QK (Qg h ⟨3,0,0,0,0⟩)):QQ Tryz.prog K 164 (.loc 0 0::[Zd []].map .iv) (QH h) [0] (.iv (.str (chT (Qg h ⟨3,0,0,0,0⟩)))) (QH (chH h (Qg h ⟨3,0,0,0,0⟩))):=by
 refine Qp Qs1 rfl (by simp[QDO]) ?_
 generalize hG:UW 4 (chT (Qg h ⟨3,0,0,0,0⟩)) (chH h (Qg h ⟨3,0,0,0,0⟩))=G;have hg:=Qem hK h ⟨3,0,0,0,0⟩ hs hs';simp[QDO];refine Qi hg (by simp[nth,rn]) (X9 (by simp[Qc])) ?_
 simp[nth,rn];rw[<- hG];exact QS rfl rfl (by simp[Qc])
theorem Qrq (h:Qd) (a b c:Int) (hs:QK h) (hs':QK (Zb h ⟨a,b,c⟩)):QQ Tryz.prog K 165 (.loc 0 0::[Zd [a,b,c]].map .iv) (QH h) [0] (.iv (.str (chT (Zb h ⟨a,b,c⟩)))) (QH (chH h (Zb h ⟨a,b,c⟩))):=by
 refine Qp Qs0 rfl (by simp[QDN]) ?_
 generalize hG:UW 4 (chT (Zb h ⟨a,b,c⟩)) (chH h (Zb h ⟨a,b,c⟩))=G;have hg:=Uh hK h (Zb h ⟨a,b,c⟩) 233 [.ptr [Zd [a,b,c]]] hs hs' (by kernel_rfl) (QFW h a b c hs)
 simp[QDN];refine Qi hg (by simp[nth,rn]) (X9 (by simp[Qc])) ?_
 simp[nth,rn];rw[<- hG];exact QS rfl rfl (by simp[Qc])
theorem Qro (h:Qd) (a b c d e:Int) (hs:QK h) (hs':QK (Zo h ⟨a,b,c,d,e⟩)):QQ Tryz.prog K 167 (.loc 0 0::[Zd [a,b,c,d,e]].map .iv) (QH h) [0] (.iv (.str (chT (Zo h ⟨a,b,c,d,e⟩)))) (QH (chH h (Zo h ⟨a,b,c,d,e⟩))):=by
 refine Qp QsY rfl (by simp[c167]) ?_
 generalize hG:UW 4 (chT (Zo h ⟨a,b,c,d,e⟩)) (chH h (Zo h ⟨a,b,c,d,e⟩))=G;have hg:=Uh hK h (Zo h ⟨a,b,c,d,e⟩) 235 [.ptr [Zd [a,b,c,d,e]]] hs hs' (by kernel_rfl) (QFU h a b c d e hs)
 simp[c167];refine Qi hg (by simp[nth,rn]) (X9 (by simp[Qc])) ?_
 simp[nth,rn];rw[<- hG];exact QS rfl rfl (by simp[Qc])
theorem Qrn (h:Qd) (a b c d:Int) (hs:QK h) (hs':QK (XF h ⟨a,b,c,d⟩)):QQ Tryz.prog K 168 (.loc 0 0::[Zd [a,b,c,d]].map .iv) (QH h) [0] (.iv (.str (chT (XF h ⟨a,b,c,d⟩)))) (QH (chH h (XF h ⟨a,b,c,d⟩))):=by
 refine Qp QsX rfl (by simp[c168]) ?_
 generalize hG:UW 4 (chT (XF h ⟨a,b,c,d⟩)) (chH h (XF h ⟨a,b,c,d⟩))=G;have hg:=Uh hK h (XF h ⟨a,b,c,d⟩) 236 [.ptr [Zd [a,b,c,d]]] hs hs' (by kernel_rfl) (QFT h a b c d hs)
 simp[c168];refine Qi hg (by simp[nth,rn]) (X9 (by simp[Qc])) ?_
 simp[nth,rn];rw[<- hG];exact QS rfl rfl (by simp[Qc])
theorem Qrm (h:Qd) (a b c d e f g:Int) (hs:QK h) (hs':QK (ZN h ⟨a,b,c,d,e,f,g⟩)):QQ Tryz.prog K 169 (.loc 0 0::[Zd [a,b,c,d,e,f,g]].map .iv) (QH h) [0] (.iv (.str (chT (ZN h ⟨a,b,c,d,e,f,g⟩)))) (QH (chH h (ZN h ⟨a,b,c,d,e,f,g⟩))):=by
 refine Qp QsW rfl (by simp[QDM]) ?_
 generalize hG:UW 4 (chT (ZN h ⟨a,b,c,d,e,f,g⟩)) (chH h (ZN h ⟨a,b,c,d,e,f,g⟩))=G;have hg:=Uh hK h (ZN h ⟨a,b,c,d,e,f,g⟩) 237 [.ptr [Zd [a,b,c,d,e,f,g]]] hs hs' (by kernel_rfl) (QFS h a b c d e f g hs)
 simp[QDM];refine Qi hg (by simp[nth,rn]) (X9 (by simp[Qc])) ?_
 simp[nth,rn];rw[<- hG];exact QS rfl rfl (by simp[Qc])
theorem Qrp (h:Qd) (ht:(h.proof.chain.deeds.getLast?.map (·.what))=some 4->h.proof.trials≠[]) (hs:QK h) (hs':QK (ZP h)):QQ Tryz.prog K 166 (.loc 0 0::[Zd []].map .iv) (QH h) [0] (.iv (.str (if h.proof.chain.deeds=[] then tNo else chT (ZP h)))) (QH (if h.proof.chain.deeds=[] then h else chH h (ZP h))):=by
 have hl:=hs.proof.deeds;refine Qp QsZ rfl (by simp[QAu]) ?_
 by_cases hne:h.proof.chain.deeds=[]
 ·simp only[hne,if_true]
  generalize hG:UW 4 tNo h=G;simp[QAu,hne];refine QgQ _ _ _ _ _ _ _ _ ?_;simp;rw[<- hG];exact QS rfl rfl (by simp[Qc,hne])
 ·simp only[hne,if_false]
  generalize hG:UW 4 (chT (ZP h)) (chH h (ZP h))=G;have hlen:=QMJ.2 hne;have hg:=Uh hK h (ZP h) 234 [.ptr [.int .i64 ((h.proof.chain.deeds.length:Int)-1)]] hs hs' (by kernel_rfl) (QFV h hne ht hs)
  have hlt:¬ (h.proof.chain.deeds.length:Int)-1<0:=by omega
  simp[QAu];intro _;refine ⟨by omega,?_⟩
  refine QgQ _ _ _ _ _ _ _ _ ?_;simp[hlt];refine Qi (ids:=[0,5]) hg (by simp[nth,rn]) ?_ ?_
  ·refine ⟨by decide,by simp[clA],fun q hq=>?_,fun i hi h1=>?_,fun q hq=>?_⟩
   ·have h1:=Jg h q hq
    refine ⟨by grind,?_,h1.2.2,h1.2.1⟩
    simp only[QLX,QLZ,or_false] at hq;subst hq;simp[Qc,nth,rnO,rnL,rn]
   ·simp at hi
    have:i=0\/i=1:=by omega
    rcases this with rfl | rfl
    ·simp[Qc] at h1
    ·simp[Qc,nth]
   ·have h1:=Jg (chH h (ZP h)) q hq
    grind
  ·simp[nth,rn]
   rw[<- hG];exact QS rfl rfl (by simp[Qc])
omit hK
set_option maxHeartbeats 10000000
def Qaa (neg:Bool) (D:Txt):Option Nat:=if D.length=0\/9<D.length\/(D.head?=some 48/\(neg=true\/1<D.length)) then none else Lib.decFrom 0 D
theorem Qm2 (w:Txt):Qea w=if w.head?=some 45 then (Qaa true (w.drop 1)).map fun (m:Nat) => -(m:Int) else (Qaa false w).map fun (m:Nat)=>(m:Int):=by
 unfold Qea
 have dn:∀ D:Txt,D≠[]->Lib.decNat D=Lib.decFrom 0 D:=fun D h=>by
  unfold Lib.decNat
  grind
 split
 ·generalize w.drop 1=D
  unfold Qaa;by_cases h0:D=[]
  ·subst h0;simp[Lib.decNat]
  grind
 ·unfold Qaa
  by_cases h0:w=[]
  ·subst h0;simp[Lib.decNat]
  grind
theorem Yb:∀ (a b:Txt) (acc:Nat),Lib.decFrom acc (a++b)=(Lib.decFrom acc a).bind fun m=>Lib.decFrom m b
 | [],b,acc=>rfl
 | c::a,b,acc=>by
   simp only[QL1,Lib.decFrom];cases Lib.digitVal c with
   | none=>rfl
   | some d=>exact Yb a b _
theorem Je (c:UInt8):Lib.digitVal c=if 48<=c.toNat/\c.toNat<=57 then some (c.toNat-48) else none:=by
 unfold Lib.digitVal;rfl
theorem decFrom_lt:∀ (l:Txt) (m:Nat) (i:Nat),i<=l.length->Lib.decFrom 0 (l.take i)=some m->m<10 ^ i
 | l,m,0,_,h=>by simp[Lib.decFrom] at h;subst h;simp
 | l,m,i+1,hi,h=>by
   rw[QLM (by omega),Yb] at h
   cases hk:Lib.decFrom 0 (l.take i) with
   | some k =>
     have:=decFrom_lt l k i (by omega) hk
     rw[hk] at h;simp only[Option.bind_some,Lib.decFrom,Je] at h
     grind
   | _=>grind
theorem W7 (w:Txt):(∃ p∈ZA,p.1=w)\/∀ p∈ZA,¬ p.1=w:=by
 grind
theorem Z7:∀ p∈ZA,Xd p.1=some p.2:=by decide
theorem JU {w:Txt} (h:∀ p∈ZA,¬ p.1=w):Xd w=none:=by
 unfold Xd
 grind
def ixW (w:Txt):Nat:=(ZA.map (·.1)).idxOf w
theorem QBf (w:Txt):ixW w<=25:=List.idxOf_le_length
theorem Zp {w l:Txt} (k:Nat) (h:(ZA.map (·.1))[k]?=some l) (hd:(ZA.map (·.1)).idxOf l=k):w=l↔ixW w=k:=by
 constructor
 ·intro e
  subst e;exact hd
 ·intro e
  unfold ixW at e
  grind
theorem Qmi (w:Txt):Xd w=(ZA[ixW w]?).map (·.2):=by
 by_cases h:∃ p∈ZA,p.1=w
 ·obtain ⟨p,hp,rfl⟩:=h
  rw[Z7 p hp];have hlt:ixW p.1<(ZA.map (·.1)).length:=List.idxOf_lt_length_of_mem (QL5.2 ⟨p,hp,rfl⟩)
  have hlt':ixW p.1<ZA.length:=by simpa using hlt
  have h1:=List.getElem_idxOf hlt;rw[QLN hlt'];have h2:=Z7 ZA[ixW p.1] (QLR hlt')
  have h3:ZA[ixW p.1].1=p.1:=by
   rw[<- List.getElem_map (f:=fun q:Txt × Nat × Vv=>q.1) (h:=by simpa using hlt)]
   exact h1
  rw[h3,Z7 p hp] at h2;exact h2
 ·rw[JU fun p hp e=>h ⟨p,hp,e⟩]
  have:ixW w=(ZA.map (·.1)).length:=List.idxOf_eq_length fun hm=>by
   grind
  grind
theorem ix0 (w:Txt):(w=[119,101,108,100])=(ixW w=0):=propext (Zp 0 rfl rfl)
theorem ix1 (w:Txt):(w=[99,117,116])=(ixW w=1):=propext (Zp 1 rfl rfl)
theorem ix2 (w:Txt):(w=[116,117,114,110])=(ixW w=2):=propext (Zp 2 rfl rfl)
theorem ix3 (w:Txt):(w=[112,114,111,118,101])=(ixW w=3):=propext (Zp 3 rfl rfl)
theorem ix4 (w:Txt):(w=[117,110,100,111])=(ixW w=4):=propext (Zp 4 rfl rfl)
theorem ix5 (w:Txt):(w=[115,101,101])=(ixW w=5):=propext (Zp 5 rfl rfl)
theorem ix6 (w:Txt):(w=[98,97,108,97,110,99,101])=(ixW w=6):=propext (Zp 6 rfl rfl)
theorem ix7 (w:Txt):(w=[114,101,97,100])=(ixW w=7):=propext (Zp 7 rfl rfl)
theorem ix8 (w:Txt):(w=[119,104,111])=(ixW w=8):=propext (Zp 8 rfl rfl)
theorem ix9 (w:Txt):(w=[119,104,101,114,101])=(ixW w=9):=propext (Zp 9 rfl rfl)
theorem QLo (w:Txt):(w=[102,105,114,115,116])=(ixW w=10):=propext (Zp 10 rfl rfl)
theorem QLn (w:Txt):(w=[112,117,108,108,115])=(ixW w=11):=propext (Zp 11 rfl rfl)
theorem QLm (w:Txt):(w=[98,114,111,107,101])=(ixW w=12):=propext (Zp 12 rfl rfl)
theorem QLl (w:Txt):(w=[108,111,97,100,115])=(ixW w=13):=propext (Zp 13 rfl rfl)
theorem QLk (w:Txt):(w=[102,97,105,108,117,114,101,115])=(ixW w=14):=propext (Zp 14 rfl rfl)
theorem QLj (w:Txt):(w=[99,111,110,100,101,109,110,101,100])=(ixW w=15):=propext (Zp 15 rfl rfl)
theorem QLi (w:Txt):(w=[112,114,111,118,101,100])=(ixW w=16):=propext (Zp 16 rfl rfl)
theorem QLh (w:Txt):(w=[111,112,101,110])=(ixW w=17):=propext (Zp 17 rfl rfl)
theorem QLg (w:Txt):(w=[103,111,111,100])=(ixW w=18):=propext (Zp 18 rfl rfl)
theorem QLf (w:Txt):(w=[119,111,114,116,104])=(ixW w=19):=propext (Zp 19 rfl rfl)
theorem QLe (w:Txt):(w=[119,101,105,103,104,116])=(ixW w=20):=propext (Zp 20 rfl rfl)
theorem QLd (w:Txt):(w=[115,116,114,101,116,99,104])=(ixW w=21):=propext (Zp 21 rfl rfl)
theorem QLc (w:Txt):(w=[98,101,115,116])=(ixW w=22):=propext (Zp 22 rfl rfl)
theorem QLb (w:Txt):(w=[104,111,108,100,115])=(ixW w=23):=propext (Zp 23 rfl rfl)
theorem QLa (w:Txt):(w=[114,111,100,115])=(ixW w=24):=propext (Zp 24 rfl rfl)
theorem Jo (n:Nat) (h:9<n):Lib.decDigits n=Lib.decDigits (n / 10)++[UInt8.ofNat (48+n % 10)]:=by
 rw[Lib.decDigits,dif_neg (by omega)]
theorem Y0 (n:Nat) (h:n<=9):Lib.decDigits n=[UInt8.ofNat (48+n)]:=by
 rw[Lib.decDigits,dif_pos (by omega)]
theorem WP (n:Nat):(Lib.decDigits n).length<=n+1:=by
 induction n using Nat.strongRecOn with
 | ind n ih =>
   by_cases h:n<=9
   ·rw[Y0 n h];simp
   ·rw[Jo n (by omega)]
    grind
include hK
theorem QBH (s:Txt) (hs:s.length<=1000):Ev.Good Tryz.prog K 47 [.str s] (strs (spl s)):=by
 refine Qb hK QCX (by simp) ?_
 simp
 refine Yr s.length (fun i e o=>∃ mv,mv<=((s.take i).foldl Q6 [[]]).length/\0<((s.take i).foldl Q6 [[]]).length/\((s.take i).foldl Q6 [[]]).length<=i+1/\(∀ x∈(s.take i).foldl Q6 [[]],x.length<=i) /\
  e=[(0,AV.iv (IV.str s)),(3,AV.aref 5 ((s.take i).foldl Q6 [[]]).length),(4,AV.iv (IV.int IntKind.i64 (i:Nat)))] /\
  o=[(5,AO.arr 9 1 (emb (((s.take i).foldl Q6 [[]]).map fun s=>[.str s])) mv)]) ?_ ?_ _ _ ⟨0,by simp,by simp,by simp,by simp,rfl,rfl⟩
 ·rintro e o ⟨mv,h1,h2,h3,_,rfl,rfl⟩
  rw[Qa Qps.eq_1];simp[spl] at h1 h2 h3 |-;simp[h1]
 ·rintro i e o hi ⟨mv,h1,h2,h3,hx,rfl,rfl⟩ ih
  have e1:(s.take (i+1)).foldl Q6 [[]]=Q6 ((s.take i).foldl Q6 [[]]) s[i]:=by
   rw[QLM hi,QNe];rfl
  rw[Qa Qps.eq_1];rw[e1] at ih;generalize (s.take i).foldl Q6 [[]]=X at *;have h4:X.length-1<X.length:=by omega
  have h5:((X.length:Int)-1).toNat=X.length-1:=by omega
  have h6:s[i].toNat<256:=s[i].toNat_lt
  have h7:s[i]=32↔(s[i].toNat:Int)=32:=by
   rw[<- UInt8.toNat_inj];simp;omega
  have h8':((i:Int)+1).toNat=i+1:=by omega
  by_cases e:(s[i].toNat:Int)=32
  ·simp[hi,e]
   refine ⟨⟨h1,by omega,by omega⟩,by omega,?_⟩
   refine ih _ _ ⟨mv,?_,?_,?_,?_,?_,?_⟩<;>simp[Q6,h7.2 e]
   all_goals grind
  ·have h8:¬ s[i]=32:=fun c=>e (h7.1 c)
   have h9:=hx _ (QLR h4)
   have h10:(s.take (i+1)).drop i=[s[i]]:=by
    rw[QLM hi]
    grind
   simp[hi,e,h4,h5,h8',h10];refine ⟨h1,fun _=>⟨by omega,⟨by omega,h1⟩,h1,by omega,by omega,by omega,⟨by omega,h1⟩,h1,by omega,?_⟩⟩
   refine ih _ _ ⟨X.length,?_,?_,?_,?_,?_,?_⟩<;>simp[Q6,h8,h2,h4]
   all_goals grind
theorem QBF (w:Txt):Ev.Good Tryz.prog K 49 [.str w] (.int .i64 (match Xd w with | some p=>(p.1:Int) | none => -1)):=by
 refine Qb hK QCV (by simp) ?_
 rw[Qmi];have hlt:=QBf w;generalize hr:(match (ZA[ixW w]?).map (·.2) with | some p=>(p.1:Int) | none => -1)=r
 have key:∀ k,k<=25->ixW w=k->r=([4,2,0,3,0,5,4,7,1,1,0,2,1,1,0,0,1,0,0,0,0,0,0,1,1,-1]:List Int).getD k 0:=fun k hk e=>by
  rw[<- hr,e];have:∀ k≤25,(match (ZA[k]?).map (·.2) with | some p=>(p.1:Int) | none => -1)=([4,2,0,3,0,5,4,7,1,1,0,2,1,1,0,0,1,0,0,0,0,0,0,1,1,-1]:List Int).getD k 0:=by decide
  exact this k hk
 clear hr;simp (config:={ maxSteps:=10000000 }) [ix0,ix1,ix2,ix3,ix4,ix5,ix6,ix7,ix8,ix9,QLo,QLn,QLm,QLl,QLk,QLj,QLi,QLh,QLg,QLf,QLe,QLd,QLc,QLb,QLa];generalize ixW w=n at *;have k0:=key 0 (by omega)
 have k1:=key 1 (by omega)
 have k2:=key 2 (by omega)
 have k3:=key 3 (by omega)
 have k4:=key 4 (by omega)
 have k5:=key 5 (by omega)
 have k6:=key 6 (by omega)
 have k7:=key 7 (by omega)
 have k8:=key 8 (by omega)
 have k9:=key 9 (by omega)
 have k10:=key 10 (by omega)
 have k11:=key 11 (by omega)
 have k12:=key 12 (by omega)
 have k13:=key 13 (by omega)
 have k14:=key 14 (by omega)
 have k15:=key 15 (by omega)
 have k16:=key 16 (by omega)
 have k17:=key 17 (by omega)
 have k18:=key 18 (by omega)
 have k19:=key 19 (by omega)
 have k20:=key 20 (by omega)
 have k21:=key 21 (by omega)
 have k22:=key 22 (by omega)
 have k23:=key 23 (by omega)
 have k24:=key 24 (by omega)
 have k25:=key 25 (by omega)
 simp only[List.getD_cons_zero,List.getD_cons_succ] at *;clear key
 repeat' first | apply And.intro | intro _
 all_goals omega
theorem Qn2 (w:Txt):Ev.Good Tryz.prog K 13 [.str w] (.bool (match Xd w with | some p=>QJ p.2 | none=>false)):=by
 refine Qb hK QDV (by simp) ?_
 rcases W7 w with ⟨p,hp,rfl⟩ | h
 ·rw[Z7 p hp]
  simp only[ZA,QLX,QLZ,or_false] at hp;rcases hp with rfl | rfl | rfl | rfl | rfl | rfl | rfl | rfl | rfl | rfl | rfl | rfl | rfl | rfl | rfl | rfl | rfl | rfl | rfl | rfl | rfl | rfl | rfl | rfl | rfl<;>simp (config:={ maxSteps:=1000000 }) [QJ]
 ·rw[JU h]
  simp only[ZA,QLX,QLZ,or_false,forall_eq_or_imp,forall_eq,@eq_comm _ _ w] at h;simp[h]
theorem QnN (n:Nat) (hn:n<10 ^ 18):Ev.Good Tryz.prog K 52 [.int .i64 n] (.str (Lib.decDigits n)):=by
 refine Qb hK Qur (by simp) ?_
 have hneg:¬ (n:Int)<0:=by omega
 have hm:∀ m:Nat,((m:Int).tmod 10)=(m:Int) % 10:=fun m=>QNm (by omega)
 have hw:∀ m:Nat,IntKind.wrap .i32 (48+(m:Int) % 10)=48+(m:Int) % 10:=fun m=>UZ (by simp only[IntKind.inR];exact ⟨by simp;omega,by simp;omega⟩)
 have hd:∀ m:Nat,((48:Int)+(m:Int) % 10).toNat=48+m % 10:=fun m=>by omega
 have hq:∀ m:Nat,((m:Int).tdiv 10)=(m:Int) / 10:=fun m=>QMy (by omega)
 have hd2:∀ m:Nat,((48:Int)+(m:Int) / 10 % 10).toNat=48+m / 10 % 10:=fun m=>by omega
 have hm2:∀ m:Nat,(((m:Int) / 10).tmod 10)=(m:Int) / 10 % 10:=fun m=>QNm (by omega)
 have hw2:∀ m:Nat,IntKind.wrap .i32 (48+(m:Int) / 10 % 10)=48+(m:Int) / 10 % 10:=fun m=>UZ (by simp only[IntKind.inR];exact ⟨by simp;omega,by simp;omega⟩)
 have hln:=WP n;simp[hneg,hm,hw,hd];refine ⟨by omega,by omega,?_⟩
 refine QtL (S:=Nat × Txt) (fun s=>[(0,AV.iv (.int .i64 s.1)),(3,AV.iv (.str s.2))]) (fun _=>[]) (fun s=>s.1<=n/\∃ rest,s.2=UInt8.ofNat (48+s.1 % 10)::rest/\Lib.decDigits s.1++rest=Lib.decDigits n) (fun s=>s.1) ?_ (n,_) ⟨QLS _,[],by simp,by simp⟩
 rintro ⟨m,out⟩ ⟨h1,rest,h2,h3⟩ ih
 simp only at h1 h2 h3 ih |-;have hl:=congrArg List.length h3;simp only[QL3] at hl;rw[Qa Qus.eq_1];by_cases h9:9<m
 ·have h9':(9:Int)<(m:Int):=by omega
  have ih:=ih (m / 10,UInt8.ofNat (48+m / 10 % 10)::out) ⟨by simp only;omega,out,rfl,by
   rw[h2,<- h3,Jo m h9];simp⟩ (by simp only;omega)
  simp[h9',hq,hm2,hw2,hd2];refine ⟨by omega,by omega,⟨by omega,by omega⟩,by grind,?_⟩
  simpa using ih
 ·have h9':¬ (9:Int)<(m:Int):=by omega
  have:Lib.decDigits n=out:=by
   rw[<- h3,Y0 m (by omega),h2]
   have:m % 10=m:=by omega
   grind
  simp[h9',this]
theorem QnO (n:Int) (h : -1000000000000000<=n/\n<=1000000000000000):Ev.Good Tryz.prog K 52 [.int .i64 n] (.str (Lib.itoa n)):=by
 by_cases hn:n<0
 ·have hg:=QnN hK n.natAbs (by omega)
  have e1:Lib.itoa n=45::Lib.decDigits n.natAbs:=by
   unfold Lib.itoa;rw[if_pos hn]
  have e2:((n.natAbs:Nat):Int)=0-n:=by omega
  have hl:=WP n.natAbs;refine Qb hK Qur (by simp) ?_
  have m1:(if (1:Int) < -n then -n else 1)=((n.natAbs:Nat):Int):=by split<;>omega
  rw[e1];simp[hn,m1];refine ⟨by omega,cK (by simpa using hg) ?_⟩
  simp;omega
 ·have e1:Lib.itoa n=Lib.decDigits n.toNat:=by
   unfold Lib.itoa;rw[if_neg hn]
  have hg:=QnN hK n.toNat (by omega)
  grind
omit hK
def OkL (l:List Int):Prop:=l.length<=1000000/\∀ n∈l,-1000000000000000<=n/\n<=1000000000000000
theorem Yl {n:Int} (h : -1000000000000000<=n/\n<=1000000000000000):OkL [n]:=⟨by simp,by simpa using h⟩
theorem Qd8 {a b:Int} (h : -1000000000000000<=a/\a<=1000000000000000) (h' : -1000000000000000<=b/\b<=1000000000000000):OkL [a,b]:=⟨by simp,by
 grind⟩
theorem Qd9:OkL []:=⟨by simp,by simp⟩
theorem VT (n:Nat):∀ k,n<10 ^ k->0<k->(Lib.decDigits n).length<=k:=by
 induction n using Nat.strongRecOn with
 | ind n ih =>
   intro k hk h0;by_cases h:n<=9
   ·rw[Y0 n h];simp;omega
   ·rw[Jo n (by omega)]
    obtain ⟨j,rfl⟩:∃ j,k=j+1:=⟨k-1,by omega⟩
    have hj:0<j:=by
     grind
    have:=ih (n / 10) (by omega) j (by omega) hj
    simp;omega
theorem Qax {n:Int} (h : -1000000000000000<=n/\n<=1000000000000000):(Lib.itoa n).length<=20:=by
 unfold Lib.itoa;split
 ·have:=VT n.natAbs 16 (by omega) (by omega)
  simp;omega
 ·have:=VT n.toNat 16 (by omega) (by omega)
  omega
theorem Qc5:∀ (l:List Txt) (x:Txt),l≠[]->VK (l++[x])=VK l++(32::x)
 | [],_,h=>absurd rfl h
 | [y],x,_=>rfl
 | y::z::r,x,_=>by
   have:=Qc5 (z::r) x (by simp)
   simp only[QL1] at this |-;rw[VK,this,VK];simp
theorem Qf0:∀ (l:List Txt) (c:Nat),(∀ x∈l,x.length<=c)->(VK l).length<=(c+1)*l.length
 | [],_,_=>by simp[VK]
 | [x],c,h=>by
   have:=h x (by simp)
   simp[VK];omega
 | x::y::r,c,h=>by
   have h1:=h x (by simp)
   have h2:=Qf0 (y::r) c fun z hz=>h z (by simp[hz])
   simp only[VK,QL3,QMa] at h2 |-
   grind
theorem Qc4 {l:List Int} (h:OkL l) (i:Nat):(VK ((l.take i).map Lib.itoa)).length<=21000000:=by
 have h1:=Qf0 ((l.take i).map Lib.itoa) 20 fun x hx=>by
  obtain ⟨n,hn,rfl⟩:=QL5.1 hx;exact Qax (h.2 n (QMt hn))
 have h2:((l.take i).map Lib.itoa).length<=1000000:=by
  have:=h.1;simp;omega
 omega
theorem Qkq {D:Txt} {i:Nat} (hi:i<D.length) (h:Lib.digitVal D[i]=none):Lib.decFrom 0 D=none:=by
 have e:D=D.take i++D[i]::D.drop (i+1):=by simp
 rw[e,Yb];cases Lib.decFrom 0 (D.take i) with
 | none=>rfl
 | some m=>simp[Lib.decFrom,h]
theorem Qss {D:Txt} {i m:Nat} (hi:i<D.length) (hm:Lib.decFrom 0 (D.take i)=some m) (h:48<=D[i].toNat/\D[i].toNat<=57):Lib.decFrom 0 (D.take (i+1))=some (m*10+(D[i].toNat-48)):=by
 rw[QLM hi,Yb,hm];simp[Lib.decFrom,Je,h]
@[simp] abbrev QIc:AC:=.seq (.ops [⟨some 65,none,.mov (.t 4)⟩,⟨some 66,none,.mov (.t 6)⟩,⟨some 67,none,.bin .mul (.t 65) (.t 66)⟩,⟨some 2,none,.mov (.t 67)⟩,⟨some 3,none,.mov (.bool true)⟩] false) .ret
theorem Qnb {K:World->Prop} (sg:Int) (hsg:sg=1\/sg = -1) (D:Txt) (hD:D.length<=9) (r:Int) (b:Bool) (hs:∀ m,Lib.decFrom 0 D=some m->r=sg*m/\b=true) (hn:Lib.decFrom 0 D=none->r=0/\b=false) :
  Y1 Tryz.prog K (FnF (Qqg [QeS.tmp 2,QeS.tmp 3] (.tup [.int .i64 r,.bool b]))) QgH [4,5,6,7] [] [AI.inBlock 0,AI.code QIc] [(4,.iv (.int .i64 sg)),(5,.iv (.str D)),(6,.iv (.int .i64 0)),(7,.iv (.int .i64 0))] []:=by
 refine Qj (fun i=>[(4,AV.iv (.int .i64 sg)),(5,AV.iv (.str D)),(6,AV.iv (.int .i64 (((Lib.decFrom 0 (D.take i)).getD 0:Nat):Int))),(7,AV.iv (.int .i64 (i:Nat)))]) (fun _=>[]) D.length (fun i=>(Lib.decFrom 0 (D.take i)).isSome=true) (by simp[Lib.decFrom]) ?_ ?_
 ·intro h
  rw[QLU] at h;obtain ⟨m,hm⟩:=QMj.1 h;obtain ⟨rfl,rfl⟩:=hs m hm;have hlt:=decFrom_lt D m D.length (QLS _) (by grind)
  have hb:(10:Nat) ^ D.length<=10 ^ 9:=QMS (by omega) hD
  rw[Qa QgH.eq_1];simp[hm]
  grind
 ·intro i hi h ih
  obtain ⟨m,hm⟩:=QMj.1 h;have hlt:=decFrom_lt D m i (by omega) hm
  have hb:(10:Nat) ^ i<=10 ^ 9:=QMS (by omega) (by omega)
  have hc:D[i].toNat<256:=D[i].toNat_lt;rw[Qa QgH.eq_1];by_cases h1:D[i].toNat<48
  ·obtain ⟨rfl,rfl⟩:=hn (Qkq hi (by rw[Je,if_neg (by omega)]))
   have h1':(D[i].toNat:Int)<48:=by omega
   simp[hi,h1',hm]
  ·have h1':¬ (D[i].toNat:Int)<48:=by omega
   by_cases h2:57<D[i].toNat
   ·obtain ⟨rfl,rfl⟩:=hn (Qkq hi (by rw[Je,if_neg (by omega)]))
    have h2':(57:Int)<(D[i].toNat:Int):=by omega
    simp[hi,h1',h2',hm]
   ·have h2':¬ (57:Int)<(D[i].toNat:Int):=by omega
    have hstep:=Qss hi hm (by omega)
    have ih:=ih (by rw[hstep];rfl)
    rw[hstep] at ih;have hw:IntKind.wrap .i64 ((D[i].toNat:Int)-48)=(D[i].toNat:Int)-48:=wrap_i64 (by omega) (by omega)
    have e2:(10:Int)*m+((D[i].toNat:Int)-48)=((m*10+(D[i].toNat-48):Nat):Int):=by omega
    simp only[QMU] at ih;rw[<- e2] at ih;simp[hi,h1',h2',hm,hw] at ih |-
    grind
theorem qQ (ws:List Txt) (w:Txt):XN (ws++[w])=match XN ws,Qea w with | some l,some n=>some (l++[n]) | _,_=>none:=by
 induction ws with
 | nil=>simp only[QL4,XN];grind
 | cons x r ih =>
   simp only[QL1,XN,ih]
   grind
def Z2 (t:Txt):Txt × List Int × Bool:=match spl t with
 | []=>([],[],false)
 | w::ws=>match XN ws with
   | none=>([],[],false)
   | some l=>(w,l,decide ((l.length:Int)=match Xd w with | some p=>(p.1:Int) | none => -1))
theorem Qbu:∀ {ws:List Txt} {l:List Int},XN ws=some l->∀ w∈ws,(Qea w).isSome=true
 | [],_,_,w,hw=>by simp at hw
 | x::r,l,h,w,hw=>by
   simp only[XN] at h;split at h
   ·rename_i n l' h1 h2
    rcases QLX.1 hw with rfl | hw
    ·rw[h1];rfl
    ·exact Qbu h2 w hw
   ·cases h
include hK
theorem QwD (l:List Int) (h:OkL l):Ev.Good Tryz.prog K 143 [Zd l] (.str (Qlq l)):=by
 refine Qb hK Qzl (by simp) ?_
 unfold Qlq;cases l with
 | nil=>simp[qY]
 | cons x r =>
   have hx:=QnO hK x (h.2 x (by simp))
   have hl:=h.1;simp at hl;have hne:¬ (r.length:Int)+1=0:=by omega
   simp[hne];intro _;refine cK (by simpa using hx) ?_
   simp;refine Qj (fun i=>[(0,AV.iv (Zd (x::r))),(3,AV.iv (.str (VK (((x::r).take (i+1)).map Lib.itoa)))),(4,AV.iv (.int .i64 ((i+1:Nat):Int)))]) (fun _=>[]) r.length (fun _=>True) trivial ?_ ?_
   ·intro _
    rw[Qa QiI.eq_1];simp[QLQ]
   ·intro i hi _ ih
    have e1:(x::r).take (i+1+1)=(x::r).take (i+1)++[r[i]]:=by
     rw[QLM (by simp;omega)]
     simp
    have h1:=Qc4 h (i+1);have h2:=h.2 r[i] (by simp)
    have h3:=Qax h2;have hg:=QnO hK r[i] h2;rw[e1,QL8,QM2,Qc5 _ _ (by simp)] at ih
    generalize VK (((x::r).take (i+1)).map Lib.itoa)=X at *;rw[Qa QiI.eq_1];have hi2:((i:Int)+1)<(r.length:Int)+1:=by omega
    have hi3:((i:Int)+1).toNat=i+1:=by omega
    simp[hi,hi2,hi3];intro _;refine ⟨by omega,cK (by simpa using hg) ?_⟩
    simp at ih |-
    grind
theorem QtR (l:List Int) (e:Int) (h:e=0->OkL l):Ev.Good Tryz.prog K 76 [Zd l,.int .i64 e] (.str (Xa l e)):=by
 refine Qb hK QCv (by simp) ?_
 unfold Xa;by_cases h0:e=0
 ·subst h0
  have hg:=QwD hK l (h rfl);simp;refine cK (by simpa using hg) ?_
  simp
 ·by_cases h3:e=3
  ·simp[h3,qY]
  ·simp[h0,h3,tNo]
theorem Qj6 (n e:Int):Ev.Good Tryz.prog K 32 [.int .i64 n,.int .i64 e] (.str (Uv n e)):=by
 refine Qb hK QDb (by simp) ?_
 unfold Uv;by_cases h0:e=0
 ·by_cases h1:n=1
  ·simp[h0,h1,Vx]
  ·by_cases h2:n=2
   ·simp[h0,h2,qC]
   ·simp[h0,h1,h2,U4]
 ·have hg:=QtR hK [] e (fun h=>absurd h h0)
  simp[h0];refine cK (by simpa using hg) ?_
  simp
theorem QBG (w:Txt) (hw:w.length<=1000):Ev.Good Tryz.prog K 48 [.str w] (.tup [.int .i64 ((Qea w).getD 0),.bool (Qea w).isSome]):=by
 refine Qb hK QCW (by simp) ?_
 rw[Qm2]
 have head_of:∀ (D:Txt) (h:0<D.length),(D.head?=some 48↔((D[0]'h).toNat:Int)=48):=fun D h=>by
  cases D with
  | nil=>simp at h
  | cons d r =>
    simp only[List.head?_cons,Option.some.injEq,QMW];rw[<- UInt8.toNat_inj];simp;omega
 by_cases h45:w.head?=some 45
 ·obtain ⟨D,hwD⟩:∃ D,w=45::D:=by
   cases w with
   | _=>grind
  have f5:0<w.length:=by rw[hwD];simp
  have f1:(0:Int)<w.length:=by omega
  have f2:((w[0]'f5).toNat:Int)=45:=by subst hwD;rfl
  have f3:w.tail=D:=by rw[hwD];rfl
  have f4:(1:Int)<=w.length:=by omega
  rw[if_pos h45,List.drop_one,f3];clear hwD;by_cases c1:D.length=0
  ·have hD:=QLV c1
   have n1:Qaa true D=none:=by simp[Qaa,c1]
   subst hD;simp[f1,f2,f3,f4,f5,n1]
  have c1':¬ (D.length:Int)=0:=by omega
  have c0:0<D.length:=by omega
  by_cases c2:9<D.length
  ·have n1:Qaa true D=none:=by simp[Qaa,c2]
   have c2':(9:Int)<D.length:=by omega
   simp[f1,f2,f3,f4,f5,n1,c1',c2',c0]
  have c2':¬ (9:Int)<D.length:=by omega
  have hh:=head_of D c0;by_cases c3:((D[0]'c0).toNat:Int)=48
  ·have n1:Qaa true D=none:=by simp[Qaa,hh.2 c3]
   simp[f1,f2,f3,f4,f5,n1,c1',c2',c0,c3]
  ·have n1:Qaa true D=Lib.decFrom 0 D:=by simp[Qaa,c1,c2,mt hh.1 c3]
   rw[n1];have lp:=Qnb (K:=K) (-1) (.inr rfl) D (by omega) (((Lib.decFrom 0 D).map fun (m:Nat) => -(m:Int)).getD 0) ((Lib.decFrom 0 D).map fun (m:Nat) => -(m:Int)).isSome (fun m h=>by simp[h]) (fun h=>by simp[h])
   simp at lp;have ne:¬ D=[]:=fun e=>c1 (by rw[e];rfl)
   simp[f1,f2,f3,f4,f5,c1',c2',c0,c3,ne];exact lp
 ·rw[if_neg h45]
  by_cases c1:w.length=0
  ·have hD:=QLV c1
   have n1:Qaa false w=none:=by simp[Qaa,c1]
   subst hD;simp[n1]
  have f1:(0:Int)<w.length:=by omega
  have f5:0<w.length:=by omega
  have f2:¬ ((w[0]'f5).toNat:Int)=45:=by
   cases w with
   | nil=>simp at c1
   | cons d r =>
     simp only[List.head?_cons,Option.some.injEq] at h45;rw[<- UInt8.toNat_inj] at h45
     grind
  have c1':¬ (w.length:Int)=0:=by omega
  have ne:¬ w=[]:=fun e=>c1 (by rw[e];rfl)
  by_cases c2:9<w.length
  ·have n1:Qaa false w=none:=by simp[Qaa,c2]
   have c2':(9:Int)<w.length:=by omega
   simp[f1,f2,f5,n1,c1',c2']
  have c2':¬ (9:Int)<w.length:=by omega
  have hh:=head_of w f5
  have fin:Qaa false w=Lib.decFrom 0 w->Y1 Tryz.prog K (FnF (Qqg [QeS.tmp 2,QeS.tmp 3] (.tup [.int .i64 (((Qaa false w).map fun (m:Nat)=>(m:Int)).getD 0),.bool ((Qaa false w).map fun (m:Nat)=>(m:Int)).isSome]))) QgH [4,5,6,7] [] [AI.inBlock 0,AI.code QIc] [(4,.iv (.int .i64 1)),(5,.iv (.str w)),(6,.iv (.int .i64 0)),(7,.iv (.int .i64 0))] []:=fun n1=>by
   rw[n1];exact Qnb (K:=K) 1 (.inl rfl) w (by omega) _ _ (fun m h=>by simp[h]) (fun h=>by simp[h])
  by_cases c3:((w[0]'f5).toNat:Int)=48
  ·by_cases c4:1<w.length
   ·have n1:Qaa false w=none:=by simp[Qaa,c4,hh.2 c3]
    have c4':(1:Int)<w.length:=by omega
    simp[f1,f2,f5,n1,c1',c2',c3,c4']
   ·have n1:Qaa false w=Lib.decFrom 0 w:=by simp[Qaa,c1,c2,c4]
    have c4':¬ (1:Int)<w.length:=by omega
    have lp:=fin n1;simp at lp;simp[f1,f2,f5,c1',c2',c3,c4',ne];exact lp
  ·have n1:Qaa false w=Lib.decFrom 0 w:=by simp[Qaa,c1,c2,mt hh.1 c3]
   have lp:=fin n1;simp at lp;simp[f1,f2,f5,c1',c2',c3,ne];exact lp
theorem Qj7 (t:Txt) (ht:t.length<=1000):Ev.Good Tryz.prog K 12 [.str t] (.tup [.str (Z2 t).1,Zd (Z2 t).2.1,.bool (Z2 t).2.2]):=by
 refine Qb hK QDW (by simp) ?_
 have hsl:=QdR t;have hwl:=qD t;have hg:=QBH hK t ht;unfold Z2;cases hs:spl t with
 | nil=>exact absurd hs (Qmv t [])
 | cons w ws =>
   rw[hs] at hg hsl hwl;simp at hsl;simp;refine cK (by simpa using hg) ?_
   simp;refine Qj (fun i=>[(3,AV.aref 3 ((XN (ws.take i)).getD []).length),(5,AV.iv (strs (w::ws))),(6,AV.iv (.int .i64 ((i+1:Nat):Int)))]) (fun i=>[(3,.arr 3 1 (emb (((XN (ws.take i)).getD []).map fun n=>[.int .i64 n])) 0)]) ws.length (fun i=>(XN (ws.take i)).isSome=true) (by simp[XN]) ?_ ?_
   ·intro h
    rw[QLU] at h;obtain ⟨l,hl⟩:=QMj.1 h;have hll:=YN hl;have hn:=QBF hK w;rw[Qa QpO.eq_1];simp[hl];intro _ _;refine cK (by simpa using hn) ?_
    simp
    try exact Iff.rfl
   ·intro i hi h ih
    obtain ⟨l,hl⟩:=QMj.1 h;have hll:=YN hl;simp at hll;have hg2:=QBG hK ws[i] (by grind)
    have e1:ws.take (i+1)=ws.take i++[ws[i]]:=QLM hi;rw[Qa QpO.eq_1];have hi2:((i:Int)+1)<(ws.length:Int)+1:=by omega
    have hi3:((i:Int)+1).toNat=i+1:=by omega
    cases hv:Qea ws[i] with
    | none =>
      have hn:XN ws=none:=by
       cases hq:XN ws with
       | none=>rfl
       | some l' =>
         have:=Qbu hq ws[i] (by simp)
         grind
      rw[hv] at hg2;simp[hi,hi2,hi3,hl];intro _;refine ⟨by omega,cK (by simpa using hg2) ?_⟩
      simp[hn]
    | some n =>
      rw[hv] at hg2;have e2:XN (ws.take (i+1))=some (l++[n]):=by rw[e1,qQ,hl,hv]
      have ih:=ih (by rw[e2];rfl)
      rw[e2] at ih;simp[hi,hi2,hi3,hl] at ih |-;intro _;refine ⟨by omega,cK (by simpa using hg2) ?_⟩
      simp
      grind
omit hK
theorem Qej:∀ l:List Txt,Lib.join l [32]=VK l
 | []=>rfl
 | [x]=>by simp[Lib.join,VK]
 | x::y::r=>by
   have:=Qej (y::r);simp only[VK];rw[<- this];simp[Lib.join]
theorem Qww (w:Txt) (hw:w.length<=1000):∃ n,((Qea w).isSome=true->n=(Qea w).getD 0)/\Ev.Good Tryz.prog KW 192 [.str w] (.tup [.int .i64 n,.bool (Qea w).isSome]):=by
 have g1:=Qwa w hw;have g3:=Qv9 w [45];cases hv:Qea w with
 | some v =>
   obtain ⟨h1,h2,h3⟩:=Qm3 hv;have hb:=Lib.atoiAll_bounds h3;have g2:=QhU v hb;rw[h3] at g1;rw[h1] at g2;refine ⟨v,fun _=>rfl,Qb hKW QeI (by simp) ?_⟩
   have h2':((Lib.trimPrefix w [45]).length:Int)<=9:=by omega
   simp;refine cK (by simpa using g1) ?_
   simp;refine cK (by simpa using g2) ?_
   simp;refine cK (by simpa using g3) ?_
   simp[h2']
 | none =>
   cases ha:Lib.atoiAll w with
   | ok v =>
     have hb:=Lib.atoiAll_bounds ha;have g2:=QhU v hb;rw[ha] at g1;refine ⟨v,fun h=>by simp at h,Qb hKW QeI (by simp) ?_⟩
     simp;refine cK (by simpa using g1) ?_
     simp;refine cK (by simpa using g2) ?_
     by_cases hi:Lib.itoa v=w
     ·have hl:¬ (Lib.trimPrefix w [45]).length<=9:=fun h=>by
       have:=Qf2 hi h
       grind
      have hl':¬ ((Lib.trimPrefix w [45]).length:Int)<=9:=by omega
      simp[hi];refine cK (by simpa using g3) ?_
      simp;omega
     ·simp[hi]
   | range =>
     rw[ha] at g1;refine ⟨Lib.atoiSat w,fun h=>by simp at h,Qb hKW QeI (by simp) ?_⟩
     simp;refine cK (by simpa using g1) ?_
     simp
   | _ =>
     rw[ha] at g1;refine ⟨0,fun h=>by simp at h,Qb hKW QeI (by simp) ?_⟩
     simp;refine cK (by simpa using g1) ?_
     simp
theorem Qen (e:Int) (l:List Int) (h:e=0->OkL l):Ev.Good Tryz.prog KW 238 [.int .i64 e,Zd l] (.str (Xa l e)):=by
 refine Qb hKW QyB (by simp) ?_
 unfold Xa Qlq;by_cases h0:e=0
 ·subst h0
  have hl:=h rfl;have h1:=hl.1;by_cases hne:l=[]
  ·subst hne
   simp[qY]
  ·have hpos:=QMJ.2 hne
   have hne':¬ (l.length:Int)=0:=by omega
   simp[hne,hne'];intro _;refine Qj (fun i=>[(5,AV.aref 5 i),(16,AV.iv (Zd l)),(17,AV.iv (.int .i64 l.length)),(18,AV.iv (.int .i64 (i:Nat)))]) (fun i=>[(5,.arr 9 1 (emb (((l.take i).map Lib.itoa).map fun s=>[.str s])) 0)]) l.length (fun _=>True) trivial ?_ ?_
   ·intro _
    have hj:=Qc4 hl l.length;rw[QLU] at hj;have hg:=QvZ (l.map Lib.itoa) (by simpa using h1) (by rw[Qej];omega)
    rw[Qej] at hg;rw[Qa Qiq.eq_1];simp[-List.map_map,Qbp];rw[QLQ (by simp)]
    refine Jf (by simpa using hg) (.inr rfl) ?_
    simp
   ·intro i hi _ ih
    have hg:=QhU l[i] (by have:=hl.2 l[i] (QLR hi);omega)
    have e3:List.take (i+1) (List.map ((fun s=>[IV.str s])∘Lib.itoa) l)=List.take i (List.map ((fun s=>[IV.str s])∘Lib.itoa) l)++[[.str (Lib.itoa l[i])]]:=by
     rw[QLM (by simpa using hi)]
     simp
    rw[Qa Qiq.eq_1];simp[hi] at ih |-;rw[e3] at ih;refine cK (by simpa using hg) ?_
    simp
    grind
 ·by_cases h3:e=3
  ·simp[h3,qY]
  ·simp[h0,h3,tNo]
theorem QbS (l:List Int) (e:Int) (h:e=0->OkL l):Ev.Good Tryz.prog KW 171 [Zd l,.int .i64 e] (.str (Xa l e)):=by
 refine Qb hKW Qzc (by simp) ?_
 have hg:=Qen e l h;simp;refine cK (by simpa using hg) ?_
 simp
theorem Qes (n e:Int) (h:e=0->OkL [n]):Ev.Good Tryz.prog KW 174 [.int .i64 n,.int .i64 e] (.str (Xa [n] e)):=by
 refine Qb hKW Qzb (by simp) ?_
 have hg:=Qen e [n] h;simp;refine cK (by simpa using hg) ?_
 simp
theorem Qer (a b e:Int) (h:e=0->OkL [a,b]):Ev.Good Tryz.prog KW 176 [.agg [.int .i64 a,.int .i64 b],.int .i64 e] (.str (Xa [a,b] e)):=by
 refine Qb hKW Qza (by simp) ?_
 have hg:=Qen e [a,b] h;simp;refine cK (by simpa using hg) ?_
 simp
theorem Qeq (n e:Int) (h:e=0->n=1\/n=2\/n=3):Ev.Good Tryz.prog KW 181 [.int .i64 n,.int .i64 e] (.str (Uv n e)):=by
 refine Qb hKW Qy9 (by simp) ?_
 unfold Uv;by_cases h0:e=0
 ·rcases h h0 with rfl | rfl | rfl<;>simp[h0,Vx,qC,U4]
 ·have hg:=Qen e [] (fun h=>absurd h h0)
  simp[h0];refine cK (by simpa using hg) ?_
  simp
abbrev Sml (n:Int):Prop := -1000000000000000<=n/\n<=1000000000000000
theorem V3 {l:List Int} (h:∀ x∈l,Sml x):Sml (span l).1/\Sml (span l).2:=by
 by_cases hne:l=[]
 ·subst hne;simp[Sml]
 ·obtain ⟨h1,h2⟩:=QdT l hne
  grind
theorem Qe9 (l:List Int) (lo hi:Int) (h1 : -1000000<=lo) (h3:hi<=1000000) (h4:hi-lo<=999999):OkL (YF l lo hi):=by
 refine ⟨?_,fun n hn=>?_⟩
 ·have:=JX l lo (hi+1-lo).toNat
  unfold YF;omega
 ·have:=(JY l lo hi n).1 hn
  omega
theorem QkZ (l:List Int):(YG l).length<=l.length:=by
 unfold YG;rw[List.length_mergeSort,QL6];exact Qku l
theorem Qk7 (c:Qn):(QX c).length<=2 ^ ZB c.deeds:=by
 unfold QX
 grind
theorem Qhj {c:Qn} (hc:OkC c):(QX c).length<=4096:=by
 have h1:=Qk7 c;have h2:=W9 c.deeds;have h3:=hc.len;have h4:2 ^ ZB c.deeds<=2 ^ 12:=QMS (by omega) (by omega)
 omega
theorem Qju {c:Qn} (hc:OkC c) (f:Nat->Int) (h:∀ n,-1000<=f n/\f n<=1000):OkL (YG ((QX c).map f)):=by
 refine ⟨?_,fun n hn=>?_⟩
 ·have h1:=QkZ ((QX c).map f)
  have h2:=Qhj hc
  grind
 ·rw[Jy] at hn
  grind
theorem QoY {c:Qn} (hc:OkC c) (e:Nat->Int):∀ x∈cab c.deeds e c.deeds.length,x<12:=fun x hx=>by
 have h1:=qV c.deeds e c.deeds.length x hx;have h2:=Qg0 c.deeds c.deeds.length;have h3:=hc.len;omega
theorem QgE {c:Qn} (hc:OkC c) (e:Nat->Int):(cab c.deeds e c.deeds.length).length<=12:=by
 have h1:=Xj e hc.deeds c.deeds.length (QLS _) (QLS _);have h2:=OkD.cnt hc.deeds c.deeds.length (QLS _) (QLS _);have h3:=hc.len;omega
theorem Qtu {c:Qn} (hc:OkC c) (n:Int):OkL (QkM c n):=by
 unfold QkM;split
 ·refine Qju hc _ fun k=>?_
  unfold Qmf;have:=QoY hc (ZD c.deeds k);rw[List.getD_eq_getElem?_getD];cases h:(cab c.deeds (ZD c.deeds k) c.deeds.length)[n.toNat]? with
  | none=>simp
  | some x =>
    have:=this x (QL2 h);simp;omega
 ·exact Qd9
theorem Qmg {c:Qn} (hc:OkC c) (n:Int):OkL (QdC c n):=by
 unfold QdC;split
 ·refine Qju hc _ fun k=>?_
  unfold QaR VG fi;have h1:=QgE hc (ZD c.deeds k)
  grind
 ·exact Qd9
theorem Qkf {c:Qn} (hc:OkC c):OkL [(Vp c).1]:=by
 have h1:=hc.slen;unfold Vp;rw[if_pos hc];split
 ·rename_i n hn
  unfold Qdg at hn;have:=List.mem_of_find?_eq_some hn;rw[QMi] at this;exact Yl (by simp only;omega)
 ·exact Yl (by simp)
theorem QhD {m:Machine} (w mn:Int):OkL [(Yk m w mn).1,(Yk m w mn).2]:=by
 have key:∀ s∈tL m (W2 w mn 0),Sml (QbA m w mn s)/\Sml (upS m w mn s):=fun s hs=>by
  obtain ⟨hm,ha,ho⟩:=QE1 hs;have ha:=of_decide_eq_true ha;obtain ⟨n1,n2⟩:=hm.numB ho ha.1 ha.2.1;obtain ⟨d1,d2⟩:=hm.denB ho;unfold QbA upS Sml;have q1:=QMy n1 (b:=den s);have q2:=QMy (show 0<=num m s w mn+den s-1 by omega) (b:=den s)
  rw[q1,q2];have a1:=Int.ediv_nonneg n1 (show 0<=den s by omega)
  have a2:=Int.ediv_le_self (den s) n1;have a3:=Int.ediv_nonneg (show 0<=num m s w mn+den s-1 by omega) (show 0<=den s by omega)
  have a4:=Int.ediv_le_self (den s) (show 0<=num m s w mn+den s-1 by omega)
  omega
 unfold Yk;refine Qd8 (V3 fun x hx=>?_).1 (V3 fun x hx=>?_).2
 all_goals grind
theorem Qkz (p:Qf) (n:Int):OkL (Ut p n):=Qe9 _ 0 12 (by omega) (by omega) (by omega)
theorem QjX (p:Qf) (n:Int):OkL [(Yq p n).1,(Yq p n).2]:=by
 unfold Yq;split
 ·exact QhD _ _
 ·exact Qd8 (by simp) (by simp)
theorem Qof {p:Qf} (hp:OkP p):OkL [(rFail p).1,(rFail p).2]:=by
 have h1:p.trials.length<=12:=by
  rw[hp.many];exact QMe (Qbl _) hp.chain.len
 have key:∀ x∈(kL p true).map (fun t=>(ZZ p t:Int)),Sml x:=fun x hx=>by
  obtain ⟨t,_,rfl⟩:=QL5.1 hx;have:=Qkj p t;omega
 exact Qd8 (V3 key).1 (V3 key).2
theorem Qz9 {α:Type} {pc:Nat->List α} {n:Nat} {x:α} (h:x∈acc pc n):∃ i<n,x∈pc i:=by
 unfold acc at h
 grind
theorem QmX {p:Qf} (hp:OkP p):OkL (Wi p):=by
 have h2:=OkD.cnt hp.chain.deeds p.chain.deeds.length (QLS _) (QLS _);have h3:=hp.chain.len;have h4:(Xw p.chain.deeds).toNat<=12:=by unfold Xw;omega
 unfold Wi;split
 ·refine ⟨?_,fun n hn=>?_⟩
  ·refine QMe (QeR _ 1 (fun i=>?_) _) (by omega)
   split<;>simp
  ·obtain ⟨i,hi,hx⟩:=Qz9 hn
   grind
 ·exact Qd9
theorem Qjf (p:Qf):OkL [(Y8 p).1]:=by
 have h:=QmP p;unfold Y8;split
 ·split
  ·exact Yl (by simp)
  ·exact Yl (by simp only;omega)
 ·exact Yl (by simp)
theorem Qji (p:Qf):OkL [(QD p).1]:=by
 unfold QD;split
 ·unfold Zz
  split
  ·split
   ·exact Yl (by simp)
   ·have:=(Qc3 p.machine (tL p.machine (W2 0 0 p.need)) 0 p.need).1
    exact Yl (by simp only;omega)
  ·exact Yl (by simp)
 ·exact Yl (by simp)
theorem QcI (u:Zm):OkL [(span ((uL u true).map UN)).1,(span ((uL u true).map UN)).2]:=by
 have key:∀ x∈(uL u true).map UN,Sml x:=fun x hx=>by
  obtain ⟨t,ht,rfl⟩:=QL5.1 hx;have:=QAz ht;unfold UN Sml;omega
 exact Qd8 (V3 key).1 (V3 key).2
theorem QpT (u:Zm):OkL [(Wk u).1]:=by
 unfold Wk;split
 ·split
  ·rename_i n hn
   unfold QlV at hn;have:=List.mem_of_find?_eq_some hn;rw[QMi] at this;exact Yl (by simp only;omega)
  ·exact Yl (by simp)
 ·exact Yl (by simp)
theorem QmH (u:Zm) (n:Int):OkL (Qd5 u n):=by
 unfold Qd5;split
 ·rename_i h
  obtain ⟨hp,hb,_⟩:=QaV h;have hb:=of_decide_eq_true hb;simp only[inR] at hb;have hlt:n.toNat<u.rods.length:=by omega
  have hr:=hp.rods _ (QLR hlt);rw[List.getD_eq_getElem?_getD,QLN hlt,QMU];simp only[J3,inR] at hr;exact Qe9 _ _ _ (by omega) (by omega) (by omega)
 ·exact Qd9
theorem QaY (a b:Int):XY a b=1\/XY a b=2\/XY a b=3:=by
 unfold XY;omega
theorem Qst {p:Qf} (h:kE p true=0):rCond p=1\/rCond p=2\/rCond p=3:=by
 unfold rCond;rw[if_pos h];exact QaY _ _
theorem QrB {p:Qf} (h:kE p true=0):rGood p=1\/rGood p=2\/rGood p=3:=by
 unfold rGood;rw[if_pos h];exact QaY _ _
theorem Qlc {p:Qf} {n:Int} (h:kE p (Wu p n)=0):rProved p n=1\/rProved p n=2\/rProved p n=3:=by
 unfold rProved;rw[if_pos h];exact QaY _ _
theorem Qnw {u:Zm} {n:Int} (h:uE u (Qcq n)=0):Wj u n=1\/Wj u n=2\/Wj u n=3:=by
 unfold Wj Qc9;omega
theorem Qq {h:Qd} (ho:okH h):QK h:=by
 have h1:=ho.1.chain.len;have h2:=ho.1.chain.slen;have h3:=ho.1.machine.len;have h4:=ho.1.machine.blen;have h5:=ho.1.many;have h6:=Qbl h.proof.chain.deeds;have h7:=ho.2.rlen;have h8:=ho.2.xlen;exact ⟨⟨by omega,by omega,by omega,by omega,by omega⟩,by omega,by omega⟩
theorem QsV:ZO Tryz.prog 170 QDK [0]:=⟨_,Tryz.func170,by kernel_rfl⟩
theorem QsU:ZO Tryz.prog 172 QDJ [0]:=⟨_,Tryz.func172,by kernel_rfl⟩
theorem QsT:ZO Tryz.prog 173 c173 [0]:=⟨_,Tryz.func173,by kernel_rfl⟩
theorem QsS:ZO Tryz.prog 175 c175 [0]:=⟨_,Tryz.func175,by kernel_rfl⟩
theorem QsR:ZO Tryz.prog 177 QDI [0]:=⟨_,Tryz.func177,by kernel_rfl⟩
theorem QsQ:ZO Tryz.prog 178 QDH [0]:=⟨_,Tryz.func178,by kernel_rfl⟩
theorem QsP:ZO Tryz.prog 179 QDG [0]:=⟨_,Tryz.func179,by kernel_rfl⟩
theorem QsO:ZO Tryz.prog 180 QDE [0]:=⟨_,Tryz.func180,by kernel_rfl⟩
theorem QsN:ZO Tryz.prog 182 QDD [0]:=⟨_,Tryz.func182,by kernel_rfl⟩
theorem QsM:ZO Tryz.prog 183 QDC [0]:=⟨_,Tryz.func183,by kernel_rfl⟩
theorem QsL:ZO Tryz.prog 184 QDB [0]:=⟨_,Tryz.func184,by kernel_rfl⟩
theorem QsK:ZO Tryz.prog 185 QDA [0]:=⟨_,Tryz.func185,by kernel_rfl⟩
theorem QsJ:ZO Tryz.prog 186 QDz [0]:=⟨_,Tryz.func186,by kernel_rfl⟩
theorem QsI:ZO Tryz.prog 187 QDy [0]:=⟨_,Tryz.func187,by kernel_rfl⟩
theorem QsH:ZO Tryz.prog 188 QDx [0]:=⟨_,Tryz.func188,by kernel_rfl⟩
theorem QsG:ZO Tryz.prog 189 QDw [0]:=⟨_,Tryz.func189,by kernel_rfl⟩
theorem QsF:ZO Tryz.prog 190 QDu [0]:=⟨_,Tryz.func190,by kernel_rfl⟩
theorem Qrl (h:Qd) (a:Int) (ho:okH h) (hf:qy h):QQ Tryz.prog KW 170 (.loc 0 0::[Zd [a]].map .iv) (QH h) [0] (.iv (.str (QR h .who [a]))) (QH h):=by
 have hc:=ho.1.chain;obtain ⟨⟨h1,h2,h3,h4,h5⟩,h6,h7⟩:=Qq ho;refine Qp QsV rfl (by simp[QDK]) ?_
 generalize hG:UW 4 (QR h .who [a]) h=G;have g1:=QnQ hKW h.proof.chain a h1 h2;have g2:=QbS (QkM h.proof.chain a) (Yo h.proof.chain (plB h.proof.chain a)) (fun _=>Qtu hc a)
 have e1:(if Yo h.proof.chain (decide (inR a 0 (Xw h.proof.chain.deeds-1)))=0 then YG ((QX h.proof.chain).map (Qmf h.proof.chain a)) else [])=QkM h.proof.chain a:=rfl
 have e2:Yo h.proof.chain (decide (inR a 0 (Xw h.proof.chain.deeds-1)))=Yo h.proof.chain (plB h.proof.chain a):=rfl;rw[e1,e2] at g1;simp[QDK];refine cK (by simpa using g1) ?_
 simp;refine cK (by simpa using g2) ?_
 simp;rw[<- hG];exact QS rfl rfl (by simp[Qc])
theorem Qrk (h:Qd) (a:Int) (ho:okH h) (hf:qy h):QQ Tryz.prog KW 172 (.loc 0 0::[Zd [a]].map .iv) (QH h) [0] (.iv (.str (QR h .wher [a]))) (QH h):=by
 have hc:=ho.1.chain;obtain ⟨⟨h1,h2,h3,h4,h5⟩,h6,h7⟩:=Qq ho;refine Qp QsU rfl (by simp[QDJ]) ?_
 generalize hG:UW 4 (QR h .wher [a]) h=G;have g1:=Qt7 hKW h.proof.chain a h1 h2;have g2:=QbS (QdC h.proof.chain a) (Yo h.proof.chain (Va h.proof.chain a)) (fun _=>Qmg hc a)
 have e1:(if Yo h.proof.chain (Va h.proof.chain a)=0 then YG ((QX h.proof.chain).map (QaR h.proof.chain a)) else [])=QdC h.proof.chain a:=rfl
 rw[e1] at g1;simp[QDJ];refine cK (by simpa using g1) ?_
 simp;refine cK (by simpa using g2) ?_
 simp;rw[<- hG];exact QS rfl rfl (by simp[Qc])
theorem Qrj (h:Qd) (ho:okH h) (hf:qy h):QQ Tryz.prog KW 173 (.loc 0 0::[Zd []].map .iv) (QH h) [0] (.iv (.str (QR h .first []))) (QH h):=by
 have hc:=ho.1.chain;obtain ⟨⟨h1,h2,h3,h4,h5⟩,h6,h7⟩:=Qq ho;refine Qp QsT rfl (by simp[c173]) ?_
 generalize hG:UW 4 (QR h .first []) h=G;have g1:=Qub hKW h.proof.chain h1 h2;have g2:=Qes (Vp h.proof.chain).1 (Vp h.proof.chain).2 (fun _=>Qkf hc)
 simp[c173];refine cK (by simpa using g1) ?_
 simp;refine cK (by simpa using g2) ?_
 simp;rw[<- hG];exact QS rfl rfl (by simp[Qc])
theorem Qri (h:Qd) (a b:Int) (ho:okH h) (hf:qy h):QQ Tryz.prog KW 175 (.loc 0 0::[Zd [a,b]].map .iv) (QH h) [0] (.iv (.str (QR h .pulls [a,b]))) (QH h):=by
 have hc:=ho.1.chain;obtain ⟨⟨h1,h2,h3,h4,h5⟩,h6,h7⟩:=Qq ho;refine Qp QsS rfl (by simp[c175]) ?_
 generalize hG:UW 4 (QR h .pulls [a,b]) h=G;have g1:=QnV hKW h.proof.machine a b h3 h4;have g2:=Qer (Yk h.proof.machine a b).1 (Yk h.proof.machine a b).2 (tE h.proof.machine (W2 a b 0)) (fun _=>QhD a b)
 simp[c175];refine cK (by simpa using g1) ?_
 simp;refine cK (by simpa using g2) ?_
 simp;rw[<- hG];exact QS rfl rfl (by simp[Qc])
theorem Qrh (h:Qd) (a:Int) (ho:okH h) (hf:qy h):QQ Tryz.prog KW 177 (.loc 0 0::[Zd [a]].map .iv) (QH h) [0] (.iv (.str (QR h .broke [a]))) (QH h):=by
 have hc:=ho.1.chain;obtain ⟨⟨h1,h2,h3,h4,h5⟩,h6,h7⟩:=Qq ho;refine Qp QsR rfl (by simp[QDI]) ?_
 generalize hG:UW 4 (QR h .broke [a]) h=G;have g1:=Qt6 hKW h.proof a hf.proof;have g2:=QbS (Ut h.proof a) (kE h.proof (Z0 h.proof a)) (fun _=>Qkz h.proof a)
 simp[QDI];refine cK (by simpa using g1) ?_
 simp;refine cK (by simpa using g2) ?_
 simp;rw[<- hG];exact QS rfl rfl (by simp[Qc])
theorem Qrg (h:Qd) (a:Int) (ho:okH h) (hf:qy h):QQ Tryz.prog KW 178 (.loc 0 0::[Zd [a]].map .iv) (QH h) [0] (.iv (.str (QR h .loads [a]))) (QH h):=by
 have hc:=ho.1.chain;obtain ⟨⟨h1,h2,h3,h4,h5⟩,h6,h7⟩:=Qq ho;refine Qp QsQ rfl (by simp[QDH]) ?_
 generalize hG:UW 4 (QR h .loads [a]) h=G;have g1:=Que hKW h.proof a hf.proof;have g2:=Qer (Yq h.proof a).1 (Yq h.proof a).2 (qe h.proof a) (fun _=>QjX h.proof a)
 have e1:(if kE h.proof (Z0 h.proof a)=0 then (Yk h.proof.machine (tr h.proof a.toNat).weight (tr h.proof a.toNat).mins).1 else 0)=(Yq h.proof a).1:=by unfold Yq;split<;>rfl
 have e2:(if kE h.proof (Z0 h.proof a)=0 then (Yk h.proof.machine (tr h.proof a.toNat).weight (tr h.proof a.toNat).mins).2 else 0)=(Yq h.proof a).2:=by unfold Yq;split<;>rfl
 have e3:(if kE h.proof (Z0 h.proof a)=0 then tE h.proof.machine (W2 (tr h.proof a.toNat).weight (tr h.proof a.toNat).mins 0) else kE h.proof (Z0 h.proof a))=qe h.proof a:=rfl
 rw[e1,e2,e3] at g1;simp[QDH];refine cK (by simpa using g1) ?_
 simp;refine cK (by simpa using g2) ?_
 simp;rw[<- hG];exact QS rfl rfl (by simp[Qc])
theorem Qrf (h:Qd) (ho:okH h) (hf:qy h):QQ Tryz.prog KW 179 (.loc 0 0::[Zd []].map .iv) (QH h) [0] (.iv (.str (QR h .failures []))) (QH h):=by
 have hc:=ho.1.chain;obtain ⟨⟨h1,h2,h3,h4,h5⟩,h6,h7⟩:=Qq ho;refine Qp QsP rfl (by simp[QDG]) ?_
 generalize hG:UW 4 (QR h .failures []) h=G;have g1:=Qud hKW h.proof hf.proof;have g2:=Qer (rFail h.proof).1 (rFail h.proof).2 (kE h.proof true) (fun _=>Qof ho.1)
 simp[QDG];refine cK (by simpa using g1) ?_
 simp;refine cK (by simpa using g2) ?_
 simp;rw[<- hG];exact QS rfl rfl (by simp[Qc])
theorem Qre (h:Qd) (ho:okH h) (hf:qy h):QQ Tryz.prog KW 180 (.loc 0 0::[Zd []].map .iv) (QH h) [0] (.iv (.str (QR h .condemned []))) (QH h):=by
 have hc:=ho.1.chain;obtain ⟨⟨h1,h2,h3,h4,h5⟩,h6,h7⟩:=Qq ho;refine Qp QsO rfl (by simp[QDE]) ?_
 generalize hG:UW 4 (QR h .condemned []) h=G;have g1:=Qt5 hKW h.proof hf.proof;have g2:=Qeq (rCond h.proof) (kE h.proof true) Qst;simp[QDE];refine cK (by simpa using g1) ?_
 simp;refine cK (by simpa using g2) ?_
 simp;rw[<- hG];exact QS rfl rfl (by simp[Qc])
theorem Qrd (h:Qd) (a:Int) (ho:okH h) (hf:qy h):QQ Tryz.prog KW 182 (.loc 0 0::[Zd [a]].map .iv) (QH h) [0] (.iv (.str (QR h .proved [a]))) (QH h):=by
 have hc:=ho.1.chain;obtain ⟨⟨h1,h2,h3,h4,h5⟩,h6,h7⟩:=Qq ho;refine Qp QsN rfl (by simp[QDD]) ?_
 generalize hG:UW 4 (QR h .proved [a]) h=G;have g1:=Qt4 hKW h.proof a hf.proof;have g2:=Qeq (rProved h.proof a) (kE h.proof (Wu h.proof a)) Qlc;simp[QDD];refine cK (by simpa using g1) ?_
 simp;refine cK (by simpa using g2) ?_
 simp;rw[<- hG];exact QS rfl rfl (by simp[Qc])
theorem Qrc (h:Qd) (ho:okH h) (hf:qy h):QQ Tryz.prog KW 183 (.loc 0 0::[Zd []].map .iv) (QH h) [0] (.iv (.str (QR h .opn []))) (QH h):=by
 have hc:=ho.1.chain;obtain ⟨⟨h1,h2,h3,h4,h5⟩,h6,h7⟩:=Qq ho;refine Qp QsM rfl (by simp[QDC]) ?_
 generalize hG:UW 4 (QR h .opn []) h=G;have g1:=Qt3 hKW h.proof hf.proof;have g2:=QbS (Wi h.proof) (kE h.proof true) (fun _=>QmX ho.1)
 simp[QDC];refine cK (by simpa using g1) ?_
 simp;refine cK (by simpa using g2) ?_
 simp;rw[<- hG];exact QS rfl rfl (by simp[Qc])
theorem Qrb (h:Qd) (ho:okH h) (hf:qy h):QQ Tryz.prog KW 184 (.loc 0 0::[Zd []].map .iv) (QH h) [0] (.iv (.str (QR h .good []))) (QH h):=by
 have hc:=ho.1.chain;obtain ⟨⟨h1,h2,h3,h4,h5⟩,h6,h7⟩:=Qq ho;refine Qp QsL rfl (by simp[QDB]) ?_
 generalize hG:UW 4 (QR h .good []) h=G;have g1:=Qt2 hKW h.proof hf.proof;have g2:=Qeq (rGood h.proof) (kE h.proof true) QrB;simp[QDB];refine cK (by simpa using g1) ?_
 simp;refine cK (by simpa using g2) ?_
 simp;rw[<- hG];exact QS rfl rfl (by simp[Qc])
theorem Qra (h:Qd) (ho:okH h) (hf:qy h):QQ Tryz.prog KW 185 (.loc 0 0::[Zd []].map .iv) (QH h) [0] (.iv (.str (QR h .worth []))) (QH h):=by
 have hc:=ho.1.chain;obtain ⟨⟨h1,h2,h3,h4,h5⟩,h6,h7⟩:=Qq ho;refine Qp QsK rfl (by simp[QDA]) ?_
 generalize hG:UW 4 (QR h .worth []) h=G;have g1:=Qua hKW h.proof hf.proof;have g2:=Qes (Y8 h.proof).1 (Y8 h.proof).2 (fun _=>Qjf h.proof)
 simp[QDA];refine cK (by simpa using g1) ?_
 simp;refine cK (by simpa using g2) ?_
 simp;rw[<- hG];exact QS rfl rfl (by simp[Qc])
theorem Qq9 (h:Qd) (ho:okH h) (hf:qy h):QQ Tryz.prog KW 186 (.loc 0 0::[Zd []].map .iv) (QH h) [0] (.iv (.str (QR h .weight []))) (QH h):=by
 have hc:=ho.1.chain;obtain ⟨⟨h1,h2,h3,h4,h5⟩,h6,h7⟩:=Qq ho;refine Qp QsJ rfl (by simp[QDz]) ?_
 generalize hG:UW 4 (QR h .weight []) h=G;have g1:=Qt9 hKW h.proof hf.proof;have g2:=Qes (QD h.proof).1 (QD h.proof).2 (fun _=>Qji h.proof)
 have e1:(if kE h.proof true=0 then (Zz h.proof.machine 0 h.proof.need).1 else 0)=(QD h.proof).1:=by unfold QD;split<;>rfl
 have e2:(if kE h.proof true=0 then (Zz h.proof.machine 0 h.proof.need).2 else kE h.proof true)=(QD h.proof).2:=by unfold QD;split<;>rfl
 rw[e1,e2] at g1;simp[QDz];refine cK (by simpa using g1) ?_
 simp;refine cK (by simpa using g2) ?_
 simp;rw[<- hG];exact QS rfl rfl (by simp[Qc])
theorem Qq8 (h:Qd) (ho:okH h) (hf:qy h):QQ Tryz.prog KW 187 (.loc 0 0::[Zd []].map .iv) (QH h) [0] (.iv (.str (QR h .stretch []))) (QH h):=by
 have hc:=ho.1.chain;obtain ⟨⟨h1,h2,h3,h4,h5⟩,h6,h7⟩:=Qq ho;refine Qp QsI rfl (by simp[QDy]) ?_
 generalize hG:UW 4 (QR h .stretch []) h=G;have g1:=Quc hKW h.pull h6 h7;have g2:=Qer (span ((uL h.pull true).map UN)).1 (span ((uL h.pull true).map UN)).2 (uE h.pull true) (fun _=>QcI h.pull)
 simp[QDy];refine cK (by simpa using g1) ?_
 simp;refine cK (by simpa using g2) ?_
 simp;rw[<- hG];exact QS rfl rfl (by simp[Qc])
theorem Qq7 (h:Qd) (ho:okH h) (hf:qy h):QQ Tryz.prog KW 188 (.loc 0 0::[Zd []].map .iv) (QH h) [0] (.iv (.str (QR h .best []))) (QH h):=by
 have hc:=ho.1.chain;obtain ⟨⟨h1,h2,h3,h4,h5⟩,h6,h7⟩:=Qq ho;refine Qp QsH rfl (by simp[QDx]) ?_
 generalize hG:UW 4 (QR h .best []) h=G;have g1:=Qt8 hKW h.pull h6 h7;have g2:=Qes (Wk h.pull).1 (Wk h.pull).2 (fun _=>QpT h.pull)
 simp[QDx];refine cK (by simpa using g1) ?_
 simp;refine cK (by simpa using g2) ?_
 simp;rw[<- hG];exact QS rfl rfl (by simp[Qc])
theorem Qq6 (h:Qd) (a:Int) (ho:okH h) (hf:qy h):QQ Tryz.prog KW 189 (.loc 0 0::[Zd [a]].map .iv) (QH h) [0] (.iv (.str (QR h .holds [a]))) (QH h):=by
 have hc:=ho.1.chain;obtain ⟨⟨h1,h2,h3,h4,h5⟩,h6,h7⟩:=Qq ho;refine Qp QsG rfl (by simp[QDw]) ?_
 generalize hG:UW 4 (QR h .holds [a]) h=G;have g1:=Qt1 hKW h.pull a h6 h7;have g2:=Qeq (Wj h.pull a) (uE h.pull (Qcq a)) Qnw;simp[QDw];refine cK (by simpa using g1) ?_
 simp;refine cK (by simpa using g2) ?_
 simp;rw[<- hG];exact QS rfl rfl (by simp[Qc])
theorem Qq5 (h:Qd) (a:Int) (ho:okH h) (hf:qy h):QQ Tryz.prog KW 190 (.loc 0 0::[Zd [a]].map .iv) (QH h) [0] (.iv (.str (QR h .rods [a]))) (QH h):=by
 have hc:=ho.1.chain;obtain ⟨⟨h1,h2,h3,h4,h5⟩,h6,h7⟩:=Qq ho;refine Qp QsF rfl (by simp[QDu]) ?_
 generalize hG:UW 4 (QR h .rods [a]) h=G;have g1:=Qt0 hKW h.pull a h6 h7;have g2:=QbS (Qd5 h.pull a) (uE h.pull (QqH h.pull a)) (fun _=>QmH h.pull a)
 simp[QDu];refine cK (by simpa using g1) ?_
 simp;refine cK (by simpa using g2) ?_
 simp;rw[<- hG];exact QS rfl rfl (by simp[Qc])
def chB (first:List Int) (rest:List Qs):List (List Int):=(QP rest).map (first++·)
include hK
omit hK
def teT (c:Qn) (i:Nat):List (List Int):=((QP c.deeds).take i).filter fun e=>decide ((QZ c.deeds c.sights (QC e):Int)<=c.wrong)
def teL (c:Qn):List (List Int):=(QP c.deeds).filter fun e=>decide ((QZ c.deeds c.sights (QC e):Int)<=c.wrong)
theorem Qtx {c:Qn} (hc:OkC c):ZS c [] c.deeds=teL c:=by
 unfold ZS teL;rw[show ((QP c.deeds).map (([]:List Int)++·))=QP c.deeds by simp]
 refine QNf fun e he=>?_
 obtain ⟨h1,h2⟩:=Zl he
 have hch:QvL c.deeds e:=⟨h1,fun i hi hi'=>by
  have hm:=QbZ (h2 i hi hi');obtain ⟨h3,h4⟩:=hm;refine ⟨by simp only[inR];omega,fun h=>by omega⟩⟩
 simp[Qns,hch]
theorem QkC:∀ {a b:List Int},a.Pairwise (·<·)->b.Pairwise (·<·)->(∀ x,x∈a↔x∈b)->a=b
 | [],[],_,_,_=>rfl
 | [],y::b,_,_,h=>absurd ((h y).2 (by simp)) (by simp)
 | x::a,[],_,_,h=>absurd ((h x).1 (by simp)) (by simp)
 | x::a,y::b,ha,hb,h=>by
   have h1:=List.pairwise_cons.1 ha;have h2:=List.pairwise_cons.1 hb
   have hxy:x=y:=by
    have e1:=(h x).1 (by simp)
    have e2:=(h y).2 (by simp)
    rcases QLX.1 e1 with e1 | e1
    ·exact e1
    ·rcases QLX.1 e2 with e2 | e2
     ·exact e2.symm
     ·have:=h1.1 y e2
      have:=h2.1 x e1;omega
   subst hxy;rw[QkC h1.2 h2.2 fun z=>?_]
   have hz:=h z;constructor
   ·intro hm
    rcases QLX.1 (hz.1 (List.mem_cons_of_mem _ hm)) with e | e
    ·subst e;have:=h1.1 z hm;omega
    ·exact e
   ·intro hm
    rcases QLX.1 (hz.2 (List.mem_cons_of_mem _ hm)) with e | e
    ·subst e;have:=h2.1 z hm;omega
    ·exact e
theorem Qe8 {lo hi:Int} {l l':List Int} (h:∀ x,x∈l↔x∈l') (hb:∀ x∈l,lo<=x/\x<=hi):YF l lo hi=YG l':=by
 refine QkC (Vz l lo hi) (Jx l') fun x=>?_
 rw[JY,Jy,<- h x];exact ⟨fun h=>h.2.2,fun h=>⟨(hb x h).1,(hb x h).2,h⟩⟩
def QLF (c:Qn) (n:Int) (e:List Int):Int:=((cab c.deeds (QC e) c.deeds.length).getD n.toNat 0:Nat)
def QK1 (c:Qn) (n:Int) (e:List Int):Int:=VG (cab c.deeds (QC e) c.deeds.length) n
include hK
omit hK
set_option maxRecDepth 100000
def Qup:=f0 0xa02f0c2801b21a4198f635f305773d74d7773d75d5d0c2d0221fb40221fa402cc378e93d0221f9438dd232c1f23281f2016de0cd01c243417711f17701f2016ce0cd0721044c1f3773d74d7773d75d5d0c21d0a2200c2216c ⟨_,by conv=>lhs;reduce⟩
def Qut:=f0 0xa02f6c28060c30c0277d3d777773d74d7773d75d5d6c2d232c1f232b1f20136e0cd01c240c417791f17771f17731f17711f17701f50135e0cd0dc210481f377d3d777773d74d7773d75d5d6c21d0a2206c221a ⟨_,by conv=>lhs;reduce⟩
def Qo0:=fk Tryz.func97 Qup (by kernel_rfl)
def Qpw:=fk Tryz.func43 Qut (by kernel_rfl)
attribute [simp] Qup Qut
def trA (k:Nat) (l:List Vt):AV:=if l=[] then .zsl 3 else .aref k l.length
def trO (k:Nat) (l:List Vt):Qx:=if l=[] then [] else [(k,.arr 164 3 (emb (l.map trC)) 0)]
def UA (k:Nat) (p:Qf):List AV:=[.aref k p.chain.deeds.length,.aref (k+1) p.chain.sights.length,.iv (.int .i64 p.chain.wrong),.aref (k+2) p.machine.levers.length,.iv (.int .i64 p.machine.water),.iv (.int .i64 p.machine.llo),.iv (.int .i64 p.machine.lhi),
 .aref (k+3) p.machine.bals.length,.iv (.int .i64 p.machine.wrong),trA (k+4) p.trials,.iv (.int .i64 p.need),.iv (.int .i64 p.rule)]
def Vu (k:Nat) (p:Qf):Qx:=[(k,.arr 162 5 (emb (p.chain.deeds.map dC)) 0),(k+1,.arr 166 5 (emb (p.chain.sights.map sC)) 0),(k+2,.arr 191 3 (emb (p.machine.levers.map leC)) 0),(k+3,.arr 168 4 (emb (p.machine.bals.map baC)) 0)]++trO (k+4) p.trials
def qU (k:Nat) (h:Qd):List AV:=UA k h.proof++[.iv (.int .i64 h.pull.iron),.iv (.int .i64 h.pull.glo),.iv (.int .i64 h.pull.ghi),.aref (k+5) h.pull.rods.length,.aref (k+6) h.pull.reads.length,.iv (.int .i64 h.pull.wrong)]
def W0 (k:Nat) (h:Qd):Qx:=Vu k h.proof++[(k+5,.arr 187 3 (emb (h.pull.rods.map roC)) 0),(k+6,.arr 170 7 (emb (h.pull.reads.map reC)) 0)]
theorem Zf {ids:List Nat} {args0:List AV} {o o1:Qx} (h1:ids.Nodup) (h2:args0.all (clA [])=true) (h3:o1.all (fun q=>decide (q.1<ids.length)&&Zr q.2)=true) (h4:ids.all (fun j=>(Qc o j).isNone)=true):HOk ids args0 o [] o1:=by
 refine ⟨h1,h2,by simp,fun i hi _=>?_,fun q hq=>?_⟩
 ·have hi:=QMi.1 hi
  have:=QMf.1 h4 (nth ids i) (by unfold nth;grind)
  simpa using this
 grind
include hK
theorem Qrv (c:Qn) (hl:c.deeds.length<=1000) (hs:c.sights.length<=1000):QQ Tryz.prog K 152 [.iv (chV c)] [] [] (.agg [.aref 0 c.deeds.length,.aref 1 c.sights.length,.iv (.int .i64 c.wrong)]) [(0,.arr 162 5 (emb (c.deeds.map dC)) 0),(1,.arr 166 5 (emb (c.sights.map sC)) 0)]:=by
 refine Q2 [5,9] [] [] [] Qzf.p (by simp[QDT]) (by simp) ?_ ?_ ?_ ?_
 ·intro q hq
  simp only[QLX,QLZ,or_false] at hq;rcases hq with rfl | rfl<;>exact ⟨by simp,rfl,Xz _ _ _ _ _⟩
 ·simp[clA,clAL]
 ·simp
 ·generalize hG:QgS QDT.res _ _ _ _=G
  simp[QDT];refine ⟨by omega,by omega,?_⟩
  rw[<- hG];refine ⟨⟨_,rfl,rfl⟩,fun q hq=>?_,by simp⟩
  simp only[QLX,QLZ,or_false] at hq;rcases hq with rfl | rfl<;>simp[rnO,nth,qK,emb,Qc]
theorem Qru (m:Machine) (hl:m.levers.length<=1000) (hs:m.bals.length<=1000):QQ Tryz.prog K 153 [.iv (maV m)] [] [] (.agg [.aref 0 m.levers.length,.iv (.int .i64 m.water),.iv (.int .i64 m.llo),.iv (.int .i64 m.lhi),.aref 1 m.bals.length,.iv (.int .i64 m.wrong)]) [(0,.arr 191 3 (emb (m.levers.map leC)) 0),(1,.arr 168 4 (emb (m.bals.map baC)) 0)]:=by
 refine Q2 [5,9] [] [] [] Qze.p (by simp[QDS]) (by simp) ?_ ?_ ?_ ?_
 ·intro q hq
  simp only[QLX,QLZ,or_false] at hq;rcases hq with rfl | rfl<;>exact ⟨by simp,rfl,Xz _ _ _ _ _⟩
 ·simp[clA,clAL]
 ·simp
 ·generalize hG:QgS QDS.res _ _ _ _=G
  simp[QDS];refine ⟨by omega,by omega,?_⟩
  rw[<- hG];refine ⟨⟨_,rfl,rfl⟩,fun q hq=>?_,by simp⟩
  simp only[QLX,QLZ,or_false] at hq;rcases hq with rfl | rfl<;>simp[rnO,nth,qK,emb,Qc]
theorem QvQ (p:Zm) (hl:p.rods.length<=1000) (hs:p.reads.length<=1000):QQ Tryz.prog K 98 [.iv (puV p)] [] [] (.agg [.iv (.int .i64 p.iron),.iv (.int .i64 p.glo),.iv (.int .i64 p.ghi),.aref 0 p.rods.length,.aref 1 p.reads.length,.iv (.int .i64 p.wrong)]) [(0,.arr 187 3 (emb (p.rods.map roC)) 0),(1,.arr 170 7 (emb (p.reads.map reC)) 0)]:=by
 refine Q2 [5,9] [] [] [] QCb.p (by simp[c98]) (by simp) ?_ ?_ ?_ ?_
 ·intro q hq
  simp only[QLX,QLZ,or_false] at hq;rcases hq with rfl | rfl<;>exact ⟨by simp,rfl,Xz _ _ _ _ _⟩
 ·simp[clA,clAL]
 ·simp
 ·generalize hG:QgS c98.res _ _ _ _=G
  simp[c98];refine ⟨by omega,by omega,?_⟩
  rw[<- hG];refine ⟨⟨_,rfl,rfl⟩,fun q hq=>?_,by simp⟩
  simp only[QLX,QLZ,or_false] at hq;rcases hq with rfl | rfl<;>simp[rnO,nth,qK,emb,Qc]
theorem QvR (p:Qf) (hs:Ql8 p):QQ Tryz.prog K 97 [.iv (prV p)] [] [] (.agg (UA 0 p)) (Vu 0 p):=by
 obtain ⟨h1,h2,h3,h4,h5⟩:=hs;have g52:=Qrv hK p.chain h1 h2;have g53:=Qru hK p.machine h3 h4;cases ht:p.trials with
 | nil =>
   refine Q2 [6000,6001,9000,9004,9] [] [] [] Qo0.p (by simp[Qup]) (by simp) ?_ ?_ ?_ ?_
   ·intro q hq
    simp only[Vu,trO,ht,if_true,if_false,QL0,QL1,QL4,reduceCtorEq,QLX,QLZ,or_false] at hq;rcases hq with rfl | rfl | rfl | rfl<;>exact ⟨by simp,rfl,Xz _ _ _ _ _⟩
   ·simp[UA,Vu,trA,trO,ht,clA,clAL]
   ·simp
   ·generalize hG:QgS Qup.res _ _ _ _=G
    simp[Qup];refine Qi g52 (by simp[nth,rn]) (Zf (by decide) rfl (by simp[Zr]) (by simp[Qc])) ?_
    simp[nth,rn];refine Qi g53 (by simp[nth,rn]) (Zf (by decide) rfl (by simp[Zr]) (by simp[Qc])) ?_
    simp[nth,rn,ht];rw[<- hG];refine ⟨⟨_,rfl,by simp[UA,trA,ht,rn,rnL,nth]⟩,fun q hq=>?_,by simp⟩
    simp only[Vu,trO,ht,if_true,if_false,QL0,QL1,QL4,reduceCtorEq,QLX,QLZ,or_false] at hq;rcases hq with rfl | rfl | rfl | rfl<;>simp[rnO,nth,qK,emb,Qc]
 | cons t r =>
   rw[ht] at h5;simp at h5;refine Q2 [6000,6001,9000,9004,9] [] [] [] Qo0.p (by simp[Qup]) (by simp) ?_ ?_ ?_ ?_
   ·intro q hq
    simp only[Vu,trO,ht,if_true,if_false,QL0,QL1,QL4,reduceCtorEq,QLX,QLZ,or_false] at hq;rcases hq with rfl | rfl | rfl | rfl | rfl<;>exact ⟨by simp,rfl,Xz _ _ _ _ _⟩
   ·simp[UA,Vu,trA,trO,ht,clA,clAL]
   ·simp
   ·generalize hG:QgS Qup.res _ _ _ _=G
    simp[Qup];refine Qi g52 (by simp[nth,rn]) (Zf (by decide) rfl (by simp[Zr]) (by simp[Qc])) ?_
    simp[nth,rn];refine Qi g53 (by simp[nth,rn]) (Zf (by decide) rfl (by simp[Zr]) (by simp[Qc])) ?_
    simp[nth,rn,ht];refine ⟨by omega,?_⟩
    rw[<- hG];refine ⟨⟨_,rfl,by simp[UA,trA,ht,rn,rnL,nth]⟩,fun q hq=>?_,by simp⟩
    simp only[Vu,trO,ht,if_true,if_false,QL0,QL1,QL4,reduceCtorEq,QLX,QLZ,or_false] at hq;rcases hq with rfl | rfl | rfl | rfl | rfl<;>simp[rnO,nth,qK,emb,Qc]
theorem Vc (h:Qd) (hs:QK h):QQ Tryz.prog K 43 [.iv (hoV h)] [] [] (.agg (qU 0 h)) (W0 0 h):=by
 have g24:=QvR hK h.proof hs.proof;have g25:=QvQ hK h.pull hs.rods hs.reads;have hsr:=hs.rods;have hsx:=hs.reads;cases ht:h.proof.trials with
 | nil =>
   refine Q2 [6000,6001,6003,6007,6009,9003,9004] [] [] [] Qpw.p (by simp[Qut]) (by simp) ?_ ?_ ?_ ?_
   ·intro q hq
    simp only[W0,Vu,trO,ht,if_true,if_false,QL0,QL1,QL4,reduceCtorEq,QLX,QLZ,or_false] at hq;rcases hq with rfl | rfl | rfl | rfl | rfl | rfl<;>exact ⟨by simp,rfl,Xz _ _ _ _ _⟩
   ·simp[qU,W0,UA,Vu,trA,trO,ht,clA,clAL]
   ·simp
   ·generalize hG:QgS Qut.res _ _ _ _=G
    simp only[UA,Vu,trA,trO,ht,if_true,if_false,reduceCtorEq] at g24;simp[Qut];refine Qi g24 (by simp[nth,rn]) (Zf (by decide) rfl (by simp[Zr]) (by simp[Qc])) ?_
    simp[nth,rn,rnL];refine Qi g25 (by simp[nth,rn]) (Zf (by decide) rfl (by simp[Zr]) (by simp[Qc])) ?_
    simp[nth,rn,rnL];rw[<- hG];refine ⟨⟨_,rfl,by simp[qU,UA,trA,ht,rn,rnL,nth]⟩,fun q hq=>?_,by simp⟩
    simp only[W0,Vu,trO,ht,if_true,if_false,QL0,QL1,QL4,reduceCtorEq,QLX,QLZ,or_false] at hq;rcases hq with rfl | rfl | rfl | rfl | rfl | rfl<;>simp[rnO,nth,qK,emb,Qc]
 | cons t r =>
   refine Q2 [6000,6001,6003,6007,6009,9003,9004] [] [] [] Qpw.p (by simp[Qut]) (by simp) ?_ ?_ ?_ ?_
   ·intro q hq
    simp only[W0,Vu,trO,ht,if_true,if_false,QL0,QL1,QL4,reduceCtorEq,QLX,QLZ,or_false] at hq;rcases hq with rfl | rfl | rfl | rfl | rfl | rfl | rfl<;>exact ⟨by simp,rfl,Xz _ _ _ _ _⟩
   ·simp[qU,W0,UA,Vu,trA,trO,ht,clA,clAL]
   ·simp
   ·generalize hG:QgS Qut.res _ _ _ _=G
    simp only[UA,Vu,trA,trO,ht,if_true,if_false,reduceCtorEq] at g24;simp[Qut];refine Qi g24 (by simp[nth,rn]) (Zf (by decide) rfl (by simp[Zr]) (by simp[Qc])) ?_
    simp[nth,rn,rnL];refine Qi g25 (by simp[nth,rn]) (Zf (by decide) rfl (by simp[Zr]) (by simp[Qc])) ?_
    simp[nth,rn,rnL];rw[<- hG];refine ⟨⟨_,rfl,by simp[qU,UA,trA,ht,rn,rnL,nth]⟩,fun q hq=>?_,by simp⟩
    simp only[W0,Vu,trO,ht,if_true,if_false,QL0,QL1,QL4,reduceCtorEq,QLX,QLZ,or_false] at hq;rcases hq with rfl | rfl | rfl | rfl | rfl | rfl | rfl<;>simp[rnO,nth,qK,emb,Qc]
end Go.Pf
