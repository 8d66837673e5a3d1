/- Pulls: zp is asked (reference). -/
import Derived.Test.YtpiohpigfaahcaaGreatDoorPartFive
set_option linter.all false
set_option maxRecDepth 100000
namespace Go.Pf
open Go Go.Ev Go.Proofs Go.RowKit Go.Proofs.Tryz
variable{K:World->Prop}(hK:∀w w',K w->Below w.heap.size w w'->K w')
def qr(part:Int)(t:TrU):Bool:=Xr t.ya t.yb part
def V0(T:List TrU)(part:Int):Int:=if T.all (qr part) then 1 else if T.any (qr part) then 3 else 2
def QhH(p:Za)(part:Int)(hp:0<=part):V0 (YQ p) part=Qev p part:=(Qqj p part hp).symm
def Qbn(T:List TrU):Option Nat:=(List.range 1001).find? λi=>decide (V0 T (i:Nat)=1)
def UW(T:List TrU)(rod:Nat):List Int:=T.map λt=>t.zi.getD rod 0
def Vl{α:Type}(f:α->Int)(l:List α)(i:Nat)(h:i<l.length):span ((l.take (i+1)).map f)=if i=0 then(f l[i],f l[i]) else(min (span ((l.take i).map f)).1 (f l[i]),max (span ((l.take i).map f)).2 (f l[i])):=by
 rw[QNW h,QOd,QO3,J2];cases i with
 |zero=>simp
 |succ i=>
  have:¬(l.take (i+1)).map f=[]:=by intro c;have:=congrArg List.length c;grind
  grind
def QhI(T:List TrU)(part:Int):V0 T part=if T.countP (qr part)=T.length then 1 else if T.countP (qr part)=0 then 2 else 3:=by
 unfold V0;by_cases h:T.all (qr part)=true
 .have:T.countP (qr part)=T.length:=QPz.2 (λx hx=>QOt.1 h x hx);simp[h,this]
 .have h1:¬T.countP (qr part)=T.length:=λc=>h (QOt.2 (QPz.1 c));rw[if_neg h,if_neg h1];by_cases h2:T.any (qr part)=true
  .grind
  .have:T.countP (qr part)=0:=QPG.2 (λx hx hx2=>h2 (QOO.2 ⟨x,hx,hx2⟩));grind
include hK
def QuD(l:List Int)(lo hi:Int)(h1: -1000000<=lo)(h2:lo<=hi)(h3:hi<=1000000):Gd K 249 [Qq l,.int .i64 lo,.int .i64 hi] (Qq (Z7 l lo hi)):=by
 apply Qb hK QsN (by simp);simp;have e0:lo=lo+((0:Nat):Int):=by simp
 conv=>arg 8;rw[e0]
 refine Qe (λi=>[(0,AV.iv (Qq l)),(2,AV.iv (.int .i64 hi)),(7,AV.yl 7 (Ya l lo i).length),(8,AV.iv (.int .i64 (lo+(i:Nat))))])
  (λi=>[(7,AO.arr 3 1 (emb ((Ya l lo i).map λn=>[.int .i64 n])) 0)]) (hi+1-lo).toNat (λi=>True) trivial ?_ ?_
 .intro _;have e1:lo+((hi+1-lo).toNat:Int)=hi+1:=by omega
  have e2:¬hi+1<=hi:=by omega
  rw[e1,Qa Qdm.eq_1];simp[e2,Z7]
 intro i hi' _ ih;have hln:=Wn l lo i;have e1:lo+(i:Int)<=hi:=by omega
 rw[QaO] at ih;rw[Qa Qdm.eq_1];simp[e1];apply cK (QfK hK l (lo+i));have e3:lo+((i:Int)+1)=lo+i+1:=by omega
 by_cases hm:(lo+(i:Int))∈l
 .simp[hm,e3] at ih |-
  grind
 simp[hm,e3] at ih |-
 grind
def Qzr(T:List TrU)(h:∀t∈T,(0<=t.ya/\t.ya<=99999)/\(0<=t.yb/\t.yb<=99999))(hn:T.length<=1000000):Gd K 266 [.sl 3 (T.map tuV)] (.agg [.int .i64 (span (T.map YY)).1,.int .i64 (span (T.map YY)).2]):=by
 apply Qb hK QCz (by simp);simp
 refine Qe (λi=>[(0,AV.iv (.sl 3 (T.map tuV))),(2,AV.loc 2 0),(3,AV.loc 3 0),(4,AV.iv (.int .i64 (i:Nat)))])
  (λi=>[(2,AO.box [.iv (.int .i64 0),.iv (.int .i64 0)]),(3,AO.box [.iv (.int .i64 (span ((T.take i).map YY)).1),.iv (.int .i64 (span ((T.take i).map YY)).2)])]) T.length (λ_=>True) trivial ?_ ?_
 .intro _;rw[Qa Qk7.eq_1,QN5];simp
 intro i hi _ ih;have hb:=h _ (QN0 hi);have hgr:YY T[i]=T[i].yb-T[i].ya:=rfl;rw[Vl YY T i hi] at ih;rw[Qa Qk7.eq_1];generalize hX:T[i]=X at *;by_cases h0:i=0
 .subst h0;simp[hgr] at ih;simp[hi,hX];grind
 have h0':¬(i:Int)=0:=by omega
 rw[if_neg h0] at ih;generalize span ((T.take i).map YY)=S at *;simp[hgr] at ih;simp[hi,hX,h0,h0',VY,U5] at ih |-
 grind
def QjH(n:Int):Gd K 267 [.int .i64 n] (.bool (decide (inR n 0 1000))):=by apply Qb hK QCy (by simp);simp;exact cK (V1 hK _ _ _) (by simp)
def QqH(T:List TrU)(part:Int)(h:∀t∈T,(0<=t.ya/\t.ya<=99999)/\(0<=t.yb/\t.yb<=99999))(hp:0<=part/\part<=1000)(hn:T.length<=1000000):Gd K 268 [.sl 3 (T.map tuV),.int .i64 part] (.int .i64 (V0 T part)):=by
 apply Qb hK QCx (by simp);have hc:=QhI T part;generalize V0 T part=R at *;simp;refine Qe (λi=>[(0,AV.iv (.sl 3 (T.map tuV))),(1,AV.iv (.int .i64 part)),(5,AV.iv (.int .i64 ((T.take i).countP (qr part):Nat))),(6,AV.iv (.int .i64 (i:Nat)))]) (λ_=>[]) T.length (λ_=>True) trivial ?_ ?_
 .intro _;rw[Qa Qk6.eq_1,QN5];generalize T.countP (qr part)=n at *;subst hc;by_cases h1:n=T.length
  .simp[h1]
  have h1':¬(n:Int)=T.length:=by omega
  by_cases h2:n=0
  .have h1'':¬(0:Int)=T.length:=by omega
   have h3:¬0=T.length:=by omega
   simp[h2,h1'',h3]
  have h2':¬(n:Int)=0:=by omega
  simp[h1,h1',h2,h2']
 .intro i hi _ ih;have hb:=h _ (QN0 hi);have hcl:(T.take i).countP (qr part)<=i:=QOz QOw (by simp;omega);have hg:=Qy0 hK T[i] part hb.1 hb.2 hp;have hh:Xr T[i].ya T[i].yb part=qr part T[i]:=rfl;rw[hh] at hg;rw[QNW hi,QOH] at ih;rw[Qa Qk6.eq_1];generalize hX:T[i]=X at *;cases hx:qr part X
  .simp[hx] at ih hg;simp[hi,hX];intros;apply cK (by simpa using hg);simp;grind
  .simp[hx] at ih hg;simp[hi,hX];intros;apply cK (by simpa using hg);simp;grind
omit hK in
theorem QIs{p:Za}{is:Bool}{t:TrU}(h:t∈uL p is):OkU p/\is=true/\t∈YQ p:=by unfold uL at h;grind
omit hK in
theorem Qmg{p:Za}{is:Bool}{t:TrU}(h:t∈uL p is):(0<=t.ya/\t.ya<=99999)/\(0<=t.yb/\t.yb<=99999):=by have⟨hp,_,ht⟩:=QIs h;have:=Qj5 hp (QOx.1 ht).1;exact⟨this.ya,this.yb⟩
omit hK in
theorem Qmf{p:Za}{is:Bool}(hN:OkU p->(Ql1 p).length<=1000000):(uL p is).length<=1000000:=by
 unfold uL;split
 .rename_i h;exact QOz (QOp _ _) (hN h.1)
 simp
omit hK in
theorem Wj{p:Za}{is:Bool}(h:uE p is=0):OkU p/\is=true/\uL p is=YQ p/\YQ p≠[]:=by
 unfold uE at h;split at h
 .rename_i hp;cases is
  .simp at h
  simp only[if_true] at h;split at h
  .cases h
  rename_i hne;exact⟨hp,rfl,by simp[uL,hp],hne⟩
 .cases h
structure QEU(p:Za):Prop where
 zi:p.zi.length<=1000
 zj:p.zj.length<=1000
 all:OkU p->(Ql1 p).length<=1000000
def Qz6(p:Za)(hf:QEU p):Gd K 174 [puV p] (.xf [.agg [.int .i64 (span ((uL p true).map YY)).1,.int .i64 (span ((uL p true).map YY)).2],.int .i64 (uE p true)]):=by apply Qb hK QDL (by simp);simp;apply cK (by simpa using QfL hK p true hf.zi hf.zj hf.all);simp;apply cK (by simpa using Qzr hK (uL p true) (λt ht=>Qmg ht) (Qmf hf.all));simp
def W7(n:Int):Bool:=decide (inR n 0 1000)
def Qn2(p:Za)(n:Int):Bool:=decide (inR n 0 ((p.zi.length:Int)-1))
noncomputable def Ug(p:Za)(part:Int):Int:=if uE p (W7 part)=0 then V0 (YQ p) part else 0
noncomputable def W4(p:Za):Int×Int:=if uE p true=0 then(match Qbn (YQ p) with|some n=>((n:Int),0)|none=>(0,3)) else(0,uE p true)
noncomputable def Qfn(p:Za)(rod:Int):List Int:=if uE p (Qn2 p rod)=0 then Z7 (UW (YQ p) rod.toNat) ((p.zi.getD rod.toNat ⟨0,0,0⟩).long-(p.zi.getD rod.toNat ⟨0,0,0⟩).z7) (p.zi.getD rod.toNat ⟨0,0,0⟩).long else []
def Qz4(p:Za)(part:Int)(hf:QEU p):Gd K 176 [puV p,.int .i64 part] (.xf [.int .i64 (Ug p part),.int .i64 (uE p (W7 part))]):=by
 apply Qb hK QDJ (by simp);simp;apply cK (QjH hK part);have hpd:decide (inR part 0 1000)=W7 part:=rfl;rw[hpd];simp;apply cK (by simpa using QfL hK p (W7 part) hf.zi hf.zj hf.all);unfold Ug;by_cases h0:uE p (W7 part)=0
 .obtain⟨hp,hb,hL,hne⟩:=Wj h0;have hpt:=of_decide_eq_true hb;simp only[inR] at hpt;have hfit:∀t∈YQ p,(0<=t.ya/\t.ya<=99999)/\(0<=t.yb/\t.yb<=99999):=λt ht=>by rw[<- hL] at ht;exact Qmg ht
  have hln:(YQ p).length<=1000000:=by rw[<- hL];exact Qmf hf.all
  have hg:=QqH hK (YQ p) part hfit hpt hln;simp[h0,hL];apply cK (by simpa using hg);simp
 .simp[h0]
def Qz5(p:Za)(hf:QEU p):Gd K 175 [puV p] (.xf [.int .i64 (W4 p).1,.int .i64 (W4 p).2]):=by
 apply Qb hK QDK (by simp);simp;apply cK (by simpa using QfL hK p true hf.zi hf.zj hf.all);unfold W4;by_cases h0:uE p true=0;rotate_left
 .simp[h0]
 .obtain⟨hp,hb,hL,hne⟩:=Wj h0;have hfit:∀t∈YQ p,(0<=t.ya/\t.ya<=99999)/\(0<=t.yb/\t.yb<=99999):=λt ht=>by rw[<- hL] at ht;exact Qmg ht
  have hln:(YQ p).length<=1000000:=by rw[<- hL];exact Qmf hf.all
  simp[h0,hL];have hbest:∀n,Qbn (YQ p)=n->Qbn (YQ p)=n:=λ_ h=>h;refine Qe (λi=>[(4,AV.iv (.sl 3 ((YQ p).map tuV))),(6,AV.iv (.int .i64 (i:Nat)))]) (λ_=>[]) 1001 (λi=>∀j,j<i->¬V0 (YQ p) (j:Nat)=1) (by simp) ?_ ?_
  .intro h;have hn:Qbn (YQ p)=none:=by
    unfold Qbn;grind
   rw[Qa QlF.eq_1];simp;apply cK (QjH hK 1001);simp[hn,inR]
  .intro i hi h ih;have hg:=QqH hK (YQ p) (i:Nat) hfit (by omega) hln;have hin:inR (i:Int) 0 1000:=by simp only[inR];omega
   rw[Qa QlF.eq_1];simp;apply cK (QjH hK (i:Nat));simp[hin];apply cK (by simpa using hg);by_cases hh:V0 (YQ p) (i:Nat)=1
   .have hs:Qbn (YQ p)=some i:=by
     unfold Qbn;rw[QPD];exact⟨by simp[hh],i,by simpa using hi,by simp,λj hj=>by simpa using h j hj⟩
    simp[hh,hs]
   .have ih:=ih (λj hj=>by
     grind)
    simp[hh] at ih |-
    grind
def Qzq(p:Za)(T:List TrU)(rod:Nat)(hp:OkU p)(hr:rod<p.zi.length)(h:∀t∈T,t.zi.length=p.zi.length)(hn:T.length<=1000000):Gd K 269 [puV p,.sl 3 (T.map tuV),.int .i64 (rod:Nat)] (Qq (Z7 (UW T rod) (p.zi[rod].long-p.zi[rod].z7) p.zi[rod].long)):=by
 apply Qb hK QCw (by simp);have hro:=hp.zi _ (QN0 hr);have⟨h1,h2,h3⟩:=hro;simp only[inR] at h1 h2;have hg:=QuD hK (UW T rod) (p.zi[rod].long-p.zi[rod].z7) p.zi[rod].long (by omega) (by omega) (by omega);generalize hR:p.zi[rod]=R at *;simp
 refine Qe (λi=>[(1,AV.iv (.sl 3 (T.map tuV))),(2,AV.iv (.int .i64 (rod:Nat))),(3,AV.iv (.ptr (puC p))),(7,AV.yl 7 (UW (T.take i) rod).length),(8,AV.iv (.int .i64 (i:Nat)))])
  (λi=>[(7,AO.arr 3 1 (emb ((UW (T.take i) rod).map λn=>[.int .i64 n])) 0)]) T.length (λ_=>True) trivial ?_ ?_
 .intro _;rw[Qa Qk5.eq_1,QN5];have hl:(UW T rod).length=T.length:=by simp[UW]
  generalize UW T rod=L at *;simp[hr,hR]
  (repeat' first|omega|apply And.intro|intro)
  apply cK (by simpa using hg);simp
 intro i hi _ ih;have hl:=h _ (QN0 hi);have y9:rod<T[i].zi.length:=by omega
 have e:UW (T.take (i+1)) rod=UW (T.take i) rod++[T[i].zi[rod]]:=by unfold UW;rw[QNW hi,QOd];simp[y9]
 have hln:(UW (T.take i) rod).length=i:=by simp[UW];omega
 rw[e] at ih;rw[Qa Qk5.eq_1];generalize UW (T.take i) rod=L at *;generalize hX:T[i]=X at *;simp[hi,hX,y9] at ih |-
 grind
def Qz3(p:Za)(rod:Int)(hf:QEU p):Gd K 177 [puV p,.int .i64 rod] (.xf [Qq (Qfn p rod),.int .i64 (uE p (Qn2 p rod))]):=by
 apply Qb hK QDI (by simp);simp;apply cK (by simpa using QwS hK p rod hf.zi);have hpd:decide (inR rod 0 ((p.zi.length:Int)-1))=Qn2 p rod:=rfl;rw[hpd];simp;apply cK (by simpa using QfL hK p (Qn2 p rod) hf.zi hf.zj hf.all);unfold Qfn;by_cases h0:uE p (Qn2 p rod)=0
 .obtain⟨hp,hb,hL,hne⟩:=Wj h0;have hpt:=of_decide_eq_true hb;simp only[inR] at hpt;have y9:rod.toNat<p.zi.length:=by omega
  have hfit:∀t∈YQ p,t.zi.length=p.zi.length:=λt ht=>(Qj5 hp (QOx.1 ht).1).len;have hln:(YQ p).length<=1000000:=by rw[<- hL];exact Qmf hf.all
  have hg:=Qzq hK p (YQ p) rod.toNat hp y9 hfit hln;have hro:((rod.toNat:Nat):Int)=rod:=by omega
  rw[hro] at hg;have hgd:p.zi.getD rod.toNat ⟨0,0,0⟩=p.zi[rod.toNat]:=by simp[y9]
  rw[if_pos h0,hgd];simp[h0,hL];apply cK (by simpa using hg);simp
 simp[h0]
omit hK
@[simp] def Qi5(w:List Int):List IV:=[.int .i64 (w.getD 0 0),.int .i64 (w.getD 1 0),.int .i64 (w.getD 2 0),.int .i64 (w.getD 3 0)]
def QhA(w:List Int):List IV:=[.agg (Qi5 w)]
def Qbe{α:Type}(pc:Nat->List α)(i n:Nat):List α:=((List.range n).drop i).flatMap pc
def UI{α:Type}(pc:Nat->List α){i n:Nat}(h:i<n):Qbe pc i n=pc i++Qbe pc (i+1) n:=by unfold Qbe;rw[QOq (by simpa using h),QPb];simp
def WZ{α:Type}(pc:Nat->List α)(n:Nat):Qbe pc n n=[]:=by unfold Qbe;rw[QOA (by simp)];rfl
def Qpw{α:Type}(pc:Nat->List α)(n:Nat):Qbe pc 0 n=acc pc n:=by simp[Qbe,acc]
def QbV(p:Za)(first:List Int):List (List IV):=((Z1 (p.zi.drop first.length)).map (first++·)).map QhA
def QnG{p:Za}{first:List Int}(h:first.length<p.zi.length):QbV p first=Qbe (λi:Nat=>QbV p (first++[p.zi[first.length].long-p.zi[first.length].z7+i])) 0 (p.zi[first.length].z7+1).toNat:=by
 have e1:p.zi.drop first.length=p.zi[first.length]::p.zi.drop (first.length+1):=QOq h
 have e2:(p.zi[first.length].long-(p.zi[first.length].long-p.zi[first.length].z7)+1).toNat=(p.zi[first.length].z7+1).toNat:=by congr 1;omega
 rw[Qpw];unfold QbV;rw[e1,QbU,e2];simp only[acc,QPO,QOf,QOi,QOE,QOn];congr 1;funext i;simp[Qa1,Function.comp_def]
include hK
theorem Qqb(p:Za)(hp:OkU p):∀(n:Nat)(first:List Int),first.length+n=p.zi.length->Qbr prog K 421 [puV p,.int .i64 (first.length:Nat),.agg (Qi5 first)] [] (QbV p first) (λb=>.bool b)
 |0,first,hn=>by
  intro s b s' hf;apply QW Qss (by simp) hf.v rfl;have e1:p.zi.drop first.length=[]:=QOA (by omega)
  have e2:first.length=p.zi.length:=by omega
  have hw:QbV p first=[QhA first]:=by simp[QbV,e1,Z1]
  rw[hw] at hf;simp[e2];intros;cases hf with
  |stop _ _ _ _ hg=>apply Zd (by simpa[QhA] using hg) rfl;simp
  |next _ _ _ s1 _ _ hg hr=>cases hr;apply Zd (by simpa[QhA] using hg) rfl;simp
 |n+1,first,hn=>by
  intro s b s' hf;apply QW Qss (by simp) hf.v rfl;have y9:first.length<p.zi.length:=by omega
  have hne:¬(first.length:Int)=p.zi.length:=by omega
  have h4:first.length<4:=by have:=hp.rlen;omega
  have hro:=hp.zi _ (QN0 y9);have⟨r1,r2,r3⟩:=hro;simp only[inR] at r1 r2 r3;rw[QnG y9] at hf;have ih:∀i:Nat,Qbr prog K 421 [puV p,.int .i64 (first.length+1:Nat),.agg (Qi5 (first++[p.zi[first.length].long-p.zi[first.length].z7+i]))] [] (QbV p (first++[p.zi[first.length].long-p.zi[first.length].z7+i])) (λb=>.bool b):=λi=>by have:=Qqb p hp n (first++[p.zi[first.length].long-p.zi[first.length].z7+(i:Int)]) (by simp;omega);simpa using this
  generalize hR:p.zi[first.length]=R at *
  generalize hpc:(λi:Nat=>QbV p (first++[R.long-R.z7+i]))=pc at *
  have ih:∀i:Nat,Qbr prog K 421 [puV p,.int .i64 (first.length+1:Nat),.agg (Qi5 (first++[R.long-R.z7+i]))] [] (pc i) (λb=>.bool b):=λi=>by grind
  obtain⟨N,hN⟩:∃N,N=(R.z7+1).toNat:=⟨_,rfl⟩;rw[<- hN] at hf;have hNv:(N:Int)=R.z7+1:=by omega
  clear hpc hn hN
  match first,h4,y9,hne,hR,ih with
  |[],_,y9,hne,hR,ih=>
   have hM:0<p.zi.length:=by simpa using y9
   have hR0:p.zi[0]'hM=R:=hR;have hne':¬(0:Int)=p.zi.length:=by omega
   simp[hM,hR0,hne']
   (repeat' first|omega|apply And.intro|intro)
   refine YU N (λk e o=>∃si,e=[(1,AV.iv (.int .i64 (([]:List Int).length:Nat))),(3,AV.cb 0),(4,AV.iv (.ptr (puC p))),(6,AV.loc 6 0),(9,AV.loc 9 0)] /\
    o=[(0,.ext si),(6,.box ((Qi5 ([]++[R.long-R.z7+(k:Int)])).map AV.iv)),(9,.box [.iv (.int .i64 R.long),.iv (.int .i64 R.z7),.iv (.int .i64 R.grow)])]/\Z2 prog K (Qbe pc k N) si b s') ?_ ?_ _ _ ⟨s,by simp,by simp,by simpa using hf⟩
   .rintro e o ⟨si,rfl,rfl,hfd⟩;rw[WZ] at hfd;cases hfd;have q:¬R.long-R.z7+(N:Int)<=R.long:=by omega
    rw[Qa VP.eq_1];simp[q]
    try (intros;omega)
   rintro k e o hk ⟨si,rfl,rfl,hfd⟩ ihl;rw[UI pc hk] at hfd;have q:R.long-R.z7+(k:Int)<=R.long:=by omega
   have q3:R.long-R.z7+((k:Int)+1)=R.long-R.z7+k+1:=by omega
   rw[Qa VP.eq_1];simp[q]
   (repeat' first|omega|apply And.intro|intro)
   rcases hfd.append with ⟨s1,hf1,hf2⟩|⟨rfl,hf1⟩
   .apply ZQ (by simpa using ih k _ _ _ hf1) rfl;cases b
    all_goals
     simp
     (repeat' first|omega|apply And.intro|intro)
     exact ihl _ _ ⟨s1,by simp,by simp[q3],by simpa using hf2⟩
   apply ZQ (by simpa using ih k _ _ _ hf1) rfl;simp
  |[a],_,y9,hne,hR,ih=>
   have hM:1<p.zi.length:=by simpa using y9
   have hR0:p.zi[1]'hM=R:=hR;have hne':¬(1:Int)=p.zi.length:=by omega
   simp[hM,hR0,hne']
   (repeat' first|omega|apply And.intro|intro)
   refine YU N (λk e o=>∃si,e=[(1,AV.iv (.int .i64 (([a]:List Int).length:Nat))),(3,AV.cb 0),(4,AV.iv (.ptr (puC p))),(6,AV.loc 6 0),(9,AV.loc 9 0)] /\
    o=[(0,.ext si),(6,.box ((Qi5 ([a]++[R.long-R.z7+(k:Int)])).map AV.iv)),(9,.box [.iv (.int .i64 R.long),.iv (.int .i64 R.z7),.iv (.int .i64 R.grow)])]/\Z2 prog K (Qbe pc k N) si b s') ?_ ?_ _ _ ⟨s,by simp,by simp,by simpa using hf⟩
   .rintro e o ⟨si,rfl,rfl,hfd⟩;rw[WZ] at hfd;cases hfd;have q:¬R.long-R.z7+(N:Int)<=R.long:=by omega
    rw[Qa VP.eq_1];simp[q]
    try (intros;omega)
   rintro k e o hk ⟨si,rfl,rfl,hfd⟩ ihl;rw[UI pc hk] at hfd;have q:R.long-R.z7+(k:Int)<=R.long:=by omega
   have q3:R.long-R.z7+((k:Int)+1)=R.long-R.z7+k+1:=by omega
   rw[Qa VP.eq_1];simp[q]
   (repeat' first|omega|apply And.intro|intro)
   rcases hfd.append with ⟨s1,hf1,hf2⟩|⟨rfl,hf1⟩
   .apply ZQ (by simpa using ih k _ _ _ hf1) rfl;cases b
    all_goals
     simp
     (repeat' first|omega|apply And.intro|intro)
     exact ihl _ _ ⟨s1,by simp,by simp[q3],by simpa using hf2⟩
   apply ZQ (by simpa using ih k _ _ _ hf1) rfl;simp
  |[a,a2],_,y9,hne,hR,ih=>
   have hM:2<p.zi.length:=by simpa using y9
   have hR0:p.zi[2]'hM=R:=hR;have hne':¬(2:Int)=p.zi.length:=by omega
   simp[hM,hR0,hne']
   (repeat' first|omega|apply And.intro|intro)
   refine YU N (λk e o=>∃si,e=[(1,AV.iv (.int .i64 (([a,a2]:List Int).length:Nat))),(3,AV.cb 0),(4,AV.iv (.ptr (puC p))),(6,AV.loc 6 0),(9,AV.loc 9 0)] /\
    o=[(0,.ext si),(6,.box ((Qi5 ([a,a2]++[R.long-R.z7+(k:Int)])).map AV.iv)),(9,.box [.iv (.int .i64 R.long),.iv (.int .i64 R.z7),.iv (.int .i64 R.grow)])]/\Z2 prog K (Qbe pc k N) si b s') ?_ ?_ _ _ ⟨s,by simp,by simp,by simpa using hf⟩
   .rintro e o ⟨si,rfl,rfl,hfd⟩;rw[WZ] at hfd;cases hfd;have q:¬R.long-R.z7+(N:Int)<=R.long:=by omega
    rw[Qa VP.eq_1];simp[q]
    try (intros;omega)
   rintro k e o hk ⟨si,rfl,rfl,hfd⟩ ihl;rw[UI pc hk] at hfd;have q:R.long-R.z7+(k:Int)<=R.long:=by omega
   have q3:R.long-R.z7+((k:Int)+1)=R.long-R.z7+k+1:=by omega
   rw[Qa VP.eq_1];simp[q]
   (repeat' first|omega|apply And.intro|intro)
   rcases hfd.append with ⟨s1,hf1,hf2⟩|⟨rfl,hf1⟩
   .apply ZQ (by simpa using ih k _ _ _ hf1) rfl;cases b
    all_goals
     simp
     (repeat' first|omega|apply And.intro|intro)
     exact ihl _ _ ⟨s1,by simp,by simp[q3],by simpa using hf2⟩
   apply ZQ (by simpa using ih k _ _ _ hf1) rfl;simp
  |[a,a2,a3],_,y9,hne,hR,ih=>
   have hM:3<p.zi.length:=by simpa using y9
   have hR0:p.zi[3]'hM=R:=hR;have hne':¬(3:Int)=p.zi.length:=by omega
   simp[hM,hR0,hne']
   (repeat' first|omega|apply And.intro|intro)
   refine YU N (λk e o=>∃si,e=[(1,AV.iv (.int .i64 (([a,a2,a3]:List Int).length:Nat))),(3,AV.cb 0),(4,AV.iv (.ptr (puC p))),(6,AV.loc 6 0),(9,AV.loc 9 0)] /\
    o=[(0,.ext si),(6,.box ((Qi5 ([a,a2,a3]++[R.long-R.z7+(k:Int)])).map AV.iv)),(9,.box [.iv (.int .i64 R.long),.iv (.int .i64 R.z7),.iv (.int .i64 R.grow)])]/\Z2 prog K (Qbe pc k N) si b s') ?_ ?_ _ _ ⟨s,by simp,by simp,by simpa using hf⟩
   .rintro e o ⟨si,rfl,rfl,hfd⟩;rw[WZ] at hfd;cases hfd;have q:¬R.long-R.z7+(N:Int)<=R.long:=by omega
    rw[Qa VP.eq_1];simp[q]
    try (intros;omega)
   rintro k e o hk ⟨si,rfl,rfl,hfd⟩ ihl;rw[UI pc hk] at hfd;have q:R.long-R.z7+(k:Int)<=R.long:=by omega
   have q3:R.long-R.z7+((k:Int)+1)=R.long-R.z7+k+1:=by omega
   rw[Qa VP.eq_1];simp[q]
   (repeat' first|omega|apply And.intro|intro)
   rcases hfd.append with ⟨s1,hf1,hf2⟩|⟨rfl,hf1⟩
   .apply ZQ (by simpa using ih k _ _ _ hf1) rfl;cases b
    all_goals
     simp
     (repeat' first|omega|apply And.intro|intro)
     exact ihl _ _ ⟨s1,by simp,by simp[q3],by simpa using hf2⟩
   apply ZQ (by simpa using ih k _ _ _ hf1) rfl;simp
  |_::_::_::_::_,h4,_,_,_,_=>simp at h4;omega
omit hK
theorem QhW(x y:Int):∀l:List (Int×Nat),Qc0 (QcO l x) y=Qc0 l y+(if x=y then 1 else 0)
 |[]=>by simp[QcO,Qc0]
 |p::r=>by
  unfold QcO;by_cases h:p.1=x
  .simp only[h,if_true,Qc0];grind
  simp only[h,if_false,Qc0];by_cases h2:p.1=y
  .grind
  simp[h2,QhW x y r]
def Qq7(y:Int):∀l:List Int,Qc0 (X9 l) y=l.count y:=by
 refine Yo (by simp[X9,Qc0]) λl x ih=>?_;rw[X4,QhW,ih,List.count_append,List.count_singleton]
 grind
def QgO(p:Za)(wh:Int)(w:List Int)(l:List Int):List Int:=l.flatMap λlen=>List.replicate (wrU p wh w len) len
def QwB(p:Za)(wh:Int)(w:List Int):List Int:=QgO p wh w (XH p)
theorem QgN(p:Za)(wh:Int)(w:List Int)(y:Int):∀l:List Int,l.Nodup->(QgO p wh w l).count y=if y∈l then wrU p wh w y else 0
 |[],_=>by simp[QgO]
 |a::r,h=>by
  rw[QPL] at h;have ih:=QgN p wh w y r h.2;have e:QgO p wh w (a::r)=List.replicate (wrU p wh w a) a++QgO p wh w r:=by simp[QgO]
  grind
def QtA{p:Za}{wh:Int}{w:List Int}{len:Int}(h:len∈XH p):Qc0 (X9 (QwB p wh w)) len=wrU p wh w len:=by
 have hnd:(XH p).Nodup:=(WE _ _).imp λh=>by omega
 rw[Qq7,QwB,QgN p wh w len _ hnd,if_pos h]
def Qnf(w:List Int)(n:Nat)(h:n<4):[IV.int .i64 (w.getD 0 0),.int .i64 (w.getD 1 0),.int .i64 (w.getD 2 0),.int .i64 (w.getD 3 0)].drop n=.int .i64 (w.getD n 0)::[IV.int .i64 (w.getD 0 0),.int .i64 (w.getD 1 0),.int .i64 (w.getD 2 0),.int .i64 (w.getD 3 0)].drop (n+1):=by grind
def WO(x:Bun):List IV:=Qi5 x.zi++[.int .i64 (x.ya.zh:Nat),Qq x.ya.lens,.int .i64 (x.yb.zh:Nat),Qq x.yb.lens]
def Ul(x:Bun):List IV:=[.agg (WO x)]
include hK
def Qye(p:Za)(hp:OkU p):Qbs prog K 395 [puV p] [] (QbV p []):=by intro s b s' hf;apply QW QBr (by simp) hf.v rfl;have ih:=Qqb hK p hp p.zi.length [] (by simp) _ _ _ hf;simp;apply ZQ (by simpa using ih) rfl;simp
def QyO(x:Bun)(h1:x.ya.zh<=1000)(h2:x.yb.zh<=1000):Gd K 357 [.agg (WO x)] (.int .i64 ((x.ya.zh+x.yb.zh:Nat):Int)):=by apply Qb hK QBB (by simp);simp[WO];omega
def QyD(p:Za)(wh:Int)(w:List Int)(hp:OkU p)(hw:w∈Z1 p.zi)(hg:p.z9-p.z8<=100000):Gd K 422 [puV p,.int .i64 wh,.agg (Qi5 w)] (.map (Qbl (X9 (QwB p wh w)))):=by
 apply Qb hK QBn (by simp);have hgu:=hp.guess;have hmo:=hp.most;have hxl:=hp.xlen;simp only[inR] at hgu;have⟨hwl,hwb⟩:=QbT hp hw;obtain⟨G,hG⟩:∃G,G=(p.z9-p.z8+1).toNat:=⟨_,rfl⟩;have hGv:p.z8+(G:Int)=p.z9+1:=by omega
 have hlens:XH p=(List.range G).map λ(i:Nat)=>p.z8+i:=by rw[hG];rfl
 have hseq:QwB p wh w=QgO p wh w ((List.range G).map λ(i:Nat)=>p.z8+i):=by rw[QwB,hlens]
 rw[hseq];clear hseq hlens hG;simp;have e0:AV.iv (IV.int .i64 p.z8)=AV.iv (.int .i64 (p.z8+((0:Nat):Int))):=by simp
 rw[e0]
 refine Qe (λi=>[(1,AV.iv (.int .i64 wh)),(3,AV.iv (.ptr (puC p))),(5,AV.iv (.ptr (Qi5 w))),(7,AV.yk 11),(8,AV.iv (.int .i64 (p.z8+(i:Nat))))])
  (λi=>[(11,AO.xh (Qbl (X9 (QgO p wh w ((List.range i).map λ(i:Nat)=>p.z8+i)))))]) G (λi=>True) trivial ?_ ?_
 .intro _;have q2:¬p.z9+1<=p.z9:=by omega
  rw[hGv,Qa Qkg.eq_1];simp[q2]
 intro i hi _ ih;have q1:p.z8+(i:Int)<=p.z9:=by omega
 have q3:p.z8+((i:Int)+1)=p.z8+i+1:=by omega
 have hS:QgO p wh w ((List.range (i+1)).map λ(i:Nat)=>p.z8+i)=QgO p wh w ((List.range i).map λ(i:Nat)=>p.z8+i)++List.replicate (wrU p wh w (p.z8+i)) (p.z8+i):=by rw[QOv,QOd];simp[QgO]
 rw[hS] at ih;have hlS:∀n:Nat,(QgO p wh w ((List.range n).map λ(i:Nat)=>p.z8+i)).length<=n*8:=by
  intro n;induction n with
  |zero=>simp[QgO]
  |succ n ihn=>
   have e:QgO p wh w ((List.range (n+1)).map λ(i:Nat)=>p.z8+i)=QgO p wh w ((List.range n).map λ(i:Nat)=>p.z8+i)++List.replicate (wrU p wh w (p.z8+n)) (p.z8+n):=by rw[QOv,QOd];simp[QgO]
   have hwr:=Qgy p wh w (p.z8+n);grind
 have hl1:=hlS i;rw[Qa Qkg.eq_1];generalize QgO p wh w ((List.range i).map λ(i:Nat)=>p.z8+i)=S at *
 have hlen:0<=p.z8+(i:Int)/\p.z8+(i:Int)<=99999:=by omega
 unfold wrU at ih;generalize hL:p.z8+(i:Int)=len at *;simp[q1,q3] at ih |-;intros;have eS:S=S++List.replicate ((p.zj.take 0).countP (Qgm p wh w len)) len:=by simp
 rw[eS]
 refine Qe (λk=>[(1,AV.iv (.int .i64 wh)),(3,AV.iv (.ptr (puC p))),(5,AV.iv (.ptr (Qi5 w))),(7,AV.yk 11),(8,AV.iv (.int .i64 len)),(26,AV.iv (Jz p.zj)),(27,AV.iv (.int .i64 p.zj.length)),(28,AV.iv (.int .i64 (k:Nat)))])
  (λk=>[(11,AO.xh (Qbl (X9 (S++List.replicate ((p.zj.take k).countP (Qgm p wh w len)) len))))]) p.zj.length (λi=>True) trivial ?_ ?_
 .intro _;rw[Qa Qkh.eq_1,QN5];simp;grind
 intro k hk _ ih2;have hx:=hp.zj _ (QN0 hk);have hcl:(p.zj.take k).countP (Qgm p wh w len)<=k:=QOz QOw (by simp;omega);rw[QNW hk,QOH] at ih2;generalize hX:p.zj[k]=X at *;have hr:=hx.2.1;simp only[inR] at hr;have hr4:X.rod.toNat<4:=by have:=hp.rlen;omega
 have hrl:0<=w.getD X.rod.toNat 0/\w.getD X.rod.toNat 0<=9999:=by
  have y9:X.rod.toNat<w.length:=by omega
  have:w.getD X.rod.toNat 0=w[X.rod.toNat]:=by simp[y9]
  rw[this];exact hwb _ (QN0 y9)
 have hg:=QyB hK p X len (w.getD X.rod.toNat 0) hp hx hlen hrl;have hdp:=Qnf w X.rod.toNat hr4;have hb:Qgm p wh w len X=(decide (X.yg=wh)&&!Ud p X len (w.getD X.rod.toNat 0)):=rfl;have hlen2:(S++List.replicate ((p.zj.take k).countP (Qgm p wh w len)) len).length<=900000:=by simp;omega
 rw[<- List.replicate_append_replicate,<- QPc] at ih2;have hc1:[X].countP (Qgm p wh w len)=if Qgm p wh w len X then 1 else 0:=by simp
 rw[hc1,hb] at ih2;generalize S++List.replicate ((p.zj.take k).countP (Qgm p wh w len)) len=S2 at *;have hle:=QfX len S2;have hkk:=Y8 (X9 S2);have hf:=Vc len (X9 S2);have hi2:=qw len (X9 S2);rw[Qa Qkh.eq_1];have hr1:0<=X.rod/\X.rod<4/\X.rod<=4:=by omega
 simp only[List.getD_eq_getElem?_getD] at hdp hg ih2;generalize w[X.rod.toNat]?.getD 0=ww at *;by_cases hw2:X.yg=wh;rotate_left
 .simp[hw2] at ih2;simp[hk,hX,hw2];grind
 generalize Ud p X len ww=rb at *;cases rb
 .simp[hw2,X4] at ih2;generalize X9 S2=kv at *;simp[hk,hX,hw2];refine⟨hr1,?_⟩;simp[hdp,hw2];apply cK (by simpa[hw2] using hg);simp[hkk,hf,hi2];grind
 simp[hw2] at ih2;simp[hk,hX,hw2];refine⟨hr1,?_⟩;simp[hdp,hw2];apply cK (by simpa[hw2] using hg);simp;grind
omit hK
def QGk(f:Int->Nat)(kvs:List (MK×List (List IV)))(x:Int):List (MK×List (List IV)):=zn (.int .i64 (f x:Nat)) (((Qv (.int .i64 (f x:Nat)) kvs).getD [])++[[.int .i64 x]]) kvs
def gby(f:Int->Nat)(l:List Int):List (MK×List (List IV)):=l.foldl (QGk f) []
def QbK(f:Int->Nat)(l:List Int)(x:Int):gby f (l++[x])=QGk f (gby f l) x:=by simp[gby]
theorem Qhi{α:Type}(k:MK)(v:α):∀kvs:List (MK×α),(zn k v kvs).map (·.1)=if k∈kvs.map (·.1) then kvs.map (·.1) else kvs.map (·.1)++[k]
 |[]=>by simp[zn]
 |p::r=>by have ih:=Qhi k v r;unfold zn;grind
def QhX(f:Int->Nat):∀l,ZC (some .i64) (gby f l):=by refine Yo trivial λl x ih=>?_;rw[QbK];exact Vb _ _ _ ih
def Qm3(f:Int->Nat)(n:Nat):∀l,(Qv (.int .i64 (n:Nat)) (gby f l)).getD []=(l.filter λx=>f x==n).map λx=>[IV.int .i64 x]:=by
 refine Yo rfl λl x ih=>?_;rw[QbK,QGk,Us,QOT,QOd]
 grind
def QuG(f:Int->Nat):∀l,∃ks:List Nat,(gby f l).map (·.1)=ks.map (λn:Nat=>MK.int .i64 (n:Int))/\ks.Nodup/\∀n,n∈ks↔∃y∈l,f y=n:=by
 refine Yo ⟨[],rfl,QPA,by simp⟩ λl x ih=>?_;have⟨ks,h1,h2,h3⟩:=ih;rw[QbK,QGk,Qhi,h1];have hm:MK.int .i64 ((f x:Nat):Int)∈ks.map (λn:Nat=>MK.int .i64 (n:Int))↔f x∈ks:=by grind
 by_cases h:f x∈ks
 .grind
 rw[if_neg (λe=>h (hm.1 e))]
 refine⟨ks++[f x],by simp,?_,λn=>?_⟩
 all_goals grind
def QAE(f:Int->Nat)(n:Nat)(l:List Int):((Qv (.int .i64 (n:Nat)) (gby f l)).getD []).length<=l.length:=by
 rw[Qm3]
 grind
def QiJ(ks cs:List Nat)(h1:ks.Nodup)(h2:cs.Pairwise (·<·))(h3:∀n,n∈ks↔n∈cs):
  (ks.map λn:Nat=>(n:Int)).mergeSort (λx y=>decide (x<=y))=cs.map λn:Nat=>(n:Int):=by
 have hp:ks.Perm cs:=(List.perm_ext_iff_of_nodup h1 (h2.imp λh=>by omega)).2 h3;rw[mergeSort_of_perm_i (hp.map λn:Nat=>(n:Int))]
 refine List.mergeSort_of_pairwise ?_;grind
def grC(g:Grp):List IV:=[.int .i64 (g.zh:Nat),Qq g.lens]
def U0(l:List Grp):IV:=.sl 2 (l.map grC)
theorem Qhj{α β:Type}(g:α->β)(k:MK):∀l:List (MK×α),Qv k (l.map λp=>(p.1,g p.2))=(Qv k l).map g
 |[]=>rfl
 |p::r=>by
  simp only[QOk,Qv];split
  .rfl
  exact Qhj g k r
theorem QcK{α β:Type}(kk:Option IntKind)(g:α->β):∀l:List (MK×α),ZC kk l->ZC kk (l.map λp=>(p.1,g p.2))
 |[],_=>trivial
 |_::r,h=>⟨h.1,QcK kk g r h.2⟩
include hK
def QyC(kvs:List (MK×IV)):Gd K 423 [.map kvs] (.clo 435 [] [.ptr [.map kvs]]):=by apply Qb hK QBm (by simp);simp
def Qqt(p:Za)(wh:Int)(w:List Int)(hp:OkU p)(hw:w∈Z1 p.zi)(hg:p.z9-p.z8<=100000):Gd K 396 [puV p,.int .i64 wh,.agg (Qi5 w)] (U0 (Un p wh w)):=by
 apply Qb hK QBq (by simp);have hgu:=hp.guess;have hxl:=hp.xlen;have hmo:=hp.most;simp only[inR] at hgu;have h380:=QyD hK p wh w hp hw hg;have hget:=λ(len:Int)(h:len∈XH p)=>QtA (wh:=wh) (w:=w) h;have hkk:=Y8 (X9 (QwB p wh w));have hfind:=λ(x:Int)=>Vc x (X9 (QwB p wh w));obtain⟨G,hG⟩:∃G,G=(p.z9-p.z8+1).toNat:=⟨_,rfl⟩;have hGv:p.z8+(G:Int)=p.z9+1:=by omega
 have hlens:XH p=(List.range G).map λ(i:Nat)=>p.z8+i:=by rw[hG];rfl
 simp;apply cK (by simpa using h380);generalize Qbl (X9 (QwB p wh w))=cn at *;simp;have e0:AV.iv (IV.int .i64 p.z8)=AV.iv (.int .i64 (p.z8+((0:Nat):Int))):=by simp
 rw[e0]
 refine Qe (λi=>[(3,AV.iv (.ptr (puC p))),(7,AV.iv (.map cn)),(8,AV.yk 17),(9,AV.iv (.int .i64 (p.z8+(i:Nat))))])
  (λi=>[(17,AO.yo 3 1 (gby (wrU p wh w) ((List.range i).map λ(i:Nat)=>p.z8+i)) none)]) G (λi=>True) trivial ?_ ?_
 .intro _;have q2:¬p.z9+1<=p.z9:=by omega
  rw[hGv,Qa Qkk.eq_1,<- hlens];simp[q2];apply cK (by simpa using QyC hK _);simp;have⟨ks,hk1,hk2,hk3⟩:=QuG (wrU p wh w) (XH p);have hkb:∀n∈ks,n<=8:=λn hn=>by have⟨y,_,e⟩:=(hk3 n).1 hn;have:=Qgy p wh w y;omega
  have hcp:(Qbm p wh w).Pairwise (·<·):=List.pairwise_lt_range.filter _;have hkc:∀n,n∈ks↔n∈Qbm p wh w:=λn=>by
   rw[hk3];simp only[Qbm,QOx,QOr];constructor
   .rintro⟨y,hy,e⟩;have:=Qgy p wh w y;have h5:y∈Qex p wh w n:=Yp.2 ⟨hy,e⟩;grind
   rintro⟨_,h⟩;cases hz:Qex p wh w n with
   |cons a r=>
    have h5:a∈Qex p wh w n:=by rw[hz];simp
    exact⟨a,(Yp.1 h5).1,(Yp.1 h5).2⟩
   |_=>grind
  have hperm:ks.Perm (Qbm p wh w):=(List.perm_ext_iff_of_nodup hk2 (hcp.imp λh=>by omega)).2 hkc;have hcl:(Qbm p wh w).length<=p.zj.length+1:=by have:=QOp (λn=>!(Qex p wh w n).isEmpty) (List.range (p.zj.length+1));simpa[Qbm] using this
  have hkl:=hperm.length_eq;have hsort:=QiJ ks _ hk2 hcp hkc
  have h173:=QuE (K:=K) ((gby (wrU p wh w) (XH p)).map λp=>(p.1,IV.sl 1 p.2)) (ks.map λn:Nat=>(n:Int)) (by rw[List.map_map,List.map_map];exact hk1) (λx hx=>by grind) (by simp;omega)
  rw[hsort] at h173;apply cK h173;have hfnd:∀n:Nat,n∈Qbm p wh w->(Qv (.int .i64 ((n:Nat):Int)) ((gby (wrU p wh w) (XH p)).map λp=>(p.1,IV.sl 1 p.2))).getD (.sl 1 [])=Qq (Qex p wh w n):=λn hn=>by
   have h5:=Qm3 (wrU p wh w) n (XH p);rw[Qhj];cases hz:Qv (.int .i64 ((n:Nat):Int)) (gby (wrU p wh w) (XH p)) with
   |none=>rw[hz] at h5;simp[Qq,Qex];simpa using h5
   |some v=>rw[hz] at h5;simp[Qq,Qex];simpa using h5
  have hkk2:=QcK (some .i64) (λr:List (List IV)=>IV.sl 1 r) _ (QhX (wrU p wh w) (XH p));generalize((gby (wrU p wh w) (XH p)).map λp=>(p.1,IV.sl 1 p.2))=mv at *
  simp only[Un];generalize Qbm p wh w=cs at *;simp[-List.map_map];intros
  refine Qe (λi=>[(8,AV.iv (.map mv)),(10,AV.yl 10 i),(44,.iv (Qq (cs.map λn:Nat=>(n:Int)))),(45,AV.iv (.int .i64 cs.length)),(46,AV.iv (.int .i64 (i:Nat)))])
   (λi=>[(10,AO.arr 330 2 (emb ((cs.take i).map λn=>grC ⟨n,Qex p wh w n⟩)) 0)]) cs.length (λi=>True) trivial ?_ ?_
  .intro _;rw[Qa Qkj.eq_1];simp[QN1,U0,Qq]
  intro i hi _ ih2;rw[Qa Qkj.eq_1];rw[QNW hi,QOd] at ih2;have hf1:=hfnd _ (QN0 hi);simp[grC,Qq] at ih2;simp[hi,Qq,hkk2,hf1]
  repeat' first|omega|exact ih2|apply And.intro
 intro i hi _ ih;have q1:p.z8+(i:Int)<=p.z9:=by omega
 have q3:p.z8+((i:Int)+1)=p.z8+i+1:=by omega
 have hS:((List.range (i+1)).map λ(i:Nat)=>p.z8+(i:Int))=((List.range i).map λ(i:Nat)=>p.z8+(i:Int))++[p.z8+(i:Int)]:=by rw[QOv,QOd];rfl
 have hmem:p.z8+(i:Int)∈XH p:=J9.2 ⟨by omega,by omega⟩;have hgt:=hget _ hmem;have hf1:=hfind (p.z8+(i:Int));rw[hgt] at hf1;rw[hS,QbK] at ih;have hk1:=QhX (wrU p wh w) ((List.range i).map λ(i:Nat)=>p.z8+(i:Int));have hl1:=QAE (wrU p wh w) (wrU p wh w (p.z8+i)) ((List.range i).map λ(i:Nat)=>p.z8+(i:Int));have hwr:=Qgy p wh w (p.z8+i);rw[QN9,List.length_range] at hl1;unfold QGk at ih;generalize gby (wrU p wh w) ((List.range i).map λ(i:Nat)=>p.z8+(i:Int))=kvs at *
 generalize wrU p wh w (p.z8+i)=n at *;have hk2:=Vb n (((Qv (.int .i64 ((n:Nat):Int)) kvs).getD [])++[[.int .i64 (p.z8+(i:Int))]]) kvs hk1;have hfm:=Us (.int .i64 ((n:Nat):Int)) (.int .i64 ((n:Nat):Int)) (((Qv (.int .i64 ((n:Nat):Int)) kvs).getD [])++[[.int .i64 (p.z8+(i:Int))]]) kvs;rw[if_pos rfl] at hfm;rw[Qa Qkk.eq_1];simp[q3] at ih;simp[q1,hkk,hf1,hk1,hk2,hfm];grind
omit hK
def QIn(p:Za)(w:List Int):List (List IV):=(Un p 1 w).flatMap λg=>(Un p 2 w).map λh=>Ul ⟨w,g,h⟩
def QbH(p:Za)(wh:Int)(w:List Int):(Un p wh w).length<=p.zj.length+1:=by have:=QOp (λn=>!(Qex p wh w n).isEmpty) (List.range (p.zj.length+1));simpa[Un,Qbm] using this
include hK
def QwG(p:Za)(w:List Int)(hp:OkU p)(hw:w∈Z1 p.zi)(hg:p.z9-p.z8<=100000){ks:Env}(hks:ZN [2,3] [0,3] ks=[(2,.iv (.ptr (puC p))),(3,.loc 3 0)])
  (s:Ext)(b:Bool)(s1:Ext)(hf:Z2 prog K (QIn p w) s b s1):
  Rnd prog K [12] QbP Qf8 [2,3] [0,3] (ZN [2,3] [0,3] ks) (QhA w) [(0,.ext s),(3,.box [.cb 0])] (if b then .fall else .ret) [(0,.ext s1),(3,.box [.cb 0])]:=by
 have h1:=Qqt hK p 1 w hp hw hg;have h2:=Qqt hK p 2 w hp hw hg;have hl1:=QbH p 1 w;have hl2:=QbH p 2 w;have hxl:=hp.xlen;unfold QIn at hf;generalize Un p 1 w=G1 at *;generalize Un p 2 w=G2 at *;rw[hks];refine⟨rfl,?_⟩;simp[QhA,QbP,Qf8];apply cK (by simpa using h2);simp;apply cK (by simpa using h1);simp[U0];intros
 refine YU G1.length (λi e o=>∃si,e=[(2,AV.iv (.ptr (puC p))),(3,AV.loc 3 0),(4,AV.loc 4 0),(5,.iv (U0 G2)),(18,.iv (U0 G1)),(19,.iv (.int .i64 (G1.length:Nat))),(20,.iv (.int .i64 (i:Nat)))] /\
  o=[(0,.ext si),(3,.box [.cb 0]),(4,.box ((Qi5 w).map AV.iv))]/\Z2 prog K ((G1.drop i).flatMap λg=>G2.map λh=>Ul ⟨w,g,h⟩) si b s1) ?_ ?_ _ _ ⟨s,by simp[U0],by simp,by simpa using hf⟩
 .rintro e o ⟨si,rfl,rfl,hfd⟩;rw[QOA (QN3 _)] at hfd;cases hfd;rw[Qa Qkn.eq_1];simp[U0]
 .rintro i e o hi ⟨si,rfl,rfl,hfd⟩ ih;rw[QOq hi,QPb] at hfd;rw[Qa Qkn.eq_1];generalize hX:G1[i]=X at *;simp[hi,U0,hX,grC];intros
  refine YU G2.length (λk e o=>∃si,e=[(2,AV.iv (.ptr (puC p))),(3,AV.loc 3 0),(4,AV.loc 4 0),(5,.iv (U0 G2)),(7,AV.loc 7 0),(18,.iv (U0 G1)),(19,.iv (.int .i64 (G1.length:Nat))),(20,.iv (.int .i64 (i:Nat))),(24,.iv (U0 G2)),(25,.iv (.int .i64 (G2.length:Nat))),(26,.iv (.int .i64 (k:Nat)))] /\
   o=[(0,.ext si),(3,.box [.cb 0]),(4,.box ((Qi5 w).map AV.iv)),(7,.box ((grC X).map AV.iv))]/\Z2 prog K (((G2.drop k).map λh=>Ul ⟨w,X,h⟩)++(G1.drop (i+1)).flatMap λg=>G2.map λh=>Ul ⟨w,g,h⟩) si b s1) ?_ ?_ _ _ ⟨si,by simp[U0,grC],by simp[grC],by simpa using hfd⟩
  .rintro e o ⟨si,rfl,rfl,hfd⟩;rw[QOA (QN3 _)] at hfd;rw[Qa Qko.eq_1];simp[U0]
   (repeat' first|omega|apply And.intro|intro)
   exact ih _ _ ⟨si,by simp[U0],by simp,by simpa using hfd⟩
  .rintro k e o hk ⟨si,rfl,rfl,hfd⟩ ih2;rw[QOq hk,QOk,QOa] at hfd;rw[Qa Qko.eq_1];generalize hY:G2[k]=Y at *;simp[hk,U0,hY,grC];have hit:Ul ⟨w,X,Y⟩=[.agg (WO ⟨w,X,Y⟩)]:=rfl;rw[hit] at hfd;cases hfd with
   |stop _ _ _ _ hg=>apply Zd (by simpa[WO] using hg) rfl;simp
   |next _ _ _ s1 _ _ hg hr=>
    apply Zd (by simpa[WO] using hg) rfl;simp
    (repeat' first|omega|apply And.intro|intro)
    exact ih2 _ _ ⟨s1,by simp[U0],by simp[grC],hr⟩
theorem Qg2(p:Za)(hp:OkU p)(hg:p.z9-p.z8<=100000){ks:Env}(hks:ZN [2,3] [0,3] ks=[(2,.iv (.ptr (puC p))),(3,.loc 3 0)]):∀(Ws:List (List Int))(hW:∀w∈Ws,w∈Z1 p.zi)(s:Ext)(b:Bool)(s':Ext),Z2 prog K (Ws.flatMap (QIn p)) s b s' ->
   ∃wy,(wy=.fall\/wy=.ret)/\Wh prog K [12] QbP Qf8 [2,3] [0,3] (ZN [2,3] [0,3] ks) (Ws.map QhA) [(0,.ext s),(3,.box [.cb 0])] wy [(0,.ext s'),(3,.box [.cb 0])]
 |[],_,s,b,s',h=>by cases h;exact⟨.fall,.inl rfl,.nil _⟩
 |w::Ws,hW,s,b,s',h=>by
  rw[QPb] at h;rcases h.append with ⟨s1,h1,h2⟩|⟨rfl,h1⟩
  .obtain⟨wy,h3,h4⟩:=Qg2 p hp hg hks Ws (λx hx=>hW x (by simp[hx])) s1 b s' h2;exact⟨wy,h3,.next _ _ _ _ _ _ (QwG hK p w hp (hW w (by simp)) hg hks s true s1 h1) h4⟩
  exact⟨.ret,.inr rfl,.stop _ _ _ _ _ (by simp) (QwG hK p w hp (hW w (by simp)) hg hks s false s' h1)⟩
def Qyf(p:Za)(hp:OkU p)(hg:p.z9-p.z8<=100000):Qbs prog K 356 [puV p] [] ((QdN p).map Ul):=by
 intro s b s' hf;apply QW QBC (by simp) hf.v rfl;have hw:QbV p []=(Z1 p.zi).map QhA:=by simp[QbV]
 have hit:=Qye hK p hp;rw[hw] at hit;have hb:(QdN p).map Ul=(Z1 p.zi).flatMap (QIn p):=by simp[QdN,QPO,List.map_map,Function.comp_def];rfl
 rw[hb] at hf;simp;have⟨wy,h1,h2⟩:=Qg2 hK p hp hg (ks:=[(2,.iv (.ptr (puC p))),(3,.loc 3 0)]) rfl (Z1 p.zi) (λ_ h=>h) s b s' hf;refine Zf (wy:=wy) (o':=[(0,.ext s'),(3,.box [.cb 0])]) rfl (by kernel_rfl) hit ?_ ?_
 .simpa[ZN,XU] using h2
 .rcases h1 with rfl|rfl<;>simp
theorem Qcc(p:Za)(hp:OkU p){ks:Env}(hks:ZN [2,3] [0,3] ks=[(2,.iv (.ptr (puC p))),(3,.loc 3 0)]):∀(Bs:List Bun)(hB:∀x∈Bs,x∈QdN p)(s:Ext)(b:Bool)(s':Ext),Z2 prog K ((Bs.filter λx=>decide (((x.ya.zh+x.yb.zh:Nat):Int)<=p.zh)).map Ul) s b s' ->
   ∃wy,(wy=.fall\/wy=.ret)/\Wh prog K [7] qH Qdk [2,3] [0,3] (ZN [2,3] [0,3] ks) (Bs.map Ul) [(0,.ext s),(3,.box [.cb 0])] wy [(0,.ext s'),(3,.box [.cb 0])]
 |[],_,s,b,s',h=>by cases h;exact⟨.fall,.inl rfl,.nil _⟩
 |t::Ls,hB,s,b,s',h=>by
  have hbt:t.ya.zh<=1000/\t.yb.zh<=1000:=by have:=hB t (by simp);simp only[QdN,QOK,QOb] at this;obtain⟨w,_,g,hg,h,hh,rfl⟩:=this;have hxl:=hp.xlen;simp only[Un,Qbm,QOb,QOx,QOr] at hg hh;grind
  have hw:=QyO hK t hbt.1 hbt.2;by_cases ht:((t.ya.zh+t.yb.zh:Nat):Int)<=p.zh
  .rw[QPp (by simpa using ht)] at h;cases h with
   |stop _ _ _ _ hg=>refine⟨.ret,.inr rfl,.stop _ _ _ _ _ (by simp) ?_⟩;rw[hks];refine⟨rfl,?_⟩;simp[Ul,WO,qH,Qdk];apply cK (by simpa[WO] using hw);simp at ht;simp[ht];apply Zd (by simpa[Ul,WO] using hg) rfl;simp
   |next _ _ _ s1 _ _ hg hr=>obtain⟨wy,h1,h2⟩:=Qcc p hp hks Ls (λx hx=>hB x (by simp[hx])) s1 b s' hr;refine⟨wy,h1,.next _ _ _ _ _ _ ?_ h2⟩;rw[hks];refine⟨rfl,?_⟩;simp[Ul,WO,qH,Qdk];apply cK (by simpa[WO] using hw);simp at ht;simp[ht];apply Zd (by simpa[Ul,WO] using hg) rfl;simp
  rw[QPq (by simpa using ht)] at h;obtain⟨wy,h1,h2⟩:=Qcc p hp hks Ls (λx hx=>hB x (by simp[hx])) s b s' h;refine⟨wy,h1,.next _ _ _ _ _ _ ?_ h2⟩;rw[hks];refine⟨rfl,?_⟩;simp[Ul,WO,qH,Qdk];apply cK (by simpa[WO] using hw);simp at ht;have ht':¬((t.ya.zh:Int)+t.yb.zh<=p.zh):=by omega
  simp[ht']
def Qyg(p:Za)(hp:OkU p)(hg:p.z9-p.z8<=100000):Qbs prog K 307 [puV p] [] ((VT p).map Ul):=by
 intro s b s' hf;apply QW QB4 (by simp) hf.v rfl;simp;have⟨wy,h1,h2⟩:=Qcc hK p hp (ks:=[(2,.iv (.ptr (puC p))),(3,.loc 3 0)]) rfl (QdN p) (λ_ h=>h) s b s' hf;refine Zf (wy:=wy) (o':=[(0,.ext s'),(3,.box [.cb 0])]) rfl (by kernel_rfl) (Qyf hK p hp hg) ?_ ?_
 .simpa[ZN,XU] using h2
 rcases h1 with rfl|rfl<;>simp
omit hK
def QmT(p:Za)(wh:Int)(w:List Int)(n:Nat):(Qex p wh w n).length<=(p.z9-p.z8+1).toNat:=by have:=QOp (λlen=>wrU p wh w len==n) (XH p);simpa[Qex,XH,V2] using this
def Ux(l:List Bun):IV:=.sl 8 (l.map WO)
include hK
def Qua(p:Za)(hp:OkU p)(hg:p.z9-p.z8<=100000)(hl:(VT p).length<=1000000):Gh K 355 [.ym 8,.iv (.clo 307 [puV p] [])] [] [] (.iv (Ux (VT p))) []:=by
 refine Q9 [] [] [] [] QBD.p (by simp[QHX]) (by simp) ?_ ?_ ?_ ?_
 .simp
 .simp[clA]
 .simp
 have hit:=Qyg hK p hp hg;generalize VT p=B at *;generalize hG:Qiy QHX.res [] [] (AV.iv (Ux B)) []=G;simp;refine Zf (wy:=.fall) (o':=[(2,.box [.yl 3000 B.length]),(3000,.arr 332 8 (emb (B.map WO)) 0)]) rfl (by kernel_rfl) hit ?_ ?_
 .have:=Wh.all (P:=prog) (K:=K) (ps:=[7]) (asn:=Qf9) (body:=Qkp) (ks:=[2]) (ids:=[2,3000]) (eK:=[(2,.loc 2 0)]) (B.map Ul)
   (λi=>[(2,.box [.yl 3000 i]),(3000,.arr 332 8 (emb ((B.take i).map WO)) 0)]) λi x hi=>by
   simp only[QN6,QN2] at hi;obtain⟨y,hy,rfl⟩:=hi;obtain⟨y9,hy⟩:=QNY.1 hy;refine⟨rfl,?_⟩;rw[QNW y9,hy,QOd];simp[Ul,WO,Qf9,Qkp];exact⟨by omega,by simp[emb]⟩
  simpa[QN1,QC] using this
 .simp[QN1];rw[<- hG];refine⟨⟨_,rfl,?_⟩,by simp,by simp⟩;have h0:(λi=>if([]:List Nat).contains i then none else Qc [(2,AO.box [AV.yl 3000 B.length]),(3000,AO.arr 332 8 (emb (B.map WO)) 0)] i)=Qc [(2,AO.box [AV.yl 3000 B.length]),(3000,AO.arr 332 8 (emb (B.map WO)) 0)]:=rfl;rw[QxX,h0];simp[look,Ux,QN1]
  trace_state
def Qy8(p:Za)(hp:OkU p)(hg:p.z9-p.z8<=100000)(hl:(VT p).length<=1000000):Gd K 306 [.clo 307 [puV p] []] (Ux (VT p)):=by
 apply Qb hK QB5 (by simp);simp;refine Qo (Qua hK p hp hg hl) rfl ?_ ?_
 .refine⟨by simp,by simp[clA],by simp,by simp,by simp⟩
 simp[Ux]
omit hK
theorem Ur{α β:Type}(f:α->List β)(c:Nat):∀l:List α,(∀x∈l,(f x).length<=c)->(l.flatMap f).length<=l.length*c
 |[],_=>by simp
 |a::r,h=>by have h1:=h a (by simp);have h2:=Ur f c r λx hx=>h x (by simp[hx]);rw[QPb,QOf,QOi,Nat.succ_mul];omega
def Qb0{p:Za}(hp:OkU p):(VT p).length<=1000000:=by
 have hxl:=hp.xlen;have h0:(QdN p).length<=(Z1 p.zi).length*81:=by
  refine Ur _ _ _ λw _=>?_;have h1:=QbH p 1 w;have h2:=Ur (λg=>(Un p 2 w).map λh=>(⟨w,g,h⟩:Bun)) 9 (Un p 1 w) λg _=>by have:=QbH p 2 w;simp;omega
  omega
 have h1:=QOp (λx:Bun=>decide (((x.ya.zh+x.yb.zh:Nat):Int)<=p.zh)) (QdN p);have h2:=JX p.zi hp.zi;have h3:10 ^ p.zi.length<=10 ^ 4:=QOV (by omega) hp.rlen;unfold VT;omega
def uT(p:Za)(is:Bool):List Bun:=if OkU p/\is=true then VT p else []
def Qyd{p:Za}{x:Bun}(h:x∈VT p):(∀n∈x.ya.lens,n∈XH p)/\(∀n∈x.yb.lens,n∈XH p)/\x.ya.lens.length<=100000/\x.yb.lens.length<=100000\/¬OkU p:=by
 by_cases hp:OkU p
 .refine .inl ?_;have⟨_,hg,hh,_⟩:=qb.1 h;have h1:=(YA.1 hg).1;have h2:=(YA.1 hh).1;have h3:=QmT p 1 x.zi x.ya.zh;have h4:=QmT p 2 x.zi x.yb.zh;have hgu:=hp.guess;have hmo:=hp.most;simp only[inR] at hgu;rw[h1,h2];exact⟨λn hn=>(Yp.1 hn).1,λn hn=>(Yp.1 hn).1,by omega,by omega⟩
 .exact .inr hp
def QbJ{l:List Int}(h:0<l.length):l[0]=Xw l:=by
 cases l with
 |nil=>cases h
 |cons a r=>rfl
def QbI{l:List Int}(h:l.length-1<l.length):l[l.length-1]=Xk l:=by unfold Xk;grind
structure QJv(x:Bun):Prop where
 bpos:0<x.ya.lens.length
 apos:0<x.yb.lens.length
 blen:x.ya.lens.length<=100000
 alen:x.yb.lens.length<=100000
 bh:0<=Xw x.ya.lens/\Xw x.ya.lens<=99999
 bl:0<=Xk x.ya.lens/\Xk x.ya.lens<=99999
 ah:0<=Xw x.yb.lens/\Xw x.yb.lens<=99999
 al:0<=Xk x.yb.lens/\Xk x.yb.lens<=99999
def QIP{p:Za}(hp:OkU p){x:Bun}(h:x∈VT p):QJv x:=by
 have⟨h1,h2,h3,h4⟩:=Z5 h;have⟨k1,k2,k3,k4⟩:=(Qyd h).resolve_right (λe=>e hp);have e1:=Xs h1 h3;have e2:=Xs h2 h4;have hgu:=hp.guess;have hmo:=hp.most;simp only[inR] at hgu;have hin:∀n∈XH p,0<=n/\n<=99999:=λn hn=>by have:=J9.1 hn;omega
 exact⟨QO7.2 h3,QO7.2 h4,k3,k4,hin _ (k1 _ e1.1),hin _ (k1 _ e1.2.1),hin _ (k2 _ e2.1),hin _ (k2 _ e2.2.1)⟩
include hK
def QfN(p:Za)(is:Bool)(hl:p.zi.length<=1000)(hx:p.zj.length<=1000):Gd K 230 [puV p,.bool is] (.xf [puV p,Ux (uT p is),.int .i64 (uE p is)]):=by
 apply Qb hK QCZ (by simp);simp;apply cK (by simpa using QwQ hK p hl hx);unfold uE uT;by_cases hp:OkU p
 .have hgu:=hp.guess;have hmo:=hp.most;simp only[inR] at hgu;cases is
  .simp[hp,Ux]
  have hln:=Qb0 hp;simp[hp];apply cK (by simpa using Qy8 hK p hp (by omega) hln);by_cases hn:YQ p=[]
  .have hb:=Qbz.2 hn;simp[hn,hb,Ux]
  have hb:¬VT p=[]:=λe=>hn (Qbz.1 e);simp[hn,hb,Ux]
  try omega
 .simp[hp,Ux]
def QqE(part b a:Int)(hpt:0<=part/\part<=1000)(hb:0<=b/\b<=99999)(ha:0<=a/\a<=99999):Gd K 308 [.int .i64 b,.int .i64 a,.ptr [.int .i64 part]] (.bool (Xr b a part)):=by apply Qb hK QB3 (by simp);have h1:=Qcw hpt.1 hpt.2 (show -99999<=b by omega) hb.2;simp[Xr];omega
def QqN(T:List Bun)(h:∀x∈T,QJv x)(hn:T.length<=1000000):Gd K 231 [Ux T] (.agg [.int .i64 (span (T.map loB)).1,.int .i64 (span (T.map hiB)).2]):=by
 apply Qb hK QCY (by simp);simp[Ux];intros
 refine Qe (λi=>[(2,AV.loc 2 0),(3,AV.loc 3 0),(9,AV.iv (.sl 8 (T.map WO))),(10,AV.iv (.int .i64 T.length)),(11,AV.iv (.int .i64 (i:Nat)))])
  (λi=>[(2,AO.box [.iv (.int .i64 0),.iv (.int .i64 0)]),(3,AO.box [.iv (.int .i64 (span ((T.take i).map loB)).1),.iv (.int .i64 (span ((T.take i).map hiB)).2)])]) T.length (λ_=>True) trivial ?_ ?_
 .intro _;rw[Qa Qlq.eq_1,QN5];simp
 .intro i hi _ ih;have hb:=h _ (QN0 hi);rw[Vl loB T i hi,Vl hiB T i hi] at ih;rw[Qa Qlq.eq_1];generalize hX:T[i]=X at *;obtain⟨b1,b2,b3,b4,b5,b6,b7,b8⟩:=hb;have g1:=QbJ b1;have g2:=QbJ b2;have g3:=QbI (show X.ya.lens.length-1<X.ya.lens.length by omega);have g4:=QbI (show X.yb.lens.length-1<X.yb.lens.length by omega);have xc:loB X=Xw X.yb.lens-Xk X.ya.lens:=rfl;have hhi:hiB X=Xk X.yb.lens-Xw X.ya.lens:=rfl;have q1:X.ya.lens.length-1<X.ya.lens.length:=by omega
  have q2:X.yb.lens.length-1<X.yb.lens.length:=by omega
  have q3:((X.ya.lens.length:Int)-1).toNat=X.ya.lens.length-1:=by omega
  have q4:((X.yb.lens.length:Int)-1).toNat=X.yb.lens.length-1:=by omega
  by_cases h0:i=0
  .subst h0;simp[xc,hhi] at ih;simp[hi,hX,WO,b1,b2,g1,g2,g3,g4,q1,q2,q3,q4];grind
  .have h0':¬(i:Int)=0:=by omega
   rw[if_neg h0,if_neg h0] at ih;generalize span ((T.take i).map loB)=S1 at *;generalize span ((T.take i).map hiB)=S2 at *;simp[xc,hhi,VY,U5] at ih;simp[hi,hX,WO,b1,b2,g1,g2,g3,g4,q1,q2,q3,q4,h0,h0',VY,U5];grind
def QqM(T:List Bun)(part:Int)(h:∀x∈T,QJv x)(hpt:0<=part/\part<=1000)(hn:T.length<=1000000):
  Gd K 232 [Ux T,.int .i64 part] (.int .i64 (if T.all λx=>Xr (Xw x.ya.lens) (Xk x.yb.lens) part then 1 else if T.any λx=>Xr (Xk x.ya.lens) (Xw x.yb.lens) part then 3 else 2)):=by
 apply Qb hK QCX (by simp);generalize hR:(if T.all λx=>Xr (Xw x.ya.lens) (Xk x.yb.lens) part then(1:Int) else if T.any λx=>Xr (Xk x.ya.lens) (Xw x.yb.lens) part then 3 else 2)=R;simp[Ux];intros
 refine Qe (λi=>[(3,AV.iv (.ptr [.int .i64 part])),(5,AV.iv (.bool ((T.take i).any λx=>Xr (Xk x.ya.lens) (Xw x.yb.lens) part))),(6,AV.iv (.bool (!(T.take i).all λx=>Xr (Xw x.ya.lens) (Xk x.yb.lens) part))),(12,AV.iv (.sl 8 (T.map WO))),(13,AV.iv (.int .i64 T.length)),(14,AV.iv (.int .i64 (i:Nat)))])
  (λi=>[]) T.length (λ_=>True) trivial ?_ ?_
 .intro _;rw[Qa Qlp.eq_1,QN5];cases hA:(T.all λx=>Xr (Xw x.ya.lens) (Xk x.yb.lens) part)<;>cases hE:(T.any λx=>Xr (Xk x.ya.lens) (Xw x.yb.lens) part)<;>simp[hA,hE] at hR<;>simp[hR]
 .intro i hi _ ih;have hb:=h _ (QN0 hi);rw[QNW hi,List.any_append,List.all_append] at ih;rw[Qa Qlp.eq_1];generalize hX:T[i]=X at *;obtain⟨b1,b2,b3,b4,b5,b6,b7,b8⟩:=hb;have g1:=QbJ b1;have g2:=QbJ b2;have g3:=QbI (show X.ya.lens.length-1<X.ya.lens.length by omega);have g4:=QbI (show X.yb.lens.length-1<X.yb.lens.length by omega);have q1:X.ya.lens.length-1<X.ya.lens.length:=by omega
  have q2:X.yb.lens.length-1<X.yb.lens.length:=by omega
  have q3:((X.ya.lens.length:Int)-1).toNat=X.ya.lens.length-1:=by omega
  have q4:((X.yb.lens.length:Int)-1).toNat=X.yb.lens.length-1:=by omega
  have w1:=QqE hK part _ _ hpt b6 b7;have w2:=QqE hK part _ _ hpt b5 b8;generalize((T.take i).any λx=>Xr (Xk x.ya.lens) (Xw x.yb.lens) part)=e1 at *
  generalize((T.take i).all λx=>Xr (Xw x.ya.lens) (Xk x.yb.lens) part)=e2 at *
  have k1:(([X]:List Bun).any λx=>Xr (Xk x.ya.lens) (Xw x.yb.lens) part)=Xr (Xk X.ya.lens) (Xw X.yb.lens) part:=by simp
  have k2:(([X]:List Bun).all λx=>Xr (Xw x.ya.lens) (Xk x.yb.lens) part)=Xr (Xw X.ya.lens) (Xk X.yb.lens) part:=by simp
  rw[k1,k2] at ih;generalize Xr (Xk X.ya.lens) (Xw X.yb.lens) part=v1 at *;generalize Xr (Xw X.ya.lens) (Xk X.yb.lens) part=v2 at *;have hcal:callee prog 308=true:=by kernel_rfl
  have o1:(-9223372036854775808<=(X.ya.lens.length:Int)-1/\(X.ya.lens.length:Int)-1<=9223372036854775807)/\1<=(X.ya.lens.length:Int):=by omega
  have o2:(-9223372036854775808<=(X.yb.lens.length:Int)-1/\(X.yb.lens.length:Int)-1<=9223372036854775807)/\1<=(X.yb.lens.length:Int):=by omega
  cases e1<;>cases e2
  .simp at ih;simp[hi,hX,WO,b1,b2,g1,g2,g3,g4,q1,q2,q3,q4];intro _;refine⟨o1.1,o1.2,hcal,cK (by simpa using w1) ?_⟩;simp;grind
  .simp at ih;simp[hi,hX,WO,b1,b2,g1,g2,g3,g4,q1,q2,q3,q4];intro _;refine⟨o1.1,o1.2,hcal,cK (by simpa using w1) ?_⟩;simp[b1,b2,g1,g2,g3,g4,q1,q2,q3,q4];intro _;refine⟨o2.1,o2.2,hcal,cK (by simpa using w2) ?_⟩;simp;grind
  .simp at ih;simp[hi,hX,WO,b1,b2,g1,g2,g3,g4,q1,q2,q3,q4];grind
  .simp at ih;simp[hi,hX,WO,b1,b2,g1,g2,g3,g4,q1,q2,q3,q4];intro _;refine⟨o2.1,o2.2,hcal,cK (by simpa using w2) ?_⟩;simp;grind
def QAr(p:Za)(hl:p.zi.length<=1000)(hx:p.zj.length<=1000):Gd K 132 [puV p] (.xf [.agg [.int .i64 (span ((uL p true).map YY)).1,.int .i64 (span ((uL p true).map YY)).2],.int .i64 (uE p true)]):=by
 apply Qb hK QEb (by simp);simp;apply cK (by simpa using QfN hK p true hl hx);simp;by_cases hp:OkU p
 .have hT:uT p true=VT p:=by simp[uT,hp]
  have hL:uL p true=YQ p:=by simp[uL,hp]
  have hs:=Qb4 p;rw[hT,hL,<- hs];apply cK (QqN hK (VT p) (λx hx=>QIP hp hx) (Qb0 hp));simp[Qe9]
 .have hT:uT p true=[]:=by simp[uT,hp]
  have hL:uL p true=[]:=by simp[uL,hp]
  rw[hT,hL];apply cK (QqN hK [] (by simp) (by simp));simp
def QAp(p:Za)(part:Int)(hl:p.zi.length<=1000)(hx:p.zj.length<=1000):Gd K 136 [puV p,.int .i64 part] (.xf [.int .i64 (Ug p part),.int .i64 (uE p (W7 part))]):=by
 apply Qb hK QD9 (by simp);simp;apply cK (Yk hK _ _ _);have hpd:decide (inR part 0 1000)=W7 part:=rfl;rw[hpd];simp;apply cK (by simpa using QfN hK p (W7 part) hl hx);unfold Ug;by_cases h0:uE p (W7 part)=0
 .obtain⟨hp,hb,hL,hne⟩:=Wj h0;have hpt:=of_decide_eq_true hb;simp only[inR] at hpt;have hT:uT p (W7 part)=VT p:=by simp[uT,hp,hb]
  have hg:=QqM hK (VT p) part (λx hx=>QIP hp hx) hpt (Qb0 hp);have hh:=QhH p part hpt.1;unfold Qev at hh;rw[<- hh] at hg;rw[hT];simp[h0];apply cK (by simpa using hg);simp
 simp[h0]
def QAq(p:Za)(hl:p.zi.length<=1000)(hx:p.zj.length<=1000):Gd K 134 [puV p] (.xf [.int .i64 (W4 p).1,.int .i64 (W4 p).2]):=by
 apply Qb hK QEa (by simp);simp;apply cK (by simpa using QfN hK p true hl hx);unfold W4;by_cases h0:uE p true=0;rotate_left
 .simp[h0]
 .obtain⟨hp,hb,hL,hne⟩:=Wj h0;have hT:uT p true=VT p:=by simp[uT,hp]
  rw[hT];simp[h0];refine Qe (λi=>[(5,AV.iv (Ux (VT p))),(17,AV.iv (.int .i64 (i:Nat)))]) (λ_=>[]) 1001 (λi=>∀j,j<i->¬V0 (YQ p) (j:Nat)=1) (by simp) ?_ ?_
  .intro h;have hn:Qbn (YQ p)=none:=by
    unfold Qbn;grind
   rw[Qa QlS.eq_1];simp[hn]
  .intro i hi h ih;have hg:=QqM hK (VT p) (i:Nat) (λx hx=>QIP hp hx) (by omega) (Qb0 hp);have hh0:=QhH p (i:Nat) (by omega);unfold Qev at hh0;rw[<- hh0] at hg;rw[Qa QlS.eq_1];have hi':(i:Int)<1001:=by omega
   simp[hi,hi'];apply cK (by simpa using hg);by_cases hh:V0 (YQ p) (i:Nat)=1
   .have hs:Qbn (YQ p)=some i:=by
     unfold Qbn;rw[QPD];exact⟨by simp[hh],i,by simpa using hi,by simp,λj hj=>by simpa using h j hj⟩
    simp[hh,hs]
   .have ih:=ih (λj hj=>by
     grind)
    simp[hh] at ih |-
    grind
def Qy7(l:List Int)(hw:∀x∈l,-1000000<=x/\x<=1000000)(hl:l.length<=1000000):Gd K 309 [.map (Qbl (X9 l))] (Qq (Jv l)):=by apply Qb hK QB2 (by simp);simp;apply cK (by simpa using QjU hK (Qbl (X9 l)));simp;apply cK (Qat l hw hl);simp
def QzI(T:List Bun)(rod:Nat)(hr:rod<4)(hw:∀x∈T,0<=x.zi.getD rod 0/\x.zi.getD rod 0<=9999)(hn:T.length<=1000000):Gd K 233 [Ux T,.int .i64 (rod:Nat)] (Qq (Jv (T.map λx=>x.zi.getD rod 0))):=by
 apply Qb hK QCW (by simp)
 have h249:=Qy7 hK (T.map λx=>x.zi.getD rod 0) (λx hx=>by grind) (by simpa using hn)
 simp[Ux];intros
 refine Qe (λi=>[(1,AV.iv (.int .i64 (rod:Nat))),(5,AV.yk 8),(9,AV.iv (.sl 8 (T.map WO))),(10,AV.iv (.int .i64 T.length)),(11,AV.iv (.int .i64 (i:Nat)))])
  (λi=>[(8,AO.xh (Qbl (X9 ((T.take i).map λx=>x.zi.getD rod 0))))]) T.length (λ_=>True) trivial ?_ ?_
 .intro _;rw[Qa Qlo.eq_1,QN5];simp;apply cK (by simpa using h249);simp
 .intro i hi _ ih;have hb:=hw _ (QN0 hi);have hdp:=Qnf T[i].zi rod hr;rw[QNW hi,QOd,QO3,X4] at ih;have hle:=QfX (T[i].zi.getD rod 0) ((T.take i).map λx=>x.zi.getD rod 0);have hkk:=Y8 (X9 ((T.take i).map λx=>x.zi.getD rod 0));have hf:=Vc (T[i].zi.getD rod 0) (X9 ((T.take i).map λx=>x.zi.getD rod 0));have hi2:=qw (T[i].zi.getD rod 0) (X9 ((T.take i).map λx=>x.zi.getD rod 0));have hlen:((T.take i).map λx=>x.zi.getD rod 0).length<=1000000:=by simp;omega
  rw[Qa Qlo.eq_1];generalize X9 ((T.take i).map λx=>x.zi.getD rod 0)=kv at *
  generalize hX:T[i]=X at *;simp only[List.getD_eq_getElem?_getD] at hf hi2 hle ih hb;clear hdp;rw[QN9,QPj] at hle;rcases(show rod=0\/rod=1\/rod=2\/rod=3 by omega) with rfl|rfl|rfl|rfl
  all_goals
   simp at ih;simp[hi,hX,WO,hkk,hf,hi2]
   repeat' first|omega|exact ih|intro _|apply And.intro
def QAo(p:Za)(rod:Int)(hl:p.zi.length<=1000)(hx:p.zj.length<=1000):Gd K 138 [puV p,.int .i64 rod] (.xf [Qq (Qfn p rod),.int .i64 (uE p (Qn2 p rod))]):=by
 apply Qb hK QD8 (by simp);simp;intro _;refine⟨by omega,cK (Yk hK _ _ _) ?_⟩;have hpd:decide (inR rod 0 ((p.zi.length:Int)-1))=Qn2 p rod:=rfl;rw[hpd];simp;apply cK (by simpa using QfN hK p (Qn2 p rod) hl hx);unfold Qfn;by_cases h0:uE p (Qn2 p rod)=0;rotate_left
 .simp[h0]
 have⟨hp,hb,hL,hne⟩:=Wj h0;have hpt:=of_decide_eq_true hb;simp only[inR] at hpt;have y9:rod.toNat<p.zi.length:=by omega
 have hT:uT p (Qn2 p rod)=VT p:=by simp[uT,hp,hb]
 have hro:((rod.toNat:Nat):Int)=rod:=by omega
 have hgd:p.zi.getD rod.toNat ⟨0,0,0⟩=p.zi[rod.toNat]:=by simp[y9]
 have hbd:∀w∈Z1 p.zi,0<=w.getD rod.toNat 0/\w.getD rod.toNat 0<=9999:=λw hw=>by
  have⟨h1,h2⟩:=QbT hp hw;have hl2:rod.toNat<w.length:=by omega
  have:w.getD rod.toNat 0=w[rod.toNat]:=by simp[hl2]
  rw[this];exact h2 _ (QN0 hl2)
 have hg:=QzI hK (VT p) rod.toNat (by have:=hp.rlen;omega) (λx hx=>hbd _ (qb.1 hx).1) (Qb0 hp);have he:Z7 (UW (YQ p) rod.toNat) (p.zi[rod.toNat].long-p.zi[rod.toNat].z7) p.zi[rod.toNat].long=Jv ((VT p).map λx=>x.zi.getD rod.toNat 0):=by
  refine Qi4 (V8 _ _ _) (J3 _) λx=>?_;have hm:=QpR (p:=p) (rod:=rod.toNat) (n:=x);unfold QxT at hm;rw[hm,Vm];simp only[UW,QOb];constructor
  .grind
  rintro⟨t,ht,rfl⟩;have hw:=(Qfv.1 ht).2.2.1;have:=QeY _ _ hw rod.toNat y9;grind
 rw[hro] at hg;rw[hT,if_pos h0,hgd,he];simp[h0];apply cK (by simpa using hg);simp
omit hK
def QdL(c:Ql)(ss:List XC)(i:Nat):Nat:=((List.range i).map λn=>QM c.za ss (Zx c.za n)).foldl min ss.length
def QeD(c:Ql)(ss:List XC)(i:Nat):QdL c ss (i+1)=min (QdL c ss i) (QM c.za ss (Zx c.za i)):=by unfold QdL;rw[QOv,QOd,QOZ];rfl
def Qnb(c:Ql)(ss:List XC):Nat:=QdL c ss (2 ^ ZF c.za)
theorem Qna(c:Ql)(ss:List XC):∀i,QdL c ss i<=ss.length
 |0=>QN3 _
 |i+1=>by rw[QeD];exact QOz (Nat.min_le_left _ _) (Qna c ss i)
def Wb(c:Ql):Option Nat:=(List.range c.zg.length).find? λi=>decide (0<Qnb c (c.zg.take (i+1)))
noncomputable def YT(c:Ql):Int×Int:=if OkC c then(match Wb c with|some n=>((n:Int),0)|none=>(0,3)) else(0,20)
include hK
def QzS(c:Ql)(hc:OkC c)(ss:List XC)(hs:∀s∈ss,Z0 s c.za)(hl:ss.length<=1000):Gd K 206 [.agg (Uy c),Qj ss] (.int .i64 (Qnb c ss:Nat)):=by
 apply Qb hK QDm (by simp);have hit:=Qqe hK c (pmC c) (by have:=hc.len;have:=Wk c.za;omega) (Qmj hK c hc);have hcl:=hc.len;unfold Qnb;generalize 2 ^ ZF c.za=N at *;simp;intros;refine Zf (wy:=.fall) (o':=[(5,.box [.iv (.int .i64 (QdL c ss N:Nat))])]) rfl (by kernel_rfl) hit ?_ ?_
 .have:=Wh.all (P:=prog) (K:=K) (ps:=[11]) (asn:=Qgg) (body:=Qly) (ks:=[3,5]) (ids:=[5]) (eK:=[(3,.iv (.ptr [Qj ss])),(5,.loc 5 0)]) ((List.range N).map (XW c.za (pmC c)))
   (λi=>[(5,.box [.iv (.int .i64 (QdL c ss i:Nat))])]) λi x hi=>by
   simp only[QN6,QN2] at hi;obtain⟨y,hy,rfl⟩:=hi;obtain⟨y9,hy⟩:=QNY.1 hy;rw[List.getElem_range] at hy;subst hy;have hg:=QqF hK c.za (Zx c.za i) (pmC c i) ss hc.za (by omega) hs hl;have hle:=Qna c ss i;have hle2:=qR c.za ss (Zx c.za i);refine⟨rfl,?_⟩;rw[QeD];generalize QdL c ss i=m at *;simp[XW,Qgg,Qly];apply Qd (by simpa using hg) (.inl rfl);simp
   try omega
  simpa[QdL] using this
 .simp
def QAB(c:Ql)(hl:c.za.length<=1000)(hs:c.zg.length<=1000):Gd K 108 [chV c] (.xf [.int .i64 (YT c).1,.int .i64 (YT c).2]):=by
 apply Qb hK QEo (by simp);simp;apply Qd (by simpa using QcY hK c hl hs) (.inl rfl);unfold YT;by_cases hc:OkC c;rotate_left
 .simp[hc]
 simp[hc];apply Qd (by simpa using QjY hK c hl) (.inl rfl);simp;intros
 refine Qe (λi=>[(1,AV.iv (.ptr [Qr c.za,Qj c.zg,.int .i64 c.zh])),(5,AV.loc 5 0),(16,AV.iv (.int .i64 c.zg.length)),(17,AV.iv (.int .i64 (i:Nat)))])
  (λ_=>[(5,AO.box ((Uy c).map AV.iv))]) c.zg.length (λi=>∀j,j<i->¬0<Qnb c (c.zg.take (j+1))) (by simp) ?_ ?_
 .intro h;have hn:Wb c=none:=by
   unfold Wb;rw[List.find?_eq_none];intro j hj;simpa using h j (by simpa using hj)
  rw[Qa QlX.eq_1];simp[hn]
 intro i hi h ih;have hg:=QzS hK c hc (c.zg.take (i+1)) (λs hs=>hc.zg s (QOJ hs)) (by simp;omega);rw[Qa QlX.eq_1];simp[hi];refine⟨by omega,by omega,λ_=>?_⟩;apply Qd (by simpa[Uy,QPQ] using hg) (.inl rfl);by_cases hh:0<Qnb c (c.zg.take (i+1))
 .have hs:Wb c=some i:=by
   unfold Wb;rw[QPD];exact⟨by simpa using hh,i,by simpa using hi,by simp,λj hj=>by simpa using h j hj⟩
  simp[hh,hs]
 have ih:=ih (λj hj=>by
  rcases QO4.1 hj with h5|h5
  .exact h j h5
  rw[h5];exact hh)
 simp[hh] at ih |-;exact⟨by omega,ih⟩
omit hK
structure Qbt(a p:Qf):Prop where
 sub:(QN a).Sublist (QN p)
 fail:∀t,ZO a t=ZO p t
 y7:∀l t,QD a l t=QD p l t
 good:∀t,Jx a t=Jx p t
 z6:a.z6=p.z6
 link:∀l,JR a l=JR p l
def Qe7{α:Type}(f:α->Bool){l l':List α}(h:∀t∈l,t∈l')(hne:l≠[])(h3:Xu (l'.countP f) l'.length≠3):Xu (l.countP f) l.length=Xu (l'.countP f) l'.length:=by
 have hl:l.length≠0:=λe=>hne (QN4 e);have⟨t,ht⟩:=QO1 _ hne;have hl':l'.length≠0:=λe=>by grind
 by_cases h1:Xu (l'.countP f) l'.length=1
 .rw[h1,QdZ,QPz]
  rw[QdZ,QPz] at h1;grind
 .have h2:Xu (l'.countP f) l'.length=2:=by
   unfold Xu at *;omega
  rw[h2,Qb1 hl,QPG];rw[Qb1 hl',QPG] at h2;grind
theorem Qbt.kE{a p:Qf}(h:Qbt a p)(hp:OkP p)(hk:kE a true=0):kE p true=0:=by have hne:=(Yh hk).2.2.2;have⟨t,ht⟩:=QO1 _ hne;exact QIE hp (h.sub.subset ht)
def Qbt.len{a p:Qf}(h:Qbt a p)(ha:OkP a)(hp:OkP p):(kL a true).length<=(kL p true).length:=by rw[U7 ha,U7 hp];exact h.sub.length_le
theorem Qbt.rFail{a p:Qf}(h:Qbt a p)(hp:OkP p)(hk:Go.Pf.kE a true=0):(rFail p).1<=(rFail a).1/\(rFail a).2<=(rFail p).2:=by
 have hne:=(Yh hk).2.2.2;unfold Go.Pf.rFail;rw[U7 (Yh hk).1,U7 hp];have e:(λt=>(ZO a t:Int))=λt=>(ZO p t:Int):=funext λt=>by rw[h.fail t]
 rw[e];have h1:=Qfc ((QN a).map λt=>(ZO p t:Int)) (λe=>hne (List.map_eq_nil_iff.1 e));have⟨t1,ht1,e1⟩:=QOb.1 h1.1;have⟨t2,ht2,e2⟩:=QOb.1 h1.2;rw[<- e1,<- e2];exact⟨(UE (λt=>(ZO p t:Int)) _ t1 (h.sub.subset ht1)).1,(UE (λt=>(ZO p t:Int)) _ t2 (h.sub.subset ht2)).2⟩
theorem Qbt.rCond{a p:Qf}(h:Qbt a p)(hp:OkP p)(hk:Go.Pf.kE a true=0)(h3:rCond p≠3):rCond a=rCond p:=by
 have hkp:=h.kE hp hk;unfold Go.Pf.rCond at *;rw[if_pos hkp] at h3 |-;rw[if_pos hk,U7 (Yh hk).1];rw[U7 hp] at h3 |-;have e:(λt=>decide (a.z6<=(ZO a t:Int)))=λt=>decide (p.z6<=(ZO p t:Int)):=funext λt=>by rw[h.fail t,h.z6]
 rw[e];exact Qe7 _ (λt ht=>h.sub.subset ht) (Yh hk).2.2.2 h3
theorem Qbt.rGood{a p:Qf}(h:Qbt a p)(hp:OkP p)(hk:Go.Pf.kE a true=0)(h3:rGood p≠3):rGood a=rGood p:=by have hkp:=h.kE hp hk;unfold Go.Pf.rGood at *;rw[if_pos hkp] at h3 |-;rw[if_pos hk,U7 (Yh hk).1];rw[U7 hp] at h3 |-;have e:Jx a=Jx p:=funext λt=>h.good t;rw[e];exact Qe7 _ (λt ht=>h.sub.subset ht) (Yh hk).2.2.2 h3
theorem Qbt.rProved{a p:Qf}(h:Qbt a p)(hp:OkP p)(hk:Go.Pf.kE a true=0){link:Int}(hl:JR p link=true)(h3:rProved p link≠3):rProved a link=rProved p link:=by have hkp:=h.kE hp hk;unfold Go.Pf.rProved at *;rw[h.link link];rw[hl] at h3 |-;rw[if_pos hkp] at h3 |-;rw[if_pos hk,U7 (Yh hk).1];rw[U7 hp] at h3 |-;have e:QD a link=QD p link:=funext λt=>h.y7 link t;rw[e];exact Qe7 _ (λt ht=>h.sub.subset ht) (Yh hk).2.2.2 h3
include hK
omit hK
theorem Vd(D:List QB)(e e':Nat->Int)(h:∀i,i<D.length->e' i=e i):∀k,cab D e' k=cab D e k
 |0=>rfl
 |k+1=>by
  by_cases hk:k<D.length
  .rw[UV D e' k hk,UV D e k hk,h k hk,Vd D e e' h k]
  simp only[cab,QPx (by omega:D.length<=k)];exact Vd D e e' h k
def YW(D:List QB)(ss:List XC)(e e':Nat->Int)(h:∀i,i<D.length->e' i=e i):QM D ss e'=QM D ss e:=by unfold QM;refine List.countP_congr λs _=>?_;unfold U3;rw[Vd D e e' h]
def Qf3(D:List QB)(n:Nat):List Int:=(List.range D.length).map (Zx D n)
def Qay(D:List QB)(n i:Nat)(h:i<D.length):Qt (Qf3 D n) i=Zx D n i:=by unfold Qt Qf3;grind
def Wt{c:Ql}(hc:OkC c){n:Nat}(h:n∈QI c):Qf3 c.za n∈Zq c [] c.za:=by
 unfold QI at h;have h2:=of_decide_eq_true (QOx.1 h).2;refine QrC hc ⟨⟨by simp[Qf3],λi hi hi'=>?_⟩,?_⟩
 .have hg:(Qf3 c.za n)[i]=Zx c.za n i:=by simp[Qf3]
  rw[hg,QbN c.za n i hi];have hf:=Qm4 (hc.za i hi hi);simp only[inR] at hf;by_cases h2:c.za[i].z2=2
  .rw[if_pos h2]
   refine⟨?_,λh=>by omega⟩;cases n.testBit ((VJ c.za).idxOf i)<;>simp[inR]
  rw[if_neg h2];exact⟨by simp only[inR];omega,λ_=>rfl⟩
 rw[YW c.za c.zg (Zx c.za n) (Qt (Qf3 c.za n)) (λi hi=>Qay _ _ _ hi)]
 exact h2
theorem QsT(f:Nat->Bool):∀k:Nat,∃n,n<2 ^ k/\∀j,j<k->n.testBit j=f j
 |0=>⟨0,by simp,λj h=>by omega⟩
 |k+1=>by
  have⟨n,h1,h2⟩:=QsT f k;cases hf:f k
  .refine⟨n,by omega,λj hj=>?_⟩;by_cases hjk:j=k
   .subst hjk;rw[hf];exact Nat.testBit_lt_two_pow h1
   grind
  refine⟨n ||| 2 ^ k,QPB (by omega) (by omega),λj hj=>?_⟩;grind
def WH{c:Ql}(hok:OkC c){e:List Int}(h:e∈Zq c [] c.za):∃n∈QI c,∀i,i<c.za.length->Zx c.za n i=Qt e i:=by
 have⟨⟨hl,hch⟩,hw⟩:=Qc7 h;have⟨n,h1,h2⟩:=QsT (λj=>decide (Qt e ((VJ c.za).getD j 0)=1)) (VJ c.za).length;have heq:∀i,i<c.za.length->Zx c.za n i=Qt e i:=λi hi=>by
  have hei:Qt e i=e[i]'(by omega):=by unfold Qt;grind
  have hc:=hch i hi (by omega);rw[QbN c.za n i hi];by_cases hf:c.za[i].z2=2
  .rw[if_pos hf]
   have hm:=Qia c.za i hi hf;have hix:=List.idxOf_lt_length_of_mem hm;rw[h2 _ hix,List.getD_eq_getElem?_getD,QNX hix,QOG,List.getElem_idxOf hix,hei];have:=hc.1;simp only[inR] at this;grind
  rw[if_neg hf,hei];have hfr:=Qm4 (hok.za i hi hi);simp only[inR] at hfr;omega
 refine⟨n,?_,heq⟩;unfold QI;refine QOx.2 ⟨QOr.2 (by rw[<- Qaz];exact h1),decide_eq_true ?_⟩;rw[YW c.za c.zg (Qt e) (Zx c.za n) heq];exact hw
def XM(l:List Nat)(link:Int):Int:=fi (λk:Nat=>decide ((k:Int)=link)) l
def QdX(c:Ql)(link:Int)(n:Nat):Int:=XM (cab c.za (Zx c.za n) c.za.length) link
def ZI(c:Ql)(link:Int):Bool:=decide (inR link 0 ((Ql2 c.za:Int)-1))
include hK
def Qze(left all link:Int)(h:0<=all/\all<=1000000):Gd K 290 [.int .i64 left,.int .i64 all,.ptr [.int .i64 link]] (.bool (decide (inR link 0 (all-1)))):=by
 apply Qb hK QCe (by simp);simp
 repeat' first|omega|intro _|apply And.intro
 apply cK (YN hK _ _ _);simp
def QzV(link:Int):Gd K 202 [.int .i64 link] (.clo 290 [] [.ptr [.int .i64 link]]):=by apply Qb hK QDq (by simp);simp
def QzT(l:List Nat)(link:Int)(hl:l.length<=1000000):Gd K 204 [ZM l,.int .i64 link] (.int .i64 (XM l link)):=by
 apply Qb hK QDo (by simp);simp;intro _;refine Qe (λi=>[(0,AV.iv (ZM l)),(1,AV.iv (.int .i64 link)),(7,AV.iv (.int .i64 l.length)),(8,AV.iv (.int .i64 (i:Nat)))]) (λ_=>[]) l.length (λi=>∀k,(h:k<l.length)->k<i->¬((l[k]:Nat):Int)=link) (by intro k _ h;omega) ?_ ?_
 .intro h;rw[Qa QlA.eq_1]
  have:XM l link = -1:=by unfold XM fi;grind
  simp[this]
 intro i hi h ih;rw[Qa QlA.eq_1];by_cases he:((l[i]:Nat):Int)=link
 .have:XM l link=i:=by
   unfold XM fi;grind
  simp[hi,he,this]
 have he':¬link=((l[i]:Nat):Int):=λe=>he e.symm;have hn:∀k,(h:k<l.length)->k<i+1->¬((l[k]:Nat):Int)=link:=λk hk hki=>by grind
 have ih:=ih hn;simp[hi,he'] at ih |-
 grind
def QzU(D:List QB)(e:Nat->Int)(pm:IV)(link:Int)(hl:D.length<=1000)(hc:(cab D e D.length).length<=1000):Gd K 203 [.agg (VW D e pm),.ptr [.int .i64 link]] (.int .i64 (XM (cab D e D.length) link)):=by apply Qb hK QDp (by simp);have g120:=QqR hK D e pm hl;have g119:=QzT hK (cab D e D.length) link (by omega);simp;apply cK (by simpa using g120);simp;apply cK (by simpa using g119);simp
def QAC(c:Ql)(link:Int)(hl:c.za.length<=1000)(hs:c.zg.length<=1000):
  Gd K 105 [chV c,.int .i64 link] (.xf [Qq (if Xb c (ZI c link)=0 then Jv ((QI c).map (QdX c link)) else []),.int .i64 (Xb c (ZI c link))]):=by
 apply Qb hK QEq (by simp);have hcl:∀n,OkC c->(cab c.za (Zx c.za n) c.za.length).length<=12:=λn h=>by have h1:=ZW (Zx c.za n) h.za c.za.length (QN3 _) (QN3 _);have h2:=OkD.cnt h.za c.za.length (QN3 _) (QN3 _);have h3:=h.len;omega
 have hal:Ql2 c.za<=1000:=QOz (QOp _ _) hl
 have hg:=QqS hK c hl hs 290 [.ptr [.int .i64 link]] (ZI c link) (λ_=>Qze hK _ _ link (by omega)) (by kernel_rfl)
  203 [.ptr [.int .i64 link]] (QdX c link) (λh _ n _=>QzU hK c.za (Zx c.za n) (pmC c n) link hl (by grind)) (by kernel_rfl) (λh _ n _=>by have h1:=hcl n h;unfold QdX XM fi;grind)
 simp;apply cK (by simpa using QzV hK link);simp;apply cK (by simpa using hg);simp
omit hK
def Qor(c:Ql)(ss:List XC)(i:Nat):Nat:=(((Qp c.za).take i).map λe=>QM c.za ss (Qt e)).foldl min ss.length
def QEG(c:Ql)(ss:List XC):Nat:=((Qp c.za).map λe=>QM c.za ss (Qt e)).foldl min ss.length
theorem Uq:∀(l:List Nat)(a:Nat),l.foldl min a<=a/\∀x∈l,l.foldl min a<=x
 |[],a=>by simp
 |y::l,a=>by
  have⟨h1,h2⟩:=Uq l (min a y);simp only[QOP];refine⟨by omega,λx hx=>?_⟩;rcases QN7.1 hx with rfl|hx
  .omega
  exact h2 x hx
theorem qv:∀(l:List Nat)(a:Nat),l.foldl min a=a\/l.foldl min a∈l
 |[],a=>by simp
 |y::l,a=>by
  simp only[QOP,QN7];rcases qv l (min a y) with h|h
  .rw[h]
   omega
  exact .inr (.inr h)
def QhY{l1 l2:List Nat}(h1:∀x∈l1,x∈l2)(h2:∀x∈l2,x∈l1)(a:Nat):l1.foldl min a=l2.foldl min a:=by
 have key:∀{l1 l2:List Nat},(∀x∈l1,x∈l2)->l2.foldl min a<=l1.foldl min a:=λ{l1 l2}h=>by
  rcases qv l1 a with h3|h3
  .rw[h3];exact(Uq l2 a).1
  exact(Uq l2 a).2 _ (h _ h3)
 exact Nat.le_antisymm (key h2) (key h1)
def QAH{c:Ql}(hc:OkC c)(ss:List XC):QEG c ss=Qnb c ss:=by
 have hc':OkC ⟨c.za,[],0⟩:=⟨hc.len,by simp,by simp[inR],hc.za,by simp⟩;have he:=QrB hc' rfl;unfold QEG Qnb QdL;refine QhY (λx hx=>?_) (λx hx=>?_) _
 .obtain⟨e,h1,rfl⟩:=QOb.1 hx;obtain⟨n,hn,hb⟩:=WH hc' (e:=e) (by rw[he];exact h1);unfold QI at hn;exact QOb.2 ⟨n,(QOx.1 hn).1,YW c.za ss (Qt e) (Zx c.za n) hb⟩
 obtain⟨n,h1,rfl⟩:=QOb.1 hx;have hn:n∈QI ⟨c.za,[],0⟩:=QOx.2 ⟨h1,by simp[QM]⟩;have hm:=Wt hc' hn;rw[he] at hm;exact QOb.2 ⟨_,hm,YW c.za ss (Zx c.za n) (Qt (Qf3 c.za n)) λi hi=>Qay _ _ _ hi⟩
def Qoq(c:Ql)(ss:List XC)(i:Nat)(h:i<(Qp c.za).length):Qor c ss (i+1)=min (Qor c ss i) (QM c.za ss (Qt ((Qp c.za)[i]))):=by unfold Qor;rw[QNW h,QOd,QOZ];rfl
def plB(c:Ql)(n:Int):Bool:=decide (inR n 0 (ZV c.za-1))
noncomputable def QnI(c:Ql)(n:Int):List Int:=if Xb c (plB c n)=0 then Jv ((QI c).map (Qtf c n)) else []
noncomputable def Qe0(c:Ql)(n:Int):List Int:=if Xb c (ZI c n)=0 then Jv ((QI c).map (QdX c n)) else []
noncomputable def Yx(p:Qf)(n:Int):Int×Int:=if kE p (Q0 p n)=0 then XY p.zb (tr p n.toNat).zm (tr p n.toNat).zn else(0,0)
noncomputable def Qcn(p:Qf)(n:Int):Int:=if kE p (Q0 p n)=0 then tE p.zb (Vh (tr p n.toNat).zm (tr p n.toNat).zn 0) else kE p (Q0 p n)
noncomputable def YS(p:Qf):Int×Int:=if kE p true=0 then Xq p.zb 0 p.zo else(0,kE p true)
noncomputable def Z6(h:Qg)(v:Qdx)(l:List Int):Txt:=
 match v with
 | .who=>XX (QnI h.ze.zc (nI l 0)) (Xb h.ze.zc (plB h.ze.zc (nI l 0)))
 | .wher=>XX (Qe0 h.ze.zc (nI l 0)) (Xb h.ze.zc (ZI h.ze.zc (nI l 0)))
 | .first=>XX [(YT h.ze.zc).1] (YT h.ze.zc).2
 | .pulls=>XX [(XY h.ze.zb (nI l 0) (nI l 1)).1,(XY h.ze.zb (nI l 0) (nI l 1)).2] (tE h.ze.zb (Vh (nI l 0) (nI l 1) 0))
 | .z5=>XX (Uh h.ze (nI l 0)) (kE h.ze (Q0 h.ze (nI l 0)))
 | .loads=>XX [(Yx h.ze (nI l 0)).1,(Yx h.ze (nI l 0)).2] (Qcn h.ze (nI l 0))
 | .y6=>XX [(rFail h.ze).1,(rFail h.ze).2] (kE h.ze true)
 | .y5=>qi (rCond h.ze) (kE h.ze true)
 | .y7=>qi (rProved h.ze (nI l 0)) (kE h.ze (JR h.ze (nI l 0)))
 | .opn=>XX (Qbf h.ze) (kE h.ze true)
 | .good=>qi (rGood h.ze) (kE h.ze true)
 | .worth=>XX [(Yw h.ze).1] (Yw h.ze).2
 | .zm=>XX [(YS h.ze).1] (YS h.ze).2
 | .stretch=>XX [(span ((uL h.zq true).map YY)).1,(span ((uL h.zq true).map YY)).2] (uE h.zq true)
 | .best=>XX [(W4 h.zq).1] (W4 h.zq).2
 | .holds=>qi (Ug h.zq (nI l 0)) (uE h.zq (W7 (nI l 0)))
 | .zi=>XX (Qfn h.zq (nI l 0)) (uE h.zq (Qn2 h.zq (nI l 0)))
 |_=>[]
noncomputable def doV(h:Qg)(v:Qdx)(l:List Int):Txt×Qg:=
 if Xl v then(match VM h v l with
  |some h'=>if okH h' then(QIu,h') else(tNo,h)
  |none=>(tNo,h))
 else(Z6 h v l,h)
def Yc:List Txt->Option (List Int)
 |[]=>some []
 |w::r=>match Qgu w,Yc r with
  |some x,some l=>some (x::l)
  |_,_=>none
theorem Jg:∀{ws:List Txt}{l:List Int},Yc ws=some l->l.length=ws.length
 |[],l,h=>by simp[Yc] at h;subst h;rfl
 |w::r,l,h=>by
  simp only[Yc] at h;split at h
  .rename_i x l' _ h2;injection h with h;subst h;simp[Jg h2]
  cases h
def XN(t:Txt):Option (Qdx×List Int):=match spl t with
 |[]=>none
 |w::ws=>match V6 w with
  |none=>none
  |some (n,v)=>if ws.length=n then(Yc ws).map λl=>(v,l) else none
noncomputable def ZU(h:Qg)(t:Txt):Txt×Qg:=match XN t with
 |none=>(QgG,h)
 |some (v,l)=>doV h v l
noncomputable def QL(h:Qg)(s:List Txt)(i:Nat):Qg:=(s.take i).foldl (λh t=>(ZU h t).2) h
noncomputable def QaE(h:Qg)(s:List Txt)(i:Nat):List Txt:=(List.range i).map λj=>(ZU (QL h s j) (s.getD j [])).1
def Zy(h:Qg)(s:List Txt)(i:Nat)(hi:i<s.length):QL h s (i+1)=(ZU (QL h s i) s[i]).2:=by unfold QL;rw[QNW hi,QOZ];rfl
def QeR(h:Qg)(s:List Txt)(i:Nat)(hi:i<s.length):QaE h s (i+1)=QaE h s i++[(ZU (QL h s i) s[i]).1]:=by unfold QaE;rw[QOv,QOd,QO3,List.getD_eq_getElem?_getD,QNX hi];rfl
noncomputable def Qt4(h:Qg):Int:=if okH h then 0 else 120
noncomputable def QwE(h:Qg)(s:List Txt):Int:=if okH h then(if 40<s.length then 2 else 0) else 120
structure Vg(h:Qg):Prop where
 ze:Few h.ze
 zq:QEU h.zq
def QGs{h:Qg}{v:Qdx}{l:List Int}(ho:okH h):okH (doV h v l).2:=by unfold doV;grind
def QtY{h:Qg}{t:Txt}(ho:okH h):okH (ZU h t).2:=by
 unfold ZU;split
 .exact ho
 exact QGs ho
theorem J0{h:Qg}{s:List Txt}(ho:okH h):∀i,okH (QL h s i)
 |0=>ho
 |i+1=>by
  by_cases hi:i<s.length
  .rw[Zy h s i hi]
   exact QtY (J0 ho i)
  have:QL h s (i+1)=QL h s i:=by unfold QL;rw[QN1 (by omega),QN1 (by omega)]
  rw[this];exact J0 ho i
structure QT(h:Qg):Prop where
 ze:Ql3 h.ze
 zi:h.zq.zi.length<=1000
 zj:h.zq.zj.length<=1000
@[simp] def Qtm(k:Nat)(h:Qg):List AV:=[.yl k h.ze.zc.za.length,.yl (k+1) h.ze.zc.zg.length,.iv (.int .i64 h.ze.zc.zh),.yl (k+2) h.ze.zb.zd.length,.iv (.int .i64 h.ze.zb.zr),.iv (.int .i64 h.ze.zb.zu),.iv (.int .i64 h.ze.zb.zw),.yl (k+3) h.ze.zb.zk.length,.iv (.int .i64 h.ze.zb.zh),.yl (k+4) h.ze.zf.length,.iv (.int .i64 h.ze.zo),.iv (.int .i64 h.ze.z6),.iv (.int .i64 h.zq.yc),.iv (.int .i64 h.zq.z8),.iv (.int .i64 h.zq.z9),.yl (k+5) h.zq.zi.length,.yl (k+6) h.zq.zj.length,.iv (.int .i64 h.zq.zh)]
@[simp] def XE(k:Nat)(h:Qg):Qz:=[(k,.arr 136 5 (emb (h.ze.zc.za.map dC)) 0),(k+1,.arr 156 5 (emb (h.ze.zc.zg.map sC)) 0),(k+2,.arr 134 3 (emb (h.ze.zb.zd.map leC)) 0),(k+3,.arr 160 4 (emb (h.ze.zb.zk.map baC)) 0),(k+4,.arr 111 3 (emb (h.ze.zf.map trC)) 0),(k+5,.arr 113 3 (emb (h.zq.zi.map roC)) 0),(k+6,.arr 115 7 (emb (h.zq.zj.map reC)) 0)]
include hK
theorem Qqp(h:Qg)(hs:QT h):Gh K 50 [.iv (hoV h)] [] [] (.agg (Qtm 0 h)) (XE 0 h):=by
 have⟨⟨h1,h2,h3,h4,h5⟩,h6,h7⟩:=hs;refine Q9 [17,22,33,38,62,49,54] [] [] [] QG0.p (by simp[c50]) (by simp) ?_ ?_ ?_ ?_
 .intro q hq;simp only[XE,QN7,QOe,or_false] at hq;rcases hq with rfl|rfl|rfl|rfl|rfl|rfl|rfl<;>exact⟨by simp,rfl,X5 _ _ _ _ _⟩
 .simp[clA,clAL]
 .simp
 generalize hG:Qiy c50.res [17,22,33,38,62,49,54] [] (.agg (Qtm 0 h)) (XE 0 h)=G;simp[c50];apply Yt (QGA h.ze.zc.za h1) (by simp[Qc]);simp;apply Yt (QGz h.ze.zc.zg h2) (by simp[Qc]);simp;apply Yt (QGy h.ze.zb.zd h3) (by simp[Qc]);simp;apply Yt (QGx h.ze.zb.zk h4) (by simp[Qc]);simp;apply Yt (QGw h.zq.zi h6) (by simp[Qc]);simp;apply Yt (QGv h.zq.zj h7) (by simp[Qc]);simp;apply Yt (QGu h.ze.zf h5) (by simp[Qc]);simp;rw[<- hG];refine⟨⟨_,rfl,rfl⟩,λq hq=>?_,by simp⟩;simp only[XE,QN7,QOe,or_false] at hq;rcases hq with rfl|rfl|rfl|rfl|rfl|rfl|rfl<;>simp[rnO,nth,QaW,emb]
omit hK
@[reducible] def QQ(h:Qg):Qz:=[(0,.box ((hoC h).map AV.iv))]
def WN(r:Nat)(y:Txt)(h':Qg):Env->Qz->Prop:=Qiy [Qbu.tmp r] [0] [(0,0,0)] (.iv (.str y)) (QQ h')
def JK(h:Qg):∀q∈QQ h,q.1<1/\Zt q.2=true/\clO ((QQ h).map (·.1)) q.2=true:=by intro q hq;simp only[QN7,QOe,or_false] at hq;subst hq;exact⟨by omega,rfl,Qdf _ _⟩
def QX{r:Nat}{y:Txt}{h':Qg}{e:Env}{o:Qz}(h1:Ev.look e r=.iv (.str y))(h2:Ev.look e 0=.loc 0 0)(h3:Qc o 0=some (.box ((hoC h').map AV.iv))):WN r y h' e o:=by
 refine⟨⟨.iv (.str y),?_,rfl⟩,λq hq=>?_,λq hq=>?_⟩
 .simp[QxW,QtG,h1]
 .simp only[QN7,QOe,or_false] at hq;subst hq;refine h3.trans ?_;simp only[rnO,QaX]
 grind
section
def Qx{f:FuncId}{A:AFn}{r:Nat}{args:List IV}{h h':Qg}{y:Txt}(hok:ZY prog f A [0])(hres:A.res=[.tmp r])(hlen:args.length<A.nt)
  (hrun:WpF prog K (FnF (WN r y h')) [.code A.code] (Js 0 (.loc 0 0::args.map .iv)) (QQ h)):Gh K f (.loc 0 0::args.map .iv) (QQ h) [0] (.iv (.str y)) (QQ h'):=by
 refine Q9 [0] [0] [0] [(0,0,0)] hok (by simp;omega) (by simp) (JK h') (by simp[clA]) ?_ (by rw[hres];exact hrun);simp[nth,Qc];grind
def Yq{args0:List IV}{o:Qz}{h h':Qg}{a:Nat}(ho:Qc o a=some (.box ((hoC h).map AV.iv))):HOk [a] (.loc 0 0::args0.map .iv) o (QQ h) (QQ h'):=by
 refine⟨by simp,?_,λq hq=>?_,λi hi h1=>?_,λq hq=>⟨(JK h' q hq).1,(JK h' q hq).2.1⟩⟩
 .simp[clA]
 .have h1:=JK h q hq;refine⟨h1.1,?_,h1.2.2,h1.2.1⟩;simp only[QN7,QOe,or_false] at hq;subst hq;refine ho.trans ?_;simp only[rnO,QaX]
 .simp at hi;subst hi;simp[Qc] at h1
include hK
def QwW(h:Qg)(hs:QT h):Gd K 49 [hoV h] (.int .i64 (Qt4 h)):=by
 apply Qb hK QG1 (by simp);have g1:=QwR hK h.ze hs.ze;have g2:=QwQ hK h.zq hs.zi hs.zj;simp;apply cK (by simpa using g1);unfold Qt4 okH;by_cases h1:OkP h.ze
 .simp[h1];apply cK (by simpa using g2);by_cases h2:OkU h.zq<;>simp[h2]
 .simp[h1]
end
def QNN(h:Qg):imms (λi=>if i=0 then none else Qc ((0,.box (Qtm 1 h))::XE 1 h) i) 40 (Qtm 1 h)=some (hoC h):=by simp[imms,imm,immss,Qc,QN1]
def CH(K:World->Prop)(g:FuncId)(cs:List IV)(h h':Qg):Prop:=Gh K g (.loc 0 0::cs.map .iv) ((0,.box (Qtm 1 h))::XE 1 h) [0] (.iv (.xf [])) (QQ h')
def Qxg(h:Qg):∀q∈((0,AO.box (Qtm 1 h))::XE 1 h),q.1<8/\Zt q.2=true/\clO (((0,AO.box (Qtm 1 h))::XE 1 h).map (·.1)) q.2=true:=by
 intro q hq;simp only[XE,QN7,QOe,or_false] at hq;rcases hq with rfl|rfl|rfl|rfl|rfl|rfl|rfl|rfl
 .exact⟨by omega,rfl,by simp[clO,clAL,clA]⟩
 all_goals exact⟨by show(_:Nat)<8;omega,rfl,X5 _ _ _ _ _⟩
def QEB(h':Qg):Env->Qz->Prop:=Qiy [] [0,1,2,3,4,5,6,7] [(0,0,0)] (.iv (.xf [])) ((0,.box (Qtm 1 h'))::XE 1 h')
def Qda{h':Qg}{e:Env}{o:Qz}(h1:Ev.look e 0=.loc 0 0)(h2:∀q∈((0,AO.box (Qtm 1 h'))::XE 1 h'),Qc o q.1=some q.2):QEB h' e o:=by
 refine⟨⟨.iv (.xf []),rfl,rfl⟩,λq hq=>?_,λq hq=>?_⟩
 .have h3:=h2 q hq;simp only[XE,QN7,QOe,or_false] at hq;rcases hq with rfl|rfl|rfl|rfl|rfl|rfl|rfl|rfl
  .refine h3.trans ?_;simp[rnO,rnL,rn,nth]
  all_goals
   refine h3.trans ?_;rw[JP]
 grind
section
variable{K:World->Prop}
def Uw{f:FuncId}{A:AFn}{cs:List IV}{h h':Qg}(hok:ZY prog f A [0])(hres:A.res=[])(hlen:cs.length<A.nt)
  (hrun:WpF prog K (FnF (QEB h')) [.code A.code] (Js 0 (.loc 0 0::cs.map .iv)) ((0,.box (Qtm 1 h))::XE 1 h)):CH K f cs h h':=by
 refine Y0.give (Q9 [0,1,2,3,4,5,6,7] [0] [0] [(0,0,0)] hok (by simp;omega) (by decide) (Qxg h') (by simp[clA]) ?_ (by rw[hres];exact hrun)) (by simp) (QNN h');simp[nth,Qc];grind
def QvM:ZY prog 285 QHY [0]:=⟨_,func285,by kernel_rfl⟩
def QvR:ZY prog 192 QH2 [0]:=⟨_,func192,by kernel_rfl⟩
def QvQ:ZY prog 193 QES [0]:=⟨_,func193,by kernel_rfl⟩
def QvP:ZY prog 194 QH1 [0]:=⟨_,func194,by kernel_rfl⟩
def QvO:ZY prog 195 QH0 [0]:=⟨_,func195,by kernel_rfl⟩
def QvN:ZY prog 196 QHZ [0]:=⟨_,func196,by kernel_rfl⟩
def Zo(h:Qg)(s:XC):Qg:={ h with ze:={ h.ze with zc:={ h.ze.zc with zg:=h.ze.zc.zg++[s] } } }
def XR(h:Qg)(b:ZD):Qg:={ h with ze:={ h.ze with zb:={ h.ze.zb with zk:=h.ze.zb.zk++[b] } } }
def ZX(h:Qg)(x:QY):Qg:={ h with zq:={ h.zq with zj:=h.zq.zj++[x] } }
def Ze(h:Qg)(t:WM):Qg:={ h with ze:={ h.ze with zc:={ h.ze.zc with za:=h.ze.zc.za++[⟨4,0,0,0,0⟩] },zf:=h.ze.zf++[t] } }
def ZZ(h:Qg):Qg:={ h with ze:={ h.ze with zc:={ h.ze.zc with za:=h.ze.zc.za.dropLast },zf:=if(h.ze.zc.za.getLast?.map (·.zp))=some 4 then h.ze.zf.dropLast else h.ze.zf } }
def QJg(h:Qg)(d:QB)(hs:QT h):CH K 285 [.ptr (dC d)] h (Qk h d):=by
 have⟨⟨h1,h2,h3,h4,h5⟩,h6,h7⟩:=hs;apply Uw QvM rfl (by simp[QHY]);generalize hG:QEB (Qk h d)=G;simp[QHY];rw[<- hG]
 repeat' first|omega|exact Qda rfl (by intro q hq;simp only[XE,QN7,QOe,or_false] at hq;rcases hq with rfl|rfl|rfl|rfl|rfl|rfl|rfl|rfl<;>simp[Qc,Qk])|intro _|apply And.intro
def QJl(h:Qg)(a b c:Int)(hs:QT h):CH K 192 [.ptr [Qq [a,b,c]]] h (Ze h ⟨a,b,c⟩):=by
 have⟨⟨h1,h2,h3,h4,h5⟩,h6,h7⟩:=hs;apply Uw QvR rfl (by simp[QH2]);generalize hG:QEB (Ze h ⟨a,b,c⟩)=G;simp[QH2];rw[<- hG]
 repeat' first|omega|exact Qda rfl (by intro q hq;simp only[XE,QN7,QOe,or_false] at hq;rcases hq with rfl|rfl|rfl|rfl|rfl|rfl|rfl|rfl<;>simp[Qc,Ze])|intro _|apply And.intro
def QJj(h:Qg)(a b c d e:Int)(hs:QT h):CH K 194 [.ptr [Qq [a,b,c,d,e]]] h (Zo h ⟨a,b,c,d,e⟩):=by
 have⟨⟨h1,h2,h3,h4,h5⟩,h6,h7⟩:=hs;apply Uw QvP rfl (by simp[QH1]);generalize hG:QEB (Zo h ⟨a,b,c,d,e⟩)=G;simp[QH1];rw[<- hG]
 repeat' first|omega|exact Qda rfl (by intro q hq;simp only[XE,QN7,QOe,or_false] at hq;rcases hq with rfl|rfl|rfl|rfl|rfl|rfl|rfl|rfl<;>simp[Qc,Zo])|intro _|apply And.intro
def QJi(h:Qg)(a b c d:Int)(hs:QT h):CH K 195 [.ptr [Qq [a,b,c,d]]] h (XR h ⟨a,b,c,d⟩):=by
 have⟨⟨h1,h2,h3,h4,h5⟩,h6,h7⟩:=hs;apply Uw QvO rfl (by simp[QH0]);generalize hG:QEB (XR h ⟨a,b,c,d⟩)=G;simp[QH0];rw[<- hG]
 repeat' first|omega|exact Qda rfl (by intro q hq;simp only[XE,QN7,QOe,or_false] at hq;rcases hq with rfl|rfl|rfl|rfl|rfl|rfl|rfl|rfl<;>simp[Qc,XR])|intro _|apply And.intro
def QJh(h:Qg)(a b c d e f g:Int)(hs:QT h):CH K 196 [.ptr [Qq [a,b,c,d,e,f,g]]] h (ZX h ⟨a,b,c,d,e,f,g⟩):=by
 have⟨⟨h1,h2,h3,h4,h5⟩,h6,h7⟩:=hs;apply Uw QvN rfl (by simp[QHZ]);generalize hG:QEB (ZX h ⟨a,b,c,d,e,f,g⟩)=G;simp[QHZ];rw[<- hG]
 repeat' first|omega|exact Qda rfl (by intro q hq;simp only[XE,QN7,QOe,or_false] at hq;rcases hq with rfl|rfl|rfl|rfl|rfl|rfl|rfl|rfl<;>simp[Qc,ZX,emb])|intro _|apply And.intro
def QJk(h:Qg)(hne:h.ze.zc.za≠[])(ht:(h.ze.zc.za.getLast?.map (·.zp))=some 4->h.ze.zf≠[])(hs:QT h):CH K 193 [.ptr [.int .i64 ((h.ze.zc.za.length:Int)-1)]] h (ZZ h):=by
 have⟨⟨h1,h2,h3,h4,h5⟩,h6,h7⟩:=hs;obtain⟨D,d,hD⟩:∃D d,h.ze.zc.za=D++[d]:=⟨_,_,(QPh hne).symm⟩;have hr:QES.res=[]:=rfl;have⟨⟨⟨za,zg,cw⟩,m,zf,zo,z6⟩,u⟩:=h;simp only at *;subst hD;refine Q9 [0] [0] [0] [(0,0,0)] QvQ (by simp[QES]) (by simp) (JK _) (by simp[clA]) ?_ ?_
 .simp[nth,Qc];grind
 rw[hr]
 have fin:∀(e:Env)(o:Qz)(h':Qg),Ev.look e 0=.loc 0 0->Qc o 0=some (.box ((hoC h').map AV.iv))->Qiy [] [0] [(0,0,0)] (.iv (.xf [])) (QQ h') e o:=λe o h' q1 q2=>by
  refine⟨⟨.iv (.xf []),rfl,rfl⟩,λq hq=>?_,λq hq=>?_⟩
  .simp only[QN7,QOe,or_false] at hq;subst hq;refine q2.trans ?_;simp only[rnO,QaX]
  grind
 generalize hG:Qiy [] [0] [(0,0,0)] (.iv (.xf [])) (QQ (ZZ ⟨⟨⟨D++[d],zg,cw⟩,m,zf,zo,z6⟩,u⟩))=G;simp at ht h1;have tk:∀x:List IV,List.take D.length (List.take (D.length+1) (D.map dC++[x]))=D.map dC:=λx=>by grind
 by_cases h4:d.zp=4
 .have htl:1<=zf.length:=QO7.2 (ht h4);have htn:((zf.length:Int)-1).toNat=zf.length-1:=by omega
  simp[QES,h4,htn];rw[<- hG]
  repeat' first|omega|exact fin _ _ _ rfl (by simp[Qc,ZZ,h4,List.dropLast_eq_take,tk])|intro _|apply And.intro
 simp[QES,h4];rw[<- hG]
 repeat' first|omega|exact fin _ _ _ rfl (by simp[Qc,ZZ,h4,tk])|intro _|apply And.intro
end
def QvS:ZY prog 191 QH3 [0]:=⟨_,func191,by kernel_rfl⟩
def QvT:ZY prog 190 QH4 [0]:=⟨_,func190,by kernel_rfl⟩
def QBh:ZY prog 93 c93 [0]:=⟨_,func93,by kernel_rfl⟩
def QBg:ZY prog 94 c94 [0]:=⟨_,func94,by kernel_rfl⟩
def QBf:ZY prog 95 c95 [0]:=⟨_,func95,by kernel_rfl⟩
def QBe:ZY prog 96 c96 [0]:=⟨_,func96,by kernel_rfl⟩
def QBd:ZY prog 97 c97 [0]:=⟨_,func97,by kernel_rfl⟩
def QBc:ZY prog 98 c98 [0]:=⟨_,func98,by kernel_rfl⟩
def QBb:ZY prog 99 c99 [0]:=⟨_,func99,by kernel_rfl⟩
def Qwb:ZY prog 100 QIm [0]:=⟨_,func100,by kernel_rfl⟩
noncomputable def chT(h':Qg):Txt:=if okH h' then QIu else tNo
noncomputable def chH(h h':Qg):Qg:=if okH h' then h' else h
include hK
def UQ(h h':Qg)(g:FuncId)(cs:List IV)(hs:QT h)(hs':QT h')(hc:callee prog g=true)(hg:CH K g cs h h'):Gh K 191 (.loc 0 0::[IV.clo g [] cs].map .iv) (QQ h) [0] (.iv (.str (chT h'))) (QQ (chH h h')):=by
 apply Qx QvS rfl (by simp[QH3]);generalize hG:WN 4 (chT h') (chH h h')=G;have g28:=Qqp hK h hs;have g9:=QwW hK h' hs';simp[QH3];refine Qo (ids:=[11000,11001,11003,11007,11009,11015,11016]) g28 rfl ?_ ?_
 .refine⟨by decide,by simp[clA],by simp,?_,?_⟩
  .simp[Qc];intro i hi;have:i=0\/i=1\/i=2\/i=3\/i=4\/i=5\/i=6:=by omega
   rcases this with rfl|rfl|rfl|rfl|rfl|rfl|rfl<;>simp[nth]
  intro q hq;simp only[XE,QN7,QOe,or_false] at hq;rcases hq with rfl|rfl|rfl|rfl|rfl|rfl|rfl<;>exact⟨by show(_:Nat)<7;omega,rfl⟩
 .simp[rn,rnL,nth,JP];refine⟨hc,?_⟩;refine Qo (ids:=[5,11000,11001,11003,11007,11009,11015,11016]) hg (by simp[nth,rn]) ?_ ?_
  .refine⟨by decide,by simp[clA],λq hq=>?_,λi hi h1=>?_,λq hq=>?_⟩
   .have h1:=Qxg h q hq;refine⟨h1.1,?_,h1.2.2,h1.2.1⟩;simp only[XE,QN7,QOe,or_false] at hq;rcases hq with rfl|rfl|rfl|rfl|rfl|rfl|rfl|rfl
    .simp[Qc,nth,rnO,rnL,rn]
    all_goals
     rw[JP];simp[Qc,nth]
   .simp at hi;have:i=0\/i=1\/i=2\/i=3\/i=4\/i=5\/i=6\/i=7:=by omega
    rcases this with rfl|rfl|rfl|rfl|rfl|rfl|rfl|rfl<;>simp[Qc] at h1
   have h1:=JK h' q hq;grind
  .simp[rn,nth];apply cK (by simpa using g9);rw[<- hG];unfold Qt4 chT chH;by_cases ho:okH h'
   .simp[ho];exact QX rfl rfl (by simp[Qc])
   .simp[ho];exact QX rfl rfl (by simp[Qc])
def QfG(h:Qg)(d:QB)(hs:QT h)(hs':QT (Qk h d)):Gh K 190 (.loc 0 0::[IV.agg (dC d)].map .iv) (QQ h) [0] (.iv (.str (chT (Qk h d)))) (QQ (chH h (Qk h d))):=by apply Qx QvT rfl (by simp[QH4]);generalize hG:WN 4 (chT (Qk h d)) (chH h (Qk h d))=G;have hg:=UQ hK h (Qk h d) 285 [.ptr (dC d)] hs hs' (by kernel_rfl) (QJg h d hs);simp[QH4];apply Qo hg (by simp[nth,rn]) (Yq (by simp[Qc]));simp[nth,rn];rw[<- hG];exact QX rfl rfl (by simp[Qc])
def Qyu(h:Qg)(a b c d:Int)(hs:QT h)(hs':QT (Qk h ⟨1,a,b,c,d⟩)):Gh K 93 (.loc 0 0::[Qq [a,b,c,d]].map .iv) (QQ h) [0] (.iv (.str (chT (Qk h ⟨1,a,b,c,d⟩)))) (QQ (chH h (Qk h ⟨1,a,b,c,d⟩))):=by apply Qx QBh rfl (by simp[c93]);generalize hG:WN 4 (chT (Qk h ⟨1,a,b,c,d⟩)) (chH h (Qk h ⟨1,a,b,c,d⟩))=G;have hg:=QfG hK h ⟨1,a,b,c,d⟩ hs hs';simp[c93];apply Qo hg (by simp[nth,rn]) (Yq (by simp[Qc]));simp[nth,rn];rw[<- hG];exact QX rfl rfl (by simp[Qc])
def Qyt(h:Qg)(a b:Int)(hs:QT h)(hs':QT (Qk h ⟨2,a,b,0,0⟩)):Gh K 94 (.loc 0 0::[Qq [a,b]].map .iv) (QQ h) [0] (.iv (.str (chT (Qk h ⟨2,a,b,0,0⟩)))) (QQ (chH h (Qk h ⟨2,a,b,0,0⟩))):=by apply Qx QBg rfl (by simp[c94]);generalize hG:WN 4 (chT (Qk h ⟨2,a,b,0,0⟩)) (chH h (Qk h ⟨2,a,b,0,0⟩))=G;have hg:=QfG hK h ⟨2,a,b,0,0⟩ hs hs';simp[c94];apply Qo hg (by simp[nth,rn]) (Yq (by simp[Qc]));simp[nth,rn];rw[<- hG];exact QX rfl rfl (by simp[Qc])
def Qys(h:Qg)(hs:QT h)(hs':QT (Qk h ⟨3,0,0,0,0⟩)):Gh K 95 (.loc 0 0::[Qq []].map .iv) (QQ h) [0] (.iv (.str (chT (Qk h ⟨3,0,0,0,0⟩)))) (QQ (chH h (Qk h ⟨3,0,0,0,0⟩))):=by apply Qx QBf rfl (by simp[c95]);generalize hG:WN 4 (chT (Qk h ⟨3,0,0,0,0⟩)) (chH h (Qk h ⟨3,0,0,0,0⟩))=G;have hg:=QfG hK h ⟨3,0,0,0,0⟩ hs hs';simp[c95];apply Qo hg (by simp[nth,rn]) (Yq (by simp[Qc]));simp[nth,rn];rw[<- hG];exact QX rfl rfl (by simp[Qc])
def Qyr(h:Qg)(a b c:Int)(hs:QT h)(hs':QT (Ze h ⟨a,b,c⟩)):Gh K 96 (.loc 0 0::[Qq [a,b,c]].map .iv) (QQ h) [0] (.iv (.str (chT (Ze h ⟨a,b,c⟩)))) (QQ (chH h (Ze h ⟨a,b,c⟩))):=by apply Qx QBe rfl (by simp[c96]);generalize hG:WN 4 (chT (Ze h ⟨a,b,c⟩)) (chH h (Ze h ⟨a,b,c⟩))=G;have hg:=UQ hK h (Ze h ⟨a,b,c⟩) 192 [.ptr [Qq [a,b,c]]] hs hs' (by kernel_rfl) (QJl h a b c hs);simp[c96];apply Qo hg (by simp[nth,rn]) (Yq (by simp[Qc]));simp[nth,rn];rw[<- hG];exact QX rfl rfl (by simp[Qc])
def Qyp(h:Qg)(a b c d e:Int)(hs:QT h)(hs':QT (Zo h ⟨a,b,c,d,e⟩)):Gh K 98 (.loc 0 0::[Qq [a,b,c,d,e]].map .iv) (QQ h) [0] (.iv (.str (chT (Zo h ⟨a,b,c,d,e⟩)))) (QQ (chH h (Zo h ⟨a,b,c,d,e⟩))):=by apply Qx QBc rfl (by simp[c98]);generalize hG:WN 4 (chT (Zo h ⟨a,b,c,d,e⟩)) (chH h (Zo h ⟨a,b,c,d,e⟩))=G;have hg:=UQ hK h (Zo h ⟨a,b,c,d,e⟩) 194 [.ptr [Qq [a,b,c,d,e]]] hs hs' (by kernel_rfl) (QJj h a b c d e hs);simp[c98];apply Qo hg (by simp[nth,rn]) (Yq (by simp[Qc]));simp[nth,rn];rw[<- hG];exact QX rfl rfl (by simp[Qc])
def Qyo(h:Qg)(a b c d:Int)(hs:QT h)(hs':QT (XR h ⟨a,b,c,d⟩)):Gh K 99 (.loc 0 0::[Qq [a,b,c,d]].map .iv) (QQ h) [0] (.iv (.str (chT (XR h ⟨a,b,c,d⟩)))) (QQ (chH h (XR h ⟨a,b,c,d⟩))):=by apply Qx QBb rfl (by simp[c99]);generalize hG:WN 4 (chT (XR h ⟨a,b,c,d⟩)) (chH h (XR h ⟨a,b,c,d⟩))=G;have hg:=UQ hK h (XR h ⟨a,b,c,d⟩) 195 [.ptr [Qq [a,b,c,d]]] hs hs' (by kernel_rfl) (QJi h a b c d hs);simp[c99];apply Qo hg (by simp[nth,rn]) (Yq (by simp[Qc]));simp[nth,rn];rw[<- hG];exact QX rfl rfl (by simp[Qc])
def Quw(h:Qg)(a b c d e f g:Int)(hs:QT h)(hs':QT (ZX h ⟨a,b,c,d,e,f,g⟩)):Gh K 100 (.loc 0 0::[Qq [a,b,c,d,e,f,g]].map .iv) (QQ h) [0] (.iv (.str (chT (ZX h ⟨a,b,c,d,e,f,g⟩)))) (QQ (chH h (ZX h ⟨a,b,c,d,e,f,g⟩))):=by apply Qx Qwb rfl (by simp[QIm]);generalize hG:WN 4 (chT (ZX h ⟨a,b,c,d,e,f,g⟩)) (chH h (ZX h ⟨a,b,c,d,e,f,g⟩))=G;have hg:=UQ hK h (ZX h ⟨a,b,c,d,e,f,g⟩) 196 [.ptr [Qq [a,b,c,d,e,f,g]]] hs hs' (by kernel_rfl) (QJh h a b c d e f g hs);simp[QIm];apply Qo hg (by simp[nth,rn]) (Yq (by simp[Qc]));simp[nth,rn];rw[<- hG];exact QX rfl rfl (by simp[Qc])
def Qyq(h:Qg)(ht:(h.ze.zc.za.getLast?.map (·.zp))=some 4->h.ze.zf≠[])(hs:QT h)(hs':QT (ZZ h)):Gh K 97 (.loc 0 0::[Qq []].map .iv) (QQ h) [0] (.iv (.str (if h.ze.zc.za=[] then tNo else chT (ZZ h)))) (QQ (if h.ze.zc.za=[] then h else chH h (ZZ h))):=by
 have hl:=hs.ze.za;apply Qx QBd rfl (by simp[c97]);by_cases hne:h.ze.zc.za=[]
 .simp only[hne,if_true];generalize hG:WN 4 tNo h=G;simp[c97,hne];apply Qiq _ _ _ _ _ _ _ _;simp;rw[<- hG];exact QX rfl rfl (by simp[Qc,hne])
 simp only[hne,if_false];generalize hG:WN 4 (chT (ZZ h)) (chH h (ZZ h))=G;have hlen:=QO7.2 hne;have hg:=UQ hK h (ZZ h) 193 [.ptr [.int .i64 ((h.ze.zc.za.length:Int)-1)]] hs hs' (by kernel_rfl) (QJk h hne ht hs);have y9:¬(h.ze.zc.za.length:Int)-1<0:=by omega
 simp[c97];intro _;refine⟨by omega,?_⟩;apply Qiq _ _ _ _ _ _ _ _;simp[y9];refine Qo (ids:=[0,5]) hg (by simp[nth,rn]) ?_ ?_
 .refine⟨by decide,by simp[clA],λq hq=>?_,λi hi h1=>?_,λq hq=>?_⟩
  .have h1:=JK h q hq;refine⟨by grind,?_,h1.2.2,h1.2.1⟩;simp only[QN7,QOe,or_false] at hq;subst hq;simp[Qc,nth,rnO,rnL,rn]
  .simp at hi;have:i=0\/i=1:=by omega
   rcases this with rfl|rfl
   .simp[Qc] at h1
   simp[Qc,nth]
  have h1:=JK (chH h (ZZ h)) q hq;grind
 simp[nth,rn];rw[<- hG];exact QX rfl rfl (by simp[Qc])
omit hK
set_option maxHeartbeats 10000000
def Qbh(neg:Bool)(D:Txt):Option Nat:=if D.length=0\/9<D.length\/(D.head?=some 48/\(neg=true\/1<D.length)) then none else Lib.decFrom 0 D
def QpK(w:Txt):Qgu w=if w.head?=some 45 then(Qbh true (w.drop 1)).map λ(m:Nat)=>-(m:Int) else(Qbh false w).map λ(m:Nat)=>(m:Int):=by
 unfold Qgu;have dn:∀D:Txt,D≠[]->Lib.decNat D=Lib.decFrom 0 D:=λD h=>by unfold Lib.decNat;grind
 split
 .generalize w.drop 1=D;unfold Qbh;by_cases h0:D=[]
  .subst h0;simp[Lib.decNat]
  grind
 unfold Qbh;by_cases h0:w=[]
 .subst h0;simp[Lib.decNat]
 grind
theorem Yr:∀(a b:Txt)(acc:Nat),Lib.decFrom acc (a++b)=(Lib.decFrom acc a).bind λm=>Lib.decFrom m b
 |[],b,acc=>rfl
 |c::a,b,acc=>by
  simp only[QOa,Lib.decFrom];cases Lib.digitVal c with
  |none=>rfl
  |some d=>exact Yr a b _
def JI(c:UInt8):Lib.digitVal c=if 48<=c.toNat/\c.toNat<=57 then some (c.toNat-48) else none:=by unfold Lib.digitVal;rfl
theorem decFrom_lt:∀(l:Txt)(m:Nat)(i:Nat),i<=l.length->Lib.decFrom 0 (l.take i)=some m->m<10 ^ i
 |l,m,0,_,h=>by simp[Lib.decFrom] at h;subst h;simp
 |l,m,i+1,hi,h=>by
  rw[QNW (by omega),Yr] at h;cases hk:Lib.decFrom 0 (l.take i) with
  |some k=>have:=decFrom_lt l k i (by omega) hk;rw[hk] at h;simp only[Option.bind_some,Lib.decFrom,JI] at h;grind
  |_=>grind
def qS(w:Txt):(∃p∈ZE,p.1=w)\/∀p∈ZE,¬p.1=w:=by grind
def XK:∀p∈ZE,V6 p.1=some p.2:=by decide
def Vk{w:Txt}(h:∀p∈ZE,¬p.1=w):V6 w=none:=by unfold V6;grind
def ixW(w:Txt):Nat:=(ZE.map (·.1)).idxOf w
def QFE(w:Txt):ixW w<=25:=List.idxOf_le_length
def Zp{w l:Txt}(k:Nat)(h:(ZE.map (·.1))[k]?=some l)(hd:(ZE.map (·.1)).idxOf l=k):w=l↔ixW w=k:=by
 constructor
 .intro e;subst e;exact hd
 intro e;unfold ixW at e;grind
def QoZ(w:Txt):V6 w=(ZE[ixW w]?).map (·.2):=by
 by_cases h:∃p∈ZE,p.1=w
 .obtain⟨p,hp,rfl⟩:=h;rw[XK p hp];have y9:ixW p.1<(ZE.map (·.1)).length:=List.idxOf_lt_length_of_mem (QOb.2 ⟨p,hp,rfl⟩);have hlt':ixW p.1<ZE.length:=by simpa using y9
  have h1:=List.getElem_idxOf y9;rw[QNX hlt'];have h2:=XK ZE[ixW p.1] (QN0 hlt');have h3:ZE[ixW p.1].1=p.1:=by
   rw[<- List.getElem_map (f:=λq:Txt×Nat×Qdx=>q.1) (h:=by simpa using y9)]
   exact h1
  rw[h3,XK p hp] at h2;exact h2
 rw[Vk λp hp e=>h ⟨p,hp,e⟩]
 have:ixW w=(ZE.map (·.1)).length:=List.idxOf_eq_length λhm=>by grind
 grind
def ix0(w:Txt):(w=[119,101,108,100])=(ixW w=0):=propext (Zp 0 rfl rfl)
def ix1(w:Txt):(w=[99,117,116])=(ixW w=1):=propext (Zp 1 rfl rfl)
def ix2(w:Txt):(w=[116,117,114,110])=(ixW w=2):=propext (Zp 2 rfl rfl)
def ix3(w:Txt):(w=[112,114,111,118,101])=(ixW w=3):=propext (Zp 3 rfl rfl)
def ix4(w:Txt):(w=[117,110,100,111])=(ixW w=4):=propext (Zp 4 rfl rfl)
def ix5(w:Txt):(w=[115,101,101])=(ixW w=5):=propext (Zp 5 rfl rfl)
def ix6(w:Txt):(w=[98,97,108,97,110,99,101])=(ixW w=6):=propext (Zp 6 rfl rfl)
def ix7(w:Txt):(w=[114,101,97,100])=(ixW w=7):=propext (Zp 7 rfl rfl)
def ix8(w:Txt):(w=[119,104,111])=(ixW w=8):=propext (Zp 8 rfl rfl)
def ix9(w:Txt):(w=[119,104,101,114,101])=(ixW w=9):=propext (Zp 9 rfl rfl)
def QND(w:Txt):(w=[102,105,114,115,116])=(ixW w=10):=propext (Zp 10 rfl rfl)
def QNC(w:Txt):(w=[112,117,108,108,115])=(ixW w=11):=propext (Zp 11 rfl rfl)
def QNB(w:Txt):(w=[98,114,111,107,101])=(ixW w=12):=propext (Zp 12 rfl rfl)
def QNA(w:Txt):(w=[108,111,97,100,115])=(ixW w=13):=propext (Zp 13 rfl rfl)
def QNz(w:Txt):(w=[102,97,105,108,117,114,101,115])=(ixW w=14):=propext (Zp 14 rfl rfl)
def QNy(w:Txt):(w=[99,111,110,100,101,109,110,101,100])=(ixW w=15):=propext (Zp 15 rfl rfl)
def QNx(w:Txt):(w=[112,114,111,118,101,100])=(ixW w=16):=propext (Zp 16 rfl rfl)
def QNw(w:Txt):(w=[111,112,101,110])=(ixW w=17):=propext (Zp 17 rfl rfl)
def QNv(w:Txt):(w=[103,111,111,100])=(ixW w=18):=propext (Zp 18 rfl rfl)
def QNu(w:Txt):(w=[119,111,114,116,104])=(ixW w=19):=propext (Zp 19 rfl rfl)
def QNt(w:Txt):(w=[119,101,105,103,104,116])=(ixW w=20):=propext (Zp 20 rfl rfl)
def QNs(w:Txt):(w=[115,116,114,101,116,99,104])=(ixW w=21):=propext (Zp 21 rfl rfl)
def QNr(w:Txt):(w=[98,101,115,116])=(ixW w=22):=propext (Zp 22 rfl rfl)
def QNq(w:Txt):(w=[104,111,108,100,115])=(ixW w=23):=propext (Zp 23 rfl rfl)
def QNp(w:Txt):(w=[114,111,100,115])=(ixW w=24):=propext (Zp 24 rfl rfl)
def JU(n:Nat)(h:9<n):Lib.decDigits n=Lib.decDigits (n / 10)++[UInt8.ofNat (48+n % 10)]:=by rw[Lib.decDigits,dif_neg (by omega)]
def Jq(n:Nat)(h:n<=9):Lib.decDigits n=[UInt8.ofNat (48+n)]:=by rw[Lib.decDigits,dif_pos (by omega)]
def qB(n:Nat):(Lib.decDigits n).length<=n+1:=by
 induction n using Nat.strongRecOn with
 |ind n ih=>
  by_cases h:n<=9
  .rw[Jq n h];simp
  rw[JU n (by omega)]
  grind
include hK
def QFK(s:Txt)(hs:s.length<=1000):Gd K 79 [.str s] (strs (spl s)):=by
 apply Qb hK QGK (by simp);simp
 refine YU s.length (λi e o=>∃mv,mv<=((s.take i).foldl Zg [[]]).length/\0<((s.take i).foldl Zg [[]]).length/\((s.take i).foldl Zg [[]]).length<=i+1/\(∀x∈(s.take i).foldl Zg [[]],x.length<=i) /\
  e=[(0,AV.iv (IV.str s)),(3,AV.yl 5 ((s.take i).foldl Zg [[]]).length),(4,AV.iv (.int .i64 (i:Nat)))] /\
  o=[(5,AO.arr 9 1 (emb (((s.take i).foldl Zg [[]]).map λs=>[.str s])) mv)]) ?_ ?_ _ _ ⟨0,by simp,by simp,by simp,by simp,rfl,rfl⟩
 .rintro e o ⟨mv,h1,h2,h3,_,rfl,rfl⟩;rw[Qa Qr9.eq_1];simp[spl] at h1 h2 h3 |-;simp[h1]
 .rintro i e o hi ⟨mv,h1,h2,h3,hx,rfl,rfl⟩ ih;have e1:(s.take (i+1)).foldl Zg [[]]=Zg ((s.take i).foldl Zg [[]]) s[i]:=by
   rw[QNW hi,QOZ];rfl
  rw[Qa Qr9.eq_1];rw[e1] at ih;generalize(s.take i).foldl Zg [[]]=X at *;have h4:X.length-1<X.length:=by omega
  have h5:((X.length:Int)-1).toNat=X.length-1:=by omega
  have h6:s[i].toNat<256:=s[i].toNat_lt;have h7:s[i]=32↔(s[i].toNat:Int)=32:=by rw[<- UInt8.toNat_inj];simp;omega
  have h8':((i:Int)+1).toNat=i+1:=by omega
  by_cases e:(s[i].toNat:Int)=32
  .simp[hi,e];refine⟨⟨h1,by omega,by omega⟩,by omega,?_⟩;refine ih _ _ ⟨mv,?_,?_,?_,?_,?_,?_⟩<;>simp[Zg,h7.2 e]
   all_goals grind
  .have h8:¬s[i]=32:=λc=>e (h7.1 c);have h9:=hx _ (QN0 h4);have h10:(s.take (i+1)).drop i=[s[i]]:=by
    rw[QNW hi]
    grind
   simp[hi,e,h4,h5,h8',h10];refine⟨h1,λ_=>⟨by omega,⟨by omega,h1⟩,h1,by omega,by omega,by omega,⟨by omega,h1⟩,h1,by omega,?_⟩⟩;refine ih _ _ ⟨X.length,?_,?_,?_,?_,?_,?_⟩<;>simp[Zg,h8,h2,h4]
   all_goals grind
def QFI(w:Txt):Gd K 81 [.str w] (.int .i64 (match V6 w with|some p=>(p.1:Int)|none=>-1)):=by
 apply Qb hK QGI (by simp);rw[QoZ];have y9:=QFE w;generalize hr:(match(ZE[ixW w]?).map (·.2) with|some p=>(p.1:Int)|none=>-1)=r;have key:∀k,k<=25->ixW w=k->r=([4,2,0,3,0,5,4,7,1,1,0,2,1,1,0,0,1,0,0,0,0,0,0,1,1,-1]:List Int).getD k 0:=λk hk e=>by
  rw[<- hr,e];have:∀k≤25,(match(ZE[k]?).map (·.2) with|some p=>(p.1:Int)|none=>-1)=([4,2,0,3,0,5,4,7,1,1,0,2,1,1,0,0,1,0,0,0,0,0,0,1,1,-1]:List Int).getD k 0:=by decide
  exact this k hk
 clear hr;simp (config:={ maxSteps:=10000000 }) [ix0,ix1,ix2,ix3,ix4,ix5,ix6,ix7,ix8,ix9,QND,QNC,QNB,QNA,QNz,QNy,QNx,QNw,QNv,QNu,QNt,QNs,QNr,QNq,QNp];generalize ixW w=n at *;have k0:=key 0 (by omega);have k1:=key 1 (by omega);have k2:=key 2 (by omega);have k3:=key 3 (by omega);have k4:=key 4 (by omega);have k5:=key 5 (by omega);have k6:=key 6 (by omega);have k7:=key 7 (by omega);have k8:=key 8 (by omega);have k9:=key 9 (by omega);have k10:=key 10 (by omega);have k11:=key 11 (by omega);have k12:=key 12 (by omega);have k13:=key 13 (by omega);have k14:=key 14 (by omega);have k15:=key 15 (by omega);have k16:=key 16 (by omega);have k17:=key 17 (by omega);have k18:=key 18 (by omega);have k19:=key 19 (by omega);have k20:=key 20 (by omega);have k21:=key 21 (by omega);have k22:=key 22 (by omega);have k23:=key 23 (by omega);have k24:=key 24 (by omega);have k25:=key 25 (by omega);simp only[List.getD_cons_zero,List.getD_cons_succ] at *;clear key
 repeat' first|apply And.intro|intro _
 all_goals omega
def QwY(w:Txt):Gd K 45 [.str w] (.bool (match V6 w with|some p=>Xl p.2|none=>false)):=by
 apply Qb hK QG5 (by simp);rcases qS w with ⟨p,hp,rfl⟩|h
 .rw[XK p hp]
  simp only[ZE,QN7,QOe,or_false] at hp;rcases hp with rfl|rfl|rfl|rfl|rfl|rfl|rfl|rfl|rfl|rfl|rfl|rfl|rfl|rfl|rfl|rfl|rfl|rfl|rfl|rfl|rfl|rfl|rfl|rfl|rfl<;>simp (config:={ maxSteps:=1000000 }) [Xl]
 .rw[Vk h]
  simp only[ZE,QN7,QOe,or_false,forall_eq_or_imp,forall_eq,@eq_comm _ _ w] at h;simp[h]
def Qm0(n:Nat)(hn:n<10 ^ 18):Gd K 318 [.int .i64 n] (.str (Lib.decDigits n)):=by
 apply Qb hK QsC (by simp);have hneg:¬(n:Int)<0:=by omega
 have hm:∀m:Nat,((m:Int).tmod 10)=(m:Int) % 10:=λm=>QOy (by omega);have hw:∀m:Nat,IntKind.wrap .i32 (48+(m:Int) % 10)=48+(m:Int) % 10:=λm=>WQ (by simp only[IntKind.inR];exact⟨by simp;omega,by simp;omega⟩);have hd:∀m:Nat,((48:Int)+(m:Int) % 10).toNat=48+m % 10:=λm=>by omega
 have hq:∀m:Nat,((m:Int).tdiv 10)=(m:Int) / 10:=λm=>QOB (by omega);have hd2:∀m:Nat,((48:Int)+(m:Int) / 10 % 10).toNat=48+m / 10 % 10:=λm=>by omega
 have hm2:∀m:Nat,(((m:Int) / 10).tmod 10)=(m:Int) / 10 % 10:=λm=>QOy (by omega);have hw2:∀m:Nat,IntKind.wrap .i32 (48+(m:Int) / 10 % 10)=48+(m:Int) / 10 % 10:=λm=>WQ (by simp only[IntKind.inR];exact⟨by simp;omega,by simp;omega⟩);have hln:=qB n;simp[hneg,hm,hw,hd];refine⟨by omega,by omega,?_⟩;refine QpW (S:=Nat×Txt) (λs=>[(0,AV.iv (.int .i64 s.1)),(3,AV.iv (.str s.2))]) (λ_=>[]) (λs=>s.1<=n/\∃rest,s.2=UInt8.ofNat (48+s.1 % 10)::rest/\Lib.decDigits s.1++rest=Lib.decDigits n) (λs=>s.1) ?_ (n,_) ⟨QN3 _,[],by simp,by simp⟩;rintro⟨m,out⟩ ⟨h1,rest,h2,h3⟩ ih;simp only at h1 h2 h3 ih |-;have hl:=congrArg List.length h3;simp only[QOf] at hl;rw[Qa QsD.eq_1];by_cases h9:9<m
 .have h9':(9:Int)<(m:Int):=by omega
  have ih:=ih (m / 10,UInt8.ofNat (48+m / 10 % 10)::out) ⟨by simp only;omega,out,rfl,by rw[h2,<- h3,JU m h9];simp⟩ (by simp only;omega)
  simp[h9',hq,hm2,hw2,hd2];refine⟨by omega,by omega,⟨by omega,by omega⟩,by grind,?_⟩;simpa using ih
 .have h9':¬(9:Int)<(m:Int):=by omega
  have:Lib.decDigits n=out:=by
   rw[<- h3,Jq m (by omega),h2]
   have:m % 10=m:=by omega
   grind
  simp[h9',this]
def QqD(n:Int)(h: -1000000000000000<=n/\n<=1000000000000000):Gd K 318 [.int .i64 n] (.str (Lib.itoa n)):=by
 by_cases hn:n<0
 .have hg:=Qm0 hK n.natAbs (by omega);have e1:Lib.itoa n=45::Lib.decDigits n.natAbs:=by
   unfold Lib.itoa;rw[if_pos hn]
  have e2:((n.natAbs:Nat):Int)=0-n:=by omega
  have hl:=qB n.natAbs;apply Qb hK QsC (by simp);have m1:(if(1:Int) < -n then -n else 1)=((n.natAbs:Nat):Int):=by split<;>omega
  rw[e1];simp[hn,m1];refine⟨by omega,cK (by simpa using hg) ?_⟩;simp;omega
 have e1:Lib.itoa n=Lib.decDigits n.toNat:=by unfold Lib.itoa;rw[if_neg hn]
 have hg:=Qm0 hK n.toNat (by omega);grind
omit hK
def OkL(l:List Int):Prop:=l.length<=1000000/\∀n∈l,-1000000000000000<=n/\n<=1000000000000000
def YL{n:Int}(h: -1000000000000000<=n/\n<=1000000000000000):OkL [n]:=⟨by simp,by simpa using h⟩
def Qfs{a b:Int}(h: -1000000000000000<=a/\a<=1000000000000000)(h': -1000000000000000<=b/\b<=1000000000000000):OkL [a,b]:=⟨by simp,by grind⟩
def Qft:OkL []:=⟨by simp,by simp⟩
def Qib(n:Nat):∀k,n<10 ^ k->0<k->(Lib.decDigits n).length<=k:=by
 induction n using Nat.strongRecOn with
 |ind n ih=>
  intro k hk h0;by_cases h:n<=9
  .rw[Jq n h];simp;omega
  rw[JU n (by omega)]
  obtain⟨j,rfl⟩:∃j,k=j+1:=⟨k-1,by omega⟩;have hj:0<j:=by grind
  have:=ih (n / 10) (by omega) j (by omega) hj;simp;omega
def QmP{n:Int}(h: -1000000000000000<=n/\n<=1000000000000000):(Lib.itoa n).length<=20:=by
 unfold Lib.itoa;split
 .have:=Qib n.natAbs 16 (by omega) (by omega);simp;omega
 have:=Qib n.toNat 16 (by omega) (by omega);omega
theorem Qes:∀(l:List Txt)(x:Txt),l≠[]->UZ (l++[x])=UZ l++(32::x)
 |[],_,h=>absurd rfl h
 |[y],x,_=>rfl
 |y::z::r,x,_=>by have:=Qes (z::r) x (by simp);simp only[QOa] at this |-;rw[UZ,this,UZ];simp
theorem Qhw:∀(l:List Txt)(c:Nat),(∀x∈l,x.length<=c)->(UZ l).length<=(c+1)*l.length
 |[],_,_=>by simp[UZ]
 |[x],c,h=>by have:=h x (by simp);simp[UZ];omega
 |x::y::r,c,h=>by
  have h1:=h x (by simp);have h2:=Qhw (y::r) c λz hz=>h z (by simp[hz]);simp only[UZ,QOf,QOi] at h2 |-
  grind
def Qer{l:List Int}(h:OkL l)(i:Nat):(UZ ((l.take i).map Lib.itoa)).length<=21000000:=by
 have h1:=Qhw ((l.take i).map Lib.itoa) 20 λx hx=>by obtain⟨n,hn,rfl⟩:=QOb.1 hx;exact QmP (h.2 n (QOJ hn))
 have h2:((l.take i).map Lib.itoa).length<=1000000:=by have:=h.1;simp;omega
 omega
def Qnj{D:Txt}{i:Nat}(hi:i<D.length)(h:Lib.digitVal D[i]=none):Lib.decFrom 0 D=none:=by
 have e:D=D.take i++D[i]::D.drop (i+1):=by simp
 rw[e,Yr];cases Lib.decFrom 0 (D.take i) with
 |none=>rfl
 |some m=>simp[Lib.decFrom,h]
def QvC{D:Txt}{i m:Nat}(hi:i<D.length)(hm:Lib.decFrom 0 (D.take i)=some m)(h:48<=D[i].toNat/\D[i].toNat<=57):Lib.decFrom 0 (D.take (i+1))=some (m*10+(D[i].toNat-48)):=by rw[QNW hi,Yr,hm];simp[Lib.decFrom,JI,h]
@[simp] abbrev QJF:AC:=.seq (.ops [⟨some 65,none,.xg (.t 4)⟩,⟨some 66,none,.xg (.t 6)⟩,⟨some 67,none,.bin .mul (.t 65) (.t 66)⟩,⟨some 2,none,.xg (.t 67)⟩,⟨some 3,none,.xg (.bool true)⟩] false) .ret
def QpX{K:World->Prop}(sg:Int)(hsg:sg=1\/sg = -1)(D:Txt)(hD:D.length<=9)(r:Int)(b:Bool)(hs:∀m,Lib.decFrom 0 D=some m->r=sg*m/\b=true)(hn:Lib.decFrom 0 D=none->r=0/\b=false):XJ prog K (FnF (QdT [Qbu.tmp 2,Qbu.tmp 3] (.xf [.int .i64 r,.bool b]))) Qij [4,5,6,7] [] [AI.inBlock 0,AI.code QJF] [(4,.iv (.int .i64 sg)),(5,.iv (.str D)),(6,.iv (.int .i64 0)),(7,.iv (.int .i64 0))] []:=by
 refine Qe (λi=>[(4,AV.iv (.int .i64 sg)),(5,AV.iv (.str D)),(6,AV.iv (.int .i64 (((Lib.decFrom 0 (D.take i)).getD 0:Nat):Int))),(7,AV.iv (.int .i64 (i:Nat)))]) (λ_=>[]) D.length (λi=>(Lib.decFrom 0 (D.take i)).isSome=true) (by simp[Lib.decFrom]) ?_ ?_
 .intro h;rw[QN5] at h;have⟨m,hm⟩:=QOC.1 h;obtain⟨rfl,rfl⟩:=hs m hm;have y9:=decFrom_lt D m D.length (QN3 _) (by grind);have hb:(10:Nat) ^ D.length<=10 ^ 9:=QOV (by omega) hD;rw[Qa Qij.eq_1];simp[hm];grind
 .intro i hi h ih;have⟨m,hm⟩:=QOC.1 h;have y9:=decFrom_lt D m i (by omega) hm;have hb:(10:Nat) ^ i<=10 ^ 9:=QOV (by omega) (by omega);have hc:D[i].toNat<256:=D[i].toNat_lt;rw[Qa Qij.eq_1];by_cases h1:D[i].toNat<48
  .obtain⟨rfl,rfl⟩:=hn (Qnj hi (by rw[JI,if_neg (by omega)]));have h1':(D[i].toNat:Int)<48:=by omega
   simp[hi,h1',hm]
  .have h1':¬(D[i].toNat:Int)<48:=by omega
   by_cases h2:57<D[i].toNat
   .obtain⟨rfl,rfl⟩:=hn (Qnj hi (by rw[JI,if_neg (by omega)]));have h2':(57:Int)<(D[i].toNat:Int):=by omega
    simp[hi,h1',h2',hm]
   .have h2':¬(57:Int)<(D[i].toNat:Int):=by omega
    have hstep:=QvC hi hm (by omega);have ih:=ih (by rw[hstep];rfl);rw[hstep] at ih;have hw:IntKind.wrap .i64 ((D[i].toNat:Int)-48)=(D[i].toNat:Int)-48:=wrap_i64 (by omega) (by omega);have e2:(10:Int)*m+((D[i].toNat:Int)-48)=((m*10+(D[i].toNat-48):Nat):Int):=by omega
    simp only[QOG] at ih;rw[<- e2] at ih;simp[hi,h1',h2',hm,hw] at ih |-
    grind
def Qa4(ws:List Txt)(w:Txt):Yc (ws++[w])=match Yc ws,Qgu w with|some l,some n=>some (l++[n])|_,_=>none:=by
 induction ws with
 |nil=>simp only[QOg,Yc];grind
 |cons x r ih=>simp only[QOa,Yc,ih];grind
def XZ(t:Txt):Txt×List Int×Bool:=match spl t with
 |[]=>([],[],false)
 |w::ws=>match Yc ws with
  |none=>([],[],false)
  |some l=>(w,l,decide ((l.length:Int)=match V6 w with|some p=>(p.1:Int)|none=>-1))
theorem Qct:∀{ws:List Txt}{l:List Int},Yc ws=some l->∀w∈ws,(Qgu w).isSome=true
 |[],_,_,w,hw=>by simp at hw
 |x::r,l,h,w,hw=>by
  simp only[Yc] at h;split at h
  .rename_i n l' h1 h2;rcases QN7.1 hw with rfl|hw
   .rw[h1];rfl
   exact Qct h2 w hw
  cases h
include hK
def Qzy(l:List Int)(h:OkL l):Gd K 245 [Qq l] (.str (QtX l)):=by
 apply Qb hK QCT (by simp);unfold QtX;cases l with
 |nil=>simp[QnP]
 |cons x r=>
  have hx:=QqD hK x (h.2 x (by simp));have hl:=h.1;simp at hl;have hne:¬(r.length:Int)+1=0:=by omega
  simp[hne];intro _;apply cK (by simpa using hx);simp;refine Qe (λi=>[(0,AV.iv (Qq (x::r))),(3,AV.iv (.str (UZ (((x::r).take (i+1)).map Lib.itoa)))),(4,AV.iv (.int .i64 ((i+1:Nat):Int)))]) (λ_=>[]) r.length (λ_=>True) trivial ?_ ?_
  .intro _;rw[Qa Qln.eq_1];simp[QN1]
  intro i hi _ ih;have e1:(x::r).take (i+1+1)=(x::r).take (i+1)++[r[i]]:=by
   rw[QNW (by simp;omega)]
   simp
  have h1:=Qer h (i+1);have h2:=h.2 r[i] (by simp);have h3:=QmP h2;have hg:=QqD hK r[i] h2;rw[e1,QOd,QO3,Qes _ _ (by simp)] at ih;generalize UZ (((x::r).take (i+1)).map Lib.itoa)=X at *;rw[Qa Qln.eq_1];have hi2:((i:Int)+1)<(r.length:Int)+1:=by omega
  have hi3:((i:Int)+1).toNat=i+1:=by omega
  simp[hi,hi2,hi3];intro _;refine⟨by omega,cK (by simpa using hg) ?_⟩;simp at ih |-
  grind
def Up(l:List Int)(e:Int)(h:e=0->OkL l):Gd K 157 [Qq l,.int .i64 e] (.str (XX l e)):=by
 apply Qb hK QD2 (by simp);unfold XX;by_cases h0:e=0
 .subst h0;have hg:=Qzy hK l (h rfl);simp;apply cK (by simpa using hg);simp
 by_cases h3:e=3
 .simp[h3,QnP]
 simp[h0,h3,tNo]
def QfQ(n e:Int):Gd K 167 [.int .i64 n,.int .i64 e] (.str (qi n e)):=by
 apply Qb hK QDS (by simp);unfold qi;by_cases h0:e=0
 .by_cases h1:n=1
  .simp[h0,h1,QiF]
  by_cases h2:n=2
  .simp[h0,h2,Qo9]
  simp[h0,h1,h2,Qe8]
 have hg:=Up hK [] e (λh=>absurd h h0);simp[h0];apply cK (by simpa using hg);simp
def QfR(a b e:Int)(h:e=0->OkL [a,b]):Gd K 162 [.agg [.int .i64 a,.int .i64 b],.int .i64 e] (.str (XX [a,b] e)):=by apply Qb hK QDX (by simp);have hg:=Up hK [a,b] e h;simp;apply cK (by simpa using hg);simp
def QfS(n e:Int)(h:e=0->OkL [n]):Gd K 160 [.int .i64 n,.int .i64 e] (.str (XX [n] e)):=by apply Qb hK QDZ (by simp);have hg:=Up hK [n] e h;simp;apply cK (by simpa using hg);simp
def QFJ(w:Txt)(hw:w.length<=1000):Gd K 80 [.str w] (.xf [.int .i64 ((Qgu w).getD 0),.bool (Qgu w).isSome]):=by
 apply Qb hK QGJ (by simp);rw[QpK]
 have head_of:∀(D:Txt)(h:0<D.length),(D.head?=some 48↔((D[0]'h).toNat:Int)=48):=λD h=>by
  cases D with
  |nil=>simp at h
  |cons d r=>simp only[List.head?_cons,Option.some.injEq,QPw];rw[<- UInt8.toNat_inj];simp;omega
 by_cases h45:w.head?=some 45
 .obtain⟨D,hwD⟩:∃D,w=45::D:=by
   cases w with
   |_=>grind
  have f5:0<w.length:=by rw[hwD];simp
  have f1:(0:Int)<w.length:=by omega
  have f2:((w[0]'f5).toNat:Int)=45:=by subst hwD;rfl
  have f3:w.tail=D:=by rw[hwD];rfl
  have f4:(1:Int)<=w.length:=by omega
  rw[if_pos h45,List.drop_one,f3];clear hwD;by_cases c1:D.length=0
  .have hD:=QN4 c1;have n1:Qbh true D=none:=by simp[Qbh,c1]
   subst hD;simp[f1,f2,f3,f4,f5,n1]
  have c1':¬(D.length:Int)=0:=by omega
  have c0:0<D.length:=by omega
  by_cases c2:9<D.length
  .have n1:Qbh true D=none:=by simp[Qbh,c2]
   have c2':(9:Int)<D.length:=by omega
   simp[f1,f2,f3,f4,f5,n1,c1',c2',c0]
  have c2':¬(9:Int)<D.length:=by omega
  have hh:=head_of D c0;by_cases c3:((D[0]'c0).toNat:Int)=48
  .have n1:Qbh true D=none:=by simp[Qbh,hh.2 c3]
   simp[f1,f2,f3,f4,f5,n1,c1',c2',c0,c3]
  have n1:Qbh true D=Lib.decFrom 0 D:=by simp[Qbh,c1,c2,mt hh.1 c3]
  rw[n1];have lp:=QpX (K:=K) (-1) (.inr rfl) D (by omega) (((Lib.decFrom 0 D).map λ(m:Nat)=>-(m:Int)).getD 0) ((Lib.decFrom 0 D).map λ(m:Nat)=>-(m:Int)).isSome (λm h=>by simp[h]) (λh=>by simp[h]);simp at lp;have ne:¬D=[]:=λe=>c1 (by rw[e];rfl);simp[f1,f2,f3,f4,f5,c1',c2',c0,c3,ne];exact lp
 .rw[if_neg h45]
  by_cases c1:w.length=0
  .have hD:=QN4 c1;have n1:Qbh false w=none:=by simp[Qbh,c1]
   subst hD;simp[n1]
  have f1:(0:Int)<w.length:=by omega
  have f5:0<w.length:=by omega
  have f2:¬((w[0]'f5).toNat:Int)=45:=by
   cases w with
   |nil=>simp at c1
   |cons d r=>simp only[List.head?_cons,Option.some.injEq] at h45;rw[<- UInt8.toNat_inj] at h45;grind
  have c1':¬(w.length:Int)=0:=by omega
  have ne:¬w=[]:=λe=>c1 (by rw[e];rfl);by_cases c2:9<w.length
  .have n1:Qbh false w=none:=by simp[Qbh,c2]
   have c2':(9:Int)<w.length:=by omega
   simp[f1,f2,f5,n1,c1',c2']
  have c2':¬(9:Int)<w.length:=by omega
  have hh:=head_of w f5;have fin:Qbh false w=Lib.decFrom 0 w->XJ prog K (FnF (QdT [Qbu.tmp 2,Qbu.tmp 3] (.xf [.int .i64 (((Qbh false w).map λ(m:Nat)=>(m:Int)).getD 0),.bool ((Qbh false w).map λ(m:Nat)=>(m:Int)).isSome]))) Qij [4,5,6,7] [] [AI.inBlock 0,AI.code QJF] [(4,.iv (.int .i64 1)),(5,.iv (.str w)),(6,.iv (.int .i64 0)),(7,.iv (.int .i64 0))] []:=λn1=>by rw[n1];exact QpX (K:=K) 1 (.inl rfl) w (by omega) _ _ (λm h=>by simp[h]) (λh=>by simp[h])
  by_cases c3:((w[0]'f5).toNat:Int)=48
  .by_cases c4:1<w.length
   .have n1:Qbh false w=none:=by simp[Qbh,c4,hh.2 c3]
    have c4':(1:Int)<w.length:=by omega
    simp[f1,f2,f5,n1,c1',c2',c3,c4']
   have n1:Qbh false w=Lib.decFrom 0 w:=by simp[Qbh,c1,c2,c4]
   have c4':¬(1:Int)<w.length:=by omega
   have lp:=fin n1;simp at lp;simp[f1,f2,f5,c1',c2',c3,c4',ne];exact lp
  .have n1:Qbh false w=Lib.decFrom 0 w:=by simp[Qbh,c1,c2,mt hh.1 c3]
   have lp:=fin n1;simp at lp;simp[f1,f2,f5,c1',c2',c3,ne];exact lp
def QwZ(t:Txt)(ht:t.length<=1000):Gd K 44 [.str t] (.xf [.str (XZ t).1,Qq (XZ t).2.1,.bool (XZ t).2.2]):=by
 apply Qb hK QG6 (by simp);have hsl:=spl_len t;have hwl:=QaL t;have hg:=QFK hK t ht;unfold XZ;cases hs:spl t with
 |nil=>exact absurd hs (Qd3 t [])
 |cons w ws=>
  rw[hs] at hg hsl hwl;simp at hsl;simp;apply cK (by simpa using hg);simp;refine Qe (λi=>[(3,AV.yl 3 ((Yc (ws.take i)).getD []).length),(5,AV.iv (strs (w::ws))),(6,AV.iv (.int .i64 ((i+1:Nat):Int)))]) (λi=>[(3,.arr 3 1 (emb (((Yc (ws.take i)).getD []).map λn=>[.int .i64 n])) 0)]) ws.length (λi=>(Yc (ws.take i)).isSome=true) (by simp[Yc]) ?_ ?_
  .intro h;rw[QN5] at h;have⟨l,hl⟩:=QOC.1 h;have hll:=Jg hl;have hn:=QFI hK w;rw[Qa Qso.eq_1];simp[hl];intro _ _;apply cK (by simpa using hn);simp
   try exact Iff.rfl
  intro i hi h ih;have⟨l,hl⟩:=QOC.1 h;have hll:=Jg hl;simp at hll;have hg2:=QFJ hK ws[i] (by grind);have e1:ws.take (i+1)=ws.take i++[ws[i]]:=QNW hi;rw[Qa Qso.eq_1];have hi2:((i:Int)+1)<(ws.length:Int)+1:=by omega
  have hi3:((i:Int)+1).toNat=i+1:=by omega
  cases hv:Qgu ws[i] with
  |none=>
   have hn:Yc ws=none:=by
    cases hq:Yc ws with
    |none=>rfl
    |some l'=>have:=Qct hq ws[i] (by simp);grind
   rw[hv] at hg2;simp[hi,hi2,hi3,hl];intro _;refine⟨by omega,cK (by simpa using hg2) ?_⟩;simp[hn]
  |some n=>
   rw[hv] at hg2;have e2:Yc (ws.take (i+1))=some (l++[n]):=by rw[e1,Qa4,hl,hv]
   have ih:=ih (by rw[e2];rfl);rw[e2] at ih;simp[hi,hi2,hi3,hl] at ih |-;intro _;refine⟨by omega,cK (by simpa using hg2) ?_⟩;simp;grind
omit hK
theorem QfB:∀l:List Txt,Lib.join l [32]=UZ l
 |[]=>rfl
 |[x]=>by simp[Lib.join,UZ]
 |x::y::r=>by have:=QfB (y::r);simp only[UZ];rw[<- this];simp[Lib.join]
def QAm(w:Txt)(hw:w.length<=1000):∃n,((Qgu w).isSome=true->n=(Qgu w).getD 0)/\Gd KW 140 [.str w] (.xf [.int .i64 n,.bool (Qgu w).isSome]):=by
 have g1:=QzH w hw;have g3:=QzG w [45];cases hv:Qgu w with
 |some v=>
  have⟨h1,h2,h3⟩:=QpL hv;have hb:=Lib.atoiAll_bounds h3;have g2:=QjO v hb;rw[h3] at g1;rw[h1] at g2;refine⟨v,λ_=>rfl,Qb hKW Qgi (by simp) ?_⟩;have h2':((Lib.trimPrefix w [45]).length:Int)<=9:=by omega
  simp;apply cK (by simpa using g1);simp;apply cK (by simpa using g2);simp;apply cK (by simpa using g3);simp[h2']
 |none=>
  cases ha:Lib.atoiAll w with
  |ok v=>
   have hb:=Lib.atoiAll_bounds ha;have g2:=QjO v hb;rw[ha] at g1;refine⟨v,λh=>by simp at h,Qb hKW Qgi (by simp) ?_⟩;simp;apply cK (by simpa using g1);simp;apply cK (by simpa using g2);by_cases hi:Lib.itoa v=w
   .have hl:¬(Lib.trimPrefix w [45]).length<=9:=λh=>by
     have:=Qqa hi h;grind
    have hl':¬((Lib.trimPrefix w [45]).length:Int)<=9:=by omega
    simp[hi];apply cK (by simpa using g3);simp;omega
   simp[hi]
  |range=>rw[ha] at g1;refine⟨Lib.atoiSat w,λh=>by simp at h,Qb hKW Qgi (by simp) ?_⟩;simp;apply cK (by simpa using g1);simp
  |_=>rw[ha] at g1;refine⟨0,λh=>by simp at h,Qb hKW Qgi (by simp) ?_⟩;simp;apply cK (by simpa using g1);simp
def QfO(e:Int)(l:List Int)(h:e=0->OkL l):Gd KW 197 [.int .i64 e,Qq l] (.str (XX l e)):=by
 apply Qb hKW QDv (by simp);unfold XX QtX;by_cases h0:e=0;rotate_left
 .by_cases h3:e=3
  .simp[h3,QnP]
  simp[h0,h3,tNo]
 .subst h0;have hl:=h rfl;have h1:=hl.1;by_cases hne:l=[]
  .subst hne;simp[QnP]
  .have hpos:=QO7.2 hne;have hne':¬(l.length:Int)=0:=by omega
   simp[hne,hne'];intro _;refine Qe (λi=>[(5,AV.yl 5 i),(16,AV.iv (Qq l)),(17,AV.iv (.int .i64 l.length)),(18,AV.iv (.int .i64 (i:Nat)))]) (λi=>[(5,.arr 9 1 (emb (((l.take i).map Lib.itoa).map λs=>[.str s])) 0)]) l.length (λ_=>True) trivial ?_ ?_
   .intro _;have hj:=Qer hl l.length;rw[QN5] at hj;have hg:=Qzh (l.map Lib.itoa) (by simpa using h1) (by rw[QfB];omega);rw[QfB] at hg;rw[Qa QlC.eq_1];simp[-List.map_map,Qbg];rw[QN1 (by simp)];apply Qd (by simpa using hg) (.inr rfl);simp
   .intro i hi _ ih;have hg:=QjO l[i] (by have:=hl.2 l[i] (QN0 hi);omega);have e3:List.take (i+1) (List.map ((λs=>[IV.str s])∘Lib.itoa) l)=List.take i (List.map ((λs=>[IV.str s])∘Lib.itoa) l)++[[.str (Lib.itoa l[i])]]:=by
     rw[QNW (by simpa using hi)]
     simp
    rw[Qa QlC.eq_1];simp[hi] at ih |-;rw[e3] at ih;apply cK (by simpa using hg);simp;grind
def QcZ(l:List Int)(e:Int)(h:e=0->OkL l):Gd KW 102 [Qq l,.int .i64 e] (.str (XX l e)):=by apply Qb hKW QEs (by simp);have hg:=QfO e l h;simp;apply cK (by simpa using hg);simp
def QfV(n e:Int)(h:e=0->OkL [n]):Gd KW 107 [.int .i64 n,.int .i64 e] (.str (XX [n] e)):=by apply Qb hKW QEp (by simp);have hg:=QfO e [n] h;simp;apply cK (by simpa using hg);simp
def QfU(a b e:Int)(h:e=0->OkL [a,b]):Gd KW 110 [.agg [.int .i64 a,.int .i64 b],.int .i64 e] (.str (XX [a,b] e)):=by apply Qb hKW QEn (by simp);have hg:=QfO e [a,b] h;simp;apply cK (by simpa using hg);simp
def QfT(n e:Int)(h:e=0->n=1\/n=2\/n=3):Gd KW 119 [.int .i64 n,.int .i64 e] (.str (qi n e)):=by
 apply Qb hKW QEi (by simp);unfold qi;by_cases h0:e=0
 .rcases h h0 with rfl|rfl|rfl<;>simp[h0,QiF,Qo9,Qe8]
 have hg:=QfO e [] (λh=>absurd h h0);simp[h0];apply cK (by simpa using hg);simp
abbrev Sml(n:Int):Prop:=-1000000000000000<=n/\n<=1000000000000000
def UD{l:List Int}(h:∀x∈l,Sml x):Sml (span l).1/\Sml (span l).2:=by
 by_cases hne:l=[]
 .subst hne;simp[Sml]
 have⟨h1,h2⟩:=Qfc l hne;grind
def QgH(l:List Int)(lo hi:Int)(h1: -1000000<=lo)(h3:hi<=1000000)(h4:hi-lo<=999999):OkL (Z7 l lo hi):=by
 refine⟨?_,λn hn=>?_⟩
 .have:=Wn l lo (hi+1-lo).toNat;unfold Z7;omega
 have:=(Vm l lo hi n).1 hn;omega
def QnV(l:List Int):(Jv l).length<=l.length:=by unfold Jv;rw[List.length_mergeSort,QN9];exact Qno l
def Qn4(c:Ql):(QI c).length<=2 ^ ZF c.za:=by unfold QI;grind
def QiW{c:Ql}(hc:OkC c):(QI c).length<=4096:=by have h1:=Qn4 c;have h2:=Wk c.za;have h3:=hc.len;have h4:2 ^ ZF c.za<=2 ^ 12:=QOV (by omega) (by omega);omega
def Qmm{c:Ql}(hc:OkC c)(f:Nat->Int)(h:∀n,-1000<=f n/\f n<=1000):OkL (Jv ((QI c).map f)):=by
 refine⟨?_,λn hn=>?_⟩
 .have h1:=QnV ((QI c).map f);have h2:=QiW hc;grind
 rw[J4] at hn;grind
def QBa{c:Ql}(hc:OkC c)(e:Nat->Int):∀x∈cab c.za e c.za.length,x<12:=λx hx=>by have h1:=Wf c.za e c.za.length x hx;have h2:=QgC c.za c.za.length;have h3:=hc.len;omega
def Qr8{c:Ql}(hc:OkC c)(e:Nat->Int):(cab c.za e c.za.length).length<=12:=by have h1:=ZW e hc.za c.za.length (QN3 _) (QN3 _);have h2:=OkD.cnt hc.za c.za.length (QN3 _) (QN3 _);have h3:=hc.len;omega
def Qws{c:Ql}(hc:OkC c)(n:Int):OkL (QnI c n):=by
 unfold QnI;split
 .refine Qmm hc _ λk=>?_;unfold Qtf;have:=QBa hc (Zx c.za k);rw[List.getD_eq_getElem?_getD];cases h:(cab c.za (Zx c.za k) c.za.length)[n.toNat]? with
  |none=>simp
  |some x=>have:=this x (QOh h);simp;omega
 exact Qft
def QoY{c:Ql}(hc:OkC c)(n:Int):OkL (Qe0 c n):=by
 unfold Qe0;split
 .refine Qmm hc _ λk=>?_;unfold QdX XM fi;have h1:=Qr8 hc (Zx c.za k);grind
 exact Qft
def Qm8{c:Ql}(hc:OkC c):OkL [(YT c).1]:=by
 have h1:=hc.slen;unfold YT;rw[if_pos hc];split
 .rename_i n hn;unfold Wb at hn;have:=List.mem_of_find?_eq_some hn;rw[QOr] at this;exact YL (by simp only;omega)
 exact YL (by simp)
def Qjf{m:Machine}(w mn:Int):OkL [(XY m w mn).1,(XY m w mn).2]:=by
 have key:∀s∈tL m (Vh w mn 0),Sml (qc m w mn s)/\Sml (upS m w mn s):=λs hs=>by have⟨hm,ha,ho⟩:=QxA hs;have ha:=of_decide_eq_true ha;have⟨n1,n2⟩:=hm.numB ho ha.1 ha.2.1;have⟨d1,d2⟩:=hm.denB ho;unfold qc upS Sml;have q1:=QOB n1 (b:=den s);have q2:=QOB (show 0<=num m s w mn+den s-1 by omega) (b:=den s);rw[q1,q2];have a1:=Int.ediv_nonneg n1 (show 0<=den s by omega);have a2:=Int.ediv_le_self (den s) n1;have a3:=Int.ediv_nonneg (show 0<=num m s w mn+den s-1 by omega) (show 0<=den s by omega);have a4:=Int.ediv_le_self (den s) (show 0<=num m s w mn+den s-1 by omega);omega
 unfold XY;refine Qfs (UD λx hx=>?_).1 (UD λx hx=>?_).2
 all_goals grind
def Qnu(p:Qf)(n:Int):OkL (Uh p n):=QgH _ 0 12 (by omega) (by omega) (by omega)
def QmN(p:Qf)(n:Int):OkL [(Yx p n).1,(Yx p n).2]:=by
 unfold Yx;split
 .exact Qjf _ _
 exact Qfs (by simp) (by simp)
def Qri{p:Qf}(hp:OkP p):OkL [(rFail p).1,(rFail p).2]:=by
 have h1:p.zf.length<=12:=by rw[hp.many];exact QOz (Qee _) hp.zc.len
 have key:∀x∈(kL p true).map (λt=>(ZO p t:Int)),Sml x:=λx hx=>by obtain⟨t,_,rfl⟩:=QOb.1 hx;have:=QfZ p t;omega
 exact Qfs (UD key).1 (UD key).2
def QEv{α:Type}{pc:Nat->List α}{n:Nat}{x:α}(h:x∈acc pc n):∃i<n,x∈pc i:=by unfold acc at h;grind
def QpH{p:Qf}(hp:OkP p):OkL (Qbf p):=by
 have h2:=OkD.cnt hp.zc.za p.zc.za.length (QN3 _) (QN3 _);have h3:=hp.zc.len;have h4:(ZV p.zc.za).toNat<=12:=by unfold ZV;omega
 unfold Qbf;split
 .refine⟨?_,λn hn=>?_⟩
  .refine QOz (YO _ 1 (λi=>?_) _) (by omega);split<;>simp
  have⟨i,hi,hx⟩:=QEv hn;grind
 exact Qft
def Qmb(p:Qf):OkL [(Yw p).1]:=by
 have h:=Qpz p;unfold Yw;split
 .split
  .exact YL (by simp)
  exact YL (by simp only;omega)
 exact YL (by simp)
def Qmd(p:Qf):OkL [(YS p).1]:=by
 unfold YS;split
 .unfold Xq;split
  .split
   .exact YL (by simp)
   have:=(Qog p.zb (tL p.zb (Vh 0 0 p.zo)) 0 p.zo).1;exact YL (by simp only;omega)
  exact YL (by simp)
 exact YL (by simp)
def Qd2(u:Za):OkL [(span ((uL u true).map YY)).1,(span ((uL u true).map YY)).2]:=by
 have key:∀x∈(uL u true).map YY,Sml x:=λx hx=>by obtain⟨t,ht,rfl⟩:=QOb.1 hx;have:=Qmg ht;unfold YY Sml;omega
 exact Qfs (UD key).1 (UD key).2
def QsU(u:Za):OkL [(W4 u).1]:=by
 unfold W4;split
 .split
  .rename_i n hn;unfold Qbn at hn;have:=List.mem_of_find?_eq_some hn;rw[QOr] at this;exact YL (by simp only;omega)
  exact YL (by simp)
 exact YL (by simp)
def Qpu(u:Za)(n:Int):OkL (Qfn u n):=by
 unfold Qfn;split
 .rename_i h;have⟨hp,hb,_⟩:=Wj h;have hb:=of_decide_eq_true hb;simp only[inR] at hb;have y9:n.toNat<u.zi.length:=by omega
  have hr:=hp.zi _ (QN0 y9);rw[List.getD_eq_getElem?_getD,QNX y9,QOG];simp only[V3,inR] at hr;exact QgH _ _ _ (by omega) (by omega) (by omega)
 exact Qft
def Qb2(a b:Int):Xu a b=1\/Xu a b=2\/Xu a b=3:=by unfold Xu;omega
def QvE{p:Qf}(h:kE p true=0):rCond p=1\/rCond p=2\/rCond p=3:=by unfold rCond;rw[if_pos h];exact Qb2 _ _
def Qux{p:Qf}(h:kE p true=0):rGood p=1\/rGood p=2\/rGood p=3:=by unfold rGood;rw[if_pos h];exact Qb2 _ _
def Qn9{p:Qf}{n:Int}(h:kE p (JR p n)=0):rProved p n=1\/rProved p n=2\/rProved p n=3:=by unfold rProved;rw[if_pos h];exact Qb2 _ _
def Qqi{u:Za}{n:Int}(h:uE u (W7 n)=0):Ug u n=1\/Ug u n=2\/Ug u n=3:=by unfold Ug V0;omega
def Qh{h:Qg}(ho:okH h):QT h:=by have h1:=ho.1.zc.len;have h2:=ho.1.zc.slen;have h3:=ho.1.zb.len;have h4:=ho.1.zb.blen;have h5:=ho.1.many;have h6:=Qee h.ze.zc.za;have h7:=ho.2.rlen;have h8:=ho.2.xlen;exact⟨⟨by omega,by omega,by omega,by omega,by omega⟩,by omega,by omega⟩
def Qwa:ZY prog 101 QIl [0]:=⟨_,func101,by kernel_rfl⟩
def Qv9:ZY prog 104 QIk [0]:=⟨_,func104,by kernel_rfl⟩
def Qv8:ZY prog 106 QIj [0]:=⟨_,func106,by kernel_rfl⟩
def Qv7:ZY prog 109 QIi [0]:=⟨_,func109,by kernel_rfl⟩
def Qv6:ZY prog 112 QIh [0]:=⟨_,func112,by kernel_rfl⟩
def Qv5:ZY prog 114 QIg [0]:=⟨_,func114,by kernel_rfl⟩
def Qv4:ZY prog 116 QIf [0]:=⟨_,func116,by kernel_rfl⟩
def Qv3:ZY prog 118 QIe [0]:=⟨_,func118,by kernel_rfl⟩
def Qv2:ZY prog 121 QId [0]:=⟨_,func121,by kernel_rfl⟩
def Qv1:ZY prog 123 QIc [0]:=⟨_,func123,by kernel_rfl⟩
def Qv0:ZY prog 125 QIb [0]:=⟨_,func125,by kernel_rfl⟩
def QvZ:ZY prog 127 QIa [0]:=⟨_,func127,by kernel_rfl⟩
def QvY:ZY prog 129 QH9 [0]:=⟨_,func129,by kernel_rfl⟩
def QvX:ZY prog 131 QH8 [0]:=⟨_,func131,by kernel_rfl⟩
def QvW:ZY prog 133 QH7 [0]:=⟨_,func133,by kernel_rfl⟩
def QvV:ZY prog 135 QH6 [0]:=⟨_,func135,by kernel_rfl⟩
def QvU:ZY prog 137 QH5 [0]:=⟨_,func137,by kernel_rfl⟩
def Quv(h:Qg)(a:Int)(ho:okH h)(hf:Vg h):Gh KW 101 (.loc 0 0::[Qq [a]].map .iv) (QQ h) [0] (.iv (.str (Z6 h .who [a]))) (QQ h):=by have hc:=ho.1.zc;have⟨⟨h1,h2,h3,h4,h5⟩,h6,h7⟩:=Qh ho;apply Qx Qwa rfl (by simp[QIl]);generalize hG:WN 4 (Z6 h .who [a]) h=G;have g1:=Qq6 hKW h.ze.zc a h1 h2;have g2:=QcZ (QnI h.ze.zc a) (Xb h.ze.zc (plB h.ze.zc a)) (λ_=>Qws hc a);have e1:(if Xb h.ze.zc (decide (inR a 0 (ZV h.ze.zc.za-1)))=0 then Jv ((QI h.ze.zc).map (Qtf h.ze.zc a)) else [])=QnI h.ze.zc a:=rfl;have e2:Xb h.ze.zc (decide (inR a 0 (ZV h.ze.zc.za-1)))=Xb h.ze.zc (plB h.ze.zc a):=rfl;rw[e1,e2] at g1;simp[QIl];apply cK (by simpa using g1);simp;apply cK (by simpa using g2);simp;rw[<- hG];exact QX rfl rfl (by simp[Qc])
def Quu(h:Qg)(a:Int)(ho:okH h)(hf:Vg h):Gh KW 104 (.loc 0 0::[Qq [a]].map .iv) (QQ h) [0] (.iv (.str (Z6 h .wher [a]))) (QQ h):=by have hc:=ho.1.zc;have⟨⟨h1,h2,h3,h4,h5⟩,h6,h7⟩:=Qh ho;apply Qx Qv9 rfl (by simp[QIk]);generalize hG:WN 4 (Z6 h .wher [a]) h=G;have g1:=QAC hKW h.ze.zc a h1 h2;have g2:=QcZ (Qe0 h.ze.zc a) (Xb h.ze.zc (ZI h.ze.zc a)) (λ_=>QoY hc a);have e1:(if Xb h.ze.zc (ZI h.ze.zc a)=0 then Jv ((QI h.ze.zc).map (QdX h.ze.zc a)) else [])=Qe0 h.ze.zc a:=rfl;rw[e1] at g1;simp[QIk];apply cK (by simpa using g1);simp;apply cK (by simpa using g2);simp;rw[<- hG];exact QX rfl rfl (by simp[Qc])
def Qut(h:Qg)(ho:okH h)(hf:Vg h):Gh KW 106 (.loc 0 0::[Qq []].map .iv) (QQ h) [0] (.iv (.str (Z6 h .first []))) (QQ h):=by have hc:=ho.1.zc;have⟨⟨h1,h2,h3,h4,h5⟩,h6,h7⟩:=Qh ho;apply Qx Qv8 rfl (by simp[QIj]);generalize hG:WN 4 (Z6 h .first []) h=G;have g1:=QAB hKW h.ze.zc h1 h2;have g2:=QfV (YT h.ze.zc).1 (YT h.ze.zc).2 (λ_=>Qm8 hc);simp[QIj];apply cK (by simpa using g1);simp;apply cK (by simpa using g2);simp;rw[<- hG];exact QX rfl rfl (by simp[Qc])
def Qus(h:Qg)(a b:Int)(ho:okH h)(hf:Vg h):Gh KW 109 (.loc 0 0::[Qq [a,b]].map .iv) (QQ h) [0] (.iv (.str (Z6 h .pulls [a,b]))) (QQ h):=by have hc:=ho.1.zc;have⟨⟨h1,h2,h3,h4,h5⟩,h6,h7⟩:=Qh ho;apply Qx Qv7 rfl (by simp[QIi]);generalize hG:WN 4 (Z6 h .pulls [a,b]) h=G;have g1:=Qq5 hKW h.ze.zb a b h3 h4;have g2:=QfU (XY h.ze.zb a b).1 (XY h.ze.zb a b).2 (tE h.ze.zb (Vh a b 0)) (λ_=>Qjf a b);simp[QIi];apply cK (by simpa using g1);simp;apply cK (by simpa using g2);simp;rw[<- hG];exact QX rfl rfl (by simp[Qc])
def Qur(h:Qg)(a:Int)(ho:okH h)(hf:Vg h):Gh KW 112 (.loc 0 0::[Qq [a]].map .iv) (QQ h) [0] (.iv (.str (Z6 h .z5 [a]))) (QQ h):=by have hc:=ho.1.zc;have⟨⟨h1,h2,h3,h4,h5⟩,h6,h7⟩:=Qh ho;apply Qx Qv6 rfl (by simp[QIh]);generalize hG:WN 4 (Z6 h .z5 [a]) h=G;have g1:=QAA hKW h.ze a hf.ze;have g2:=QcZ (Uh h.ze a) (kE h.ze (Q0 h.ze a)) (λ_=>Qnu h.ze a);simp[QIh];apply cK (by simpa using g1);simp;apply cK (by simpa using g2);simp;rw[<- hG];exact QX rfl rfl (by simp[Qc])
def Quq(h:Qg)(a:Int)(ho:okH h)(hf:Vg h):Gh KW 114 (.loc 0 0::[Qq [a]].map .iv) (QQ h) [0] (.iv (.str (Z6 h .loads [a]))) (QQ h):=by
 have hc:=ho.1.zc;have⟨⟨h1,h2,h3,h4,h5⟩,h6,h7⟩:=Qh ho;apply Qx Qv5 rfl (by simp[QIg]);generalize hG:WN 4 (Z6 h .loads [a]) h=G;have g1:=QAz hKW h.ze a hf.ze;have g2:=QfU (Yx h.ze a).1 (Yx h.ze a).2 (Qcn h.ze a) (λ_=>QmN h.ze a);have e1:(if kE h.ze (Q0 h.ze a)=0 then(XY h.ze.zb (tr h.ze a.toNat).zm (tr h.ze a.toNat).zn).1 else 0)=(Yx h.ze a).1:=by unfold Yx;split<;>rfl
 have e2:(if kE h.ze (Q0 h.ze a)=0 then(XY h.ze.zb (tr h.ze a.toNat).zm (tr h.ze a.toNat).zn).2 else 0)=(Yx h.ze a).2:=by unfold Yx;split<;>rfl
 have e3:(if kE h.ze (Q0 h.ze a)=0 then tE h.ze.zb (Vh (tr h.ze a.toNat).zm (tr h.ze a.toNat).zn 0) else kE h.ze (Q0 h.ze a))=Qcn h.ze a:=rfl;rw[e1,e2,e3] at g1;simp[QIg];apply cK (by simpa using g1);simp;apply cK (by simpa using g2);simp;rw[<- hG];exact QX rfl rfl (by simp[Qc])
def Qup(h:Qg)(ho:okH h)(hf:Vg h):Gh KW 116 (.loc 0 0::[Qq []].map .iv) (QQ h) [0] (.iv (.str (Z6 h .y6 []))) (QQ h):=by have hc:=ho.1.zc;have⟨⟨h1,h2,h3,h4,h5⟩,h6,h7⟩:=Qh ho;apply Qx Qv4 rfl (by simp[QIf]);generalize hG:WN 4 (Z6 h .y6 []) h=G;have g1:=QAy hKW h.ze hf.ze;have g2:=QfU (rFail h.ze).1 (rFail h.ze).2 (kE h.ze true) (λ_=>Qri ho.1);simp[QIf];apply cK (by simpa using g1);simp;apply cK (by simpa using g2);simp;rw[<- hG];exact QX rfl rfl (by simp[Qc])
def Quo(h:Qg)(ho:okH h)(hf:Vg h):Gh KW 118 (.loc 0 0::[Qq []].map .iv) (QQ h) [0] (.iv (.str (Z6 h .y5 []))) (QQ h):=by have hc:=ho.1.zc;have⟨⟨h1,h2,h3,h4,h5⟩,h6,h7⟩:=Qh ho;apply Qx Qv3 rfl (by simp[QIe]);generalize hG:WN 4 (Z6 h .y5 []) h=G;have g1:=QAx hKW h.ze hf.ze;have g2:=QfT (rCond h.ze) (kE h.ze true) QvE;simp[QIe];apply cK (by simpa using g1);simp;apply cK (by simpa using g2);simp;rw[<- hG];exact QX rfl rfl (by simp[Qc])
def Qun(h:Qg)(a:Int)(ho:okH h)(hf:Vg h):Gh KW 121 (.loc 0 0::[Qq [a]].map .iv) (QQ h) [0] (.iv (.str (Z6 h .y7 [a]))) (QQ h):=by have hc:=ho.1.zc;have⟨⟨h1,h2,h3,h4,h5⟩,h6,h7⟩:=Qh ho;apply Qx Qv2 rfl (by simp[QId]);generalize hG:WN 4 (Z6 h .y7 [a]) h=G;have g1:=QAw hKW h.ze a hf.ze;have g2:=QfT (rProved h.ze a) (kE h.ze (JR h.ze a)) Qn9;simp[QId];apply cK (by simpa using g1);simp;apply cK (by simpa using g2);simp;rw[<- hG];exact QX rfl rfl (by simp[Qc])
def Qum(h:Qg)(ho:okH h)(hf:Vg h):Gh KW 123 (.loc 0 0::[Qq []].map .iv) (QQ h) [0] (.iv (.str (Z6 h .opn []))) (QQ h):=by have hc:=ho.1.zc;have⟨⟨h1,h2,h3,h4,h5⟩,h6,h7⟩:=Qh ho;apply Qx Qv1 rfl (by simp[QIc]);generalize hG:WN 4 (Z6 h .opn []) h=G;have g1:=QAv hKW h.ze hf.ze;have g2:=QcZ (Qbf h.ze) (kE h.ze true) (λ_=>QpH ho.1);simp[QIc];apply cK (by simpa using g1);simp;apply cK (by simpa using g2);simp;rw[<- hG];exact QX rfl rfl (by simp[Qc])
def Qul(h:Qg)(ho:okH h)(hf:Vg h):Gh KW 125 (.loc 0 0::[Qq []].map .iv) (QQ h) [0] (.iv (.str (Z6 h .good []))) (QQ h):=by have hc:=ho.1.zc;have⟨⟨h1,h2,h3,h4,h5⟩,h6,h7⟩:=Qh ho;apply Qx Qv0 rfl (by simp[QIb]);generalize hG:WN 4 (Z6 h .good []) h=G;have g1:=QAu hKW h.ze hf.ze;have g2:=QfT (rGood h.ze) (kE h.ze true) Qux;simp[QIb];apply cK (by simpa using g1);simp;apply cK (by simpa using g2);simp;rw[<- hG];exact QX rfl rfl (by simp[Qc])
def Quk(h:Qg)(ho:okH h)(hf:Vg h):Gh KW 127 (.loc 0 0::[Qq []].map .iv) (QQ h) [0] (.iv (.str (Z6 h .worth []))) (QQ h):=by have hc:=ho.1.zc;have⟨⟨h1,h2,h3,h4,h5⟩,h6,h7⟩:=Qh ho;apply Qx QvZ rfl (by simp[QIa]);generalize hG:WN 4 (Z6 h .worth []) h=G;have g1:=QAt hKW h.ze hf.ze;have g2:=QfV (Yw h.ze).1 (Yw h.ze).2 (λ_=>Qmb h.ze);simp[QIa];apply cK (by simpa using g1);simp;apply cK (by simpa using g2);simp;rw[<- hG];exact QX rfl rfl (by simp[Qc])
def Quj(h:Qg)(ho:okH h)(hf:Vg h):Gh KW 129 (.loc 0 0::[Qq []].map .iv) (QQ h) [0] (.iv (.str (Z6 h .zm []))) (QQ h):=by
 have hc:=ho.1.zc;have⟨⟨h1,h2,h3,h4,h5⟩,h6,h7⟩:=Qh ho;apply Qx QvY rfl (by simp[QH9]);generalize hG:WN 4 (Z6 h .zm []) h=G;have g1:=QAs hKW h.ze hf.ze;have g2:=QfV (YS h.ze).1 (YS h.ze).2 (λ_=>Qmd h.ze);have e1:(if kE h.ze true=0 then(Xq h.ze.zb 0 h.ze.zo).1 else 0)=(YS h.ze).1:=by unfold YS;split<;>rfl
 have e2:(if kE h.ze true=0 then(Xq h.ze.zb 0 h.ze.zo).2 else kE h.ze true)=(YS h.ze).2:=by unfold YS;split<;>rfl
 rw[e1,e2] at g1;simp[QH9];apply cK (by simpa using g1);simp;apply cK (by simpa using g2);simp;rw[<- hG];exact QX rfl rfl (by simp[Qc])
def Qui(h:Qg)(ho:okH h)(hf:Vg h):Gh KW 131 (.loc 0 0::[Qq []].map .iv) (QQ h) [0] (.iv (.str (Z6 h .stretch []))) (QQ h):=by have hc:=ho.1.zc;have⟨⟨h1,h2,h3,h4,h5⟩,h6,h7⟩:=Qh ho;apply Qx QvX rfl (by simp[QH8]);generalize hG:WN 4 (Z6 h .stretch []) h=G;have g1:=QAr hKW h.zq h6 h7;have g2:=QfU (span ((uL h.zq true).map YY)).1 (span ((uL h.zq true).map YY)).2 (uE h.zq true) (λ_=>Qd2 h.zq);simp[QH8];apply cK (by simpa using g1);simp;apply cK (by simpa using g2);simp;rw[<- hG];exact QX rfl rfl (by simp[Qc])
def Quh(h:Qg)(ho:okH h)(hf:Vg h):Gh KW 133 (.loc 0 0::[Qq []].map .iv) (QQ h) [0] (.iv (.str (Z6 h .best []))) (QQ h):=by have hc:=ho.1.zc;have⟨⟨h1,h2,h3,h4,h5⟩,h6,h7⟩:=Qh ho;apply Qx QvW rfl (by simp[QH7]);generalize hG:WN 4 (Z6 h .best []) h=G;have g1:=QAq hKW h.zq h6 h7;have g2:=QfV (W4 h.zq).1 (W4 h.zq).2 (λ_=>QsU h.zq);simp[QH7];apply cK (by simpa using g1);simp;apply cK (by simpa using g2);simp;rw[<- hG];exact QX rfl rfl (by simp[Qc])
def Qug(h:Qg)(a:Int)(ho:okH h)(hf:Vg h):Gh KW 135 (.loc 0 0::[Qq [a]].map .iv) (QQ h) [0] (.iv (.str (Z6 h .holds [a]))) (QQ h):=by have hc:=ho.1.zc;have⟨⟨h1,h2,h3,h4,h5⟩,h6,h7⟩:=Qh ho;apply Qx QvV rfl (by simp[QH6]);generalize hG:WN 4 (Z6 h .holds [a]) h=G;have g1:=QAp hKW h.zq a h6 h7;have g2:=QfT (Ug h.zq a) (uE h.zq (W7 a)) Qqi;simp[QH6];apply cK (by simpa using g1);simp;apply cK (by simpa using g2);simp;rw[<- hG];exact QX rfl rfl (by simp[Qc])
def Quf(h:Qg)(a:Int)(ho:okH h)(hf:Vg h):Gh KW 137 (.loc 0 0::[Qq [a]].map .iv) (QQ h) [0] (.iv (.str (Z6 h .zi [a]))) (QQ h):=by have hc:=ho.1.zc;have⟨⟨h1,h2,h3,h4,h5⟩,h6,h7⟩:=Qh ho;apply Qx QvU rfl (by simp[QH5]);generalize hG:WN 4 (Z6 h .zi [a]) h=G;have g1:=QAo hKW h.zq a h6 h7;have g2:=QcZ (Qfn h.zq a) (uE h.zq (Qn2 h.zq a)) (λ_=>Qpu h.zq a);simp[QH5];apply cK (by simpa using g1);simp;apply cK (by simpa using g2);simp;rw[<- hG];exact QX rfl rfl (by simp[Qc])
def chB(first:List Int)(rest:List QB):List (List Int):=(Qp rest).map (first++·)
def QA5(first:List Int):chB first []=[first]:=by simp[chB,Qp]
def QA4{first:List Int}{d:QB}{r:List QB}(h:d.z2=0\/d.z2=1):chB first (d::r)=chB (first++[d.z2]) r:=by unfold chB;rcases h with h|h<;>simp[Qp,VH,h]
def QA3{first:List Int}{d:QB}{r:List QB}(h:d.z2=2):chB first (d::r)=chB (first++[0]) r++chB (first++[1]) r:=by unfold chB;simp[Qp,VH,h,Function.comp_def]
def QA6(first:List Int)(r:List QB):(chB first r).length<=2 ^ r.length:=by unfold chB;rw[QN9];exact QOz (WK r) (QOV (by omega) (Wk r))
def Qnp{c:Ql}(hc:OkC c)(first:List Int)(k:Nat):(chB first (c.za.drop k)).length<=4096:=by
 have h1:=QA6 first (c.za.drop k)
 have h2:=hc.len;have h3:2 ^ (c.za.drop k).length<=2 ^ 12:=QOV (by omega) (by simp;omega);omega
def Qp6{ids:List Nat}{m:Nat->Nat}(a:List IV):scrL ids (rnL m (a.map AV.iv))=a.map AV.iv:=by rw[QaX,QbC,List.map_map];exact QO6 λ_ _=>by simp[scr]
include hK
def Qez{f:FuncId}{a b:IV}{e:TypeId}{sz:Nat}{rows:List (List IV)}{mv:Nat}(hg:Gp K f [a,b] (.yl 0 rows.length) e sz rows mv)(h1:mv<=rows.length):Gd K f [a,b] (.sl sz rows):=by apply VD hK (Wa (args:=[a,b].map .iv) (o:=[]) 0 hg (by simp[imms,imm]));simp[ren,imm,Qc,ZG,immss,h1];exact qj rows
theorem QmU(c:Ql)(hc:OkC c):∀(n:Nat)(first:List Int),first.length+n=c.za.length ->
  ∃mv,mv<=(chB first (c.za.drop first.length)).length/\Gp K 319 [chV c,Qq first] (.yl 0 ((chB first (c.za.drop first.length)).map λe=>[Qq e]).length) 45 1 ((chB first (c.za.drop first.length)).map λe=>[Qq e]) mv
 |0,first,hn=>by
  have e1:c.za.drop first.length=[]:=QOA (by omega)
  have e2:first.length=c.za.length:=by omega
  have hcl:=hc.len;rw[e1,QA5];refine⟨0,by simp,WB (.tmp 4) 13 hK QkS (by simp[Qtl]) rfl ?_⟩;simp[Qtl,e2,ZG]
 |n+1,first,hn=>by
  have y9:first.length<c.za.length:=by omega
  have hcl:=hc.len;have hne:¬(first.length:Int)=c.za.length:=by omega
  have hne':¬first.length=c.za.length:=by omega
  have e1:c.za.drop first.length=c.za[first.length]::c.za.drop (first.length+1):=QOq y9
  have hfrm:=Qm4 (hc.za first.length y9 y9);simp only[inR] at hfrm;have ih:∀x:Int,∃mv,mv<=(chB (first++[x]) (c.za.drop (first.length+1))).length/\Gp K 319 [chV c,Qq (first++[x])] (.yl 0 ((chB (first++[x]) (c.za.drop (first.length+1))).map λe=>[Qq e]).length) 45 1 ((chB (first++[x]) (c.za.drop (first.length+1))).map λe=>[Qq e]) mv:=λx=>by have:=QmU c hc n (first++[x]) (by simp;omega);simpa only[QOf,QOi,QOE,QOn] using this
  have hl4:∀x:Int,(chB (first++[x]) (c.za.drop (first.length+1))).length<=4096:=λx=>Qnp hc _ _;have take_all:∀x:Int,((first++[x]).map λn=>[IV.int IntKind.i64 n]).take (first.length+1)=(first++[x]).map λn=>[IV.int IntKind.i64 n]:=λx=>QN1 (by simp);rw[e1];by_cases h2:c.za[first.length].z2=2
  .have hn2:¬c.za[first.length].z2<2:=by omega
   have⟨m0,hm0,g0⟩:=ih 0;have⟨m1,hm1,g1⟩:=ih 1;have d1:=Qez hK g1 (by simpa using hm1);have q0:=hl4 0;have q1:=hl4 1;rw[QA3 h2,QOd];have hA:((chB (first++[0]) (c.za.drop (first.length+1))).map λe=>[Qq e]).length<=4096:=by simpa using q0
   have hB:((chB (first++[1]) (c.za.drop (first.length+1))).map λe=>[Qq e]).length<=4096:=by simpa using q1
   have hs:∀r∈((chB (first++[1]) (c.za.drop (first.length+1))).map λe=>[Qq e]),r.length=1:=by simp
   rw[<- QN9 (f:=λe=>[Qq e])] at hm0;have hlen:(chB (first++[0]) (c.za.drop (first.length+1))++chB (first++[1]) (c.za.drop (first.length+1))).length=(((chB (first++[0]) (c.za.drop (first.length+1))).map λe=>[Qq e])++((chB (first++[1]) (c.za.drop (first.length+1))).map λe=>[Qq e])).length:=by simp
   rw[hlen];clear hlen ih hl4 q0 q1 hm1 g1;generalize((chB (first++[0]) (c.za.drop (first.length+1))).map λe=>[Qq e])=A at *
   generalize((chB (first++[1]) (c.za.drop (first.length+1))).map λe=>[Qq e])=B at *
   refine⟨m0,by simp;omega,WB (.tmp 4) 37 hK QkS (by simp[Qtl]) rfl ?_⟩;cases first with
   |nil=>
    simp at y9 hne' h2 hn2;have hz:¬(0:Int)=c.za.length:=by omega
    simp[Qtl,ZG,hz,h2,y9];intro _;apply qG [some (chV c),none] (by simp) (ia:=32) (ib:=37) (rows:=[[.int .i64 0]]) (n:=1) (sz:=1) (et:=3) (mv:=0) (by simpa using g0) (by simp) (by simp[Qc]) (by simp[Qc]) (by simp) (by simp) (by simp);simp[ZG];apply VN [some (chV c),none] (by simp) (rows:=[[.int .i64 1]]) (n:=1) (sz:=1) (et:=3) (mv:=0) (r:=.sl 1 B) (by simpa using d1) (by simp) (by simp[Qc]) (by simp) (by simp);simp;exact⟨⟨hm0,by omega,by omega⟩,λa _=>Qp6 a⟩
   |cons y r=>
    simp at hne' y9 take_all;simp at h2 hn2;have hlt1:r.length+1<c.za.length:=y9;have hz:¬(r.length:Int)+1=c.za.length:=by omega
    have hz1:((r.length:Int)+1).toNat=r.length+1:=by omega
    have hz2:(r.length:Int)+1<c.za.length:=by omega
    have tk:∀x:Int,((y::r++[x]).map λn=>[IV.int IntKind.i64 n]).take (r.length+1+1)=(y::r++[x]).map λn=>[IV.int IntKind.i64 n]:=λx=>QN1 (by simp);simp[Qtl,ZG,hz,h2,hlt1,hz1];intro _ _ _;refine⟨by omega,by omega,by omega,?_⟩;apply qG [some (chV c),none] (by simp) (ia:=32) (ib:=37) (rows:=(y::r++[0]).map λn=>[.int .i64 n]) (n:=r.length+1+1) (sz:=1) (et:=3) (mv:=0) (by rw[tk];simpa using g0) (by simp) (by simp[Qc]) (by simp[Qc]) (by simp) (by simp) (by simp);simp[ZG];refine⟨by omega,by omega,?_⟩;apply VN [some (chV c),none] (by simp) (rows:=(y::r++[1]).map λn=>[.int .i64 n]) (n:=r.length+1+1) (sz:=1) (et:=3) (mv:=0) (r:=.sl 1 B) (by rw[tk];simpa using d1) (by simp) (by simp[Qc]) (by simp) (by simp);simp;exact⟨⟨hm0,by omega,by omega⟩,λa _=>Qp6 a⟩
  have h01:c.za[first.length].z2=0\/c.za[first.length].z2=1:=by omega
  have⟨m0,hm0,g0⟩:=ih c.za[first.length].z2;have q0:=hl4 c.za[first.length].z2;have hn2:c.za[first.length].z2<2:=by omega
  rw[QA4 h01];rw[<- QN9 (f:=λe=>[Qq e])] at hm0;have hA:((chB (first++[c.za[first.length].z2]) (c.za.drop (first.length+1))).map λe=>[Qq e]).length<=4096:=by simpa using q0
  rw[<- QN9 (f:=λe=>[Qq e])]
  clear ih hl4 q0;generalize((chB (first++[c.za[first.length].z2]) (c.za.drop (first.length+1))).map λe=>[Qq e])=A at *
  refine⟨m0,hm0,WB (.tmp 4) 30 hK QkS (by simp[Qtl]) rfl ?_⟩;cases first with
  |nil=>
   simp at y9 hne' h2 hn2 g0;have hz:¬(0:Int)=c.za.length:=by omega
   simp[Qtl,ZG,hz,hn2,y9];intro _;apply qG [some (chV c),none] (by simp) (ia:=24) (ib:=30) (rows:=[[.int .i64 c.za[0].z2]]) (n:=1) (sz:=1) (et:=3) (mv:=0) (by simpa using g0) (by simp) (by simp[Qc]) (by simp[Qc]) (by simp) (by simp) (by simp);simp[ZG];exact λa _=>QaX _ a
  |cons y r=>
   simp at hne' y9 take_all;simp at h2 hn2;have hlt1:r.length+1<c.za.length:=y9;have hz:¬(r.length:Int)+1=c.za.length:=by omega
   have hz1:((r.length:Int)+1).toNat=r.length+1:=by omega
   have tk:∀x:Int,((y::r++[x]).map λn=>[IV.int IntKind.i64 n]).take (r.length+1+1)=(y::r++[x]).map λn=>[IV.int IntKind.i64 n]:=λx=>QN1 (by simp);simp[Qtl,ZG,hz,hn2,hlt1,hz1];intro _ _ _;refine⟨by omega,by omega,by omega,?_⟩;apply qG [some (chV c),none] (by simp) (ia:=24) (ib:=30) (rows:=(y::r++[c.za[r.length+1].z2]).map λn=>[.int .i64 n]) (n:=r.length+1+1) (sz:=1) (et:=3) (mv:=0) (by rw[tk];simpa using g0) (by simp) (by simp[Qc]) (by simp[Qc]) (by simp) (by simp) (by simp);simp[ZG];exact λa _=>QaX _ a
omit hK
def teT(c:Ql)(i:Nat):List (List Int):=((Qp c.za).take i).filter λe=>decide ((QM c.za c.zg (Qt e):Int)<=c.zh)
def teL(c:Ql):List (List Int):=(Qp c.za).filter λe=>decide ((QM c.za c.zg (Qt e):Int)<=c.zh)
def JJ{c:Ql}(hc:OkC c):(Qp c.za).length<=4096:=by have:=Qnp hc [] 0;simpa[chB] using this
def qE{ds:List QB}{e:List Int}(h:e∈Qp ds):e.length=ds.length:=(Zc h).1
def Qtv(c:Ql)(i:Nat)(h:i<(Qp c.za).length):teT c (i+1)=teT c i++(if(QM c.za c.zg (Qt (Qp c.za)[i]):Int)<=c.zh then [(Qp c.za)[i]] else []):=by unfold teT;rw[QNW h,QOT];congr 1;by_cases hw:(QM c.za c.zg (Qt (Qp c.za)[i]):Int)<=c.zh<;>simp[hw]
def Qxx(c:Ql):teT c (Qp c.za).length=teL c:=by unfold teT teL;rw[QN5]
def Qoa(a b:Nat):((min a b:Nat):Int)=if b<a then(b:Int) else(a:Int):=by split<;>omega
def Qop{c:Ql}(h:∀j,j<c.zg.length->¬0<Qnb c (c.zg.take (j+1))):Wb c=none:=by unfold Wb;exact List.find?_eq_none.2 λj hj=>by simpa using h j (QOr.1 hj)
def Qoo{c:Ql}{i:Nat}(hi:i<c.zg.length)(h:∀j,j<i->¬0<Qnb c (c.zg.take (j+1)))(h1:0<Qnb c (c.zg.take (i+1))):Wb c=some i:=by unfold Wb;rw[QPD];exact⟨by simpa using h1,i,by simpa using hi,by simp,λj hj=>by simpa using h j hj⟩
def QtN{c:Ql}(hc:OkC c)(n:Nat):OkC ⟨c.za,c.zg.take n,c.zh⟩:=⟨hc.len,by have:=hc.slen;simp;omega,hc.zh,hc.za,λs hs=>hc.zg s (QOJ hs)⟩
def Qo8{c:Ql}(hc:OkC c):Zq c [] c.za=teL c:=by
 unfold Zq teL;rw[show((Qp c.za).map (([]:List Int)++·))=Qp c.za by simp];refine QPC λe he=>?_;have⟨h1,h2⟩:=Zc he
 have hch:Qt2 c.za e:=⟨h1,λi hi hi'=>by have hm:=Qc9 (h2 i hi hi');have⟨h3,h4⟩:=hm;refine⟨by simp only[inR];omega,λh=>by omega⟩⟩
 simp[Qoh,hch]
def Qxy{c:Ql}(hc:OkC c):teL c=[]↔QI c=[]:=by
 rw[<- Qo8 hc];constructor
 .intro h;cases hr:QI c with
  |nil=>rfl
  |cons n r=>have:=Wt hc (n:=n) (by rw[hr];simp);rw[h] at this;cases this
 .intro h;cases hr:Zq c [] c.za with
  |nil=>rfl
  |cons e r=>obtain⟨n,hn,_⟩:=WH hc (e:=e) (by rw[hr];simp);rw[h] at hn;cases hn
theorem Qnz:∀{a b:List Int},a.Pairwise (·<·)->b.Pairwise (·<·)->(∀x,x∈a↔x∈b)->a=b
 |[],[],_,_,_=>rfl
 |[],y::b,_,_,h=>absurd ((h y).2 (by simp)) (by simp)
 |x::a,[],_,_,h=>absurd ((h x).1 (by simp)) (by simp)
 |x::a,y::b,ha,hb,h=>by
  have h1:=List.pairwise_cons.1 ha;have h2:=List.pairwise_cons.1 hb;have hxy:x=y:=by
   have e1:=(h x).1 (by simp);have e2:=(h y).2 (by simp);rcases QN7.1 e1 with e1|e1
   .exact e1
   rcases QN7.1 e2 with e2|e2
   .exact e2.symm
   have:=h1.1 y e2;have:=h2.1 x e1;omega
  subst hxy;rw[Qnz h1.2 h2.2 λz=>?_];have hz:=h z;constructor
  .intro hm;rcases QN7.1 (hz.1 (QO2 _ hm)) with e|e
   .subst e;have:=h1.1 z hm;omega
   exact e
  intro hm;rcases QN7.1 (hz.2 (QO2 _ hm)) with e|e
  .subst e;have:=h2.1 z hm;omega
  exact e
def QaM{lo hi:Int}{l l':List Int}(h:∀x,x∈l↔x∈l')(hb:∀x∈l,lo<=x/\x<=hi):Z7 l lo hi=Jv l':=by refine Qnz (V8 l lo hi) (J3 l') λx=>?_;rw[Vm,J4,<- h x];exact⟨λh=>h.2.2,λh=>⟨(hb x h).1,(hb x h).2,h⟩⟩
def Qww{c:Ql}(hc:OkC c)(f:List Nat->Int)(x:Int):x∈((teL c).map λe=>f (cab c.za (Qt e) c.za.length))↔x∈((QI c).map λn=>f (cab c.za (Zx c.za n) c.za.length)):=by
 rw[<- Qo8 hc];constructor
 .intro h;obtain⟨e,he,rfl⟩:=QOb.1 h;have⟨n,hn,hb⟩:=WH hc he;exact QOb.2 ⟨n,hn,by rw[Vd c.za (Qt e) (Zx c.za n) hb]⟩
 intro h;obtain⟨n,hn,rfl⟩:=QOb.1 h;refine QOb.2 ⟨_,Wt hc hn,?_⟩;rw[Vd c.za (Zx c.za n) (Qt (Qf3 c.za n)) λi hi=>Qay _ _ _ hi]
def Qxu(c:Ql)(n:Int)(e:List Int):Int:=((cab c.za (Qt e) c.za.length).getD n.toNat 0:Nat)
def QHm{c:Ql}{b:Bool}(h:Xb c b=0):b=true:=by
 unfold Xb at h;split at h
 .split at h
  .assumption
  cases h
 cases h
def QnH{c:Ql}(hc:OkC c)(n:Int):Z7 ((if Xb c (plB c n)=0 then teL c else []).map (Qxu c n)) 0 12=QnI c n:=by
 unfold QnI;by_cases h:Xb c (plB c n)=0
 .rw[if_pos h,if_pos h]
  refine QaM (Qww hc λl=>(l.getD n.toNat 0:Nat)) λx hx=>?_;obtain⟨e,he,rfl⟩:=QOb.1 hx;unfold Qxu;have hcl:=hc.len;by_cases hi:n.toNat<(cab c.za (Qt e) c.za.length).length
  .have h1:=Wf c.za (Qt e) c.za.length _ (QN0 hi);have h2:wn c.za c.za.length<=c.za.length:=QgC _ _;rw[List.getD_eq_getElem?_getD,QNX hi,QOG];omega
  rw[List.getD_eq_getElem?_getD,QPx (by omega),Option.getD_none]
  omega
 .rw[if_neg h,if_neg h]
  rfl
def QnJ(c:Ql)(n:Int)(e:List Int):Int:=XM (cab c.za (Qt e) c.za.length) n
def QpE(l:List Nat)(n:Int): -1<=XM l n/\XM l n<=l.length:=by
 unfold XM fi;split
 .have:=List.findIdx_le_length (p:=λk:Nat=>decide ((k:Int)=n)) (xs:=l);omega
 omega
def Qs5(l:List QB):((Xv Q8 l 0).length:Int)=(Ql2 l:Nat):=by
 have:∀(l:List QB)(i:Nat),(l.filter Q8).length=(Xv Q8 l i).length:=by
  intro l;induction l with
  |nil=>intro i;rfl
  |cons d r ih=>
   intro i;simp only[Xv,List.filter_cons];cases Q8 d
   .simpa using ih (i+1)
   simpa using ih (i+1)
 unfold Ql2;rw[this l 0]
def QiB{c:Ql}(hc:OkC c)(n:Int):Z7 ((if Xb c (ZI c n)=0 then teL c else []).map (QnJ c n)) (-1) 12=Qe0 c n:=by
 unfold Qe0;by_cases h:Xb c (ZI c n)=0
 .rw[if_pos h,if_pos h]
  refine QaM (Qww hc λl=>XM l n) λx hx=>?_;obtain⟨e,he,rfl⟩:=QOb.1 hx;unfold QnJ;have hcl:=hc.len;have h1:=ZW (Qt e) hc.za c.za.length (QN3 _) (QN3 _);have h2:=OkD.cnt hc.za c.za.length (QN3 _) (QN3 _);have:=QpE (cab c.za (Qt e) c.za.length) n;omega
 .rw[if_neg h,if_neg h]
  rfl
include hK
def QqC(c:Ql)(hc:OkC c):Gd K 319 [chV c,Qq []] (.sl 1 ((Qp c.za).map λe=>[Qq e])):=by obtain⟨mv,h1,h2⟩:=QmU hK c hc c.za.length [] (by simp);have:=Qez hK h2 (by simpa using h1);simpa[chB] using this
def Qzw(c:Ql)(hl:c.za.length<=1000)(hs:c.zg.length<=1000):Gd K 252 [chV c] (.xf [.int .i64 (if OkC c then(QEG c c.zg:Int) else 0),.int .i64 (if OkC c then 0 else 20)]):=by
 apply Qb hK QCN (by simp);have g54:=QhU hK c hl hs;simp;apply Qd (by simpa using g54) (.inl rfl);by_cases hc:OkC c;rotate_left
 .simp[hc]
 .have g313:=QqC hK c hc;have h4:=JJ hc;simp[hc];intro _;apply Qd (by simpa using g313) (.inl rfl);simp;refine Zz (λi=>[(1,AV.iv (.ptr [Qr c.za,Qj c.zg,.int .i64 c.zh])),(5,AV.iv (.int .i64 (Qor c c.zg i:Nat))),(6,AV.iv (.sl 1 ((Qp c.za).map λe=>[Qq e]))),(7,AV.iv (.int .i64 (i:Nat)))]) (λ_=>[]) (Qp c.za).length ?_ ?_
  .rw[Qa Qlk.eq_1]
   have e:Qor c c.zg (Qp c.za).length=QEG c c.zg:=by unfold Qor QEG;rw[QN5]
   simp[e]
  .intro i hi ih;have g314:=QjE hK c (Qp c.za)[i] hc (by rw[qE (QN0 hi)];exact QN3 _);rw[Qoq c c.zg i hi,Qoa] at ih;rw[Qa Qlk.eq_1];simp[hi] at ih |-;intro _;apply Qd (by simpa using g314) (.inl rfl);simp;exact⟨by omega,ih⟩
def QAg(c:Ql)(hc:OkC c):Gd K 161 [chV c] (.xf [.int .i64 (YT c).1,.int .i64 (YT c).2]):=by
 apply Qb hK QDY (by simp);have hcl:=hc.len;have hsl:=hc.slen;have g54:=QhU hK c (by omega) (by omega);rw[if_pos hc] at g54;generalize hr:YT c=r;simp;apply Qd (by simpa using g54) (.inl rfl);simp;refine Qe (λi=>[(1,AV.iv (.ptr [Qr c.za,Qj c.zg,.int .i64 c.zh])),(5,AV.iv (.int .i64 (i:Nat)))]) (λ_=>[]) c.zg.length (λi=>∀j,j<i->¬0<Qnb c (c.zg.take (j+1))) (by simp) ?_ ?_
 .intro hQ;have hr:r=(0,3):=by
   rw[<- hr];unfold YT;rw[if_pos hc,Qop hQ]
  subst hr;rw[Qa QlO.eq_1];simp
 .intro i hi hQ ih;have hct:=QtN hc (i+1);have g264:=Qzw hK ⟨c.za,c.zg.take (i+1),c.zh⟩ (by simp;omega) (by simp;omega);rw[if_pos hct,if_pos hct] at g264;have hfe:QEG ⟨c.za,c.zg.take (i+1),c.zh⟩ (c.zg.take (i+1))=Qnb c (c.zg.take (i+1)):=QAH hct _;simp only[hfe] at g264;rw[Qa QlO.eq_1];by_cases hz:0<Qnb c (c.zg.take (i+1))
  .have hr:r=((i:Int),0):=by
    rw[<- hr];unfold YT;rw[if_pos hc,Qoo hi hQ hz]
   subst hr;simp[hi];intros;refine⟨by omega,by omega,λ_=>Qd (by simpa using g264) (.inl rfl) ?_⟩;simp;intro h;omega
  .have hz0:Qnb c (c.zg.take (i+1))=0:=by omega
   have ih:=ih λj hj=>by
    by_cases h:j=i
    .subst h;exact hz
    exact hQ j (by omega)
   rw[hz0] at g264;simp[hi] at ih |-;intros;refine⟨by omega,by omega,λ_=>Qd (by simpa using g264) (.inl rfl) ?_⟩;simp;exact⟨by omega,ih⟩
def QqL(c:Ql)(b:Bool)(hc:OkC c):Gd K 246 [chV c,.bool b] (.xf [.sl 1 (if Xb c b=0 then(teL c).map λe=>[Qq e] else []),.int .i64 (Xb c b)]):=by
 apply Qb hK QCS (by simp);have hcl:=hc.len;have hsl:=hc.slen;have g54:=QhU hK c (by omega) (by omega);have g313:=QqC hK c hc;have h4:=JJ hc;rw[if_pos hc] at g54;unfold Xb;rw[if_pos hc];simp;apply Qd (by simpa using g54) (.inl rfl);cases b with
 |false=>simp
 |true=>
  simp;apply Qd (by simpa using g313) (.inl rfl);simp;refine Zz (λi=>[(2,AV.iv (.ptr [Qr c.za,Qj c.zg,.int .i64 c.zh])),(7,AV.yl 7 (teT c i).length),(8,AV.iv (.sl 1 ((Qp c.za).map λe=>[Qq e]))),(9,AV.iv (.int .i64 (i:Nat)))]) (λi=>[(7,AO.arr 45 1 (emb ((teT c i).map λe=>[Qq e])) 0)]) (Qp c.za).length ?_ ?_
  .rw[Qa Qlm.eq_1]
   rw[Qxx];have hn:=Qxy hc;by_cases h0:teL c=[]
   .simp[h0,hn.1 h0]
   have h0':¬QI c=[]:=λh=>h0 (hn.2 h);simp[h0,h0']
  .intro i hi ih;have g314:=QjE hK c (Qp c.za)[i] hc (by rw[qE (QN0 hi)];exact QN3 _);have y9:(teT c i).length<=i:=by
    unfold teT;refine QOz (QOp _ _) ?_;simp;omega
   rw[Qtv c i hi] at ih;rw[Qa Qlm.eq_1];by_cases hw:(QM c.za c.zg (Qt (Qp c.za)[i]):Int)<=c.zh
   .rw[if_pos hw] at ih;simp[hi] at ih |-;intro _;apply Qd (by simpa using g314) (.inl rfl);simp[hw,hi];exact⟨by omega,by omega,ih⟩
   .rw[if_neg hw] at ih;simp[hi] at ih |-;intro _;apply Qd (by simpa using g314) (.inl rfl);simp[hw];exact⟨by omega,ih⟩
def QAi(c:Ql)(n:Int)(hc:OkC c):Gd K 158 [chV c,.int .i64 n] (.xf [Qq (QnI c n),.int .i64 (Xb c (plB c n))]):=by
 apply Qb hK QD1 (by simp);have hcl:=hc.len;have g259:Gd K 247 [chV c,.int .i64 n] (.bool (plB c n)):=QjN hK c n hc.za (by omega);have g258:=QqL hK c (plB c n) hc;have h4:=JJ hc;have hw:=QnH hc n;have hT:∀e∈(if Xb c (plB c n)=0 then teL c else []),e∈Qp c.za/\inR n 0 (ZV c.za-1):=λe he=>by
  split at he
  .rename_i h0;exact⟨(QOx.1 he).1,of_decide_eq_true (QHm h0)⟩
  cases he
 have hTl:(if Xb c (plB c n)=0 then teL c else []).length<=4096:=by
  split
  .exact QOz (QOp _ _) h4
  simp
 have hL:(if Xb c (plB c n)=0 then(teL c).map λe=>[Qq e] else [])=(if Xb c (plB c n)=0 then teL c else []).map λe=>[Qq e]:=by split<;>rfl
 rw[hL] at g258;generalize(if Xb c (plB c n)=0 then teL c else [])=T at *
 generalize Xb c (plB c n)=E at *;generalize plB c n=B at *;simp;apply Qd (by simpa using g259) (.inl rfl);simp;apply Qd (by simpa using g258) (.inl rfl);simp;refine Zz (λi=>[(1,AV.iv (.int .i64 n)),(2,AV.iv (.ptr [Qr c.za,Qj c.zg,.int .i64 c.zh])),(6,AV.iv (.sl 1 (T.map λe=>[Qq e]))),(7,AV.iv (.int .i64 E)),(8,AV.yl 8 ((T.take i).map (Qxu c n)).length),(9,AV.iv (.int .i64 (i:Nat)))]) (λi=>[(8,AO.arr 3 1 (emb (((T.take i).map (Qxu c n)).map λk=>[.int .i64 k])) 0)]) T.length ?_ ?_
 .have g261:=QjM hK (T.map (Qxu c n)) 0 12 (by omega) (by omega) (by omega);rw[hw] at g261;rw[Qa QlQ.eq_1];rw[QN5];simp[-List.map_map,Qbg];rw[QN1 (by simp)];intro _;apply Qd (by simpa[-List.map_map] using g261) (.inl rfl);simp
 .intro i hi ih;have⟨hm,hin⟩:=hT T[i] (QN0 hi);simp only[inR] at hin;have g260:=QcX hK c T[i] hc.za (by omega) (by rw[qE hm];exact QN3 _);have hln:=ZW (Qt T[i]) hc.za c.za.length (QN3 _) (QN3 _);have hn:n.toNat<(cab c.za (Qt T[i]) c.za.length).length:=by unfold ZV at hin;omega
  have hn':n<((cab c.za (Qt T[i]) c.za.length).length:Int):=by unfold ZV at hin;omega
  have hwe:Qxu c n T[i]=((cab c.za (Qt T[i]) c.za.length)[n.toNat]:Nat):=by unfold Qxu;rw[List.getD_eq_getElem?_getD,QNX hn,QOG]
  rw[QNW hi,QOd,QO3,hwe] at ih;rw[Qa QlQ.eq_1];simp[hi] at ih |-;intros;apply Qd (by simpa using g260) (.inl rfl);simp[hn,hn'];exact⟨by omega,by omega,by omega,ih⟩
def Qzx(l:List Nat)(link:Int)(hl:l.length<=1000000):Gd K 251 [ZM l,.int .i64 link] (.int .i64 (XM l link)):=by
 apply Qb hK QCO (by simp);simp;refine Qe (λi=>[(0,AV.iv (ZM l)),(1,AV.iv (.int .i64 link)),(5,AV.iv (.int .i64 (i:Nat)))]) (λ_=>[]) l.length (λi=>∀k,(h:k<l.length)->k<i->¬((l[k]:Nat):Int)=link) (by intro k _ h;omega) ?_ ?_
 .intro h;rw[Qa Qll.eq_1]
  have:XM l link = -1:=by unfold XM fi;rw[if_neg];intro ha;have⟨x,hx,hd⟩:=QOO.1 ha;obtain⟨k,hk,rfl⟩:=QON hx;exact h k hk hk (of_decide_eq_true hd)
  simp[this]
 .intro i hi h ih;rw[Qa Qll.eq_1];by_cases he:((l[i]:Nat):Int)=link
  .have:XM l link=i:=by
    unfold XM fi;rw[if_pos (QOO.2 ⟨l[i],QN0 hi,decide_eq_true he⟩)];have:l.findIdx (λk:Nat=>decide ((k:Int)=link))=i:=by rw[List.findIdx_eq hi];exact⟨decide_eq_true he,λj hj=>decide_eq_false (h j (by omega) hj)⟩
    rw[this]
   simp[hi,he,this]
  .have hn:∀k,(h:k<l.length)->k<i+1->¬((l[k]:Nat):Int)=link:=λk hk hki=>by
    rcases QO4.1 hki with h1|rfl
    .exact h k hk h1
    exact he
   have ih:=ih hn;simp[hi,he] at ih |-
   repeat' first|omega|exact ih|intro _|apply And.intro
def QAh(c:Ql)(n:Int)(hc:OkC c):Gd K 159 [chV c,.int .i64 n] (.xf [Qq (Qe0 c n),.int .i64 (Xb c (ZI c n))]):=by
 apply Qb hK QD0 (by simp);have hcl:=hc.len;have g262:=QqK hK c n (by omega);have e0:decide (inR n 0 ((Xv Q8 c.za 0).length-1))=ZI c n:=by unfold ZI;rw[Qs5]
 rw[e0] at g262;have g258:=QqL hK c (ZI c n) hc;have h4:=JJ hc;have hw:=QiB hc n;have hT:∀e∈(if Xb c (ZI c n)=0 then teL c else []),e∈Qp c.za:=λe he=>by
  split at he
  .exact(QOx.1 he).1
  cases he
 have hTl:(if Xb c (ZI c n)=0 then teL c else []).length<=4096:=by
  split
  .exact QOz (QOp _ _) h4
  simp
 have hL:(if Xb c (ZI c n)=0 then(teL c).map λe=>[Qq e] else [])=(if Xb c (ZI c n)=0 then teL c else []).map λe=>[Qq e]:=by split<;>rfl
 rw[hL] at g258;generalize(if Xb c (ZI c n)=0 then teL c else [])=T at *
 generalize Xb c (ZI c n)=E at *;generalize ZI c n=B at *;simp;apply Qd (by simpa using g262) (.inl rfl);simp;apply Qd (by simpa using g258) (.inl rfl);simp;refine Zz (λi=>[(1,AV.iv (.int .i64 n)),(2,AV.iv (.ptr [Qr c.za,Qj c.zg,.int .i64 c.zh])),(6,AV.iv (.sl 1 (T.map λe=>[Qq e]))),(7,AV.iv (.int .i64 E)),(8,AV.yl 8 ((T.take i).map (QnJ c n)).length),(9,AV.iv (.int .i64 (i:Nat)))]) (λi=>[(8,AO.arr 3 1 (emb (((T.take i).map (QnJ c n)).map λk=>[.int .i64 k])) 0)]) T.length ?_ ?_
 .have g261:=QjM hK (T.map (QnJ c n)) (-1) 12 (by omega) (by omega) (by omega);rw[hw] at g261;rw[Qa QlP.eq_1];rw[QN5];simp[-List.map_map,Qbg];rw[QN1 (by simp)];intro _;apply Qd (by simpa[-List.map_map] using g261) (.inl rfl);simp
 intro i hi ih;have hm:=hT T[i] (QN0 hi);have g260:=QcX hK c T[i] hc.za (by omega) (by rw[qE hm];exact QN3 _);have hlc:(cab c.za (Qt T[i]) c.za.length).length<=12:=by have h1:=ZW (Qt T[i]) hc.za c.za.length (QN3 _) (QN3 _);have h2:=OkD.cnt hc.za c.za.length (QN3 _) (QN3 _);omega
 have g263:=Qzx hK (cab c.za (Qt T[i]) c.za.length) n (by omega);have hwe:XM (cab c.za (Qt T[i]) c.za.length) n=QnJ c n T[i]:=rfl;rw[hwe] at g263;rw[QNW hi,QOd,QO3] at ih;rw[Qa QlP.eq_1];simp[hi] at ih |-;intros;apply Qd (by simpa using g260) (.inl rfl);simp;apply Qd (by simpa using g263) (.inl rfl);simp;exact⟨by omega,by omega,ih⟩
omit hK
def Qol(h:Qg)(a:Int)(ho:okH h)(hf:Vg h):Gd KW 82 [hoV h,.str [119,104,111],Qq [a]] (.str (Z6 h .who [a])):=by have hc:=ho.1.zc;have⟨⟨h1,h2,h3,h4,h5⟩,h6,h7⟩:=Qh ho;apply Qb hKW YF (by simp);have g1:=QAi hKW h.ze.zc a hc;have g2:=Up hKW (QnI h.ze.zc a) (Xb h.ze.zc (plB h.ze.zc a)) (λ_=>Qws hc a);generalize hY:Z6 h .who [a]=Y;simp;apply cK (by simpa using g1);simp;apply cK (by simpa using g2);simp;exact hY
def QhM(h:Qg)(a:Int)(ho:okH h)(hf:Vg h):Gd KW 82 [hoV h,.str [119,104,101,114,101],Qq [a]] (.str (Z6 h .wher [a])):=by have hc:=ho.1.zc;have⟨⟨h1,h2,h3,h4,h5⟩,h6,h7⟩:=Qh ho;apply Qb hKW YF (by simp);have g1:=QAh hKW h.ze.zc a hc;have g2:=Up hKW (Qe0 h.ze.zc a) (Xb h.ze.zc (ZI h.ze.zc a)) (λ_=>QoY hc a);generalize hY:Z6 h .wher [a]=Y;simp;apply cK (by simpa using g1);simp;apply cK (by simpa using g2);simp;exact hY
def QhQ(h:Qg)(ho:okH h)(hf:Vg h):Gd KW 82 [hoV h,.str [102,105,114,115,116],Qq []] (.str (Z6 h .first [])):=by have hc:=ho.1.zc;have⟨⟨h1,h2,h3,h4,h5⟩,h6,h7⟩:=Qh ho;apply Qb hKW YF (by simp);have g1:=QAg hKW h.ze.zc hc;have g2:=QfS hKW (YT h.ze.zc).1 (YT h.ze.zc).2 (λ_=>Qm8 hc);generalize hY:Z6 h .first []=Y;simp;apply cK (by simpa using g1);simp;apply cK (by simpa using g2);simp;exact hY
def QhN(h:Qg)(a b:Int)(ho:okH h)(hf:Vg h):Gd KW 82 [hoV h,.str [112,117,108,108,115],Qq [a,b]] (.str (Z6 h .pulls [a,b])):=by have hc:=ho.1.zc;have⟨⟨h1,h2,h3,h4,h5⟩,h6,h7⟩:=Qh ho;apply Qb hKW YF (by simp);have g1:=QqV hKW h.ze.zb a b h3 h4 (λ_=>hf.ze.fine.sets ho.1);have g2:=QfR hKW (XY h.ze.zb a b).1 (XY h.ze.zb a b).2 (tE h.ze.zb (Vh a b 0)) (λ_=>Qjf a b);generalize hY:Z6 h .pulls [a,b]=Y;simp;apply cK (by simpa using g1);simp;apply cK (by simpa using g2);simp;exact hY
def QhR(h:Qg)(a:Int)(ho:okH h)(hf:Vg h):Gd KW 82 [hoV h,.str [98,114,111,107,101],Qq [a]] (.str (Z6 h .z5 [a])):=by have hc:=ho.1.zc;have⟨⟨h1,h2,h3,h4,h5⟩,h6,h7⟩:=Qh ho;apply Qb hKW YF (by simp);have g1:=QAf hKW h.ze a hf.ze.fine;have g2:=Up hKW (Uh h.ze a) (kE h.ze (Q0 h.ze a)) (λ_=>Qnu h.ze a);generalize hY:Z6 h .z5 [a]=Y;simp;apply cK (by simpa using g1);simp;apply cK (by simpa using g2);simp;exact hY
def QhO(h:Qg)(a:Int)(ho:okH h)(hf:Vg h):Gd KW 82 [hoV h,.str [108,111,97,100,115],Qq [a]] (.str (Z6 h .loads [a])):=by
 have hc:=ho.1.zc;have⟨⟨h1,h2,h3,h4,h5⟩,h6,h7⟩:=Qh ho;apply Qb hKW YF (by simp);have g1:=QAe hKW h.ze a hf.ze.fine;have e1:(if kE h.ze (Q0 h.ze a)=0 then(XY h.ze.zb (tr h.ze a.toNat).zm (tr h.ze a.toNat).zn).1 else 0)=(Yx h.ze a).1:=by unfold Yx;split<;>rfl
 have e2:(if kE h.ze (Q0 h.ze a)=0 then(XY h.ze.zb (tr h.ze a.toNat).zm (tr h.ze a.toNat).zn).2 else 0)=(Yx h.ze a).2:=by unfold Yx;split<;>rfl
 have e3:(if kE h.ze (Q0 h.ze a)=0 then tE h.ze.zb (Vh (tr h.ze a.toNat).zm (tr h.ze a.toNat).zn 0) else kE h.ze (Q0 h.ze a))=Qcn h.ze a:=rfl;rw[e1,e2,e3] at g1;have g2:=QfR hKW (Yx h.ze a).1 (Yx h.ze a).2 (Qcn h.ze a) (λ_=>QmN h.ze a);generalize hY:Z6 h .loads [a]=Y;simp;apply cK (by simpa using g1);simp;apply cK (by simpa using g2);simp;exact hY
def QcU(h:Qg)(ho:okH h)(hf:Vg h):Gd KW 82 [hoV h,.str [102,97,105,108,117,114,101,115],Qq []] (.str (Z6 h .y6 [])):=by have hc:=ho.1.zc;have⟨⟨h1,h2,h3,h4,h5⟩,h6,h7⟩:=Qh ho;apply Qb hKW YF (by simp);have g1:=QAd hKW h.ze hf.ze.fine;have g2:=QfR hKW (rFail h.ze).1 (rFail h.ze).2 (kE h.ze true) (λ_=>Qri ho.1);generalize hY:Z6 h .y6 []=Y;simp;apply cK (by simpa using g1);simp;apply cK (by simpa using g2);simp;exact hY
def Qbj(h:Qg)(ho:okH h)(hf:Vg h):Gd KW 82 [hoV h,.str [99,111,110,100,101,109,110,101,100],Qq []] (.str (Z6 h .y5 [])):=by have hc:=ho.1.zc;have⟨⟨h1,h2,h3,h4,h5⟩,h6,h7⟩:=Qh ho;apply Qb hKW YF (by simp);have g1:=QAc hKW h.ze hf.ze.fine;have g2:=QfQ hKW (rCond h.ze) (kE h.ze true);generalize hY:Z6 h .y5 []=Y;simp;apply cK (by simpa using g1);simp;apply cK (by simpa using g2);simp;exact hY
def QfI(h:Qg)(a:Int)(ho:okH h)(hf:Vg h):Gd KW 82 [hoV h,.str [112,114,111,118,101,100],Qq [a]] (.str (Z6 h .y7 [a])):=by have hc:=ho.1.zc;have⟨⟨h1,h2,h3,h4,h5⟩,h6,h7⟩:=Qh ho;apply Qb hKW YF (by simp);have g1:=QAb hKW h.ze a hf.ze.fine;have g2:=QfQ hKW (rProved h.ze a) (kE h.ze (JR h.ze a));generalize hY:Z6 h .y7 [a]=Y;simp;apply cK (by simpa using g1);simp;apply cK (by simpa using g2);simp;exact hY
def Qjy(h:Qg)(ho:okH h)(hf:Vg h):Gd KW 82 [hoV h,.str [111,112,101,110],Qq []] (.str (Z6 h .opn [])):=by have hc:=ho.1.zc;have⟨⟨h1,h2,h3,h4,h5⟩,h6,h7⟩:=Qh ho;apply Qb hKW YF (by simp);have g1:=QAa hKW h.ze hf.ze.fine;have g2:=Up hKW (Qbf h.ze) (kE h.ze true) (λ_=>QpH ho.1);generalize hY:Z6 h .opn []=Y;simp;apply cK (by simpa using g1);simp;apply cK (by simpa using g2);simp;exact hY
def Qjz(h:Qg)(ho:okH h)(hf:Vg h):Gd KW 82 [hoV h,.str [103,111,111,100],Qq []] (.str (Z6 h .good [])):=by have hc:=ho.1.zc;have⟨⟨h1,h2,h3,h4,h5⟩,h6,h7⟩:=Qh ho;apply Qb hKW YF (by simp);have g1:=Qz9 hKW h.ze hf.ze.fine (by unfold kL;split;exact hf.ze.all ho.1;simp);have g2:=QfQ hKW (rGood h.ze) (kE h.ze true);generalize hY:Z6 h .good []=Y;simp;apply cK (by simpa using g1);simp;apply cK (by simpa using g2);simp;exact hY
def QhL(h:Qg)(ho:okH h)(hf:Vg h):Gd KW 82 [hoV h,.str [119,111,114,116,104],Qq []] (.str (Z6 h .worth [])):=by have hc:=ho.1.zc;have⟨⟨h1,h2,h3,h4,h5⟩,h6,h7⟩:=Qh ho;apply Qb hKW YF (by simp);have g1:=Qz8 hKW h.ze hf.ze.fine;have g2:=QfS hKW (Yw h.ze).1 (Yw h.ze).2 (λ_=>Qmb h.ze);generalize hY:Z6 h .worth []=Y;simp;apply cK (by simpa using g1);simp;apply cK (by simpa using g2);simp;exact hY
def QfH(h:Qg)(ho:okH h)(hf:Vg h):Gd KW 82 [hoV h,.str [119,101,105,103,104,116],Qq []] (.str (Z6 h .zm [])):=by
 have hc:=ho.1.zc;have⟨⟨h1,h2,h3,h4,h5⟩,h6,h7⟩:=Qh ho;apply Qb hKW YF (by simp);have g1:=Qz7 hKW h.ze hf.ze.fine;have e1:(if kE h.ze true=0 then(Xq h.ze.zb 0 h.ze.zo).1 else 0)=(YS h.ze).1:=by unfold YS;split<;>rfl
 have e2:(if kE h.ze true=0 then(Xq h.ze.zb 0 h.ze.zo).2 else kE h.ze true)=(YS h.ze).2:=by unfold YS;split<;>rfl
 rw[e1,e2] at g1;have g2:=QfS hKW (YS h.ze).1 (YS h.ze).2 (λ_=>Qmd h.ze);generalize hY:Z6 h .zm []=Y;simp;apply cK (by simpa using g1);simp;apply cK (by simpa using g2);simp;exact hY
def QdH(h:Qg)(ho:okH h)(hf:Vg h):Gd KW 82 [hoV h,.str [115,116,114,101,116,99,104],Qq []] (.str (Z6 h .stretch [])):=by have hc:=ho.1.zc;have⟨⟨h1,h2,h3,h4,h5⟩,h6,h7⟩:=Qh ho;apply Qb hKW YF (by simp);have g1:=Qz6 hKW h.zq hf.zq;have g2:=QfR hKW (span ((uL h.zq true).map YY)).1 (span ((uL h.zq true).map YY)).2 (uE h.zq true) (λ_=>Qd2 h.zq);generalize hY:Z6 h .stretch []=Y;simp;apply cK (by simpa using g1);simp;apply cK (by simpa using g2);simp;exact hY
def QjA(h:Qg)(ho:okH h)(hf:Vg h):Gd KW 82 [hoV h,.str [98,101,115,116],Qq []] (.str (Z6 h .best [])):=by have hc:=ho.1.zc;have⟨⟨h1,h2,h3,h4,h5⟩,h6,h7⟩:=Qh ho;apply Qb hKW YF (by simp);have g1:=Qz5 hKW h.zq hf.zq;have g2:=QfS hKW (W4 h.zq).1 (W4 h.zq).2 (λ_=>QsU h.zq);generalize hY:Z6 h .best []=Y;simp;apply cK (by simpa using g1);simp;apply cK (by simpa using g2);simp;exact hY
def QhP(h:Qg)(a:Int)(ho:okH h)(hf:Vg h):Gd KW 82 [hoV h,.str [104,111,108,100,115],Qq [a]] (.str (Z6 h .holds [a])):=by have hc:=ho.1.zc;have⟨⟨h1,h2,h3,h4,h5⟩,h6,h7⟩:=Qh ho;apply Qb hKW YF (by simp);have g1:=Qz4 hKW h.zq a hf.zq;have g2:=QfQ hKW (Ug h.zq a) (uE h.zq (W7 a));generalize hY:Z6 h .holds [a]=Y;simp;apply cK (by simpa using g1);simp;apply cK (by simpa using g2);simp;exact hY
def Qjx(h:Qg)(a:Int)(ho:okH h)(hf:Vg h):Gd KW 82 [hoV h,.str [114,111,100,115],Qq [a]] (.str (Z6 h .zi [a])):=by have hc:=ho.1.zc;have⟨⟨h1,h2,h3,h4,h5⟩,h6,h7⟩:=Qh ho;apply Qb hKW YF (by simp);have g1:=Qz3 hKW h.zq a hf.zq;have g2:=Up hKW (Qfn h.zq a) (uE h.zq (Qn2 h.zq a)) (λ_=>Qpu h.zq a);generalize hY:Z6 h .zi [a]=Y;simp;apply cK (by simpa using g1);simp;apply cK (by simpa using g2);simp;exact hY
def c9A:=F0 "YsabhB;rbn2j1uudMoBg7:fw;RQf=Q8WtN9B8vYIl^puywnRDoUhKD4teYg;<1_=xQH2DDpzSWsg4xbJKHMLRLm55^MJP26DM;q:oBn39v:" ⟨_,by conv=>lhs;reduce⟩
def Qxf:=F0 "bW^_9A72hVZ>5[ieBZz55BdX98[m>CBsXN[DqufBlAKZ5er[VPp5L=We::42i<a0RaXyD:0XaNwZ;[=YXLU=e1Q;yrSZzw]PYM:Ck:f;mYkAsL1tlA51" ⟨_,by conv=>lhs;reduce⟩
def Qxe:=fk func9 c9A (by kernel_rfl)
def QsO:=fk func23 Qxf (by kernel_rfl)
attribute [simp] c9A Qxf
def trA(k:Nat)(l:List WM):AV:=if l=[] then .zsl 3 else .yl k l.length
def trO(k:Nat)(l:List WM):Qz:=if l=[] then [] else [(k,.arr 111 3 (emb (l.map trC)) 0)]
def We(k:Nat)(p:Qf):List AV:=[.yl k p.zc.za.length,.yl (k+1) p.zc.zg.length,.iv (.int .i64 p.zc.zh),.yl (k+2) p.zb.zd.length,.iv (.int .i64 p.zb.zr),.iv (.int .i64 p.zb.zu),.iv (.int .i64 p.zb.zw),.yl (k+3) p.zb.zk.length,.iv (.int .i64 p.zb.zh),trA (k+4) p.zf,.iv (.int .i64 p.zo),.iv (.int .i64 p.z6)]
def V4(k:Nat)(p:Qf):Qz:=[(k,.arr 136 5 (emb (p.zc.za.map dC)) 0),(k+1,.arr 156 5 (emb (p.zc.zg.map sC)) 0),(k+2,.arr 134 3 (emb (p.zb.zd.map leC)) 0),(k+3,.arr 160 4 (emb (p.zb.zk.map baC)) 0)]++trO (k+4) p.zf
def Qa7(k:Nat)(h:Qg):List AV:=We k h.ze++[.iv (.int .i64 h.zq.yc),.iv (.int .i64 h.zq.z8),.iv (.int .i64 h.zq.z9),.yl (k+5) h.zq.zi.length,.yl (k+6) h.zq.zj.length,.iv (.int .i64 h.zq.zh)]
def qO(k:Nat)(h:Qg):Qz:=V4 k h.ze++[(k+5,.arr 113 3 (emb (h.zq.zi.map roC)) 0),(k+6,.arr 115 7 (emb (h.zq.zj.map reC)) 0)]
def Zj{ids:List Nat}{args0:List AV}{o o1:Qz}(h1:ids.Nodup)(h2:args0.all (clA [])=true)(h3:o1.all (λq=>decide (q.1<ids.length)&&Zt q.2)=true)(h4:ids.all (λj=>(Qc o j).isNone)=true):HOk ids args0 o [] o1:=by
 refine⟨h1,h2,by simp,λi hi _=>?_,λq hq=>?_⟩
 .have hi:=QOr.1 hi;have:=QOt.1 h4 (nth ids i) (by unfold nth;grind);simpa using this
 grind
include hK
theorem Qyx(c:Ql)(hl:c.za.length<=1000)(hs:c.zg.length<=1000):Gh K 47 [.iv (chV c)] [] [] (.agg [.yl 0 c.za.length,.yl 1 c.zg.length,.iv (.int .i64 c.zh)]) [(0,.arr 136 5 (emb (c.za.map dC)) 0),(1,.arr 156 5 (emb (c.zg.map sC)) 0)]:=by
 refine Q9 [5,9] [] [] [] QG3.p (by simp[c47]) (by simp) ?_ ?_ ?_ ?_
 .intro q hq;simp only[QN7,QOe,or_false] at hq;rcases hq with rfl|rfl<;>exact⟨by simp,rfl,X5 _ _ _ _ _⟩
 .simp[clA,clAL]
 .simp
 generalize hG:Qiy c47.res _ _ _ _=G;simp[c47];refine⟨by omega,by omega,?_⟩;rw[<- hG];refine⟨⟨_,rfl,rfl⟩,λq hq=>?_,by simp⟩;simp only[QN7,QOe,or_false] at hq;rcases hq with rfl|rfl<;>simp[rnO,nth,QaW,emb,Qc]
theorem Qyw(m:Machine)(hl:m.zd.length<=1000)(hs:m.zk.length<=1000):Gh K 48 [.iv (maV m)] [] [] (.agg [.yl 0 m.zd.length,.iv (.int .i64 m.zr),.iv (.int .i64 m.zu),.iv (.int .i64 m.zw),.yl 1 m.zk.length,.iv (.int .i64 m.zh)]) [(0,.arr 134 3 (emb (m.zd.map leC)) 0),(1,.arr 160 4 (emb (m.zk.map baC)) 0)]:=by
 refine Q9 [5,9] [] [] [] QG2.p (by simp[c48]) (by simp) ?_ ?_ ?_ ?_
 .intro q hq;simp only[QN7,QOe,or_false] at hq;rcases hq with rfl|rfl<;>exact⟨by simp,rfl,X5 _ _ _ _ _⟩
 .simp[clA,clAL]
 .simp
 generalize hG:Qiy c48.res _ _ _ _=G;simp[c48];refine⟨by omega,by omega,?_⟩;rw[<- hG];refine⟨⟨_,rfl,rfl⟩,λq hq=>?_,by simp⟩;simp only[QN7,QOe,or_false] at hq;rcases hq with rfl|rfl<;>simp[rnO,nth,QaW,emb,Qc]
theorem Qyy(p:Za)(hl:p.zi.length<=1000)(hs:p.zj.length<=1000):Gh K 24 [.iv (puV p)] [] [] (.agg [.iv (.int .i64 p.yc),.iv (.int .i64 p.z8),.iv (.int .i64 p.z9),.yl 0 p.zi.length,.yl 1 p.zj.length,.iv (.int .i64 p.zh)]) [(0,.arr 113 3 (emb (p.zi.map roC)) 0),(1,.arr 115 7 (emb (p.zj.map reC)) 0)]:=by
 refine Q9 [5,9] [] [] [] QHf.p (by simp[c24]) (by simp) ?_ ?_ ?_ ?_
 .intro q hq;simp only[QN7,QOe,or_false] at hq;rcases hq with rfl|rfl<;>exact⟨by simp,rfl,X5 _ _ _ _ _⟩
 .simp[clA,clAL]
 .simp
 generalize hG:Qiy c24.res _ _ _ _=G;simp[c24];refine⟨by omega,by omega,?_⟩;rw[<- hG];refine⟨⟨_,rfl,rfl⟩,λq hq=>?_,by simp⟩;simp only[QN7,QOe,or_false] at hq;rcases hq with rfl|rfl<;>simp[rnO,nth,QaW,emb,Qc]
def Qyz(p:Qf)(hs:Ql3 p):Gh K 23 [.iv (prV p)] [] [] (.agg (We 0 p)) (V4 0 p):=by
 have⟨h1,h2,h3,h4,h5⟩:=hs;have g52:=Qyx hK p.zc h1 h2;have g53:=Qyw hK p.zb h3 h4;cases ht:p.zf with
 |nil=>
  refine Q9 [6000,6001,9000,9004,9] [] [] [] QsO.p (by simp[Qxf]) (by simp) ?_ ?_ ?_ ?_
  .intro q hq;simp only[V4,trO,ht,if_true,if_false,QOl,QOa,QOg,reduceCtorEq,QN7,QOe,or_false] at hq;rcases hq with rfl|rfl|rfl|rfl<;>exact⟨by simp,rfl,X5 _ _ _ _ _⟩
  .simp[We,V4,trA,trO,ht,clA,clAL]
  .simp
  generalize hG:Qiy Qxf.res _ _ _ _=G;simp[Qxf];apply Qo g52 (by simp[nth,rn]) (Zj (by decide) rfl (by simp[Zt]) (by simp[Qc]));simp[nth,rn];apply Qo g53 (by simp[nth,rn]) (Zj (by decide) rfl (by simp[Zt]) (by simp[Qc]));simp[nth,rn,ht];rw[<- hG];refine⟨⟨_,rfl,by simp[We,trA,ht,rn,rnL,nth]⟩,λq hq=>?_,by simp⟩;simp only[V4,trO,ht,if_true,if_false,QOl,QOa,QOg,reduceCtorEq,QN7,QOe,or_false] at hq;rcases hq with rfl|rfl|rfl|rfl<;>simp[rnO,nth,QaW,emb,Qc]
 |cons t r=>
  rw[ht] at h5;simp at h5;refine Q9 [6000,6001,9000,9004,9] [] [] [] QsO.p (by simp[Qxf]) (by simp) ?_ ?_ ?_ ?_
  .intro q hq;simp only[V4,trO,ht,if_true,if_false,QOl,QOa,QOg,reduceCtorEq,QN7,QOe,or_false] at hq;rcases hq with rfl|rfl|rfl|rfl|rfl<;>exact⟨by simp,rfl,X5 _ _ _ _ _⟩
  .simp[We,V4,trA,trO,ht,clA,clAL]
  .simp
  generalize hG:Qiy Qxf.res _ _ _ _=G;simp[Qxf];apply Qo g52 (by simp[nth,rn]) (Zj (by decide) rfl (by simp[Zt]) (by simp[Qc]));simp[nth,rn];apply Qo g53 (by simp[nth,rn]) (Zj (by decide) rfl (by simp[Zt]) (by simp[Qc]));simp[nth,rn,ht];refine⟨by omega,?_⟩;rw[<- hG];refine⟨⟨_,rfl,by simp[We,trA,ht,rn,rnL,nth]⟩,λq hq=>?_,by simp⟩;simp only[V4,trO,ht,if_true,if_false,QOl,QOa,QOg,reduceCtorEq,QN7,QOe,or_false] at hq;rcases hq with rfl|rfl|rfl|rfl|rfl<;>simp[rnO,nth,QaW,emb,Qc]
def qt(h:Qg)(hs:QT h):Gh K 9 [.iv (hoV h)] [] [] (.agg (Qa7 0 h)) (qO 0 h):=by
 have g24:=Qyz hK h.ze hs.ze;have g25:=Qyy hK h.zq hs.zi hs.zj;have hsr:=hs.zi;have hsx:=hs.zj;cases ht:h.ze.zf with
 |nil=>
  refine Q9 [6000,6001,6003,6007,6009,9003,9004] [] [] [] Qxe.p (by simp[c9A]) (by simp) ?_ ?_ ?_ ?_
  .intro q hq;simp only[qO,V4,trO,ht,if_true,if_false,QOl,QOa,QOg,reduceCtorEq,QN7,QOe,or_false] at hq;rcases hq with rfl|rfl|rfl|rfl|rfl|rfl<;>exact⟨by simp,rfl,X5 _ _ _ _ _⟩
  .simp[Qa7,qO,We,V4,trA,trO,ht,clA,clAL]
  .simp
  generalize hG:Qiy c9A.res _ _ _ _=G;simp only[We,V4,trA,trO,ht,if_true,if_false,reduceCtorEq] at g24;simp[c9A];apply Qo g24 (by simp[nth,rn]) (Zj (by decide) rfl (by simp[Zt]) (by simp[Qc]));simp[nth,rn,rnL];apply Qo g25 (by simp[nth,rn]) (Zj (by decide) rfl (by simp[Zt]) (by simp[Qc]));simp[nth,rn,rnL];rw[<- hG];refine⟨⟨_,rfl,by simp[Qa7,We,trA,ht,rn,rnL,nth]⟩,λq hq=>?_,by simp⟩;simp only[qO,V4,trO,ht,if_true,if_false,QOl,QOa,QOg,reduceCtorEq,QN7,QOe,or_false] at hq;rcases hq with rfl|rfl|rfl|rfl|rfl|rfl<;>simp[rnO,nth,QaW,emb,Qc]
 |cons t r=>
  refine Q9 [6000,6001,6003,6007,6009,9003,9004] [] [] [] Qxe.p (by simp[c9A]) (by simp) ?_ ?_ ?_ ?_
  .intro q hq;simp only[qO,V4,trO,ht,if_true,if_false,QOl,QOa,QOg,reduceCtorEq,QN7,QOe,or_false] at hq;rcases hq with rfl|rfl|rfl|rfl|rfl|rfl|rfl<;>exact⟨by simp,rfl,X5 _ _ _ _ _⟩
  .simp[Qa7,qO,We,V4,trA,trO,ht,clA,clAL]
  .simp
  generalize hG:Qiy c9A.res _ _ _ _=G;simp only[We,V4,trA,trO,ht,if_true,if_false,reduceCtorEq] at g24;simp[c9A];apply Qo g24 (by simp[nth,rn]) (Zj (by decide) rfl (by simp[Zt]) (by simp[Qc]));simp[nth,rn,rnL];apply Qo g25 (by simp[nth,rn]) (Zj (by decide) rfl (by simp[Zt]) (by simp[Qc]));simp[nth,rn,rnL];rw[<- hG];refine⟨⟨_,rfl,by simp[Qa7,We,trA,ht,rn,rnL,nth]⟩,λq hq=>?_,by simp⟩;simp only[qO,V4,trO,ht,if_true,if_false,QOl,QOa,QOg,reduceCtorEq,QN7,QOe,or_false] at hq;rcases hq with rfl|rfl|rfl|rfl|rfl|rfl|rfl<;>simp[rnO,nth,QaW,emb,Qc]
omit hK
def qx(L:List (List IV))(a b c d e f g:IV):emb L++[[.iv a,.iv b,.iv c,.iv d,.iv e,.iv f,.iv g]]=emb (L++[[a,b,c,d,e,f,g]]):=by simp[emb]
def Qyk(h:Qg):imm (Qc (qO 0 h)) 40 (.agg (Qa7 0 h))=some (.agg (hoC h)):=by cases ht:h.ze.zf<;>simp[Qa7,We,trA,qO,V4,trO,ht,imm,imms,immss,Qc,QN1]
include hK
def QyA(h:Qg)(hs:QT h):Gd K 9 [hoV h] (hoV h):=VD (xs:=[hoV h]) hK (qt hK h hs) (Qyk h)
def Qjt(h:Qg)(a b c d:Int)(hs:QT h):Gd K 83 [hoV h,.str [119,101,108,100],Qq [a,b,c,d]] (.xf [hoV (Qk h ⟨1,a,b,c,d⟩),.bool true]):=by
 apply Qb hK Qa8 (by simp);have g10:=qt hK h hs;obtain⟨⟨b1,b2,b3,b4,b5⟩,b6,b7⟩:=hs;cases ht:h.ze.zf with
 |nil=>simp only[Qa7,qO,We,V4,trA,trO,ht,if_true,if_false,reduceCtorEq,QOl,QOa,QOg] at g10;simp;apply Qo g10 (by simp[nth,rn]) (Zj (by decide) rfl (by simp[Zt]) (by simp[Qc]));simp[nth,rn,rnL];simp[Qk,ht,QN1];omega
 |cons t r=>simp only[Qa7,qO,We,V4,trA,trO,ht,if_true,if_false,reduceCtorEq,QOl,QOa,QOg] at g10;rw[ht] at b5;simp at b5;simp;apply Qo g10 (by simp[nth,rn]) (Zj (by decide) rfl (by simp[Zt]) (by simp[Qc]));simp[nth,rn,rnL];simp[Qk,ht,QN1];omega
def Qok(h:Qg)(a b:Int)(hs:QT h):Gd K 83 [hoV h,.str [99,117,116],Qq [a,b]] (.xf [hoV (Qk h ⟨2,a,b,0,0⟩),.bool true]):=by
 apply Qb hK Qa8 (by simp);have g10:=qt hK h hs;obtain⟨⟨b1,b2,b3,b4,b5⟩,b6,b7⟩:=hs;cases ht:h.ze.zf with
 |nil=>simp only[Qa7,qO,We,V4,trA,trO,ht,if_true,if_false,reduceCtorEq,QOl,QOa,QOg] at g10;simp;apply Qo g10 (by simp[nth,rn]) (Zj (by decide) rfl (by simp[Zt]) (by simp[Qc]));simp[nth,rn,rnL];simp[Qk,ht,QN1];omega
 |cons t r=>simp only[Qa7,qO,We,V4,trA,trO,ht,if_true,if_false,reduceCtorEq,QOl,QOa,QOg] at g10;rw[ht] at b5;simp at b5;simp;apply Qo g10 (by simp[nth,rn]) (Zj (by decide) rfl (by simp[Zt]) (by simp[Qc]));simp[nth,rn,rnL];simp[Qk,ht,QN1];omega
def Qjv(h:Qg)(hs:QT h):Gd K 83 [hoV h,.str [116,117,114,110],Qq []] (.xf [hoV (Qk h ⟨3,0,0,0,0⟩),.bool true]):=by
 apply Qb hK Qa8 (by simp);have g10:=qt hK h hs;obtain⟨⟨b1,b2,b3,b4,b5⟩,b6,b7⟩:=hs;cases ht:h.ze.zf with
 |nil=>simp only[Qa7,qO,We,V4,trA,trO,ht,if_true,if_false,reduceCtorEq,QOl,QOa,QOg] at g10;simp;apply Qo g10 (by simp[nth,rn]) (Zj (by decide) rfl (by simp[Zt]) (by simp[Qc]));simp[nth,rn,rnL];simp[Qk,ht,QN1];omega
 |cons t r=>simp only[Qa7,qO,We,V4,trA,trO,ht,if_true,if_false,reduceCtorEq,QOl,QOa,QOg] at g10;rw[ht] at b5;simp at b5;simp;apply Qo g10 (by simp[nth,rn]) (Zj (by decide) rfl (by simp[Zt]) (by simp[Qc]));simp[nth,rn,rnL];simp[Qk,ht,QN1];omega
def QhK(h:Qg)(a b c:Int)(hs:QT h):Gd K 83 [hoV h,.str [112,114,111,118,101],Qq [a,b,c]] (.xf [hoV (Ze h ⟨a,b,c⟩),.bool true]):=by
 apply Qb hK Qa8 (by simp);have g10:=qt hK h hs;obtain⟨⟨b1,b2,b3,b4,b5⟩,b6,b7⟩:=hs;cases ht:h.ze.zf with
 |nil=>simp only[Qa7,qO,We,V4,trA,trO,ht,if_true,if_false,reduceCtorEq,QOl,QOa,QOg] at g10;simp;apply Qo g10 (by simp[nth,rn]) (Zj (by decide) rfl (by simp[Zt]) (by simp[Qc]));simp[nth,rn,rnL];simp[Ze,ht,QN1];omega
 |cons t r=>simp only[Qa7,qO,We,V4,trA,trO,ht,if_true,if_false,reduceCtorEq,QOl,QOa,QOg] at g10;rw[ht] at b5;simp at b5;simp;apply Qo g10 (by simp[nth,rn]) (Zj (by decide) rfl (by simp[Zt]) (by simp[Qc]));simp[nth,rn,rnL];simp[Ze,ht,QN1];omega
def Qoj(h:Qg)(a b c d e:Int)(hs:QT h):Gd K 83 [hoV h,.str [115,101,101],Qq [a,b,c,d,e]] (.xf [hoV (Zo h ⟨a,b,c,d,e⟩),.bool true]):=by
 apply Qb hK Qa8 (by simp);have g10:=qt hK h hs;obtain⟨⟨b1,b2,b3,b4,b5⟩,b6,b7⟩:=hs;cases ht:h.ze.zf with
 |nil=>simp only[Qa7,qO,We,V4,trA,trO,ht,if_true,if_false,reduceCtorEq,QOl,QOa,QOg] at g10;simp;apply Qo g10 (by simp[nth,rn]) (Zj (by decide) rfl (by simp[Zt]) (by simp[Qc]));simp[nth,rn,rnL];simp[Zo,ht,QN1];omega
 |cons t r=>simp only[Qa7,qO,We,V4,trA,trO,ht,if_true,if_false,reduceCtorEq,QOl,QOa,QOg] at g10;rw[ht] at b5;simp at b5;simp;apply Qo g10 (by simp[nth,rn]) (Zj (by decide) rfl (by simp[Zt]) (by simp[Qc]));simp[nth,rn,rnL];simp[Zo,ht,QN1];omega
def QdG(h:Qg)(a b c d:Int)(hs:QT h):Gd K 83 [hoV h,.str [98,97,108,97,110,99,101],Qq [a,b,c,d]] (.xf [hoV (XR h ⟨a,b,c,d⟩),.bool true]):=by
 apply Qb hK Qa8 (by simp);have g10:=qt hK h hs;obtain⟨⟨b1,b2,b3,b4,b5⟩,b6,b7⟩:=hs;cases ht:h.ze.zf with
 |nil=>simp only[Qa7,qO,We,V4,trA,trO,ht,if_true,if_false,reduceCtorEq,QOl,QOa,QOg] at g10;simp;apply Qo g10 (by simp[nth,rn]) (Zj (by decide) rfl (by simp[Zt]) (by simp[Qc]));simp[nth,rn,rnL];simp[XR,ht,QN1];omega
 |cons t r=>simp only[Qa7,qO,We,V4,trA,trO,ht,if_true,if_false,reduceCtorEq,QOl,QOa,QOg] at g10;rw[ht] at b5;simp at b5;simp;apply Qo g10 (by simp[nth,rn]) (Zj (by decide) rfl (by simp[Zt]) (by simp[Qc]));simp[nth,rn,rnL];simp[XR,ht,QN1];omega
def Qjw(h:Qg)(a b c d e f g:Int)(hs:QT h):Gd K 83 [hoV h,.str [114,101,97,100],Qq [a,b,c,d,e,f,g]] (.xf [hoV (ZX h ⟨a,b,c,d,e,f,g⟩),.bool true]):=by
 apply Qb hK Qa8 (by simp);have g10:=qt hK h hs;obtain⟨⟨b1,b2,b3,b4,b5⟩,b6,b7⟩:=hs;cases ht:h.ze.zf with
 |nil=>simp only[Qa7,qO,We,V4,trA,trO,ht,if_true,if_false,reduceCtorEq,QOl,QOa,QOg] at g10;simp;apply Qo g10 (by simp[nth,rn]) (Zj (by decide) rfl (by simp[Zt]) (by simp[Qc]));simp[nth,rn,rnL,qx];simp[ZX,ht,qx,QN1];omega
 |cons t r=>simp only[Qa7,qO,We,V4,trA,trO,ht,if_true,if_false,reduceCtorEq,QOl,QOa,QOg] at g10;rw[ht] at b5;simp at b5;simp;apply Qo g10 (by simp[nth,rn]) (Zj (by decide) rfl (by simp[Zt]) (by simp[Qc]));simp[nth,rn,rnL,qx];simp[ZX,ht,qx,QN1];omega
def Qju(h:Qg)(hs:QT h)(hu:(h.ze.zc.za.getLast?.map (·.zp))=some 4->h.ze.zf≠[]):Gd K 83 [hoV h,.str [117,110,100,111],Qq []] (.xf [hoV (if h.ze.zc.za=[] then h else ZZ h),.bool (decide (¬h.ze.zc.za=[]))]):=by
 apply Qb hK Qa8 (by simp);have g10:=qt hK h hs;obtain⟨⟨b1,b2,b3,b4,b5⟩,b6,b7⟩:=hs;by_cases hd:h.ze.zc.za=[]
 .cases ht:h.ze.zf with
  |nil=>simp only[Qa7,qO,We,V4,trA,trO,ht,hd,if_true,if_false,reduceCtorEq,QOl,QOa,QOg] at g10;simp;apply Qo g10 (by simp[nth,rn,hd]) (Zj (by decide) rfl (by simp[Zt]) (by simp[Qc]));simp[nth,rn,rnL];grind
  |cons t r=>simp only[Qa7,qO,We,V4,trA,trO,ht,hd,if_true,if_false,reduceCtorEq,QOl,QOa,QOg] at g10;simp;apply Qo g10 (by simp[nth,rn,hd]) (Zj (by decide) rfl (by simp[Zt]) (by simp[Qc]));simp[nth,rn,rnL];grind
 obtain⟨D,d,hD⟩:∃D d,h.ze.zc.za=D++[d]:=⟨_,_,(QPh hd).symm⟩;rw[hD] at b1;simp at b1;cases ht:h.ze.zf with
 |nil=>have h4:¬d.zp=4:=λe=>hu (by rw[hD];simp[e]) ht;simp only[Qa7,qO,We,V4,trA,trO,ht,if_true,if_false,reduceCtorEq,QOl,QOa,QOg] at g10;simp;apply Qo g10 (by simp[nth,rn]) (Zj (by decide) rfl (by simp[Zt]) (by simp[Qc]));simp[nth,rn,rnL];simp[hd,hD,ht,h4,ZZ,QN1];omega
 |cons t r=>
  rw[ht] at b5;simp at b5;have tk:∀x:List IV,List.take D.length (List.take (D.length+1) (D.map dC++[x]))=D.map dC:=λx=>by grind
  have htn:((r.length:Int)+1-1).toNat=r.length:=by omega
  by_cases h4:d.zp=4
  .simp only[Qa7,qO,We,V4,trA,trO,ht,if_true,if_false,reduceCtorEq,QOl,QOa,QOg] at g10;simp;apply Qo g10 (by simp[nth,rn]) (Zj (by decide) rfl (by simp[Zt]) (by simp[Qc]));simp[nth,rn,rnL];simp[hd,hD,ht,h4,ZZ,QN1,List.dropLast_eq_take,tk];omega
  simp only[Qa7,qO,We,V4,trA,trO,ht,if_true,if_false,reduceCtorEq,QOl,QOa,QOg] at g10;simp;apply Qo g10 (by simp[nth,rn]) (Zj (by decide) rfl (by simp[Zt]) (by simp[Qc]));simp[nth,rn,rnL];simp[hd,hD,ht,h4,ZZ,QN1];omega
omit hK
def QGl:Qdx->FuncId
 | .weld=>93| .cut=>94| .turn=>95| .prove=>96| .undo=>97| .see=>98| .balance=>99| .read=>100
 | .who=>101| .wher=>104| .first=>106| .pulls=>109| .z5=>112| .loads=>114| .y6=>116| .y5=>118| .y7=>121| .opn=>123| .good=>125| .worth=>127| .zm=>129| .stretch=>131| .best=>133| .holds=>135| .zi=>137
def QnM(p:Nat×Qdx):IV:=.agg [.int .i64 (p.1:Nat),.fn (QGl p.2)]
def QbX:List (MK×IV):=ZE.map λp=>(.str p.1,QnM p.2)
theorem QcJ{k:MK}{y:IV}(h:k.kind=none):∀{l:List (MK×IV)},ZC none l->ZC none (zn k y l)
 |[],_=>⟨h,trivial⟩
 |p::r,hl=>by
  unfold zn;split
  .exact⟨h,hl.2⟩
  exact⟨hl.1,QcJ h hl.2⟩
include hK
def QFW:Gd K 51 [] (.map QbX):=by
 apply Qb hK QGZ (by simp);simp
 repeat' first|exact trivial|apply And.intro|apply QcJ rfl|kernel_rfl
omit hK
def arV:Qdx->Nat
 | .weld=>4| .cut=>2| .turn=>0| .prove=>3| .undo=>0| .see=>5| .balance=>4| .read=>7
 | .who=>1| .wher=>1| .first=>0| .pulls=>2| .z5=>1| .loads=>1| .y6=>0| .y5=>0| .y7=>1| .opn=>0| .good=>0| .worth=>0| .zm=>0| .stretch=>0| .best=>0| .holds=>1| .zi=>1
def QsW:∀p∈ZE,p.2.1=arV p.2.2:=by decide
def Qo0{w:Txt}{n:Nat}{v:Qdx}(h:V6 w=some (n,v)):n=arV v:=by
 rcases qS w with ⟨p,hp,rfl⟩|hn
 .rw[XK p hp] at h;injection h with h;have:=QsW p hp;grind
 rw[Vk hn] at h;cases h
def QnL(w:Txt):Qv (.str w) QbX=(V6 w).map QnM:=by
 have key:∀l:List (Txt×Nat×Qdx),Qv (.str w) (l.map λp=>(MK.str p.1,QnM p.2))=((l.find? λp=>p.1==w).map (·.2)).map QnM:=by
  intro l;induction l with
  |nil=>rfl
  |cons p r ih=>simp only[QOk,Qv,List.find?_cons];grind
 exact key ZE
def Z4{h h':Qg}{v:Qdx}{l:List Int}(hv:Xl v=true)(hc:VM h v l=some h'):doV h v l=(chT h',chH h h'):=by unfold doV chT chH;grind
def ZB{h:Qg}{v:Qdx}{l:List Int}(hv:Xl v=false):doV h v l=(Z6 h v l,h):=by unfold doV;rw[hv];rfl
def Z3{h h':Qg}(ho:okH h)(h1:h'.ze.zc.za.length<=h.ze.zc.za.length+1)(h2:h'.ze.zc.zg.length<=h.ze.zc.zg.length+1)(h3:h'.ze.zb.zd.length<=h.ze.zb.zd.length)
  (h4:h'.ze.zb.zk.length<=h.ze.zb.zk.length+1)(h5:h'.ze.zf.length<=h.ze.zf.length+1)(h6:h'.zq.zi.length<=h.zq.zi.length)(h7:h'.zq.zj.length<=h.zq.zj.length+1):QT h':=by
 have q1:=ho.1.zc.len;have q2:=ho.1.zc.slen;have q3:=ho.1.zb.len;have q4:=ho.1.zb.blen;have q5:=ho.1.many;have q6:=Qee h.ze.zc.za;have q7:=ho.2.rlen;have q8:=ho.2.xlen;exact⟨⟨by omega,by omega,by omega,by omega,by omega⟩,by omega,by omega⟩
def QbY{h:Qg}(ho:okH h)(hl:(h.ze.zc.za.getLast?.map (·.zp))=some 4):h.ze.zf≠[]:=by
 rw[QN2] at hl;have⟨d,hd,h4⟩:=hl;obtain⟨D,hD⟩:∃D,h.ze.zc.za=D++[d]:=by
  have hne:h.ze.zc.za≠[]:=λe=>by grind
  refine⟨h.ze.zc.za.dropLast,?_⟩;have:=List.getLast?_eq_some_getLast hne;rw[hd] at this;injection this with this;rw[this];exact(QPh hne).symm
 have hm:=ho.1.many;intro e;rw[e,hD] at hm;unfold pv at hm;rw[VC] at hm;simp[Xv,XI,h4] at hm
def QbZ(h:Qg):VM h .undo []=if h.ze.zc.za=[] then none else some (ZZ h):=by
 unfold VM ZZ;cases hd:h.ze.zc.za.getLast? with
 |none=>
  have:h.ze.zc.za=[]:=by simpa using hd
  simp[this]
 |_=>grind
def Qt5(h:Qg)(ho:okH h)(v:Qdx)(l:List Int)(hf:Xl v=false->Vg h)(hl:l.length=arV v):Gh KW (QGl v) (.loc 0 0::[Qq l].map .iv) (QQ h) [0] (.iv (.str (doV h v l).1)) (QQ (doV h v l).2):=by
 have hs:=Qh ho;have l0:∀l:List Int,l.length=0->l=[]:=λl h=>QN4 h;have l1:∀l:List Int,l.length=1->∃a,l=[a]:=λl h=>by
  match l,h with
  |[a],_=>exact⟨a,rfl⟩
 have l2:∀l:List Int,l.length=2->∃a b,l=[a,b]:=λl h=>by
  match l,h with
  |[a,b],_=>grind
 cases v with
 |weld=>
  match l,hl with
  |[a,b,c,d],_=>rw[Z4 (h':=Qk h ⟨1,a,b,c,d⟩) rfl rfl];exact Qyu hKW h a b c d hs (Z3 ho (by simp[Qk]) (by simp[Qk]) (by simp[Qk]) (by simp[Qk]) (by simp[Qk]) (by simp[Qk]) (by simp[Qk]))
 |cut=>
  match l,hl with
  |[a,b],_=>rw[Z4 (h':=Qk h ⟨2,a,b,0,0⟩) rfl rfl];exact Qyt hKW h a b hs (Z3 ho (by simp[Qk]) (by simp[Qk]) (by simp[Qk]) (by simp[Qk]) (by simp[Qk]) (by simp[Qk]) (by simp[Qk]))
 |turn=>rw[l0 l hl,Z4 (h':=Qk h ⟨3,0,0,0,0⟩) rfl rfl];exact Qys hKW h hs (Z3 ho (by simp[Qk]) (by simp[Qk]) (by simp[Qk]) (by simp[Qk]) (by simp[Qk]) (by simp[Qk]) (by simp[Qk]))
 |prove=>
  match l,hl with
  |[a,b,c],_=>rw[Z4 (h':=Ze h ⟨a,b,c⟩) rfl rfl];exact Qyr hKW h a b c hs (Z3 ho (by simp[Ze]) (by simp[Ze]) (by simp[Ze]) (by simp[Ze]) (by simp[Ze]) (by simp[Ze]) (by simp[Ze]))
 |undo=>
  rw[l0 l hl];have hu:=QbZ h;have hs':QT (ZZ h):=Z3 ho (by simp[ZZ];omega) (by simp[ZZ]) (by simp[ZZ]) (by simp[ZZ]) (by simp only[ZZ];grind) (by simp[ZZ]) (by simp[ZZ]);have hg:=Qyq hKW h (QbY ho) hs hs';by_cases hne:h.ze.zc.za=[]
  .rw[if_pos hne] at hu;rw[if_pos hne,if_pos hne] at hg;have e:doV h .undo []=(tNo,h):=by
    unfold doV;rw[hu];rfl
   rw[e];exact hg
  rw[if_neg hne] at hu;rw[if_neg hne,if_neg hne] at hg;rw[Z4 (h':=ZZ h) rfl hu];exact hg
 |see=>
  match l,hl with
  |[a,b,c,d,e],_=>rw[Z4 (h':=Zo h ⟨a,b,c,d,e⟩) rfl rfl];exact Qyp hKW h a b c d e hs (Z3 ho (by simp[Zo]) (by simp[Zo]) (by simp[Zo]) (by simp[Zo]) (by simp[Zo]) (by simp[Zo]) (by simp[Zo]))
 |balance=>
  match l,hl with
  |[a,b,c,d],_=>rw[Z4 (h':=XR h ⟨a,b,c,d⟩) rfl rfl];exact Qyo hKW h a b c d hs (Z3 ho (by simp[XR]) (by simp[XR]) (by simp[XR]) (by simp[XR]) (by simp[XR]) (by simp[XR]) (by simp[XR]))
 |read=>
  match l,hl with
  |[a,b,c,d,e,f,g],_=>rw[Z4 (h':=ZX h ⟨a,b,c,d,e,f,g⟩) rfl rfl];exact Quw hKW h a b c d e f g hs (Z3 ho (by simp[ZX]) (by simp[ZX]) (by simp[ZX]) (by simp[ZX]) (by simp[ZX]) (by simp[ZX]) (by simp[ZX]))
 |who=>obtain⟨a,rfl⟩:=l1 l hl;rw[ZB rfl];exact Quv h a ho (hf rfl)
 |wher=>obtain⟨a,rfl⟩:=l1 l hl;rw[ZB rfl];exact Quu h a ho (hf rfl)
 |first=>rw[l0 l hl,ZB rfl];exact Qut h ho (hf rfl)
 |pulls=>obtain⟨a,b,rfl⟩:=l2 l hl;rw[ZB rfl];exact Qus h a b ho (hf rfl)
 |z5=>obtain⟨a,rfl⟩:=l1 l hl;rw[ZB rfl];exact Qur h a ho (hf rfl)
 |loads=>obtain⟨a,rfl⟩:=l1 l hl;rw[ZB rfl];exact Quq h a ho (hf rfl)
 |y6=>rw[l0 l hl,ZB rfl];exact Qup h ho (hf rfl)
 |y5=>rw[l0 l hl,ZB rfl];exact Quo h ho (hf rfl)
 |y7=>obtain⟨a,rfl⟩:=l1 l hl;rw[ZB rfl];exact Qun h a ho (hf rfl)
 |opn=>rw[l0 l hl,ZB rfl];exact Qum h ho (hf rfl)
 |good=>rw[l0 l hl,ZB rfl];exact Qul h ho (hf rfl)
 |worth=>rw[l0 l hl,ZB rfl];exact Quk h ho (hf rfl)
 |zm=>rw[l0 l hl,ZB rfl];exact Quj h ho (hf rfl)
 |stretch=>rw[l0 l hl,ZB rfl];exact Qui h ho (hf rfl)
 |best=>rw[l0 l hl,ZB rfl];exact Quh h ho (hf rfl)
 |holds=>obtain⟨a,rfl⟩:=l1 l hl;rw[ZB rfl];exact Qug h a ho (hf rfl)
 |zi=>obtain⟨a,rfl⟩:=l1 l hl;rw[ZB rfl];exact Quf h a ho (hf rfl)
def QBk:ZY prog 52 c52 [0]:=⟨_,func52,by kernel_rfl⟩
def Qr1:∀v:Qdx,callee prog (QGl v)=true:=by intro v;cases v<;>kernel_rfl
def Qjk:ZC none QbX:=by
 have key:∀l:List (Txt×Nat×Qdx),ZC none (l.map λp=>(MK.str p.1,QnM p.2)):=by
  intro l;induction l with
  |nil=>trivial
  |cons p r ih=>exact⟨rfl,ih⟩
 exact key ZE
def Qt6(h:Qg)(t:Txt)(hdo:∀v l,XN t=some (v,l)->l.length=arV v->Gh KW (QGl v) (.loc 0 0::[Qq l].map .iv) (QQ h) [0] (.iv (.str (doV h v l).1)) (QQ (doV h v l).2))(ht:t.length<=1000):Gh KW 52 (.loc 0 0::[.map QbX,.str t].map .iv) (QQ h) [0] (.iv (.str (ZU h t).1)) (QQ (ZU h t).2):=by
 apply Qx QBk rfl (by simp[c52]);generalize hG:WN 6 (ZU h t).1 (ZU h t).2=G;have g1:=QAn t ht;have hsl:=spl_len t;have hwl:=QaL t;cases hs:spl t with
 |nil=>exact absurd hs (Qd3 t [])
 |cons w ws=>
  rw[hs] at g1 hsl hwl;simp at hsl;have hfd:=QnL w;simp[c52];apply cK (by simpa using g1);simp;refine⟨Qjk,?_⟩;cases hv:V6 w with
  |none=>
   have hL:ZU h t=(QgG,h):=by simp[ZU,XN,hs,hv]
   rw[hv] at hfd;simp only[Option.map_none] at hfd;rw[hL] at hG;simp[hfd];rw[<- hG];exact QX (by simp[Ev.look,QgG]) (by simp[Ev.look]) (by simp[Qc])
  |some p=>
   have⟨n,v⟩:=p;rw[hv] at hfd;simp only[QPf] at hfd;have har:=Qo0 hv;simp[hfd,QnM];have h7:n<=7:=by rw[har];cases v<;>decide
   intro _;refine⟨by omega,λhq=>?_,λhq=>?_⟩
   .have hn:¬ws.length=n:=λe=>hq (by omega);have hL:ZU h t=(QgG,h):=by
     simp[ZU,XN,hs,hv,hn]
    rw[hL] at hG;rw[<- hG];exact QX (by simp[Ev.look,QgG]) (by simp[Ev.look]) (by simp[Qc])
   have hn:ws.length=n:=by omega
   refine⟨by omega,λ_ _=>?_⟩
   refine Qe (λi=>[(0,AV.loc 0 0),(8,AV.loc 8 0),(10,AV.yl 10 ((Yc (ws.take i)).getD []).length),(36,AV.iv (.sl 1 (ws.map λs=>[IV.str s]))),(37,AV.iv (.int .i64 ws.length)),(38,AV.iv (.int .i64 (i:Nat)))])
    (λi=>[(0,AO.box ((hoC h).map AV.iv)),(8,AO.box [AV.iv (.int .i64 n),AV.iv (.fn (QGl v))]),(10,AO.arr 3 1 (emb (((Yc (ws.take i)).getD []).map λn=>[.int .i64 n])) 0)]) ws.length (λi=>(Yc (ws.take i)).isSome=true) (by simp[Yc]) ?_ ?_
   .intro xd;rw[QN5] at xd;have⟨l,hl⟩:=QOC.1 xd;have hll:=Jg hl;have hL:ZU h t=doV h v l:=by
     simp[ZU,XN,hs,hv,hn,hl]
    rw[hL] at hG;have hd:=hdo v l (by simp[XN,hs,hv,hn,hl]) (by omega);rw[Qa Qsn.eq_1];simp[hl,Qbg];refine⟨Qr1 v,Qo hd (by simp[nth,rn]) (Yq (by simp[Qc])) ?_⟩;simp[nth,rn];rw[<- hG];exact QX rfl rfl (by simp[Qc])
   intro i hi hQ ih;have⟨l,hl⟩:=QOC.1 hQ;have hll:=Jg hl;rw[QPj] at hll;have hwi:=hwl ws[i] (by simp);obtain⟨m,hm,hg⟩:=QAm ws[i] (by omega);have hst:=Qa4 (ws.take i) ws[i];rw[<- QNW hi,hl] at hst;rw[Qa Qsn.eq_1];cases hx:Qgu ws[i] with
   |none=>
    have hno:Yc ws=none:=by
     cases hq:Yc ws with
     |none=>rfl
     |some l'=>have:=Qct hq ws[i] (by simp);grind
    have hL:ZU h t=(QgG,h):=by simp[ZU,XN,hs,hv,hn,hno]
    rw[hL] at hG;rw[hx] at hg;simp[hi,hl];apply cK (by simpa using hg);simp;rw[<- hG];exact QX (by simp[Ev.look,QgG]) (by simp[Ev.look]) (by simp[Qc])
   |some x=>
    rw[hx] at hg hst hm;have hmx:m=x:=by simpa using hm rfl
    subst hmx;simp only at hst;have ih:=ih (by rw[hst];rfl);rw[hst] at ih;simp[hi,hl] at ih |-;apply cK (by simpa using hg);simp;grind
def Qyv(h:Qg)(ho:okH h)(t:Txt)(hf:∀v l,XN t=some (v,l)->Xl v=false->Vg h)(ht:t.length<=1000):Gh KW 52 (.loc 0 0::[.map QbX,.str t].map .iv) (QQ h) [0] (.iv (.str (ZU h t).1)) (QQ (ZU h t).2):=Qt6 h t (λv l hp hl=>Qt5 h ho v l (hf v l hp) hl) ht
def QFG(h:Qg)(ho:okH h)(p:Txt×Nat×Qdx)(hp:p∈ZE)(hv:Xl p.2.2=true)(l:List Int)(hl:l.length=p.2.1):Gd KW 83 [hoV h,.str p.1,Qq l] (.xf [hoV ((VM h p.2.2 l).getD h),.bool (VM h p.2.2 l).isSome]):=by
 have hs:=Qh ho;simp only[ZE,QN7,QOe,or_false] at hp;rcases hp with rfl|rfl|rfl|rfl|rfl|rfl|rfl|rfl|rfl|rfl|rfl|rfl|rfl|rfl|rfl|rfl|rfl|rfl|rfl|rfl|rfl|rfl|rfl|rfl|rfl
 .match l,hl with
  |[a,b,c,d],_=>exact Qjt hKW h a b c d hs
 .match l,hl with
  |[a,b],_=>exact Qok hKW h a b hs
 .match l,hl with
  |[],_=>exact Qjv hKW h hs
 .match l,hl with
  |[a,b,c],_=>exact QhK hKW h a b c hs
 .match l,hl with
  |[],_=>have hg:=Qju hKW h hs (QbY ho);have hc:=QbZ h;grind
 .match l,hl with
  |[a,b,c,d,e],_=>exact Qoj hKW h a b c d e hs
 .match l,hl with
  |[a,b,c,d],_=>exact QdG hKW h a b c d hs
 .match l,hl with
  |[a,b,c,d,e,f,g],_=>exact Qjw hKW h a b c d e f g hs
 all_goals cases hv
def QFH(h:Qg)(ho:okH h)(hf:Vg h)(p:Txt×Nat×Qdx)(hp:p∈ZE)(hv:Xl p.2.2=false)(l:List Int)(hl:l.length=p.2.1):Gd KW 82 [hoV h,.str p.1,Qq l] (.str (Z6 h p.2.2 l)):=by
 simp only[ZE,QN7,QOe,or_false] at hp;have l0:∀l:List Int,l.length=0->l=[]:=λl h=>QN4 h;have l1:∀l:List Int,l.length=1->∃a,l=[a]:=λl h=>by
  match l,h with
  |[a],_=>exact⟨a,rfl⟩
 have l2:∀l:List Int,l.length=2->∃a b,l=[a,b]:=λl h=>by
  match l,h with
  |[a,b],_=>grind
 rcases hp with rfl|rfl|rfl|rfl|rfl|rfl|rfl|rfl|rfl|rfl|rfl|rfl|rfl|rfl|rfl|rfl|rfl|rfl|rfl|rfl|rfl|rfl|rfl|rfl|rfl
 iterate 8 · cases hv
 .obtain⟨a,rfl⟩:=l1 l hl;exact Qol h a ho hf
 .obtain⟨a,rfl⟩:=l1 l hl;exact QhM h a ho hf
 .rw[l0 l hl];exact QhQ h ho hf
 .obtain⟨a,b,rfl⟩:=l2 l hl;exact QhN h a b ho hf
 .obtain⟨a,rfl⟩:=l1 l hl;exact QhR h a ho hf
 .obtain⟨a,rfl⟩:=l1 l hl;exact QhO h a ho hf
 .rw[l0 l hl];exact QcU h ho hf
 .rw[l0 l hl];exact Qbj h ho hf
 .obtain⟨a,rfl⟩:=l1 l hl;exact QfI h a ho hf
 .rw[l0 l hl];exact Qjy h ho hf
 .rw[l0 l hl];exact Qjz h ho hf
 .rw[l0 l hl];exact QhL h ho hf
 .rw[l0 l hl];exact QfH h ho hf
 .rw[l0 l hl];exact QdH h ho hf
 .rw[l0 l hl];exact QjA h ho hf
 .obtain⟨a,rfl⟩:=l1 l hl;exact QhP h a ho hf
 .obtain⟨a,rfl⟩:=l1 l hl;exact Qjx h a ho hf
def QqQ(h:Qg)(hs:QT h):Gd KW 21 [hoV h] (.int .i64 (Qt4 h)):=by
 apply Qb hKW QHh (by simp);have g26:=Qqs hKW h.ze hs.ze;have g27:=Qqr hKW h.zq hs.zi hs.zj;unfold Qt4 okH;by_cases h1:OkP h.ze
 .rw[if_pos h1] at g26;simp[h1];apply cK (by simpa using g26);simp;apply cK (by simpa using g27);by_cases h2:OkU h.zq<;>simp[h2]
 .rw[if_neg h1] at g26;simp[h1];apply cK (by simpa using g26);simp
def Qeh{t:Txt}(h:(XZ t).2.2=false):XN t=none:=by
 unfold XZ at h;unfold XN;cases hs:spl t with
 |nil=>rfl
 |cons w ws=>
  rw[hs] at h;simp only at h |-;cases hn:Yc ws with
  |some l=>rw[hn] at h;have hll:=Jg hn;grind
  |_=>grind
def Qeg{t:Txt}(h:(XZ t).2.2=true):∃p∈ZE,p.1=(XZ t).1/\(XZ t).2.1.length=p.2.1/\XN t=some (p.2.2,(XZ t).2.1):=by
 unfold XZ at h |-;unfold XN;cases hs:spl t with
 |cons w ws=>
  rw[hs] at h;simp only at h |-;cases hn:Yc ws with
  |some l=>
   rw[hn] at h;have hll:=Jg hn;simp only[decide_eq_true_eq] at h;rcases qS w with ⟨p,hp,rfl⟩|hno
   .rw[XK p hp] at h |-
    grind
   rw[Vk hno] at h;grind
  |_=>grind
 |_=>grind
def QgI{h h':Qg}(ho:okH h){v:Qdx}{l:List Int}(hc:VM h v l=some h'):QT h':=by
 unfold VM at hc;cases v<;>simp only at hc<;>try cases hc
 case undo=>
  split at hc
  .cases hc
  injection hc with hc;subst hc;exact Z3 ho (by simp;omega) (by simp) (by simp) (by simp) (by grind) (by simp) (by simp)
 all_goals exact Z3 ho (by simp[Qk]) (by simp[Qk]) (by simp[Qk]) (by simp[Qk]) (by simp[Qk]) (by simp[Qk]) (by simp[Qk])
def QwX(h:Qg)(ho:okH h)(t:Txt)(ht:t.length<=1000)(hq:∀p,p∈ZE->Xl p.2.2=false->∀l,XN t=some (p.2.2,l)->l.length=p.2.1->Gd KW 82 [hoV h,.str p.1,Qq l] (.str (Z6 h p.2.2 l))):Gd KW 46 [hoV h,.str t] (.xf [.str (ZU h t).1,hoV (ZU h t).2]):=by
 apply Qb hKW QG4 (by simp);have g36:=QwZ hKW t ht;unfold ZU;cases hp:(XZ t).2.2 with
 |false=>rw[Qeh hp];rw[hp] at g36;simp;apply cK (by simpa using g36);simp[QgG]
 |true=>
  have⟨p,hpm,hw,hl,hv⟩:=Qeg hp;have hq:=λhc=>hq p hpm hc _ hv hl;rw[hv];rw[hp,<- hw] at g36;have g37:=QwY hKW p.1;rw[XK p hpm] at g37;simp only at g37;cases hc:Xl p.2.2 with
  |false=>have g119:=hq hc;rw[hc] at g37;simp only;rw[ZB hc];generalize(XZ t).2.1=l at *;generalize p.1=w at *;simp;apply cK (by simpa using g36);simp;apply cK (by simpa using g37);simp;apply cK (by simpa using g119);simp
  |true=>
   have g120:=QFG h ho p hpm hc _ hl;rw[hc] at g37;simp only;unfold doV;rw[hc,if_pos rfl];cases hcv:VM h p.2.2 (XZ t).2.1 with
   |none=>rw[hcv] at g120;generalize(XZ t).2.1=l at *;generalize p.1=w at *;simp;apply cK (by simpa using g36);simp;apply cK (by simpa using g37);simp;apply cK (by simpa using g120);simp[tNo]
   |some h'=>have g11:=QqQ h' (QgI ho hcv);rw[hcv] at g120;unfold Qt4 at g11;generalize(XZ t).2.1=l at *;generalize p.1=w at *;simp;apply cK (by simpa using g36);simp;apply cK (by simpa using g37);simp;apply cK (by simpa using g120);simp;apply cK (by simpa using g11);by_cases hk:okH h'<;>simp[hk,tNo,QIu]
def h0:Qg:=⟨⟨⟨[],[],0⟩,⟨[],0,0,0,[],0⟩,[],0,0⟩,⟨0,0,0,[],[],0⟩⟩
noncomputable def Qtg(h:Qg)(s:List Txt):List Txt:=if okH h then(if 40<s.length then [] else QaE h s s.length) else []
noncomputable def Qiu(h:Qg)(s:List Txt):Qg:=if okH h then(if 40<s.length then h0 else QL h s s.length) else h0
def Qzv(h:Qg)(s:List Txt)(hs:QT h)(hl:s.length<=100)(hq:okH h->s.length<=40->∀i(hi:i<s.length),Gh KW 52 (.loc 0 0::[.map QbX,.str s[i]].map .iv) (QQ (QL h s i)) [0] (.iv (.str (ZU (QL h s i) s[i]).1)) (QQ (ZU (QL h s i) s[i]).2)):Gd KW 25 [hoV h,strs s] (.xf [strs (Qtg h s),hoV (Qiu h s),.int .i64 (QwE h s)]):=by
 apply Qb hKW QHe (by simp);have g9:=QwW hKW h hs;unfold Qt4 at g9;generalize hG:QdT c25.res (.xf [strs (Qtg h s),hoV (Qiu h s),.int .i64 (QwE h s)])=G;unfold Qtg Qiu QwE at hG;by_cases ho:okH h;rotate_left
 .rw[if_neg ho] at g9 hG hG hG;simp[c25];apply cK (by simpa using g9);simp;rw[<- hG];simp[c25,h0]
 rw[if_pos ho] at g9 hG hG hG;simp[c25];apply cK (by simpa using g9);by_cases h40:40<s.length
 .have h40':(40:Int)<s.length:=by omega
  rw[if_pos h40] at hG hG hG;simp[h40'];rw[<- hG];intro _;simp[c25,h0]
 have h40':¬(40:Int)<s.length:=by omega
 rw[if_neg h40] at hG hG hG;have g28:Gd KW 50 [hoV h] (.agg (hoC h)):=VD (xs:=[hoV h]) hKW (Qqp hKW h hs) (by simp[Qc]);have g29:=QFW hKW;simp[h40'];intro _;apply cK (by simpa using g28);simp;apply cK (by simpa using g29);simp;intro _;have hq:=hq ho (by omega)
 refine Zz (λi=>[(4,AV.yl 4 (QaE h s i).length),(5,AV.loc 5 0),(8,AV.loc 25 0),(9,AV.iv (IV.map QbX)),(27,AV.iv (strs s)),(28,AV.iv (.int .i64 s.length)),(29,AV.iv (.int .i64 (i:Nat)))])
  (λi=>[(4,AO.arr 9 1 (emb ((QaE h s i).map λt=>[.str t])) 0),(5,AO.box ((hoC h0).map AV.iv)),(25,AO.box ((hoC (QL h s i)).map AV.iv))]) s.length ?_ ?_
 .rw[Qa QsM.eq_1]
  simp;rw[<- hG];simp[c25]
 intro i hi ih;have hd:=hq i hi;rw[<- Zy h s i hi] at hd;have hst:=QeR h s i hi;rw[hst] at ih;rw[Qa QsM.eq_1];simp[hi] at ih |-;apply Qo hd (by simp[nth,rn]) (Yq (by simp[Qc]));simp[nth,rn];have hal:(QaE h s i).length=i:=by simp[QaE]
 grind
def QGa(h:Qg)(s:List Txt)(hs:QT h)(hl:s.length<=100)(hw:okH h->s.length<=40->∀t∈s,t.length<=1000)(hf:okH h->s.length<=40->∀i(hi:i<s.length)v l,XN s[i]=some (v,l)->Xl v=false->Vg (QL h s i)):Gd KW 25 [hoV h,strs s] (.xf [strs (Qtg h s),hoV (Qiu h s),.int .i64 (QwE h s)]):=Qzv h s hs hl λho h4 i hi=>Qyv _ (J0 ho i) _ (hf ho h4 i hi) (hw ho h4 _ (QN0 hi))
def QF9(h:Qg)(s:List Txt)(hs:QT h)(hl:s.length<=100)(hw:okH h->s.length<=40->∀t∈s,t.length<=1000)(hf:okH h->s.length<=40->∀i,i<=s.length->Vg (QL h s i)):Gd KW 26 [hoV h,strs s] (.xf [strs (Qtg h s),hoV (Qiu h s),.int .i64 (QwE h s)]):=by
 apply Qb hKW QHd (by simp);have g9:=QqQ h hs;unfold Qt4 at g9;generalize hG:QdT c26.res (.xf [strs (Qtg h s),hoV (Qiu h s),.int .i64 (QwE h s)])=G;unfold Qtg Qiu QwE at hG;by_cases ho:okH h;rotate_left
 .rw[if_neg ho] at g9 hG hG hG;simp[c26];apply cK (by simpa using g9);simp;rw[<- hG];simp[c26,h0]
 .rw[if_pos ho] at g9 hG hG hG;simp[c26];apply cK (by simpa using g9);by_cases h40:40<s.length
  .have h40':(40:Int)<s.length:=by omega
   rw[if_pos h40] at hG hG hG;simp[h40'];rw[<- hG];intro _;simp[c26,h0]
  .have h40':¬(40:Int)<s.length:=by omega
   rw[if_neg h40] at hG hG hG;have g10:=QyA hKW h hs;simp[h40'];intro _;apply cK (by simpa using g10);simp;have h1000:=hw ho (by omega);have hfew:=hf ho (by omega)
   refine Zz (λi=>[(1,AV.iv (strs s)),(4,AV.yl 4 (QaE h s i).length),(5,AV.loc 5 0),(8,AV.loc 8 0),(9,AV.iv (.int .i64 (i:Nat)))])
    (λi=>[(4,AO.arr 9 1 (emb ((QaE h s i).map λt=>[.str t])) 0),(5,AO.box ((hoC h0).map AV.iv)),(8,AO.box ((hoC (QL h s i)).map AV.iv))]) s.length ?_ ?_
   .rw[Qa QsK.eq_1]
    simp;rw[<- hG];simp[c26]
   .intro i hi ih;have hd:=QwX (QL h s i) (J0 ho i) s[i] (h1000 _ (QN0 hi)) (λp hp hc l _ hl=>QFH _ (J0 ho i) (hfew i (by omega)) p hp hc l hl);rw[<- Zy h s i hi] at hd;rw[QeR h s i hi] at ih;have hal:(QaE h s i).length=i:=by simp[QaE]
    rw[Qa QsK.eq_1];simp[hi] at ih |-;intros;apply cK (by simpa using hd);simp;grind
def QuU(L:List (List IV))(x:List IV):emb (L++[x])=emb L++[x.map AV.iv]:=by simp[emb]
def QGb(h:Qg)(ho:okH h)(s:List Txt)(hl:s.length<=100)(hw:∀t∈s,t.length<=1000):Gd KW 22 [hoV h,strs s] (.sl 18 ((List.range (s.length+1)).map λi=>hoC (QL h s i))):=by
 apply Qb hKW QHg (by simp);have g10:=QyA hKW h (Qh ho);simp;apply cK (by simpa using g10);simp
 refine Zz (λi=>[(1,AV.iv (strs s)),(5,AV.yl 13 (i+1)),(6,AV.iv (.int .i64 (i:Nat)))])
  (λi=>[(13,AO.arr 40 18 (emb ((List.range (i+1)).map λj=>hoC (QL h s j))) 0)]) s.length ?_ ?_
 .rw[Qa QsP.eq_1]
  simp;intro _;exact QN1 (by simp)
 intro i hi ih;have hst:=Zy h s i hi;have e1:(List.range (i+1+1)).map (λj=>hoC (QL h s j))=(List.range (i+1)).map (λj=>hoC (QL h s j))++[hoC (QL h s (i+1))]:=by rw[QOv,QOd];rfl
 have hlen:((List.range (i+1)).map λj=>hoC (QL h s j)).length=i+1:=by simp
 have hget:((List.range (i+1)).map λj=>hoC (QL h s j))[i]?=some (hoC (QL h s i)):=by simp
 have g36:=QwZ hKW s[i] (hw _ (QN0 hi));rw[e1,QuU] at ih;generalize(List.range (i+1)).map (λj=>hoC (QL h s j))=T at *
 have hgi:∀hq:i<T.length,T[i]'hq=hoC (QL h s i):=λhq=>by grind
 rw[Qa QsP.eq_1];cases hp:(XZ s[i]).2.2 with
 |false=>
  have hsame:QL h s (i+1)=QL h s i:=by rw[hst];unfold ZU;rw[Qeh hp]
  rw[hsame] at ih;rw[hp] at g36;simp[hi,hlen,hgi] at ih |-;intros;refine⟨by omega,cK (by simpa using g36) ?_⟩;simp[hlen];grind
 |true=>
  have⟨p,hpm,hw',hl',hv⟩:=Qeg hp;rw[hp,<- hw'] at g36;have g37:=QwY hKW p.1;rw[XK p hpm] at g37;simp only at g37;cases hc:Xl p.2.2 with
  |false=>
   have hsame:QL h s (i+1)=QL h s i:=by rw[hst];unfold ZU;rw[hv];simp only;rw[ZB hc]
   rw[hsame] at ih;rw[hc] at g37;generalize(XZ s[i]).2.1=l at *;generalize p.1=w at *;simp[hi,hlen,hgi] at ih |-;intros;refine⟨by omega,cK (by simpa using g36) ?_⟩;simp;apply cK (by simpa using g37);simp[hlen];grind
  |true=>
   have g31:=QwX (QL h s i) (J0 ho i) s[i] (hw _ (QN0 hi)) (λq _ h2 l h1 _=>by rw[hv] at h1;injection h1 with h1;injection h1 with h1;rw[<- h1,hc] at h2;cases h2)
   rw[<- hst] at g31;rw[hc] at g37;generalize(XZ s[i]).2.1=l at *;generalize p.1=w at *;simp[hi,hlen,hgi] at ih |-;intros;refine⟨by omega,cK (by simpa using g36) ?_⟩;simp;apply cK (by simpa using g37);simp[hi];apply cK (by simpa using g31);simp[hlen];grind
def QxU{a b:Rod}(h1:a.long=b.long)(h2:a.z7=b.z7)(h3:a.grow=b.grow):a=b:=by cases a;cases b;simp_all
def QtI{a b:QY}(h1:a.yg=b.yg)(h2:a.rod=b.rod)(h3:a.count=b.count)(h4:a.rest=b.rest)(h5:a.off=b.off)(h6:a.yh=b.yh)(h7:a.yi=b.yi):a=b:=by cases a;cases b;simp_all
noncomputable instance:DecidableEq Qg:=λ_ _=>Classical.propDecidable _
include hK
def QF7(a b:Za):Gd K 28 [puV a,puV b] (.bool (decide (a=b))):=by
 apply Qb hK QHb (by simp);by_cases h1:a.yc=b.yc;rotate_left
 .have:a≠b:=λe=>h1 (by rw[e]);simp[h1,this]
 .by_cases h2:a.z8=b.z8/\a.z9=b.z9
  .by_cases h3:a.zh=b.zh
   .by_cases h4:a.zi.length=b.zi.length
    .by_cases h5:a.zj.length=b.zj.length
     .simp[h1,h2.1,h2.2,h3,h4,h5];intros;refine Qe (λi=>[(2,AV.iv (.ptr [.int .i64 b.yc,.int .i64 b.z8,.int .i64 b.z9,Qaa a.zi,Jz a.zj,.int .i64 b.zh])),(3,AV.iv (.ptr [.int .i64 b.yc,.int .i64 b.z8,.int .i64 b.z9,Qaa b.zi,Jz b.zj,.int .i64 b.zh])),(5,AV.iv (.int .i64 (i:Nat)))]) (λ_=>[]) a.zi.length (λi=>a.zi.take i=b.zi.take i) (by simp) ?_ ?_
      .intro h;rw[h4,QN5,<- h4,QN5] at h;rw[Qa QsH.eq_1];simp;intros;refine Qe (λi=>[(2,AV.iv (.ptr [.int .i64 b.yc,.int .i64 b.z8,.int .i64 b.z9,Qaa a.zi,Jz a.zj,.int .i64 b.zh])),(3,AV.iv (.ptr [.int .i64 b.yc,.int .i64 b.z8,.int .i64 b.z9,Qaa b.zi,Jz b.zj,.int .i64 b.zh])),(6,AV.iv (.int .i64 (i:Nat)))]) (λ_=>[]) a.zj.length (λi=>a.zj.take i=b.zj.take i) (by simp) ?_ ?_
       .intro h';rw[h5,QN5,<- h5,QN5] at h';rw[Qa QsG.eq_1];have:a=b:=by cases a;cases b;simp_all
        subst this;simp
       intro i hi h ih;have hi':i<b.zj.length:=by omega
       rw[Qa QsG.eq_1];by_cases e:a.zj[i]=b.zj[i]
       .simp[hi,hi',e] at ih |-
        intros;refine⟨by omega,ih ?_⟩;rw[QNW hi,QNW hi',h,e]
       have hne:a≠b:=λc=>by grind
       have e':=λk1 k2 k3 k4 k5 k6 k7=>e (QtI k1 k2 k3 k4 k5 k6 k7);simp[hi,hi',hne];grind
      intro i hi h ih;have hi':i<b.zi.length:=by omega
      rw[Qa QsH.eq_1];by_cases e:a.zi[i]=b.zi[i]
      .simp[hi,hi',e] at ih |-
       intros;refine⟨by omega,ih ?_⟩;rw[QNW hi,QNW hi',h,e]
      have hne:a≠b:=λc=>by grind
      have e':=λk1 k2 k3=>e (QxU k1 k2 k3);simp[hi,hi',hne];grind
     have h':¬(a.zj.length:Int)=b.zj.length:=by omega
     have:a≠b:=λe=>h5 (by rw[e]);simp[h1,h2.1,h2.2,h3,h4,h',this]
    have h':¬(a.zi.length:Int)=b.zi.length:=by omega
    have:a≠b:=λe=>h4 (by rw[e]);simp[h1,h2.1,h2.2,h3,h',this]
   have:a≠b:=λe=>h3 (by rw[e]);simp[h1,h2.1,h2.2,h3,this]
  .have:a≠b:=λe=>h2 (by grind);by_cases k1:a.z8=b.z8
   .have k2:¬a.z9=b.z9:=λc=>h2 ⟨k1,c⟩;simp[h1,k1,k2,this]
   .simp[h1,k1,this]
def Qw4(a b:Qg):Gd K 13 [hoV a,hoV b] (.bool (decide (a=b))):=by
 apply Qb hK QHj (by simp);have g32:=QF8 hK a.ze b.ze;have g33:=QF7 hK a.zq b.zq;have he:a=b↔a.ze=b.ze/\a.zq=b.zq:=by cases a;cases b;simp
 simp;apply cK (by simpa using g32);by_cases h1:a.ze=b.ze
 .simp[h1];apply cK (by simpa using g33);simp[he,h1]
 .simp[he,h1]
def Qq4(a b:List Txt)(ha:a.length<=1000000)(hb:b.length<=1000000):Gd K 12 [strs a,strs b] (.bool (decide (a=b))):=by
 apply Qb hK c12_ok (by simp);by_cases h4:a.length=b.length;rotate_left
 .have h':¬(a.length:Int)=b.length:=by omega
  have:a≠b:=λe=>h4 (by rw[e]);simp[h',this]
 simp[h4];intros;refine Qe (λi=>[(0,AV.iv (strs a)),(1,AV.iv (strs b)),(5,AV.iv (.int .i64 (i:Nat)))]) (λ_=>[]) a.length (λi=>a.take i=b.take i) (by simp) ?_ ?_
 .intro h;rw[h4,QN5,<- h4,QN5] at h;subst h;rw[Qa c12_b0.eq_1];simp
 intro i hi h ih;have hi':i<b.length:=by omega
 rw[Qa c12_b0.eq_1];by_cases e:a[i]=b[i]
 .simp[hi,hi',e] at ih |-
  intros;refine⟨by omega,ih ?_⟩;rw[QNW hi,QNW hi',h,e]
 have hne:a≠b:=λc=>by grind
 simp[hi,hi',hne,e]
omit hK
def Ju:List Rod->Int
 |[]=>1
 |r::l=>(r.z7+1)*Ju l
theorem QdY:∀(l:List Rod)(r:Rod),Ju (l++[r])=Ju l*(r.z7+1)
 |[],r=>by simp[Ju]
 |a::l,r=>by simp only[QOa,Ju,QdY l r];grind
def Qrd(p:Za):Prop:=40<p.zi.length\/40<p.zj.length\/(OkU p/\((∃x∈p.zj,3<x.yi-x.yh)\/12<Ju p.zi\/8<p.z9-p.z8\/4<p.zj.length))
noncomputable instance (p:Za):Decidable (Qrd p):=Classical.propDecidable _
def Qts(l:List Rod)(h:∀r∈l,V3 r)(i:Nat):1<=Ju (l.take i)/\Ju (l.take i)<=10 ^ (min i l.length):=by
 induction l generalizing i with
 |nil=>simp[Ju]
 |cons r l ih=>
  cases i with
  |zero=>simp[Ju]
  |succ i=>obtain⟨h1,h2⟩:=ih (λx hx=>h x (by simp[hx])) i;have hr:=(h r (by simp)).2.1;simp only[inR] at hr;simp only[List.take_succ_cons,Ju,QOi,Nat.succ_min_succ];rw[Nat.succ_eq_add_one,Int.pow_succ];have h3:(r.z7+1)*Ju (l.take i)<=10*Ju (l.take i):=QOj (by omega) (by omega);have h4:1*Ju (l.take i)<=(r.z7+1)*Ju (l.take i):=QOj (by omega) (by omega);omega
def QFX(p:Za):Gd KW 41 [puV p] (.bool (decide (Qrd p))):=by
 apply Qb hKW QG9 (by simp);by_cases h1:p.zi.length<=40;rotate_left
 .have h1':(40:Int)<p.zi.length:=by omega
  have hf:Qrd p:=.inl (by omega);simp[h1',hf]
  try omega
 .by_cases h2:p.zj.length<=40
  .have h1':¬(40:Int)<p.zi.length:=by omega
   have h2':¬(40:Int)<p.zj.length:=by omega
   have g27:=Qqr hKW p (by omega) (by omega);simp[h1',h2'];intros;apply cK (by simpa using g27);by_cases h3:OkU p;rotate_left
   .have h3':¬Qrd p:=by
     rintro (h|h|⟨h,_⟩)
     all_goals grind
    simp[h3,h3']
   simp[h3];have hr4:=h3.rlen;have hgu:=h3.guess;have hmo:=h3.most;simp only[inR] at hgu;refine Zz (λi=>[(1,AV.iv (.ptr [.int .i64 p.yc,.int .i64 p.z8,.int .i64 p.z9,Qaa p.zi,Jz p.zj,.int .i64 p.zh])),(3,AV.iv (.int .i64 (Ju (p.zi.take i)))),(4,AV.iv (.int .i64 (i:Nat)))]) (λ_=>[]) p.zi.length ?_ ?_
   .rw[QN5]
    rw[Qa Qsu.eq_1];simp;intros;refine Qe (λi=>[(1,AV.iv (.ptr [.int .i64 p.yc,.int .i64 p.z8,.int .i64 p.z9,Qaa p.zi,Jz p.zj,.int .i64 p.zh])),(3,AV.iv (.int .i64 (Ju p.zi))),(5,AV.iv (.int .i64 (i:Nat)))]) (λ_=>[]) p.zj.length (λi=>∀x∈p.zj.take i,¬3<x.yi-x.yh) (by simp) ?_ ?_
    .intro hQ;rw[QN5] at hQ;have he:Qrd p↔12<Ju p.zi\/8<p.z9-p.z8\/4<p.zj.length:=by
      constructor
      .rintro (h|h|⟨_,⟨x,hx,h⟩|h⟩)
       all_goals grind
      exact λh=>.inr (.inr ⟨h3,.inr h⟩)
     rw[Qa Qst.eq_1];by_cases w1:12<Ju p.zi
     .simp[he,w1]
      try omega
     by_cases w2:8<p.z9-p.z8
     .simp[he,w1,w2]
      try omega
     simp[he,w1,w2]
     try omega
    intro i hi hQ ih;have hrd:=h3.zj _ (QN0 hi);have⟨_,_,_,_,_,hw1,hw2⟩:=hrd;simp only[inR] at hw1;rw[Qa Qst.eq_1];by_cases e:3<p.zj[i].yi-p.zj[i].yh
    .have hf:Qrd p:=.inr (.inr ⟨h3,.inl ⟨_,QN0 hi,e⟩⟩);simp[hi,e,hf]
     try omega
    have ih:=ih λx hx=>by rw[QNW hi] at hx;grind
    simp[hi,e] at ih |-
    grind
   intro i hi ih;have hrd:=h3.zi _ (QN0 hi);have hw:=hrd.2.1;simp only[inR] at hw;have hq:=Qts p.zi h3.zi i;have hq2:(10:Int) ^ (min i p.zi.length)<=10 ^ 4:=by exact_mod_cast QOV (n:=10) (by omega) (by omega:min i p.zi.length<=4)
   have hb:Ju (p.zi.take i)*(p.zi[i].z7+1)<=10000*10:=QOY (by omega) (by omega) (by omega) (by omega);have hb':0<=Ju (p.zi.take i)*(p.zi[i].z7+1):=QOQ (by omega) (by omega);rw[QNW hi,QdY] at ih;rw[Qa Qsu.eq_1];simp[hi] at ih |-
   grind
  .have h2':(40:Int)<p.zj.length:=by omega
   have hf:Qrd p:=.inr (.inl (by omega));simp[h2',hf]
   try omega
def Qrf(h:Qg):Prop:=Qiv h.ze\/Qrd h.zq
noncomputable instance (h:Qg):Decidable (Qrf h):=Classical.propDecidable _
def Qw2(h:Qg):Gd KW 20 [hoV h] (.bool (decide (Qrf h))):=by
 apply Qb hKW QHi (by simp);have g34:=QFY hKW h.ze;have g35:=QFX h.zq;unfold Qrf;simp;apply cK (by simpa using g34);by_cases h1:Qiv h.ze
 .simp[h1]
 simp[h1];apply cK (by simpa using g35);simp
def QoT(h:Qg)(s:List Txt):Prop:=Qrf h\/45<s.length\/(∃t∈s,90<t.length)\/(okH h/\∃i,i<=s.length/\Qrf (QL h s i))
noncomputable instance (h:Qg) (s:List Txt):Decidable (QoT h s):=Classical.propDecidable _
def QaP{h:Qg}(hf:¬Qrf h):QT h:=by simp only[Qrf,Qiv,Qw5,Qre,Qrd,not_or] at hf;have⟨⟨⟨h1,h2,_⟩,⟨h3,h4,_⟩,h5,_⟩,h6,h7,_⟩:=hf;exact⟨⟨by omega,by omega,by omega,by omega,by omega⟩,by omega,by omega⟩
def QIK(h:Qg)(s:List Txt):Gd KW 8 [hoV h,strs s] (.bool (decide (QoT h s))):=by
 apply Qb hKW QJm (by simp);have g19:=Qw2 h;simp;apply cK (by simpa using g19);by_cases h1:Qrf h
 .have hf:QoT h s:=.inl h1;simp[h1,hf]
 by_cases h2:45<s.length
 .have hf:QoT h s:=.inr (.inl h2);have h2':(45:Int)<s.length:=by omega
  simp[h1,hf,h2']
  try omega
 have h2':¬(45:Int)<s.length:=by omega
 have g11:=QqQ h (QaP h1);unfold Qt4 at g11;simp[h1,h2'];intros;refine Qe (λi=>[(1,AV.iv (strs s)),(2,AV.iv (.ptr (hoC h))),(5,AV.iv (.int .i64 (i:Nat)))]) (λ_=>[]) s.length (λi=>∀t∈s.take i,¬90<t.length) (by simp) ?_ ?_
 .intro hQ;rw[QN5] at hQ;rw[Qa QBj.eq_1];simp;intros;apply cK (by simpa using g11);by_cases ho:okH h;rotate_left
  .have hf:¬QoT h s:=by
    rintro (h|h|⟨t,ht,h⟩|⟨h,_⟩)
    all_goals grind
   simp[ho,hf]
  have g20:=QGb h ho s (by omega) (λt ht=>by grind);have hT1:((List.range (s.length+1)).map λi=>hoC (QL h s i)).length=s.length+1:=by simp
  have hT2:∀i(hi:i<((List.range (s.length+1)).map λi=>hoC (QL h s i)).length),((List.range (s.length+1)).map λi=>hoC (QL h s i))[i]=hoC (QL h s i):=λi hi=>by simp
  generalize((List.range (s.length+1)).map λi=>hoC (QL h s i))=T at *
  simp[ho];apply cK (by simpa using g20);simp;refine Qe (λi=>[(6,AV.iv (.sl 18 T)),(7,AV.iv (.int .i64 (i:Nat)))]) (λ_=>[]) T.length (λi=>∀j,j<i->¬Qrf (QL h s j)) (by intro j h;omega) ?_ ?_
  .intro hN;have hf:¬QoT h s:=by
    rintro (h|h|⟨t,ht,h⟩|⟨_,j,hj,h⟩)
    all_goals grind
   rw[Qa QBi.eq_1];simp[hf]
  intro i hi hN ih;have hTi:=hT2 i hi;have g19:=Qw2 (QL h s i);rw[Qa QBi.eq_1];by_cases e:Qrf (QL h s i)
  .have hf:QoT h s:=.inr (.inr (.inr ⟨ho,i,by omega,e⟩));simp[hi,hTi,hf];intros;apply cK (by simpa using g19);simp[e]
  have ih:=ih λj hj=>by grind
  simp[hi,hTi] at ih |-;intros;apply cK (by simpa using g19);simp[e];grind
 intro i hi hQ ih;rw[Qa QBj.eq_1];by_cases e:90<s[i].length
 .have hf:QoT h s:=.inr (.inr (.inl ⟨_,QN0 hi,e⟩));have e':(90:Int)<s[i].length:=by omega
  simp[hi,e',hf]
  try omega
 have e':¬(90:Int)<s[i].length:=by omega
 have ih:=ih λx hx=>by rw[QNW hi] at hx;grind
 simp[hi,e'] at ih |-
 grind
def exU:Za:=⟨12,9900,10200,[⟨1000,1,12⟩,⟨500,0,20⟩],[⟨1,0,10,0,2,0,0⟩,⟨2,0,10,30,2,0,0⟩],0⟩
def exH:Qg:=⟨exP,exU⟩
def Qou:Ql:=⟨exC.za,[⟨7,0,0,5,1⟩],0⟩
def Qti:Qf:={ exP with zc:=Qou }
def Qax:Qg:=⟨Qti,exU⟩
def exS:List Txt:=[[119,104,111,32,48],[115,101,101,32,55,32,48,32,48,32,53,32,49],[119,104,111,32,48],[119,101,108,100,32,48,32,48,32,53],[112,114,111,118,101,32,52,48,32,48,32,51],[115,116,114,101,116,99,104],[99,111,110,100,101,109,110,101,100]]
def exA:List Txt:=[[48,32,49],[121,101,115],[48],[119,104,97,116],[110,111],[50,54,32,51,52],[112,101,114,104,97,112,115]]
include hK
omit hK
def Qrl:OkU exU:=by decide
def Qkc:OkC Qou:=by refine⟨by decide,by decide,by decide,Qrn.za,λs hs=>?_⟩;simp[Qou] at hs;subst hs;decide
def Qkb:OkP Qti:=⟨Qkc,Qw8,Qnc.zo,Qnc.z6,Qnc.many,Qnc.zf⟩
def Qrm:okH Qax:=⟨Qkb,Qrl⟩
def QeF:span ((YQ exU).map YY)=(26,34):=by rw[<- Qb4];decide +kernel
def QJd:uE exU true=0:=by
 unfold uE;rw[if_pos Qrl,if_pos rfl,if_neg];intro h;have:=QeF;rw[h] at this
 revert this
 decide
def p1:XN [119,104,111,32,48]=some (.who,[0]):=by decide +kernel
def p2:XN [115,101,101,32,55,32,48,32,48,32,53,32,49]=some (.see,[7,0,0,5,1]):=by decide +kernel
def p4:XN [119,101,108,100,32,48,32,48,32,53]=none:=by decide +kernel
def p5:XN [112,114,111,118,101,32,52,48,32,48,32,51]=some (.prove,[40,0,3]):=by decide +kernel
def p6:XN [115,116,114,101,116,99,104]=some (.stretch,[]):=by decide +kernel
def p7:XN [99,111,110,100,101,109,110,101,100]=some (.y5,[]):=by decide +kernel
def Qw7:QnI exC 0=[0,1]/\Xb exC (plB exC 0)=0:=by
 have e:(QI exC).map (Qtf exC 0)=[1,0]:=by decide
 have hb:plB exC 0=true:=by decide
 have ha:Xb exC (plB exC 0)=0:=by unfold Xb;rw[if_pos Qrn,if_pos hb];decide
 refine⟨?_,ha⟩;unfold QnI;rw[if_pos ha,e];exact Qnz (J3 _) (by decide) λx=>by
  rw[J4]
  grind
def Qrk:QnI Qou 0=[0]/\Xb Qou (plB Qou 0)=0:=by
 have e:(QI Qou).map (Qtf Qou 0)=[0]:=by decide
 have hb:plB Qou 0=true:=by decide
 have ha:Xb Qou (plB Qou 0)=0:=by unfold Xb;rw[if_pos Qkc,if_pos hb];decide
 refine⟨?_,ha⟩;unfold QnI;rw[if_pos ha,e];exact Qnz (J3 _) (by decide) λx=>by rw[J4]
def QJE:List QR:=[⟨[0,0,0,0,1,1,0],⟨[10,5],1⟩⟩,⟨[0,0,0,0,1,1,0],⟨[11,5],1⟩⟩]
def Qro:QN Qti=QJE:=by unfold QN;rw[show Qti.zc=Qou from rfl,show Qti.zb=exM from rfl,Qo8 Qkc,QxR];decide
def Qw9:kL Qti true=QJE/\kE Qti true=0:=by unfold kL kE;rw[if_pos ⟨Qkb,rfl⟩,if_pos Qkb,if_pos rfl,Qro];exact⟨rfl,by decide⟩
def QuP:qi (rCond Qti) (kE Qti true)=[112,101,114,104,97,112,115]:=by unfold rCond;rw[Qw9.1,Qw9.2];decide
def Qxa(h:okH (Ze Qax ⟨40,0,3⟩)):False:=by
 have h1:=h.1.zf 2 (by decide) (by decide)
 revert h1
 decide
def s0:QL exH exS 0=exH:=rfl
def lv1:ZU exH [119,104,111,32,48]=([48,32,49],exH):=by unfold ZU;rw[p1];simp only;rw[ZB rfl];unfold Z6;rw[show exH.ze.zc=exC from rfl,show nI [0] 0=0 from rfl,Qw7.1,Qw7.2];show(XX [0,1] 0,exH)=_;rw[show XX [0,1] 0=[48,32,49] by decide +kernel]
def lv2:ZU exH [115,101,101,32,55,32,48,32,48,32,53,32,49]=([121,101,115],Qax):=by unfold ZU;rw[p2];simp only;rw[Z4 (h':=Qax) rfl rfl];unfold chT chH;rw[if_pos Qrm,if_pos Qrm];rfl
def lv3:ZU Qax [119,104,111,32,48]=([48],Qax):=by unfold ZU;rw[p1];simp only;rw[ZB rfl];unfold Z6;rw[show Qax.ze.zc=Qou from rfl,show nI [0] 0=0 from rfl,Qrk.1,Qrk.2];show(XX [0] 0,Qax)=_;rw[show XX [0] 0=[48] by decide +kernel]
def lv4:ZU Qax [119,101,108,100,32,48,32,48,32,53]=([119,104,97,116],Qax):=by unfold ZU;rw[p4];rfl
def lv5:ZU Qax [112,114,111,118,101,32,52,48,32,48,32,51]=([110,111],Qax):=by unfold ZU;rw[p5];simp only;rw[Z4 (h':=Ze Qax ⟨40,0,3⟩) rfl rfl];unfold chT chH;rw[if_neg Qxa,if_neg Qxa];rfl
def lv6:ZU Qax [115,116,114,101,116,99,104]=([50,54,32,51,52],Qax):=by
 unfold ZU;rw[p6];simp only;rw[ZB rfl];unfold Z6;have hu:uL exU true=YQ exU:=by simp[uL,Qrl]
 rw[show Qax.zq=exU from rfl,QJd,hu,QeF]
 show(XX [26,34] 0,Qax)=_;rw[show XX [26,34] 0=[50,54,32,51,52] by decide +kernel]
def lv7:ZU Qax [99,111,110,100,101,109,110,101,100]=([112,101,114,104,97,112,115],Qax):=by unfold ZU;rw[p7];simp only;rw[ZB rfl];unfold Z6;rw[show Qax.ze=Qti from rfl,QuP]
def st(i:Nat)(h:i<=7):QL exH exS i=if i<=1 then exH else Qax:=by
 have e1:QL exH exS 1=exH:=by rw[Zy exH exS 0 (by decide)];exact congrArg Prod.snd lv1
 have e2:QL exH exS 2=Qax:=by rw[Zy exH exS 1 (by decide),e1];exact congrArg Prod.snd lv2
 have e3:QL exH exS 3=Qax:=by rw[Zy exH exS 2 (by decide),e2];exact congrArg Prod.snd lv3
 have e4:QL exH exS 4=Qax:=by rw[Zy exH exS 3 (by decide),e3];exact congrArg Prod.snd lv4
 have e5:QL exH exS 5=Qax:=by rw[Zy exH exS 4 (by decide),e4];exact congrArg Prod.snd lv5
 have e6:QL exH exS 6=Qax:=by rw[Zy exH exS 5 (by decide),e5];exact congrArg Prod.snd lv6
 have e7:QL exH exS 7=Qax:=by rw[Zy exH exS 6 (by decide),e6];exact congrArg Prod.snd lv7
 have:i=0\/i=1\/i=2\/i=3\/i=4\/i=5\/i=6\/i=7:=by omega
 rcases this with rfl|rfl|rfl|rfl|rfl|rfl|rfl|rfl
 .rfl
 all_goals grind
end Go.Pf
namespace Go.Ev
open Go Go.RowKit
section
variable{P:Program}{K:World->Prop}
end
end Go.Ev
namespace Go.Pf
open Go Go.Ev Go.Proofs Go.RowKit Go.Proofs.Tryz
set_option maxHeartbeats 1000000
def QAF{p:Za}(h:¬Qrd p):QEU p:=by
 have h':=h;simp only[Qrd,not_or] at h';have⟨h1,h2,_⟩:=h';refine⟨by omega,by omega,λhp=>?_⟩;have h3:Ju p.zi<=12:=Int.not_lt.1 λc=>h (.inr (.inr ⟨hp,.inr (.inl c)⟩));have h4:p.z9-p.z8<=8:=Int.not_lt.1 λc=>h (.inr (.inr ⟨hp,.inr (.inr (.inl c))⟩));have hw:=JX p.zi hp.zi;have hw2:10 ^ p.zi.length<=10 ^ 4:=QOV (by omega) hp.rlen;have hl:(XH p).length<=9:=by simp[XH,V2];omega
 have:=Yl (λb=>(XH p).flatMap λa=>(Z1 p.zi).map λw=>(⟨b,a,w⟩:TrU)) (9*10000) (XH p) λb _=>by refine QOz (Yl _ 10000 (XH p) λa _=>?_) (QOI _ hl);grind
 unfold Ql1;omega
def QAG{h:Qg}(hf:¬Qrf h):Vg h:=⟨QGm λc=>hf (.inl c),QAF λc=>hf (.inr c)⟩
def Qfu{h:Qg}{s:List Txt}(hf:¬QoT h s):QT h/\s.length<=45/\(∀t∈s,t.length<=1000)/\(okH h->∀i,i<=s.length->Vg (QL h s i)):=by
 refine⟨QaP λc=>hf (.inl c),?_,λt ht=>?_,λho i hi=>QAG λc=>hf (.inr (.inr (.inr ⟨ho,i,hi,c⟩)))⟩
 .exact QO9.1 λc=>hf (.inr (.inl c))
 have:=QO9.1 λc:90<t.length=>hf (.inr (.inr (.inl ⟨t,ht,c⟩)));omega
def QtC(h:Qg)(s:List Txt):(Qtg h s).length<=s.length:=by
 unfold Qtg;split
 .split
  .simp
  simp[QaE]
 .simp
end Go.Pf
namespace Go.Bk
open Go Go.Ev Go.Proofs Go.RowKit Go.Proofs.Tryz
variable{K:World->Prop}(hK:∀w w',K w->Below w.heap.size w w'->K w')
theorem Qng:∀(a b c:W),a.length=b.length->b.length=c.length->XA a c<=XA a b+XA b c
 |[],[],[],_,_=>by simp[XA]
 |x::a,y::b,z::c,h,h'=>by
  have:=Qng a b c (by simpa using h) (by simpa using h');simp only[XA];by_cases h1:x=y
  .subst h1;simp;omega
  by_cases h2:y=z
  .subst h2;simp;omega
  simp[h1,h2];split<;>omega
 |[],y::b,_,h,_=>by simp at h
 |x::a,[],_,h,_=>by simp at h
 |x::a,y::b,[],_,h=>by simp at h
 |[],[],z::c,_,h=>by simp at h
theorem UU:∀(r q:W)(k:Nat),r.length=q.length->XA r q=k+1->∃a x y b b',r=a++x::b/\q=a++y::b'/\x≠y/\b.length=b'.length/\XA b b'=k
 |[],[],k,_,h=>by simp[XA] at h
 |x::r,y::q,k,h,hd=>by
  by_cases hxy:x=y
  .subst hxy;simp only[XA,if_true,QOn] at hd;obtain⟨a,u,v,b,b',h1,h2,h3,h4,h5⟩:=UU r q k (by simpa using h) hd;exact⟨x::a,u,v,b,b',by rw[h1];rfl,by rw[h2];rfl,h3,h4,h5⟩
  simp only[XA,if_neg hxy] at hd;exact⟨[],x,y,r,q,rfl,rfl,hxy,by simpa using h,by omega⟩
 |[],y::q,k,h,_=>by simp at h
 |x::r,[],k,h,_=>by simp at h
def p97:∀a,a<97->∀m,m<97->a*m % 97=0->a=0\/m=0:=by decide +kernel
def QJz(d m:Int)(hd:d.natAbs<97)(hm:m.natAbs<97)(h:(d*m) % 97=0):d=0\/m=0:=by
 have h1:(d*m).natAbs % 97=0:=by omega
 rw[Int.natAbs_mul] at h1;rcases p97 _ hd _ hm h1 with h|h
 .exact .inl (by omega)
 .exact .inr (by omega)
def QFs(d d' m1 m2:Int)(h1:(d+d') % 97=0)(h2:(d*m1+d'*(m1+m2)) % 97=0):(d*m2) % 97=0:=by
 obtain⟨u,hu⟩:∃u,d'=97*u-d:=⟨(d+d') / 97,by omega⟩;have e:d*m1+d'*(m1+m2)=97*(u*(m1+m2))-d*m2:=by rw[hu,Int.sub_mul,Int.mul_assoc,Int.mul_add d];omega
 rw[e] at h2;omega
def WR{c:UInt8}(h:32<=c.toNat/\c.toNat<=126):0<=v1 c/\v1 c<=94:=by simp only[v1];omega
def QEW{x y:UInt8}(h:x≠y):v1 x-v1 y≠0:=by intro e;apply h;rw[<- Qmh];simp only[v1] at e;omega
def Qxw{m n:Nat}(hm:m<100)(hn:n<100)(h:two m=two n):m=n:=by have:=congrArg dg h;rw[Qnh hm,Qnh hn] at this;omega
def Qby{m n:Nat}(hm:m<100)(hn:n<100)(h:m≠n):1<=XA (two m) (two n):=by
 rcases QPI (XA (two m) (two n)) with h0|h0
 .exact absurd (Qxw hm hn (Xz _ _ rfl h0)) h
 .exact h0
def QrV(r q:W)(h:r.length=q.length):XA (QV r) (QV q)=XA r q+XA (two (S1 r % 97).toNat) (two (S1 q % 97).toNat)+XA (two (S2 1 r % 97).toNat) (two (S2 1 q % 97).toNat):=by simp only[QV,QPc];rw[VL r q _ _ h,VL (two (S1 r % 97).toNat) (two (S1 q % 97).toNat) _ _ rfl];omega
def QuK{r q:W}(hr:plain r)(hq:plain q)(hl:r.length=q.length)(hn:r.length<=62)(hne:r≠q):3<=XA (QV r) (QV q):=by
 rw[QrV r q hl];rcases QPi (XA r q) 3 with h3|h3;rotate_left
 .omega
 .rcases QPI (XA r q) with h0|h0
  .exact absurd (Xz _ _ hl h0) hne
  .obtain⟨k,hk⟩:∃k,XA r q=k+1:=⟨XA r q-1,by omega⟩;obtain⟨a,x,y,b,b',e1,e2,hxy,hbl,hd⟩:=UU r q k hl hk;have px:=WR (hr x (by rw[e1];simp));have py:=WR (hq y (by rw[e2];simp));have hd0:=QEW hxy;have hal:a.length+1+b.length<=62:=by rw[e1] at hn;simp at hn;omega
   have s1:S1 r-S1 q=v1 x-v1 y+(S1 b-S1 b'):=by rw[e1,e2,Qdu,Qdu];simp only[S1];omega
   have s2:S2 1 r-S2 1 q=(v1 x-v1 y)*((1+a.length:Nat):Int)+(S2 (1+a.length+1) b-S2 (1+a.length+1) b'):=by rw[e1,e2,Qis,Qis];simp only[S2,Int.sub_mul];omega
   rcases QPI k with hk0|hk0
   .subst hk0;have hb:=Xz _ _ hbl hd;subst hb;have n1:(S1 r % 97).toNat≠(S1 q % 97).toNat:=by omega
    have n2:(S2 1 r % 97).toNat≠(S2 1 q % 97).toNat:=by
     intro e;have:((v1 x-v1 y)*((1+a.length:Nat):Int)) % 97=0:=by omega
     rcases QJz _ _ (by omega) (by omega) this with h|h<;>omega
    have:=Qby (by omega) (by omega) n1;have:=Qby (by omega) (by omega) n2;omega
   .have hk1:k=1:=by omega
    subst hk1;obtain⟨a',x',y',c,c',f1,f2,hxy',hcl,hd'⟩:=UU b b' 0 hbl hd;have hc:=Xz _ _ hcl hd';subst hc;have px':=WR (hr x' (by rw[e1,f1];simp));have py':=WR (hq y' (by rw[e2,f2];simp));have hd0':=QEW hxy';have hal':a.length+1+a'.length+1<=62:=by rw[f1] at hal;simp at hal;omega
    have s1':S1 b-S1 b'=v1 x'-v1 y':=by rw[f1,f2,Qdu,Qdu];simp only[S1];omega
    have s2':S2 (1+a.length+1) b-S2 (1+a.length+1) b'=(v1 x'-v1 y')*((1+a.length+1+a'.length:Nat):Int):=by rw[f1,f2,Qis,Qis];simp only[S2,Int.sub_mul];omega
    rw[s1'] at s1;rw[s2'] at s2;by_cases m1:(S1 r % 97).toNat=(S1 q % 97).toNat
    .have n2:(S2 1 r % 97).toNat≠(S2 1 q % 97).toNat:=by
      intro e;have hz:((v1 x-v1 y)*((1+a'.length:Nat):Int)) % 97=0:=by
       apply QFs _ (v1 x'-v1 y') ((1+a.length:Nat):Int) _ (by omega);have e6:((1+a.length+1+a'.length:Nat):Int)=((1+a.length:Nat):Int)+((1+a'.length:Nat):Int):=by omega
       rw[e6] at s2;omega
      rcases QJz _ _ (by omega) (by omega) hz with h|h<;>omega
     have:=Qby (by omega) (by omega) n2;omega
    .have:=Qby (by omega) (by omega) m1;omega
def Xy{l r:W}(h:fits l r=true):YE r=true/\l.length=r.length+4/\XA l (QV r)<=1:=by simp only[fits,QNZ,decide_eq_true_eq] at h;exact⟨h.1.1,h.1.2,h.2⟩
def Qc3{l r q:W}(h:fits l r=true)(h':fits l q=true):r=q:=by
 obtain⟨a1,a2,a3⟩:=Xy h;obtain⟨b1,b2,b3⟩:=Xy h';obtain⟨p1,p2,_⟩:=Jc a1;obtain⟨p3,_,_⟩:=Jc b1;by_cases hne:r=q
 .exact hne
 .have:=QuK p1 p3 (by omega) p2 hne;have:=Qng (QV r) l (QV q) (by rw[Yf];omega) (by rw[Yf];omega);rw[qz (QV r) l] at this;omega
def Qtu{x:Int}(h1: -97<x)(h2:x<97):x.tmod 97=x:=by
 by_cases h:x<0
 .have:=Int.neg_tmod (-x) 97;rw[Int.neg_neg] at this;rw[this,QOy (by omega)];omega
 .rw[QOy (by omega)];omega
def QuI{a b:W}{x y:UInt8}(hp:plain (a++x::b)):fix (S1 (a++x::b) % 97) (a++y::b) a.length=a++x::b:=by
 have pa:plain a:=λc hc=>hp c (by simp[hc]);have pb:plain b:=λc hc=>hp c (by simp[hc]);have px:=WR (hp x (by simp));have na:=QnF pa;have nb:=QnF pb;have e:Qh1 (S1 (a++x::b) % 97) (a++y::b) a.length=v1 x:=by
  unfold Qh1;have e1:(a++y::b).take a.length++[32]++(a++y::b).drop (a.length+1)=a++([32]++b):=by simp
  have e3:S1 ((32:UInt8)::b)=S1 b:=by simp[S1,v1]
  rw[e1,Qdu,Qdu,show([32]:W)++b=32::b from rfl,e3]
  have e2:S1 (x::b)=v1 x+S1 b:=rfl;have t1:(S1 a+S1 b).tmod 97=(S1 a+S1 b) % 97:=QOy (by omega);rw[e2,t1];generalize hX:(S1 a+(v1 x+S1 b)) % 97-(S1 a+S1 b) % 97=X;rw[Qtu (x:=X) (by omega) (by omega),QOy (show 0<=X+97 by omega)];omega
 unfold fix;rw[e];have:UInt8.ofNat (32+v1 x).toNat=x:=by
  have e3:(32+v1 x).toNat=x.toNat:=by simp only[v1] at *;omega
  rw[e3,UInt8.ofNat_toNat]
 rw[this];simp
def Qfh{l r:W}(h:fits l r=true):XF l=some r:=by
 have⟨a1,a2,a3⟩:=Xy h;have⟨p1,p2,p3⟩:=Jc a1;have h6:¬l.length<6:=by omega
 cases hf:fits l (l.take (l.length-4)) with
 |true=>rw[UH h6 rfl hf,Qc3 hf h]
 |false=>
  generalize ht:l.take (l.length-4)=t at *;have htl:t.length=r.length:=by rw[<- ht];simp;omega
  have hl:l=t++l.drop (l.length-4):=by rw[<- ht];simp
  have hdl:(l.drop (l.length-4)).length=4:=by simp;omega
  have hd:XA l (QV r)=XA t r+XA (l.drop (l.length-4)) (two (S1 r % 97).toNat++two (S2 1 r % 97).toNat):=by
   conv=>lhs;arg 1;rw[hl]
   simp only[QV,QPc];exact VL _ _ _ _ htl
  have htr:XA t r≠0:=λe=>by have:=Xz _ _ htl e;subst this;rw[h] at hf;cases hf
  have hz:XA (l.drop (l.length-4)) (two (S1 r % 97).toNat++two (S2 1 r % 97).toNat)=0:=by omega
  have hz':=Xz _ _ hdl hz;have hw:dg ((l.drop (l.length-4)).take 2)=S1 r % 97:=by rw[hz'];have:(two (S1 r % 97).toNat++two (S2 1 r % 97).toNat).take 2=two (S1 r % 97).toNat:=rfl;rw[this,Qnh (by omega)];omega
  rw[Y4 h6 ht hf hw (by omega)]
  obtain⟨a,y,x,b,b',e1,e2,hxy,hbl,hd0⟩:=UU t r 0 htl (by omega);have hb:=Xz _ _ hbl hd0;subst hb;have hfix:fix (S1 r % 97) t a.length=r:=by rw[e1,e2];exact QuI (by rw[<- e2];exact p1)
  have hal:a.length<t.length:=by rw[e1];simp
  cases hs:(List.range t.length).find? λi=>fits l (fix (S1 r % 97) t i) with
  |none=>rw[List.find?_eq_none] at hs;have:=hs a.length (QOr.2 hal);simp[hfix,h] at this
  |some j=>have:=List.find?_some hs;simp only[QPf,Qc3 this h]
def Jd(l r:W):XF l=some r↔fits l r=true:=by
 constructor
 .intro h;unfold XF at h;split at h
  .cases h
  simp only at h;split at h
  .rename_i hf;injection h with h;rw[<- h];exact hf
  split at h
  .cases h
  rw[QN2] at h;have⟨i,h1,h2⟩:=h;rw[<- h2];have h3:=List.find?_some h1;exact h3
 exact Qfh
open Go.Pf (Gd c33_ok)
section
variable{P:Program}{K:World->Prop}
def Qr5{C:Env->Qz->Prop}{d:Option Nat}{g:FuncId}{id mv n:Nat}{t:TypeId}{sz:Nat}{l:List Zi}{e:Env}{o:Qz}{ys:List IV}{rows rows':List (List IV)}(hn:n=rows.length)(hg:QaG P K g t sz rows ys rows')
  (h:Qy P K C l (bnd d (.yl id rows'.length) e) (Yu id (.arr t sz (emb rows') rows'.length) o)):Qif P K C d g id l e o (some ys) (.yl id n) (some (.arr t sz (emb rows) mv)):=by
 subst hn;exact Qr6 hg h
def QoH{C:Env->Qz->Prop}{d:Option Nat}{g:FuncId}{id:Nat}{t:TypeId}{sz:Nat}{l:List Zi}{e:Env}{o:Qz}{ys:List IV}{kvs:List (MK×List (List IV))}{k:MK}{n:Nat}{rows rows':List (List IV)}(hr:(Qv k kvs).getD []=rows)(hn:rows.length=n)(hg:QaG P K g t sz rows ys rows')
  (h:Qy P K C l (bnd d (.yn id k rows'.length) e) (Yu id (.yo t sz (zn k rows' kvs) (some k)) o)):Qif P K C d g id l e o (some ys) (.yn id k n) (some (.yo t sz kvs none)):=by
 subst hr;exact Qr4 hn hg h
end
def Qm6{l r:W}(h:fits l r=true):YE r=true/\l.length=r.length+4:=by simp only[fits,QNZ,decide_eq_true_eq] at h;exact⟨h.1.1,h.1.2⟩
def Qea{l r:W}(h:XF l=some r):fits l r=true:=by
 unfold XF at h;split at h
 .cases h
 .simp only at h;split at h
  .rename_i hf;injection h with h;rw[<- h];exact hf
  .split at h
   .cases h
   .rw[QN2] at h;have⟨i,h1,h2⟩:=h;rw[<- h2];have h3:=List.find?_some h1;exact h3
def Qgq{β:Type}(k:Int)(v:β):List (Int×β)->List (Int×β)
 |[]=>[(k,v)]
 |p::r=>if p.1=k then(k,v)::r else p::Qgq k v r
def Q5{β:Type}(k:Int):List (Int×β)->Option β
 |[]=>none
 |p::r=>if p.1=k then some p.2 else Q5 k r
def UT{β α:Type}(f:β->α)(l:List (Int×β)):List (MK×α):=l.map λp=>(.int .i64 p.1,f p.2)
theorem Qf4{β α:Type}(f:β->α)(k:Int)(v:β):∀l:List (Int×β),zn (.int .i64 k) (f v) (UT f l)=UT f (Qgq k v l)
 |[]=>rfl
 |p::r=>by
  have ih:=Qf4 f k v r;simp only[UT,QOk,zn,Qgq] at ih |-;by_cases h:p.1=k
  .simp[h]
  simp[h,ih]
theorem Jp{β α:Type}(f:β->α)(k:Int):∀l:List (Int×β),Qv (.int .i64 k) (UT f l)=(Q5 k l).map f
 |[]=>rfl
 |p::r=>by
  have ih:=Jp f k r;simp only[UT,QOk,Qv,Q5] at ih |-;by_cases h:p.1=k
  .simp[h]
  simp[h,ih]
theorem Ym{β α:Type}(f:β->α):∀l:List (Int×β),ZC (some .i64) (UT f l)
 |[]=>trivial
 |p::r=>⟨rfl,Ym f r⟩
theorem XQ{β:Type}(k j:Int)(v:β):∀l:List (Int×β),Q5 j (Qgq k v l)=if j=k then some v else Q5 j l
 |[]=>by
  simp only[Qgq,Q5];by_cases h:j=k
  .simp[h]
  simp[h,Ne.symm h]
 |p::r=>by
  have ih:=XQ k j v r;simp only[Qgq];by_cases h:p.1=k
  .simp only[h,if_true,Q5];by_cases hj:j=k
   .simp[hj]
   simp[hj,Ne.symm hj]
  .simp only[h,if_false,Q5,ih];by_cases hj:j=k
   .subst hj;simp[h]
   .simp[hj]
def txE(l:List W):List (List IV):=l.map λs=>[.str s]
def inE(l:List Int):List (List IV):=l.map λn=>[.int .i64 n]
structure Pg where
 rows:List (Int×List W)
 ends:List Int
 exact:List (Int×Int)
 bad:List Int
def WT(p:Pg)(i:Nat)(l:W):Pg:=
 match XF l with
 |none=>{ p with bad:=p.bad++[(i:Int)] }
 |some r=>
  if(Qu r).1.2.2 then { p with ends:=YI p.ends (Qu r).1.1 }
  else { p with rows:=Qgq (Qu r).1.1 (YI ((Q5 (Qu r).1.1 p.rows).getD []) (Qu r).1.2.1) p.rows,exact:=if QV r=l then Qgq (Qu r).1.1 ((Q5 (Qu r).1.1 p.exact).getD 0+1) p.exact else p.exact }
def VX(ls:List W):Nat->Pg
 |0=>⟨[],[],[],[]⟩
 |i+1=>WT (VX ls i) i (ls.getD i [])
def QgD{α:Type}[BEq α](l:List α)(x:α):(YI l x).length<=l.length+1:=by unfold YI;split<;>simp
theorem Qhd(ls:List W):∀i,(VX ls i).ends.length<=i/\(VX ls i).bad.length<=i/\(∀k,((Q5 k (VX ls i).rows).getD []).length<=i)/\(∀k,0<=(Q5 k (VX ls i).exact).getD 0/\(Q5 k (VX ls i).exact).getD 0<=i)
 |0=>by simp[VX,Q5]
 |i+1=>by
  have⟨h1,h2,h3,h4⟩:=Qhd ls i;simp only[VX,WT];split
  .refine⟨by simp only;omega,by simp;omega,λk=>?_,λk=>?_⟩
   .have:=h3 k;simp only;omega
   have:=h4 k;simp only;omega
  .split
   .refine⟨?_,by simp only;omega,λk=>?_,λk=>?_⟩
    .have:=QgD (VX ls i).ends (Qu ‹W›).1.1;simp only;omega
    .have:=h3 k;simp only;omega
    have:=h4 k;simp only;omega
   .refine⟨by simp only;omega,by simp only;omega,λk=>?_,λk=>?_⟩
    .simp only[XQ];split
     .have:=QgD ((Q5 (Qu ‹W›).1.1 (VX ls i).rows).getD []) (Qu ‹W›).1.2.1;have:=h3 (Qu ‹W›).1.1;simp only[QOG];omega
     have:=h3 k;omega
    .simp only
     split
     .rw[XQ]
      split
      .have:=h4 (Qu ‹W›).1.1;simp only[QOG];omega
      have:=h4 k;omega
     .have:=h4 k;omega
def pgV(p:Pg):IV:=.agg [.map (UT (λt=>.sl 1 (txE t)) p.rows),Qq p.ends,.map (UT (λn=>.int .i64 n) p.exact),Qq p.bad]
def QHG:IV:=.agg [.map [],.sl 1 [],.map [],.sl 1 []]
include hK
def Qw0(hS:∀s:W,s.length<=1000000->Gd K 139 [.str s,.str [10]] (strs (spl s)))(b:W)(hb:b.length<=100000)(hl:∀ls,Wd b=some ls->ls.length<=100000/\∀l∈ls,l.length<=10000):
  Gd K 33 [.str b] (match Wd b with|some ls=>.xf [pgV (VX ls ls.length),.int .i64 0]|none=>.xf [QHG,.int .i64 140]):=by
 apply Qb hK c33_ok (by simp);have g50:=QFR hK hS b (by omega);generalize Wd b=R at *;cases R with
 |none=>simp at g50 |-;apply Qd g50 (by simp);simp[QHG]
 |some ls=>
  obtain⟨hl1,hl2⟩:=hl ls rfl;simp at g50 |-;apply Qd g50 (by simp);simp;intro hln;have e0:UT txE ([]:List (Int×List W))=[]:=rfl
  refine Zz (λi=>[(2,AV.loc 2 0),(6,.loc 6 0),(22,.iv (strs ls)),(23,.iv (.int .i64 (ls.length:Nat))),(24,.iv (.int .i64 (i:Nat)))])
   (λi=>[(2,AO.box [.iv (.map []),.iv (.sl 1 []),.iv (.map []),.iv (.sl 1 [])]),(6,.box [.yk 19,.yl 7001 (VX ls i).ends.length,.yk 20,.yl 7003 (VX ls i).bad.length]),(19,.yo 9 1 (UT txE (VX ls i).rows) none),
     (20,.xh (UT (λn=>.int .i64 n) (VX ls i).exact)),(7001,.arr 3 1 (emb (inE (VX ls i).ends)) (VX ls i).ends.length),(7003,.arr 3 1 (emb (inE (VX ls i).bad)) 0)]) ls.length ?_ ?_
  .rw[Qa Go.Pf.c33_b0.eq_1]
   generalize VX ls ls.length=p;have l1:(inE p.ends).length=p.ends.length:=by simp[inE]
   have l2:(inE p.bad).length=p.bad.length:=by simp[inE]
   simp[l1,l2];simp[pgV,UT,txE,inE]
  intro i hi ih;rw[Qa Go.Pf.c33_b0.eq_1];obtain⟨b1,b2,b3,b4⟩:=Qhd ls i;have hli:=hl2 ls[i] (QN0 hi);have hg:ls.getD i []=ls[i]:=by simp[hi]
  simp only[VX,hg] at ih;generalize VX ls i=p at *;simp[hi];apply Qd (QFQ hK ls[i] hli) (by simp);cases hR:XF ls[i] with
  |none=>
   have e:WT p i ls[i]={ p with bad:=p.bad++[(i:Int)] }:=by simp[WT,hR]
   rw[e] at ih;have l2:(inE p.bad).length=p.bad.length:=by simp[inE]
   have l3:inE (p.bad++[(i:Int)])=inE p.bad++[[.int .i64 (i:Nat)]]:=by simp[inE]
   rw[l3] at ih;simp[l2] at ih |-;exact⟨by omega,by omega,ih⟩
  |some r=>
   have hst:XL ls[i]=(Qu r).1:=by unfold XL;rw[hR]
   have hrow:YE r=true:=(Qm6 (Qea hR)).1;cases hc:(Qu r).1.2.2 with
   |true=>
    have e:WT p i ls[i]={ p with ends:=YI p.ends (Qu r).1.1 }:=by simp[WT,hR,hc]
    rw[e] at ih;simp[hst,hc] at ih |-;apply Qr5 (rows:=inE p.ends) (rows':=inE (YI p.ends (Qu r).1.1)) (by simp[inE]) (Qyn hK p.ends (Qu r).1.1 (by omega));have l1:(inE (YI p.ends (Qu r).1.1)).length=(YI p.ends (Qu r).1.1).length:=by simp[inE]
    simp[l1];exact⟨by omega,ih⟩
   |false=>
    have g41:=QfJ hK r hrow;simp[hc] at g41;have hfk:=Jp txE (Qu r).1.1 p.rows;have hle:=b3 (Qu r).1.1;have hks:=Ym txE p.rows;generalize hold:(Q5 (Qu r).1.1 p.rows).getD []=old at *
    have hfo:(Qv (.int .i64 (Qu r).1.1) (UT txE p.rows)).getD []=txE old:=by rw[hfk,<- hold];cases Q5 (Qu r).1.1 p.rows<;>rfl
    simp[hst,hc,hks,hfo];apply QoH hfo rfl (Qym hK old (Qu r).1.2.1 (by omega));have hl2':(List.map (λn=>[IV.str n]) (YI old (Qu r).1.2.1))=txE (YI old (Qu r).1.2.1):=rfl;rw[hl2',Qf4];have hks2:=Ym txE (Qgq (Qu r).1.1 (YI old (Qu r).1.2.1) p.rows);have hf2:=Jp txE (Qu r).1.1 (Qgq (Qu r).1.1 (YI old (Qu r).1.2.1) p.rows);rw[XQ,if_pos rfl] at hf2;simp[hks2,hf2];apply Qd g41 (by simp);have hks3:=Ym (λn=>IV.int .i64 n) p.exact;have hf3:=Jp (λn=>IV.int .i64 n) (Qu r).1.1 p.exact;obtain⟨b5,b6⟩:=b4 (Qu r).1.1;generalize hcnt:(Q5 (Qu r).1.1 p.exact).getD 0=cnt at *
    have hf3':(Qv (.int .i64 (Qu r).1.1) (UT (λn=>IV.int .i64 n) p.exact)).getD (.int .i64 0)=.int .i64 cnt:=by rw[hf3,<- hcnt];cases Q5 (Qu r).1.1 p.exact<;>rfl
    have hins:=Qf4 (λn=>IV.int .i64 n) (Qu r).1.1 (cnt+1) p.exact;by_cases he:QV r=ls[i]
    .have e:WT p i ls[i]={ p with rows:=Qgq (Qu r).1.1 (YI old (Qu r).1.2.1) p.rows,exact:=Qgq (Qu r).1.1 (cnt+1) p.exact }:=by simp[WT,hR,hc,he,hold,hcnt]
     rw[e] at ih;simp[he,hks3,hf3',hins] at ih |-;exact⟨by omega,by omega,ih⟩
    have e:WT p i ls[i]={ p with rows:=Qgq (Qu r).1.1 (YI old (Qu r).1.2.1) p.rows }:=by simp[WT,hR,hc,he,hold]
    rw[e] at ih;simp[he] at ih |-;exact⟨by omega,ih⟩
end Go.Bk
