/- proofs.tell: the story of a zc whose ends are set. -/
import Derived.Test.YtpiohpigfaahcaaGreatDoorPartFour
import Derived.Lib.ItoaNum
import Derived.Lib.ItoaMem
import Derived.Lib.AtoiTie
import Derived.Lib.Strings
import Derived.Lib.SplitLaws
import Derived.WalkSmall
import Derived.Test.YtpiohpigfaahcaaGreatDoorCards
import Derived.Test.YtpiohpigfaahcaaGreatDoorTie
import Derived.ProofKit
import Derived.Lay
import Derived.Lib.LaidTab
import Derived.Stop.LaidErr
import Derived.JoinedCond
set_option linter.all false
set_option maxRecDepth 100000
namespace Go.Pf
open Go Go.Ev Go.Proofs Go.RowKit Go.Proofs.Tryz
variable{K:World->Prop}(hK:∀w w',K w->Below w.heap.size w w'->K w')
theorem Qih(ds:List QB){e e':Nat->Int}:∀k,(∀i<k,e i=e' i)->cab ds e k=cab ds e' k
 |0,_=>rfl
 |k+1,h=>by have ih:=Qih ds k λi hi=>h i (by omega);have hk:=h k (by omega);simp only[cab,ih,hk]
def Qxs(ds:List QB)(k:Nat){j:Nat}(h:j<=k):wn (ds.take k) j=wn ds j:=by unfold wn;grind
theorem Qnq(ds:List QB)(e:Nat->Int)(k:Nat):∀j,j<=k->cab (ds.take k) e j=cab ds e j
 |0,_=>rfl
 |j+1,h=>by
  have ih:=Qnq ds e k j (by omega);have hj:(ds.take k)[j]?=ds[j]?:=by grind
  simp only[cab,hj,ih,Qxs ds k (show j<=k by omega)]
def QrF(ds:List QB)(k i:Nat)(h:i<k):Zx (ds.take k) 0 i=Zx ds 0 i:=by
 have hj:(ds.take k)[i]?=ds[i]?:=by grind
 unfold Zx;grind
def QoI(ds:List QB)(k:Nat):cab (ds.take k) (Zx (ds.take k) 0) k=cab ds (Zx ds 0) k:=by rw[Qnq ds _ k k (QN3 _)];exact Qih ds k λi hi=>QrF ds k i hi
def Qdy(ds:List QB)(k:Nat)(h:ZF ds=0):ZF (ds.take k)=0:=by
 rw[ZF,QPG] at *
 grind
def Xc(p:Qf)(e:Nat->Int):List IV:=[.sl 1 ((List.range p.zf.length).map λi=>[.int .u64 (XG (Zr p i e):Nat)]),.sl 1 ((List.range p.zf.length).map λi=>[.int .i64 (QJ p i e)]),ZM (XO p e)]
include hK
def Qg1(c:Ql)(hc:OkD c.za c.za.length)(hl:c.za.length<=12)(h2:ZF c.za=0)(k:Nat)(hk:k<=c.za.length):Gd K 349 [chV (ZJ c k)] (ZM (cab c.za (Zx c.za 0) k)):=by
 have hC:OkC (ZJ c k):=Qad hc hl hk;have:=QyR hK (ZJ c k) hC (Qdy _ _ h2) rfl;have e:(ZJ c k).za=c.za.take k:=rfl;have e2:(c.za.take k).length=k:=by simp;omega
 rw[e,e2,QoI] at this;exact this
def Qzc(p:Qf)(hp:OkP p)(h2:ZF p.zc.za=0):Gd K 297 [chV p.zc,Q4 p.zf] (.agg (Xc p (Zx p.zc.za 0))):=by
 have hl:=hp.deedsLen;have htl:=hp.trialsLen;have hd:=hp.zc.za;apply Qb hK QB9 (by simp);simp;intro _;apply cK (by simpa using QfP hK p.zc p.zc.za.length (QN3 _));simp;apply cK (by simpa using Qg1 hK p.zc hd hl h2 p.zc.za.length (QN3 _));simp;apply cK (by simpa using QqT hK p.zc);simp
 refine Zf (wy:=.fall) (o':=[(4,.box [.iv (.sl 1 []),.iv (.sl 1 []),.iv (.sl 1 [])]),(5,.box [.yl 6000 p.zf.length,.yl 6001 p.zf.length,.iv (ZM (XO p (Zx p.zc.za 0)))]),(6000,.arr 260 1 (emb ((List.range p.zf.length).map λi=>[.int .u64 (XG (Zr p i (Zx p.zc.za 0)):Nat)])) 0),(6001,.arr 3 1 (emb ((List.range p.zf.length).map λi=>[.int .i64 (QJ p i (Zx p.zc.za 0))])) 0)]) rfl (by kernel_rfl) (Qjo p.zc (by omega)) ?_ ?_
 .have htrs:(trs (pv p.zc.za) 0).length=p.zf.length:=by
   have:∀(l:List Nat)(t:Nat),(trs l t).length=l.length:=by
    intro l;induction l with
    |nil=>intro t;rfl
    |cons a l ih=>intro t;simp[trs,ih]
   rw[this,hp.many]
  have:=Wh.all (P:=prog) (K:=K) (ps:=[22,23]) (asn:=Qgc) (body:=QkW) (ks:=[2,3,4,5]) (ids:=[4,5,6000,6001]) (eK:=[(2,.iv (.ptr [Qr p.zc.za,Qj p.zc.zg,.int .i64 p.zc.zh])),(3,.iv (.ptr [Q4 p.zf])),(4,.loc 4 0),(5,.loc 5 0)]) (trs (pv p.zc.za) 0)
   (λi=>[(4,.box [.iv (.sl 1 []),.iv (.sl 1 []),.iv (.sl 1 [])]),(5,.box [.yl 6000 i,.yl 6001 i,.iv (ZM (XO p (Zx p.zc.za 0)))]),
     (6000,.arr 260 1 (emb ((List.range i).map λi=>[.int .u64 (XG (Zr p i (Zx p.zc.za 0)):Nat)])) 0),(6001,.arr 3 1 (emb ((List.range i).map λi=>[.int .i64 (QJ p i (Zx p.zc.za 0))])) 0)]) λi x hx=>by
   obtain⟨hi,rfl⟩:=Qe6 _ _ _ _ hx;have hit:i<p.zf.length:=by grind
   have y9:=Qef hi;have hthen:Zr p i (Zx p.zc.za 0)=cab p.zc.za (Zx p.zc.za 0) (pv p.zc.za)[i]:=by simp[Zr,List.getD_eq_getElem?_getD,hi]
   have hrow:=Qg1 hK p.zc hd hl h2 (pv p.zc.za)[i] (by omega);rw[<- hthen] at hrow;have htr:=Ja hit;have hok:=hp.trial hit;have hbr:QJ p i (Zx p.zc.za 0)=if 0<=(tr p i).z5 then(((Zr p i (Zx p.zc.za 0)).getD (tr p i).z5.toNat 0:Nat):Int) else -1:=rfl
   have hcl:((Zr p i (Zx p.zc.za 0)).length:Int)=cnt p.zc.za (pv p.zc.za)[i]:=by rw[hthen];exact ZW _ hd _ (by omega) (by omega)
   have hcb:=hd.cnt (pv p.zc.za)[i] (by omega) (by omega);have hmem:∀n∈Zr p i (Zx p.zc.za 0),n<12:=λn hn=>by rw[hthen] at hn;have:=Wf _ _ _ n hn;have:=QgC p.zc.za (pv p.zc.za)[i];omega
   have hpd:(pv p.zc.za).getD i 0=(pv p.zc.za)[i]:=by grind
   rw[hpd] at hok;rw[QOv,QOd,QOd];refine⟨rfl,?_⟩;generalize hnow:Zr p i (Zx p.zc.za 0)=now at *;simp[Qgc,QkW,-List.map_map,Qw,QE,QC,Qm];apply cK (by simpa using QfP hK p.zc (pv p.zc.za)[i] (by omega));simp;apply cK (by simpa using hrow);simp;intro _
   refine Qe (λk=>[(2,.iv (.ptr [Qr p.zc.za,Qj p.zc.zg,.int .i64 p.zc.zh])),(3,.iv (.ptr [Q4 p.zf])),(4,.loc 4 0),(5,.loc 5 0),(6,.iv (.int .i64 (i:Nat))),(8,.iv (ZM now)),(9,.iv (.int .u64 (XG (now.take k):Nat))),(28,.iv (ZM now)),(29,.iv (.int .i64 now.length)),(30,.iv (.int .i64 (k:Nat)))])
    (λ_=>[(4,.box [.iv (.sl 1 []),.iv (.sl 1 []),.iv (.sl 1 [])]),(5,.box [.yl 6000 i,.yl 6001 i,.iv (ZM (XO p (Zx p.zc.za 0)))]),
    (6000,.arr 260 1 (emb ((List.range i).map λi=>[.int .u64 (XG (Zr p i (Zx p.zc.za 0)):Nat)])) 0),(6001,.arr 3 1 (emb ((List.range i).map λi=>[.int .i64 (QJ p i (Zx p.zc.za 0))])) 0)]) now.length (λ_=>True) trivial ?_ ?_
   .intro _;rw[Qa QkX.eq_1];by_cases hb:0<=(tr p i).z5
    .have hb2:(tr p i).z5.toNat<now.length:=by
      have:=hok.2.2;simp only[inR] at this;omega
     have hgd:now.getD (tr p i).z5.toNat 0=now[(tr p i).z5.toNat]:=by grind
     rw[if_pos hb,hgd] at hbr;simp[hit,htr,hb,hb2,hbr,hnow,-List.map_map,Qw,QE,QC,Qm,QN1];omega
    rw[if_neg hb] at hbr;simp[hit,htr,hb,hbr,hnow,-List.map_map,Qw,QE,QC,Qm,QN1];omega
   intro k hk _ ih;rw[Qa QkX.eq_1];have hn:=hmem now[k] (QN0 hk);have hm1:XG (now.take k)<2 ^ 12:=QmK 12 _ λn hn=>hmem n (QOJ hn);have hm2:(2:Nat) ^ now[k]<2 ^ 12:=QPN (by decide) hn;have hor:=QmC (XG (now.take k)) (2 ^ now[k]) (by omega) (by omega);rw[<- QiK (n:=now[k]) (by omega)] at hor;rw[QNW hk,Qaj] at ih;simp at ih;simp[hk,hor];grind
  rw[htrs] at this;simpa[emb,XO] using this
 simp[Xc,QN1]
 trace_state
omit hK
def Zu(p:Qf)(s:Qn):List (List IV):=(List.range p.zf.length).map λi=>[.int .i64 (qc p.zb (tr p i).zm (tr p i).zn s),.int .i64 (upS p.zb (tr p i).zm (tr p i).zn s)]
def ZT(p:Qf)(t:QR):List IV:=Xc p (Qt t.ends)++[.sl 2 (Zu p t.set)]
def nd(p:Qf)(zo:Int):Qf:={ p with zo:=zo }
def Wl{a b c:Int}(ha:0<=a)(hb:1<=b):(a+b-1).tdiv b<=c↔a<=c*b:=by
 rw[QOB (by omega)]
 constructor
 .intro h;have h1:=Int.mul_ediv_add_emod (a+b-1) b;have h2:=Int.emod_lt_of_pos (a+b-1) (show 0<b by omega);have h3:b*((a+b-1) / b)<=b*c:=QOX h (by omega);grind
 intro h;have:(a+b-1) / b<c+1:=by
  rw[Int.ediv_lt_iff_lt_mul (by omega),Int.add_mul]
  omega
 omega
def Wx{a b c:Int}(ha:0<=a)(hb:1<=b):c<=a.tdiv b↔c*b<=a:=by rw[QOB ha];exact Int.le_ediv_iff_mul_le (by omega)
include hK
def Qzb(p:Qf)(t:QR)(zo:Int)(hp:OkP p)(hs:okS p.zb t.set)(i:Nat)(hi:i<p.zf.length):Gd K 303 [.agg (ZT p t),.int .i64 i,.int .i64 zo] (.bool (Z9 (nd p zo) i t)):=by
 apply Qb hK QB8 (by simp);have hbr:QJ p i (Qt t.ends)=if 0<=(tr p i).z5 then(((Zr p i (Qt t.ends)).getD (tr p i).z5.toNat 0:Nat):Int) else -1:=rfl
 have hfd:Z9 (nd p zo) i t=(decide (0<=(tr p i).z5)&&decide (num p.zb t.set (tr p i).zm (tr p i).zn<=zo*den t.set)):=rfl;have hnum:0<=num p.zb t.set (tr p i).zm (tr p i).zn:=(hp.zb.numB hs (hp.trial hi).1 (hp.trial hi).2.1).1;have hden:1<=den t.set:=(hp.zb.denB hs).1;have hup:=Wl (c:=zo) hnum hden;rw[hfd];by_cases hb:0<=(tr p i).z5
 .rw[if_pos hb] at hbr;by_cases h2:num p.zb t.set (tr p i).zm (tr p i).zn<=zo*den t.set
  .have h3:=hup.2 h2;simp[ZT,Xc,Zu,hi,hbr,hb,upS,h2,h3]
  have h3:=λh=>h2 (hup.1 h);simp[ZT,Xc,Zu,hi,hbr,hb,upS,h2,h3];omega
 .rw[if_neg hb] at hbr;simp[ZT,Xc,Zu,hi,hbr,hb]
omit hK in
theorem Qos(p:Qf)(t:QR)(n:Nat):(List.range (n+1)).countP (λi=>Z9 p i t)=(List.range n).countP (λi=>Z9 p i t)+if Z9 p n t then 1 else 0:=by
 rw[QOv,QOH]
 grind
def QjT(p:Qf)(t:QR)(zo:Int)(hp:OkP p)(hs:okS p.zb t.set):Gd K 216 [.agg (ZT p t),.int .i64 zo] (.int .i64 (ZO (nd p zo) t:Nat)):=by
 apply Qb hK QDd (by simp);have htl:=hp.trialsLen;have hll:(Zu p t.set).length=p.zf.length:=by simp[Zu]
 have hf:ZO (nd p zo) t=(List.range p.zf.length).countP (λi=>Z9 (nd p zo) i t):=rfl;have hsv:ZT p t=[.sl 1 ((List.range p.zf.length).map λi=>[.int .u64 (XG (Zr p i (Qt t.ends)):Nat)]),.sl 1 ((List.range p.zf.length).map λi=>[.int .i64 (QJ p i (Qt t.ends))]),ZM (XO p (Qt t.ends)),.sl 2 (Zu p t.set)]:=rfl;rw[hsv];have hg:=λi hi=>Qzb hK p t zo hp hs i hi;rw[hsv] at hg;simp[hll];intro _
 refine Qe (λi=>[(1,AV.iv (.int .i64 zo)),(2,.iv (.ptr [.sl 1 ((List.range p.zf.length).map λi=>[.int .u64 (XG (Zr p i (Qt t.ends)):Nat)]),.sl 1 ((List.range p.zf.length).map λi=>[.int .i64 (QJ p i (Qt t.ends))]),ZM (XO p (Qt t.ends)),.sl 2 (Zu p t.set)])),
   (5,.iv (.int .i64 ((List.range i).countP (λi=>Z9 (nd p zo) i t):Nat))),(9,.iv (.int .i64 p.zf.length)),(10,.iv (.int .i64 (i:Nat)))]) (λ_=>[]) p.zf.length (λ_=>True) trivial ?_ ?_
 .intro _;rw[Qa Qlv.eq_1];simp[hf]
 .intro i hi _ ih;have hle:(List.range i).countP (λi=>Z9 (nd p zo) i t)<=i:=by
   have:=QOw (p:=λi=>Z9 (nd p zo) i t) (l:=List.range i);simpa using this
  rw[Qa Qlv.eq_1];rw[Qos] at ih;simp[hi] at ih |-;apply cK (by simpa using hg i hi);cases hb:Z9 (nd p zo) i t
  .simp[hb] at ih |-
   grind
  .simp[hb] at ih |-
   grind
omit hK in
theorem QmL{p:Qf}(hp:OkP p)(i:Nat)(e:Nat->Int):XG (Zr p i e)<2 ^ 12:=QmK 12 _ λn hn=>by have h1:=OkP.thenLt (p:=p) e i hn;have h2:=Y5 p.zc.za;have h3:(X8 p.zc.za).length<=p.zc.za.length:=QOp _ _;have:=hp.deedsLen;omega
def QtK(p:Qf)(t:QR)(m i:Nat):Nat:=if p.zo<=qc p.zb (tr p i).zm (tr p i).zn t.set then m ||| (if 0<=QJ p i (Qt t.ends) then Qxh (XG (Zr p i (Qt t.ends))) (2 ^ (QJ p i (Qt t.ends)).toNat) else XG (Zr p i (Qt t.ends))) else m
def pmN(p:Qf)(t:QR)(n:Nat):Nat:=(List.range n).foldl (QtK p t) 0
omit hK in
theorem W5(p:Qf)(t:QR)(n:Nat):pmN p t (n+1)=QtK p t (pmN p t n) n:=by simp[pmN,QOv]
omit hK in
theorem QbR{p:Qf}(hp:OkP p)(e:Nat->Int){i:Nat}(hi:i<p.zf.length): -1<=QJ p i e/\QJ p i e<12:=by
 by_cases hb:0<=(tr p i).z5
 .obtain⟨h1,h2⟩:=hp.brokeIn e hi hb;have h3:=OkP.thenLt (p:=p) e i (QN0 h1);have h4:=Y5 p.zc.za;have h5:(X8 p.zc.za).length<=p.zc.za.length:=QOp _ _;have:=hp.deedsLen;omega
 simp[QJ,hb]
omit hK in
theorem QpC{p:Qf}(hp:OkP p){t:QR}(hs:okS p.zb t.set)(zo:Int)(m:Nat){i:Nat}(hi:i<p.zf.length){k:Nat}(hk:k<64):(QtK (nd p zo) t m i).testBit k=(m.testBit k||Xi (nd p zo) k t i):=by
 have hnum:=(hp.zb.numB hs (hp.trial hi).1 (hp.trial hi).2.1).1;have hden:=(hp.zb.denB hs).1;have hbb:=QbR hp (Qt t.ends) hi;have hiff:=Wx (c:=zo) hnum hden;have hin:inN (Zr p i (Qt t.ends)) k=decide (k∈Zr p i (Qt t.ends)):=by unfold inN;grind
 have e1:Xi (nd p zo) k t i=(decide (zo*den t.set<=num p.zb t.set (tr p i).zm (tr p i).zn)&&inN (Zr p i (Qt t.ends)) k&&!decide (QJ p i (Qt t.ends)=k)):=rfl;have e2:QtK (nd p zo) t m i=if zo<=qc p.zb (tr p i).zm (tr p i).zn t.set then m ||| (if 0<=QJ p i (Qt t.ends) then Qxh (XG (Zr p i (Qt t.ends))) (2 ^ (QJ p i (Qt t.ends)).toNat) else XG (Zr p i (Qt t.ends))) else m:=rfl
 rw[e1,e2,hin];by_cases h1:zo<=qc p.zb (tr p i).zm (tr p i).zn t.set
 .have h2:zo*den t.set<=num p.zb t.set (tr p i).zm (tr p i).zn:=hiff.1 h1;rw[if_pos h1,Nat.testBit_or];by_cases h3:0<=QJ p i (Qt t.ends)
  .rw[if_pos h3,Qwj (QPN (by decide) (by omega)) hk,Qhk,Nat.testBit_two_pow]
   grind
  rw[if_neg h3,Qhk]
  grind
 have h2:¬zo*den t.set<=num p.zb t.set (tr p i).zm (tr p i).zn:=λh=>h1 (hiff.2 h);grind
omit hK in
theorem Qfp{p:Qf}(hp:OkP p){t:QR}(hs:okS p.zb t.set){zo:Int}{k:Nat}(hk:k<64):(pmN (nd p zo) t p.zf.length).testBit k=QD (nd p zo) k t:=by
 have hat:∀(m:Nat){i:Nat},i<p.zf.length->(QtK (nd p zo) t m i).testBit k=(m.testBit k||Xi (nd p zo) k t i):=λm i hi=>QpC hp hs zo m hi hk;have:∀n,n<=p.zf.length->(pmN (nd p zo) t n).testBit k=(List.range n).any (Xi (nd p zo) k t):=by
  intro n;induction n with
  |zero=>intro _;simp[pmN]
  |succ n ih=>intro h;rw[W5,hat _ (by omega),ih (by omega),QdO]
 exact this _ (QN3 _)
omit hK in
theorem Qmz{p:Qf}(hp:OkP p)(t:QR){zo:Int}(n:Nat):pmN (nd p zo) t n<2 ^ 64:=by
 have:∀n,pmN (nd p zo) t n<2 ^ 12:=λn=>by
  induction n with
  |zero=>simp[pmN]
  |succ n ih=>
   rw[W5];have h:=QmL hp n (Qt t.ends);unfold QtK;split
   .refine QPB ih ?_;split
    .exact QPH Nat.and_le_left h
    exact h
   exact ih
 grind
def QjR(p:Qf)(t:QR)(zo:Int)(hp:OkP p):Gd K 221 [.agg (ZT p t),.int .i64 zo] (.int .u64 (pmN (nd p zo) t p.zf.length:Nat)):=by
 apply Qb hK QC8 (by simp);have htl:=hp.trialsLen;have hpl:∀i,pmN (nd p zo) t i<2 ^ 12:=λi=>by
  have:∀n,pmN (nd p zo) t n<2 ^ 12:=λn=>by
   induction n with
   |zero=>simp[pmN]
   |succ n ih=>
    rw[W5];have h:=QmL hp n (Qt t.ends);unfold QtK;split
    .refine QPB ih ?_;split
     .exact QPH Nat.and_le_left h
     exact h
    exact ih
  exact this i
 have hsv:ZT p t=[.sl 1 ((List.range p.zf.length).map λi=>[.int .u64 (XG (Zr p i (Qt t.ends)):Nat)]),.sl 1 ((List.range p.zf.length).map λi=>[.int .i64 (QJ p i (Qt t.ends))]),ZM (XO p (Qt t.ends)),.sl 2 (Zu p t.set)]:=rfl;rw[hsv];simp;intros
 refine Qe (λi=>[(1,AV.iv (.int .i64 zo)),(2,.iv (.ptr [.sl 1 ((List.range p.zf.length).map λi=>[.int .u64 (XG (Zr p i (Qt t.ends)):Nat)]),.sl 1 ((List.range p.zf.length).map λi=>[.int .i64 (QJ p i (Qt t.ends))]),ZM (XO p (Qt t.ends)),.sl 2 (Zu p t.set)])),
   (5,.iv (.int .u64 (pmN (nd p zo) t i:Nat))),(11,.iv (.sl 1 ((List.range p.zf.length).map λi=>[.int .u64 (XG (Zr p i (Qt t.ends)):Nat)]))),(12,.iv (.int .i64 p.zf.length)),(13,.iv (.int .i64 (i:Nat)))]) (λ_=>[]) p.zf.length (λ_=>True) trivial ?_ ?_
 .intro _;rw[Qa Qlt.eq_1];simp
 .intro i hi _ ih;have hm:=QmL hp i (Qt t.ends);have hbb:=QbR hp (Qt t.ends) hi;have hpi:=hpl i;rw[Qa Qlt.eq_1];rw[W5] at ih;have hat:∀m,QtK (nd p zo) t m i=if zo<=qc p.zb (tr p i).zm (tr p i).zn t.set then m ||| (if 0<=QJ p i (Qt t.ends) then Qxh (XG (Zr p i (Qt t.ends))) (2 ^ (QJ p i (Qt t.ends)).toNat) else XG (Zr p i (Qt t.ends))) else m:=λm=>rfl
  rw[hat] at ih;have hld:(Zu p t.set)[i]?=some [.int .i64 (qc p.zb (tr p i).zm (tr p i).zn t.set),.int .i64 (upS p.zb (tr p i).zm (tr p i).zn t.set)]:=by simp[Zu,hi]
  have hll:(Zu p t.set).length=p.zf.length:=by simp[Zu]
  generalize qc p.zb (tr p i).zm (tr p i).zn t.set=lo at *;generalize upS p.zb (tr p i).zm (tr p i).zn t.set=up at *;generalize pmN (nd p zo) t i=m at *
  have hld2:(Zu p t.set)[i]'(by omega)=[.int .i64 lo,.int .i64 up]:=by grind
  by_cases h1:zo<=lo
  .have h1':¬lo<zo:=by omega
   by_cases h3:0<=QJ p i (Qt t.ends)
   .obtain⟨b,hb⟩:∃b:Nat,QJ p i (Qt t.ends)=b:=⟨(QJ p i (Qt t.ends)).toNat,by omega⟩;have hb12:b<12:=by omega
    have h2b:(2:Nat) ^ b<2 ^ 12:=QPN (by decide) hb12;have q1:=QoL (XG (Zr p i (Qt t.ends))) (2 ^ b) (by omega) (by omega);rw[<- QiK (n:=b) (by omega)] at q1;have q2:=QmC m (Qxh (XG (Zr p i (Qt t.ends))) (2 ^ b)) (by omega) (Qs4 (by omega));simp[h1,hb] at ih;simp[hi,hll,hld2,h1',hb,q1,q2];grind
   have q2:=QmC m (XG (Zr p i (Qt t.ends))) (by omega) (by omega);simp[h1,h3] at ih;simp[hi,hll,hld2,h1',h3,q2];grind
  .have h1':lo<zo:=by omega
   simp[h1] at ih;simp[hi,hll,hld2,h1'];grind
def QjQ(s k:Nat)(hs:s<2 ^ 64)(hk:k<64):Gd K 222 [.int .u64 s,.int .i64 k] (.bool (s.testBit k)):=by apply Qb hK QC7 (by simp);have:=Qyl s k hk hs;cases hb:s.testBit k<;>simp[hb] at this<;>simp[this]
def Qza(s k:Nat)(hs:s<2 ^ 64)(hk:k<64):Gd K 304 [.int .i64 k,.ptr [.int .u64 s]] (.bool (!s.testBit k)):=by apply Qb hK QB7 (by simp);simp;apply cK (QjQ hK s k hs hk);simp
def QqO(p:Qf)(t:QR)(zo:Int)(hp:OkP p)(hs:okS p.zb t.set):Gd K 226 [.agg (ZT p t),.int .i64 zo,.int .i64 p.z6] (.bool (Jx (nd p zo) t)):=by
 apply Qb hK QC3 (by simp);have hl:=hp.deedsLen;have hsv:ZT p t=[.sl 1 ((List.range p.zf.length).map λi=>[.int .u64 (XG (Zr p i (Qt t.ends)):Nat)]),.sl 1 ((List.range p.zf.length).map λi=>[.int .i64 (QJ p i (Qt t.ends))]),ZM (XO p (Qt t.ends)),.sl 2 (Zu p t.set)]:=rfl;have hg70:=QjR hK p t zo hp;have hg65:=QjT hK p t zo hp hs;rw[hsv] at hg70 hg65 |-
 have y9:∀n,pmN (nd p zo) t n<2 ^ 12:=λn=>by
  induction n with
  |zero=>simp[pmN]
  |succ n ih=>
   rw[W5];have h:=QmL hp n (Qt t.ends);unfold QtK;split
   .refine QPB ih ?_;split
    .exact QPH Nat.and_le_left h
    exact h
   exact ih
 have hpm:=y9 p.zf.length;have hnow:∀n∈XO p (Qt t.ends),n<12:=λn hn=>by have:=Wf _ _ _ n hn;have:=QgC p.zc.za p.zc.za.length;omega
 have hbit:∀n∈XO p (Qt t.ends),(pmN (nd p zo) t p.zf.length).testBit n=QD (nd p zo) n t:=λn hn=>Qfp hp hs (by grind);have hnl:(XO p (Qt t.ends)).length<=1000:=by have h1:=ZW (Qt t.ends) hp.zc.za p.zc.za.length (QN3 _) (QN3 _);have h2:=hp.zc.za.cnt p.zc.za.length (QN3 _) (QN3 _);show(cab p.zc.za (Qt t.ends) p.zc.za.length).length<=1000;omega
 have hgood:Jx (nd p zo) t=(((XO p (Qt t.ends)).all λ(k:Nat)=>QD (nd p zo) k t)&&decide ((ZO (nd p zo) t:Int)<p.z6)):=rfl;have xd:((XO p (Qt t.ends)).all λ(k:Nat)=>QD (nd p zo) k t)=!(((XO p (Qt t.ends)).map λ(n:Nat)=>(n:Int)).any λx=>!(pmN (nd p zo) t p.zf.length).testBit x.toNat):=by
  rw[QPR];simp only[QOt,QOD,QPt,QOb];constructor
  .rintro h x ⟨n,hn,rfl⟩;have h1:=h n hn;rw[<- hbit n hn] at h1;simp[h1]
  intro h n hn;have:=h n ⟨n,hn,rfl⟩;grind
 have hg129:=Qy9 hK ((XO p (Qt t.ends)).map λ(n:Nat)=>(n:Int)) 304 [] [.ptr [.int .u64 (pmN (nd p zo) t p.zf.length)]] (λx=>!(pmN (nd p zo) t p.zf.length).testBit x.toNat) (λx hx=>by obtain⟨n,hn,rfl⟩:=QOb.1 hx;have:=hnow n hn;simpa using Qza hK (pmN (nd p zo) t p.zf.length) n (by omega) (by omega)) (by kernel_rfl) (by simpa using hnl)
 rw[hgood,xd];clear xd hgood;generalize((XO p (Qt t.ends)).map λ(n:Nat)=>(n:Int)).any (λx=>!(pmN (nd p zo) t p.zf.length).testBit x.toNat)=A at *
 simp;apply cK (by simpa using hg70);simp;apply cK (by simpa using hg65);by_cases h1:(ZO (nd p zo) t:Int)<p.z6
 .simp[h1];apply Qd (by simpa[Function.comp_def] using hg129) (.inr rfl);simp
 simp[h1]
omit hK
noncomputable def Q3(p:Qf):List (List IV):=(Zq p.zc [] p.zc.za).map λe=>Xc p (Qt e)
noncomputable def X1(p:Qf):List (List IV):=(QS p.zb [] p.zb.zd).map λs=>[.sl 2 (Zu p s)]
def prC(p:Qf):List IV:=[Qr p.zc.za,Qj p.zc.zg,.int .i64 p.zc.zh,Qs p.zb.zd,.int .i64 p.zb.zr,.int .i64 p.zb.zu,.int .i64 p.zb.zw,Zk p.zb.zk,.int .i64 p.zb.zh,Q4 p.zf,.int .i64 p.zo,.int .i64 p.z6]
noncomputable def U1(p:Qf):List IV:=prC p++[.sl 3 (Q3 p),.sl 1 (X1 p)]
def QdD(p:Qf)(t:QR):List IV:=[.agg (ZT p t)]
include hK
theorem Qqf(p:Qf)(hE:(Zq p.zc [] p.zc.za).length<=1000000)(hS:(QS p.zb [] p.zb.zd).length<=1000000):Qbs prog K 215 [.ptr (U1 p)] [] ((QN p).map (QdD p)):=by
 intro s b s' hf;apply QW QDe (by simp) hf.v rfl;unfold QN at hf;have hfile:U1 p=prC p++[.sl 3 ((Zq p.zc [] p.zc.za).map λe=>Xc p (Qt e)),.sl 1 ((QS p.zb [] p.zb.zd).map λs=>[.sl 2 (Zu p s)])]:=rfl;rw[hfile];generalize Zq p.zc [] p.zc.za=E at *;generalize QS p.zb [] p.zb.zd=S at *;obtain⟨q0,q1,q2,q3,q4,q5,q6,q7,q8,q9,q10,q11,hpr⟩:∃q0 q1 q2 q3 q4 q5 q6 q7 q8 q9 q10 q11,prC p=[q0,q1,q2,q3,q4,q5,q6,q7,q8,q9,q10,q11]:=⟨_,_,_,_,_,_,_,_,_,_,_,_,rfl⟩;rw[hpr];rw[QPO] at hf;simp only[List.map_map] at hf;simp;intro _
 refine YU E.length (λi e o=>∃si,e=[(0,AV.iv (.ptr [q0,q1,q2,q3,q4,q5,q6,q7,q8,q9,q10,q11,.sl 3 (E.map λe=>Xc p (Qt e)),.sl 1 (S.map λs=>[.sl 2 (Zu p s)])])),(1,AV.cb 0),(11,.iv (.sl 3 (E.map λe=>Xc p (Qt e)))),(12,.iv (.int .i64 E.length)),(13,.iv (.int .i64 (i:Nat)))]/\o=[(0,.ext si)] /\
  Z2 prog K ((E.drop i).flatMap λe=>S.map (QdD p∘λs=>⟨e,s⟩)) si b s') ?_ ?_ _ _ ⟨s,by simp,by simp,by simpa using hf⟩
 .rintro e o ⟨si,rfl,rfl,hfd⟩;rw[QOA (QN3 _)] at hfd;cases hfd;rw[Qa Qlw.eq_1];simp
 .rintro i e o hi ⟨si,rfl,rfl,hfd⟩ ih;rw[QOq hi,QPb] at hfd;have hst:∃s0 s1 s2,Xc p (Qt E[i])=[s0,s1,s2]:=⟨_,_,_,rfl⟩;obtain⟨s0,s1,s2,hst⟩:=hst;rw[Qa Qlw.eq_1];simp[hi,hst];intros
  refine YU S.length (λj e o=>∃sj,e=[(0,AV.iv (.ptr [q0,q1,q2,q3,q4,q5,q6,q7,q8,q9,q10,q11,.sl 3 (E.map λe=>Xc p (Qt e)),.sl 1 (S.map λs=>[.sl 2 (Zu p s)])])),(1,AV.cb 0),(5,.loc 5 0),(11,.iv (.sl 3 (E.map λe=>Xc p (Qt e)))),(12,.iv (.int .i64 E.length)),(13,.iv (.int .i64 (i:Nat))),
    (20,.iv (.sl 1 (S.map λs=>[.sl 2 (Zu p s)]))),(21,.iv (.int .i64 S.length)),(22,.iv (.int .i64 (j:Nat)))]/\o=[(0,.ext sj),(5,.box [.iv s0,.iv s1,.iv s2])] /\
   Z2 prog K ((S.drop j).map (QdD p∘λs=>⟨E[i],s⟩)++(E.drop (i+1)).flatMap λe=>S.map (QdD p∘λs=>⟨e,s⟩)) sj b s') ?_ ?_ _ _ ⟨si,by simp,by simp,by simpa using hfd⟩
  .rintro e o ⟨sj,rfl,rfl,hfj⟩;rw[QOA (QN3 _)] at hfj;rw[Qa Qlx.eq_1];simp;grind
  .rintro j e o hj ⟨sj,rfl,rfl,hfj⟩ ihj;rw[QOq hj,QOk,QOa] at hfj;have hitem:(QdD p∘λs=>(⟨E[i],s⟩:QR)) S[j]=[.agg [s0,s1,s2,.sl 2 (Zu p S[j])]]:=by
    simp[QdD,ZT,hst]
   rw[hitem] at hfj;rw[Qa Qlx.eq_1];simp[hj];cases hfj with
   |stop _ _ _ _ hg=>apply Zd (by simpa using hg) rfl;simp
   |next _ _ _ s3 _ _ hg hr=>
    apply Zd (by simpa using hg) rfl;simp
    (repeat' first|omega|apply And.intro|intro)
    exact ihj _ _ ⟨s3,by simp,by simp,hr⟩
def QjP(p:Qf)(hE:(Zq p.zc [] p.zc.za).length<=1000000)(hS:(QS p.zb [] p.zb.zd).length<=1000000)(hT:(QN p).length<=1000000000)
  (g:FuncId)(fs cs:List IV)(B:QR->Bool)(hg:∀t∈QN p,Gd K g (fs++[.agg (ZT p t)]++cs) (.bool (B t)))(hc:callee prog g=true):
  Gd K 223 [.ptr (U1 p),.clo g fs cs] (.int .i64 (Xu ((QN p).countP B) (QN p).length)):=by
 apply Qb hK QC6 (by simp);have hit:=Qqf hK p hE hS;generalize U1 p=F at *;generalize QN p=T at *;simp;refine Zf (wy:=.fall) (o':=[(5,.box [.iv (.int .i64 (T.countP B:Nat))]),(6,.box [.iv (.int .i64 (T.countP (λt=>!B t):Nat))])]) rfl (by kernel_rfl) hit ?_ ?_
 .have:=Wh.all (P:=prog) (K:=K) (ps:=[10]) (asn:=Qgf) (body:=Qls) (ks:=[3,5,6]) (ids:=[5,6]) (eK:=[(3,.iv (.ptr [.clo g fs cs])),(5,.loc 5 0),(6,.loc 6 0)]) (T.map (QdD p))
   (λi=>[(5,.box [.iv (.int .i64 ((T.take i).countP B:Nat))]),(6,.box [.iv (.int .i64 ((T.take i).countP (λt=>!B t):Nat))])]) λi x hx=>by
   simp only[QN6,QN2] at hx;obtain⟨t,ht,rfl⟩:=hx;have⟨y9,hget⟩:=QNY.1 ht;have hgt:=hg t (QOh ht);have hl1:(T.take i).countP B<=1000000000:=QOz QOw (by simp;omega);have hl2:(T.take i).countP (λt=>!B t)<=1000000000:=QOz QOw (by simp;omega);refine⟨rfl,?_⟩;rw[QNW y9,QOH,QOH,hget];obtain⟨v0,v1,v2,v3,hv⟩:∃v0 v1 v2 v3,ZT p t=[v0,v1,v2,v3]:=⟨_,_,_,_,rfl⟩;rw[hv] at hgt;simp[QdD,hv,Qgf,Qls];refine⟨hc,cK (by simpa using hgt) ?_⟩;cases hb:B t
   .simp[hb];omega
   simp[hb];omega
  simpa using this
 have hsum:T.countP B+T.countP (λt=>!B t)=T.length:=by have:=List.length_eq_countP_add_countP B (l:=T);grind
 have htold:Xu (T.countP B:Nat) T.length=if T.countP (λt=>!B t)=0 then 1 else if T.countP B=0 then 2 else 3:=by unfold Xu;omega
 rw[htold];clear htold hg hit;generalize T.countP B=a at *;generalize T.countP (λt=>!B t)=d at *
 by_cases h1:d=0
 .simp[h1]
 by_cases h2:a=0
 .simp[h1,h2]
 simp[h1,h2]
omit hK
def Qnk(d:QB):QB:=Qbc d 0
theorem qp(p:QB->Bool)(hp:∀d,p (Qnk d)=p d):∀(ds:List QB)(i:Nat),Xv p (ds.map Qnk) i=Xv p ds i
 |[],_=>rfl
 |d::r,i=>by simp only[QOk,Xv,hp,qp p hp r]
def Qxt(ds:List QB)(i:Nat):wn (ds.map Qnk) i=wn ds i:=by unfold wn;rw[<- QPQ,qp Q8 λd=>rfl]
def QpA(ds:List QB):pv (ds.map Qnk)=pv ds:=qp XI (λ_=>rfl) ds 0
def QnK(ds:List QB):JN (ds.map Qnk)=JN ds:=qp Q8 (λ_=>rfl) ds 0
def Qnm(ds:List QB)(i:Nat):cnt (ds.map Qnk) i=cnt ds i:=by unfold cnt;rw[<- QPQ,List.map_map];rfl
theorem QbO(ds:List QB)(e:Nat->Int):∀i,cab (ds.map Qnk) e i=cab ds e i
 |0=>rfl
 |i+1=>by have ih:=QbO ds e i;simp only[cab,QN6,ih,Qxt];cases ds[i]?<;>rfl
def Qod(ds:List QB)(k:Nat):QdB (ds.map Qnk) k=Qnk (QdB ds k):=by unfold QdB;rw[QnK];simp only[List.getD_eq_getElem?_getD,QN6];cases ds[(JN ds)[k]?.getD 0]?<;>rfl
def QaJ(ds:List QB)(ss:List XC)(e:Nat->Int):QM (ds.map Qnk) ss e=QM ds ss e:=by unfold QM;congr 1;funext s;simp only[U3,QbO,Qeb,Qod];rfl
section
variable{ds ds':List QB}(h:ds'.map Qnk=ds.map Qnk)
include h
theorem Qmo:ds'.length=ds.length:=by simpa using congrArg List.length h
theorem Qfe:pv ds'=pv ds:=by rw[<- QpA ds',h,QpA]
theorem Qff(i:Nat):cnt ds' i=cnt ds i:=by rw[<- Qnm ds',h,Qnm]
theorem Qmp(e:Nat->Int)(i:Nat):cab ds' e i=cab ds e i:=by rw[<- QbO ds',h,QbO]
theorem QiL(ss:List XC)(e:Nat->Int):QM ds' ss e=QM ds ss e:=by rw[<- QaJ ds',h,QaJ]
theorem QnW(p:Qf)(hp:p.zc.za=ds)(c:Ql)(hc:c.za=ds')(e:Nat->Int):Xc { p with zc:=c } e=Xc p e:=by
 have h1:∀i,Zr { p with zc:=c } i e=Zr p i e:=λi=>by show cab c.za e ((pv c.za).getD i 0)=cab p.zc.za e ((pv p.zc.za).getD i 0);rw[hc,hp,Qfe h,Qmp h]
 have h2:XO { p with zc:=c } e=XO p e:=by show cab c.za e c.za.length=cab p.zc.za e p.zc.za.length;rw[hc,hp,Qmo h,Qmp h]
 have h3:∀i,QJ { p with zc:=c } i e=QJ p i e:=λi=>by unfold QJ;rw[h1];rfl
 simp only[Xc,h1,h2,h3]
end
def QeU:List QB->List Int->List QB
 |d::r,x::e=>Qbc d x::QeU r e
 |_,_=>[]
theorem Y9:∀{ds:List QB}{e:List Int},e.length=ds.length->(QeU ds e).map Qnk=ds.map Qnk
 |[],[],_=>rfl
 |d::r,x::e,h=>by have:=Y9 (ds:=r) (e:=e) (by simpa using h);simp only[QeU,QOk,this];rfl
theorem Ql7:∀{ds:List QB}{e:List Int}(hl:e.length=ds.length)(i:Nat)(h:i<ds.length),(QeU ds e)[i]?=some (Qbc ds[i] (e[i]'(by omega)))
 |d::r,x::e,hl,0,_=>rfl
 |d::r,x::e,hl,i+1,h=>by have:=Ql7 (ds:=r) (e:=e) (by simpa using hl) i (by simpa using h);simpa[QeU] using this
theorem Zc:∀{ds:List QB}{e:List Int},e∈Qp ds->e.length=ds.length/\∀i(h:i<ds.length)(h':i<e.length),e[i]∈VH ds[i]
 |[],e,h=>by simp[Qp] at h;subst h;simp
 |d::r,e,h=>by simp only[Qp,QOK,QOb] at h;obtain⟨x,hx,e',he',rfl⟩:=h;have⟨h1,h2⟩:=Zc he';grind
theorem WW:∀{ds:List QB},(∀d∈ds,d.z2=0\/d.z2=1\/d.z2=2)->Wo ds=(Qp ds).map (QeU ds)
 |[],_=>rfl
 |d::r,h=>by
  have ih:=WW (ds:=r) λd hd=>h d (by simp[hd]);have hd:=h d (by simp);have hself:∀x,d.z2=x->Qbc d x=d:=λx hx=>by subst hx;rfl
  rcases hd with hd|hd|hd
  .simp[Wo,Qp,VH,hd,ih,QeU,hself 0 hd,List.map_map,Function.comp_def]
  .simp[Wo,Qp,VH,hd,ih,QeU,hself 1 hd,List.map_map,Function.comp_def]
  .simp[Wo,Qp,VH,hd,ih,QeU,List.map_map,Function.comp_def]
def Qc9{d:QB}{x:Int}(h:x∈VH d):(x=0\/x=1)/\(d.z2=2\/x=d.z2):=by unfold VH at h;grind
theorem OkD.z2{ds:List QB}{n:Nat}(h:OkD ds n)(hn:ds.length<=n):∀d∈ds,d.z2=0\/d.z2=1\/d.z2=2:=by
 intro d hd;obtain⟨i,hi,rfl⟩:=QON hd;have:=h i hi (by omega);rcases this with ⟨_,h2,_⟩|⟨_,h2,_⟩|⟨_,_,h2,_⟩
 .simp only[inR] at h2;omega
 .simp only[inR] at h2;omega
 .omega
section
variable{c:Ql}(hc:OkC c){e:List Int}(he:e∈Qp c.za)
include hc he
theorem QeT:(QeU c.za e).length=c.za.length:=Qmo (Y9 (Zc he).1)
theorem Qiz(i:Nat)(h:i<c.za.length):∃x,(QeU c.za e)[i]?=some (Qbc c.za[i] x)/\(x=0\/x=1)/\(c.za[i].z2=2\/x=c.za[i].z2)/\Qt e i=x:=by have⟨h1,h2⟩:=Zc he;have h3:=Qc9 (h2 i h (by omega));refine⟨e[i]'(by omega),Ql7 h1 i h,h3.1,h3.2,?_⟩;simp[Qt,List.getD_eq_getElem?_getD,QNX (show i<e.length by omega)]
theorem Qxp:OkD (QeU c.za e) (QeU c.za e).length:=by
 intro i h _;have hlen:=QeT hc he;have hi:i<c.za.length:=by omega
 have⟨x,h1,h2,h3,_⟩:=Qiz hc he i hi;rw[QNX h] at h1;injection h1 with h1;rw[h1,Qff (Y9 (Zc he).1)];rcases hc.za i hi hi with ⟨a1,a2,a3⟩|⟨a1,a2,a3⟩|⟨a1,a2,a3,a4⟩
 .exact .inl ⟨a1,by simp only[inR,Qbc];omega,a3⟩
 .exact .inr (.inl ⟨a1,by simp only[inR,Qbc];omega,a3⟩)
 exact .inr (.inr ⟨a1,a2,by simp only[Qbc];omega,a4⟩)
theorem QoU:OkC { c with za:=QeU c.za e }:=by have hlen:=QeT hc he;refine⟨by simp only[hlen];exact hc.len,hc.slen,hc.zh,Qxp hc he,λs hs=>?_⟩;have:=hc.zg s hs;unfold Z0 at *;simp only[hlen,Qff (Y9 (Zc he).1)];exact this
theorem Ql5:ZF (QeU c.za e)=0:=by
 rw[ZF,QPG];intro d hd;obtain⟨i,hi,rfl⟩:=QON hd;have hlen:=QeT hc he;obtain⟨x,h1,h2,_⟩:=Qiz hc he i (by omega);rw[QNX hi] at h1;injection h1 with h1;have h3:¬x=2:=by omega
 rw[h1];simp[Qbc,h3]
theorem Qbv:Zx (QeU c.za e) 0=Qt e:=by
 funext i;have hlen:=QeT hc he;unfold Zx;rcases QPi i c.za.length with h|h
 .obtain⟨x,h1,h2,_,h4⟩:=Qiz hc he i h;have h5:¬(Qbc c.za[i] x).z2=2:=by show ¬x=2;omega
  rw[h1,h4];simp only;rw[if_neg h5];rfl
 rw[QPx (by omega)]
 have:=(Zc he).1;simp[Qt,List.getD_eq_getElem?_getD,QPx (show e.length<=i by omega)]
theorem Ql6:Qt2 c.za e:=by have⟨h1,h2⟩:=Zc he;refine⟨h1,λi h h'=>?_⟩;have h3:=Qc9 (h2 i h h');simp only[inR];omega
theorem Qxq:Xb { c with za:=QeU c.za e } true=0↔Qoh c e:=by
 have h1:=QoU hc he;have h2:QI { c with za:=QeU c.za e }=if(QM c.za c.zg (Qt e):Int)<=c.zh then [0] else []:=by
  have hw:=QiL (Y9 (Zc he).1) c.zg (Qt e);unfold QI;simp only[Ql5 hc he,Qbv hc he,Nat.pow_zero];rw[show List.range 1=[0] from rfl];by_cases h:(QM c.za c.zg (Qt e):Int)<=c.zh
  .rw[if_pos h,QPp (by simpa[Qbv hc he,hw] using h)];rfl
  rw[if_neg h,QPq (by simpa[Qbv hc he,hw] using h)];rfl
 unfold Xb Qoh;rw[if_pos h1,if_pos rfl,h2];have:=Ql6 hc he;grind
end
def Qam(c:Ql)(hc:OkC c):Jl c=(Zq c [] c.za).map λe=>{ c with za:=QeU c.za e }:=by
 unfold Jl Zq;rw[WW (hc.za.z2 (QN3 _)),List.map_map,List.filter_map];have e1:((Qp c.za).map λx=>[]++x)=Qp c.za:=by simp
 rw[e1]
 congr 1;refine QPC λe he=>?_;simp only[Function.comp_apply];rw[QPR];simpa using Qxq hc he
def QfA(p:Qf)(hc:OkC p.zc):(Jl p.zc).map (λc'=>Xc { p with zc:=c' } (Zx c'.za 0))=Q3 p:=by
 unfold Q3;rw[Qam _ hc,List.map_map];refine QO6 λe he=>?_;have he':e∈Qp p.zc.za:=by simp only[Zq,QOx] at he;simpa using he.1
 simp only[Function.comp_apply];rw[Qbv hc he'];exact QnW (Y9 (Zc he').1) p rfl _ rfl _
def Qbw:List ZL->List Int->List ZL
 |l::r,x::e=>Qd8 l x::Qbw r e
 |l,[]=>l
 |[],_=>[]
def QeV(ls:List ZL):Qbw ls []=ls:=by cases ls<;>rfl
theorem WP:∀(ls:List ZL)(e:List Int),(Qbw ls e).length=ls.length
 |[],[]=>rfl
 |[],_::_=>rfl
 |_::_,[]=>rfl
 |l::r,x::e=>by simp[Qbw,WP r e]
theorem Qgv:∀(ls:List ZL)(e:List Int)(n:Int)(h:e.length<ls.length),Qbw ls (e++[n])=(Qbw ls e).set e.length (Qd8 ls[e.length] n)
 |l::r,[],n,_=>by simp[Qbw,QeV]
 |l::r,x::e,n,h=>by have:=Qgv r e n (by simpa using h);simp[Qbw,this]
theorem QdV:∀(ls:List ZL)(e:List Int)(h:e.length<ls.length),(Qbw ls e)[e.length]?=some ls[e.length]
 |l::r,[],_=>by simp[QeV]
 |l::r,x::e,h=>by have:=QdV r e (by simpa using h);simpa[Qbw] using this
def Xj(m:Machine)(s:Qn):Machine:={ m with zd:=Qbw m.zd s.zy,zu:=s.zx,zw:=s.zx }
def Qfx(m:Machine)(first:List Int):Machine:={ m with zd:=Qbw m.zd first }
theorem Qip:∀(ls:List ZL)(e:List Int),QH (·.long) (Qbw ls e)=QH (·.long) ls
 |[],[]=>rfl
 |[],_::_=>rfl
 |_::_,[]=>rfl
 |l::r,x::e=>by simp only[Qbw,QH,Qip r e];rfl
def QmF(m:Machine)(s s':Qn)(w mn:Int):num (Xj m s) s' w mn=num m s' w mn:=by unfold num VQ;rw[show(Xj m s).zd=Qbw m.zd s.zy from rfl,Qip];rfl
def QiA(m:Machine)(s s':Qn):ZS (Xj m s) m.zk s'=ZS m m.zk s':=by unfold ZS;congr 1;funext b;simp only[WY,QmF]
theorem WU:∀(ls:List ZL)(e:List Int),e.length=ls.length->Q1 (Qbw ls e)=[e]
 |[],[],_=>rfl
 |l::r,x::e,h=>by
  have ih:=WU r e (by simpa using h);have h1:(Qd8 l x).hi+1-(Qd8 l x).lo=1:=by simp only[Qd8];omega
  simp only[Qbw,Q1,ih,h1];simp[acc,Qd8]
def QpI{m:Machine}{s:Qn}(h:okS m s)(i:Nat)(hi:i<m.zd.length):(Qbw m.zd s.zy)[i]?=some (Qd8 m.zd[i] (s.zy[i]'(by rw[h.1];exact hi))):=by
 have:∀(ls:List ZL)(e:List Int)(i:Nat)(h1:e.length=ls.length)(hi:i<ls.length),(Qbw ls e)[i]?=some (Qd8 ls[i] (e[i]'(by omega))):=by
  intro ls;induction ls with
  |cons l r ih=>
   intro e i h1 hi;cases e with
   |nil=>simp at h1
   |cons x e=>
    cases i with
    |zero=>simp[Qbw]
    |succ i=>simpa[Qbw] using ih e i (by simpa using h1) (by simpa using hi)
  |_=>grind
 exact this _ _ i h.1 hi
def QtM{m:Machine}{s:Qn}(h:okS m s):okS (Xj m s) s:=by
 refine⟨by simp only[Xj,WP];exact h.1,by simp[Xj,inR],λi h1 h2=>?_⟩;have hi:i<m.zd.length:=by simpa[Xj,WP] using h1
 have:=QpI h i hi;have h3:(Xj m s).zd[i]=Qd8 m.zd[i] (s.zy[i]'(by rw[h.1];exact hi)):=by rw[show(Xj m s).zd=Qbw m.zd s.zy from rfl] at h1;rw[QNX h1] at this;injection this
 rw[h3];simp[Qd8,inR]
def Qbb(l:ZL):Zm l=false↔inR l.long 1 1000/\inR l.lo 1 l.hi/\l.hi<=1000:=by unfold Zm;grind
def Qfr{m:Machine}(hm:OkM m){s:Qn}(h:okS m s):OkM (Xj m s):=by
 have h2:=h.2.1;have h3:=hm.zx;have h4:=hm.zw;simp only[inR] at h2 h3;refine⟨by simp only[Xj,WP];exact hm.len,λl hl=>?_,hm.zr,by simp only[Xj,inR];omega,by simp only[Xj];omega,hm.blen,hm.zk,hm.zh⟩;obtain⟨i,hi,rfl⟩:=QON hl;have hi':i<m.zd.length:=by simpa[Xj,WP] using hi
 have h5:=QpI h i hi';have h6:(Xj m s).zd[i]=Qd8 m.zd[i] (s.zy[i]'(by grind)):=by rw[show(Xj m s).zd=Qbw m.zd s.zy from rfl] at hi;rw[QNX hi] at h5;injection h5
 have h7:=h.2.2 i hi' (by grind);have h8:=hm.zd _ (QN0 hi');rw[h6];rw[Qbb] at h8 |-;simp only[inR,Qd8] at h7 h8 |-;omega
def Qd5{m:Machine}{s:Qn}(h:okS m s):QS (Xj m s) [] (Xj m s).zd=if(ZS m m.zk s:Int)<=m.zh then [s] else []:=by
 have h1:QO (Xj m s) [] (Xj m s).zd=[s]:=by
  unfold QO;rw[show(Xj m s).zd=Qbw m.zd s.zy from rfl,WU _ _ h.1];have:((Xj m s).zw+1-(Xj m s).zu).toNat=1:=by simp only[Xj];omega
  rw[this];simp[Xj]
 unfold QS;rw[h1];have h2:Yi (Xj m s) s↔(ZS m m.zk s:Int)<=m.zh:=by unfold Yi;rw[show(Xj m s).zk=m.zk from rfl,QiA];exact⟨λh=>h.2,λh'=>⟨QtM h,h'⟩⟩
 grind
def QxB{m:Machine}(hm:OkM m){s:Qn}(h:okS m s):tE (Xj m s) true=0↔Yi m s:=by unfold tE;rw[if_pos (Qfr hm h),if_pos rfl,Qd5 h];unfold Yi;grind
def Qs9{α β:Type}(f:α->β)(pc:Nat->List α)(n:Nat):(acc pc n).map f=acc (λi=>(pc i).map f) n:=by simp[acc,QPO]
def Qio{α:Type}{pc pc':Nat->List α}{n:Nat}(h:∀i<n,pc i=pc' i):acc pc n=acc pc' n:=by
 induction n with
 |zero=>rfl
 |succ n ih=>rw[ZR,ZR,ih λi hi=>h i (by omega),h n (by omega)]
theorem QeE{m:Machine}(hm:OkM m):∀(r k:Nat)(first:List Int),k+r=m.zd.length->first.length=k->(∀i(h:i<m.zd.length)(h':i<first.length),inR first[i] m.zd[i].lo m.zd[i].hi) ->
  Wc r (Qfx m first) k=(QS m first (m.zd.drop k)).map (Xj m)
 |0,k,first,hk,hf,hr=>by
  have hd:m.zd.drop k=[]:=QOA (by omega);have h1:QS m first (m.zd.drop k)=acc (λi=>if Yi m ⟨first,m.zu+(i:Nat)⟩ then [⟨first,m.zu+(i:Nat)⟩] else []) (m.zw+1-m.zu).toNat:=by
   rw[hd];simp only[QS,QO,Q1,QPb,List.flatMap_nil,QOl,acc];generalize(m.zw+1-m.zu).toNat=n;generalize List.range n=L;induction L with
   |_=>grind
  rw[h1,Qs9];simp only[Wc];refine Qio λi hi=>?_;have hleak:inR (m.zu+(i:Nat)) m.zu m.zw:=by have hi':i<(m.zw+1-m.zu).toNat:=hi;simp only[inR];omega
  have hok:okS m ⟨first,m.zu+(i:Nat)⟩:=⟨by simp only;omega,hleak,hr⟩;have hmach:X3 (Qfx m first) ((Qfx m first).zu+(i:Nat))=Xj m ⟨first,m.zu+(i:Nat)⟩:=rfl;unfold Qa0;rw[hmach];have:=QxB hm hok;grind
 |r+1,k,first,hk,hf,hr=>by
  have y9:k<m.zd.length:=by omega
  have hget:(Qfx m first).zd[k]?=some m.zd[k]:=by
   have:=QdV m.zd first (by omega)
   simp only[hf] at this;exact this
  rw[QOq y9,qV,Qs9];simp only[Wc,hget];refine Qio λi hi=>?_;have hfix:Jn (Qfx m first) k m.zd[k] (m.zd[k].lo+(i:Nat))=Qfx m (first++[m.zd[k].lo+(i:Nat)]):=by unfold Jn Qfx;rw[Qgv m.zd first _ (by omega)];simp only[hf]
  rw[hfix];refine QeE hm r (k+1) (first++[m.zd[k].lo+(i:Nat)]) (by omega) (by simp[hf]) λj h h'=>?_;rcases QPi j first.length with hj|hj
  .grind
  have hjk:j=k:=by simp at h';omega
  subst hjk;rw[List.getElem_append_right hj];simp only[hf,Nat.sub_self,QPw,inR];omega
def Qrj{m:Machine}(hm:OkM m):Wc m.zd.length m 0=(QS m [] m.zd).map (Xj m):=by
 have:=QeE hm m.zd.length 0 [] (by omega) rfl (by simp);have e:Qfx m []=m:=by unfold Qfx;rw[QeV]
 grind
def Qn7{m:Machine}(hm:OkM m){s:Qn}(h:Yi m s){w mn:Int}(ha:Vh w mn 0=true):XY (Xj m s) w mn=(qc m w mn s,upS m w mn s):=by unfold XY tL;rw[ha,if_pos ⟨Qfr hm h.1,rfl⟩,Qd5 h.1,if_pos h.2];simp only[QOk,List.map_nil,span,List.foldl_nil,qc,upS,QmF]
def Qxz{m:Machine}(hm:OkM m)(hs:sets m m.zd.length<=1000000):QHs m:=by
 have hl:∀l∈m.zd,1<=l.lo/\l.lo<=l.hi/\l.hi<=1000:=λl hl=>by have:=(Qbb l).1 (hm.zd l hl);simp only[inR] at this;omega
 exact⟨hm.len,hm.blen,hm.zx,hm.zw,λl h=>by have:=hl l h;simp only[Zs];omega,λl h=>by grind,hs⟩
@[reducible] def JT(p:Qf)(SS LL:List (List IV)):Qz:=[(0,.box [.loc 1 0]),(1,.box ((prC p).map AV.iv++[.yl 2 SS.length,.yl 3 LL.length])),(2,.arr 246 3 (emb SS) 0),(3,.arr 251 1 (emb LL) 0)]
def QJw(pe:List (Nat×Nat×Nat))(o1:Qz):Env->Qz->Prop:=Qiy [Qbu.tmp 4] [0,1,2,3] pe (.iv (.bool true)) o1
def QrE(p:Qf)(SS LL:List (List IV)){s:Nat}{e:Env}{o:Qz}(h1:Ev.look e 4=.iv (.bool true))(h2:Ev.look e s=.loc 0 0)(h3:∀q∈JT p SS LL,Qc o q.1=some q.2):QJw [(s,0,0)] (JT p SS LL) e o:=by
 refine⟨⟨.iv (.bool true),?_,rfl⟩,λq hq=>?_,λq hq=>?_⟩
 .simp[QxW,QtG,h1]
 .have:=h3 q hq;simp only[QN7,QOe,or_false] at hq;rcases hq with rfl|rfl|rfl|rfl
  .exact this
  .refine this.trans ?_;simp[rnO,rnL,rn,prC,nth]
  .rw[JP];exact this
  rw[JP];exact this
 grind
def YZ(p:Qf)(SS LL:List (List IV)):∀q∈JT p SS LL,q.1<4/\Zt q.2=true/\clO ((JT p SS LL).map (·.1)) q.2=true:=by
 intro q hq;simp only[QN7,QOe,or_false] at hq;rcases hq with rfl|rfl|rfl|rfl
 .exact⟨by omega,rfl,by simp[clO,clAL,clA]⟩
 .exact⟨by omega,rfl,by simp[clO,clAL,clA,prC]⟩
 .exact⟨by omega,rfl,X5 _ _ _ _ _⟩
 .exact⟨by omega,rfl,X5 _ _ _ _ _⟩
include hK
omit hK in
theorem QvL:ZY prog 296 QJp [1]:=⟨_,func296,by kernel_rfl⟩
omit hK in
theorem QvK:ZY prog 299 QJo [2]:=⟨_,func299,by kernel_rfl⟩
theorem Qud(p:Qf)(c:Ql)(s0 s1 s2:IV)(SS LL:List (List IV))(hn:SS.length<=1000000)(hg:Gd K 297 [chV c,Q4 p.zf] (.agg [s0,s1,s2])):Gh K 296 [.iv (chV c),.loc 0 0,.iv (.ptr (prC p))] (JT p SS LL) [0] (.iv (.bool true)) (JT p (SS++[[s0,s1,s2]]) LL):=by
 refine Q9 [0,1,2,3] [0] [1] [(1,0,0)] QvL (by simp[QJp]) (by simp) ?_ ?_ ?_ ?_
 .exact YZ p _ _
 .simp[clA]
 .simp[nth,Qc];grind
 .show WpF _ _ (FnF (QJw [(1,0,0)] (JT p (SS++[[s0,s1,s2]]) LL))) _ _ _;simp[prC];apply cK (by simpa using hg);simp[prC,-List.map_map,Qw,QE,QC,Qm];refine⟨by omega,QrE p _ _ rfl rfl λq hq=>?_⟩;simp only[QN7,QOe,or_false] at hq;rcases hq with rfl|rfl|rfl|rfl<;>simp[Qc,prC]
def QFo(p:Qf)(lo up:Nat->Int):List IV:=[.sl 2 ((List.range p.zf.length).map λi=>[.int .i64 (lo i),.int .i64 (up i)])]
def Qub(p:Qf)(m:Machine)(hl:m.zd.length<=1000)(hb:m.zk.length<=1000)(ht:p.zf.length<=1000)(lo up:Nat->Int)(hr:∀i,i<p.zf.length->XY m (tr p i).zm (tr p i).zn=(lo i,up i))(SS LL:List (List IV))(hn:LL.length<=1000000):Gh K 299 [.iv (maV m),.iv (.ptr (prC p)),.loc 0 0] (JT p SS LL) [0] (.iv (.bool true)) (JT p SS (LL++[QFo p lo up])):=by
 refine Q9 [0,1,2,3] [0] [2] [(2,0,0)] QvK (by simp[QJo]) (by simp) ?_ ?_ ?_ ?_
 .exact YZ p _ _
 .simp[clA]
 .simp[nth,Qc];grind
 .show WpF _ _ (FnF (QJw [(2,0,0)] (JT p SS (LL++[QFo p lo up])))) _ _ _;generalize hG:JT p SS (LL++[QFo p lo up])=G;simp[prC];intro _
  refine Qe (λi=>[(2,AV.loc 0 0),(3,.iv (.ptr [Qs m.zd,.int .i64 m.zr,.int .i64 m.zu,.int .i64 m.zw,Zk m.zk,.int .i64 m.zh])),(5,.yl 5 i),(11,.iv (Q4 p.zf)),(12,.iv (.int .i64 p.zf.length)),(13,.iv (.int .i64 (i:Nat)))])
   (λi=>[(0,.box [.loc 1 0]),(1,.box ((prC p).map AV.iv++[.yl 2 SS.length,.yl 3 LL.length])),(2,.arr 246 3 (emb SS) 0),(3,.arr 251 1 (emb LL) 0),(5,.arr 28 2 (emb ((List.range i).map λi=>[.int .i64 (lo i),.int .i64 (up i)])) 0)]) p.zf.length (λ_=>True) trivial ?_ ?_
  .intro _;rw[Qa QkT.eq_1];simp[prC,-List.map_map,Qw,QE,QC,Qm,QN1];rw[<- hG];refine⟨by omega,QrE p _ _ rfl rfl λq hq=>?_⟩;simp only[QN7,QOe,or_false] at hq;rcases hq with rfl|rfl|rfl|rfl<;>simp[Qc,prC,QFo]
  .intro i hi _ ih;have hg:=Qq5 hK m (tr p i).zm (tr p i).zn hl hb;rw[hr i hi] at hg;have htr:=Ja hi;rw[Qa QkT.eq_1];rw[QOv,QOd] at ih;simp at ih;simp[hi,htr,-List.map_map,Qw,QE,QC,Qm];apply cK (by simpa using hg);have hsc:scrL [0,1,2,3,5] ((prC p).map AV.iv++[.yl 2 SS.length,.yl 3 LL.length])=(prC p).map AV.iv++[.yl 2 SS.length,.yl 3 LL.length]:=by simp[prC,scrL,scr]
   simp[hsc,-List.map_map,Qw,QE,QC,Qm];grind
omit hK in
theorem Qx3{p:Qf}(hp:OkP p){c:Ql}(hc:c∈Jl p.zc):OkP { p with zc:=c }/\ZF c.za=0:=by
 rw[Qam _ hp.zc] at hc;obtain⟨e,he,rfl⟩:=QOb.1 hc;have he':e∈Qp p.zc.za:=by simp only[Zq,QOx] at he;simpa using he.1
 have hcore:=Y9 (Zc he').1;refine⟨⟨QoU hp.zc he',hp.zb,hp.zo,hp.z6,?_,λi h h'=>?_⟩,Ql5 hp.zc he'⟩
 .simp only[Qfe hcore];exact hp.many
 .simp only[Qfe hcore] at h;have:=hp.zf i h h';simp only[Qfe hcore,Qff hcore];exact this
theorem Qg4(p:Qf)(hp:OkP p):∀(L:List Ql)(SS LL:List (List IV)),(∀c∈L,c∈Jl p.zc)->SS.length+L.length<=1000000 ->
  Jt prog K 296 [] [.loc 0 0,.iv (.ptr (prC p))] [0] (L.map Qjp) (JT p SS LL) true (JT p (SS++L.map λc'=>Xc { p with zc:=c' } (Zx c'.za 0)) LL)
 |[],SS,LL,_,_=>by simpa using Jt.nil _
 |c::L,SS,LL,h,hn=>by have hc:=Qx3 hp (h c (by simp));have hg:=Qzc hK { p with zc:=c } hc.1 hc.2;have ih:=Qg4 p hp L (SS++[Xc { p with zc:=c } (Zx c.za 0)]) LL (λc' hc'=>h c' (by simp[hc'])) (by grind);refine .next _ _ _ _ _ _ (Qud hK p c _ _ _ SS LL (by simp at hn;omega) hg) (λq hq=>(YZ p _ _ q hq).2.1) ?_;simpa[Xc] using ih
theorem Qg3(p:Qf)(hp:OkP p)(SS:List (List IV)):∀(L:List Qn)(LL:List (List IV)),(∀s∈L,Yi p.zb s)->LL.length+L.length<=1000000 ->
  Jt prog K 299 [] [.iv (.ptr (prC p)),.loc 0 0] [0] ((L.map (Xj p.zb)).map QhB) (JT p SS LL) true (JT p SS (LL++L.map λs=>[.sl 2 (Zu p s)]))
 |[],LL,_,_=>by simpa using Jt.nil _
 |s::L,LL,h,hn=>by
  have hs:=h s (by simp);have hm:=Qfr hp.zb hs.1;have ih:=Qg3 p hp SS L (LL++[[.sl 2 (Zu p s)]]) (λc' hc'=>h c' (by simp[hc'])) (by grind);have htl:=hp.trialsLen;have h1:=hm.len;have h2:=hm.blen
  have hg:=Qub hK p (Xj p.zb s) (by omega) (by omega) (by omega) (λi=>qc p.zb (tr p i).zm (tr p i).zn s) (λi=>upS p.zb (tr p i).zm (tr p i).zn s) (λi hi=>by have ht:=hp.trial hi;apply Qn7 hp.zb hs;simp only[Vh,inR];have a1:=ht.1;have a2:=ht.2.1;simp only[inR] at a1 a2;simp;omega) SS LL (by simp at hn;omega)
  refine .next _ _ _ _ _ _ hg (λq hq=>(YZ p _ _ q hq).2.1) ?_;simpa[QFo,Zu] using ih
def Que(p:Qf)(hp:OkP p):Gh K 295 [.iv (chV p.zc),.clo 296 [] [.loc 0 0,.iv (.ptr (prC p))]] (JT p [] []) [0] (.iv (.bool true)) (JT p (Q3 p) []):=by
 have hl:=hp.deedsLen;have hs:=hp.zc.slen;have hit:=Qjn hK (ZF p.zc.za) p.zc rfl (by omega) (by omega)
 have hr:=Qg4 hK p hp (Jl p.zc) [] [] (λc hc=>hc) (by rw[Qam _ hp.zc,QN9];have:=Qf2 hp.zc;simp;omega)
 rw[QOg,QfA p hp.zc] at hr
 have:=qs hit (by kernel_rfl) (by simp[clAL]) (by simp[clAL,clA]) (λi hi=>by simp at hi;subst hi;exact⟨_,rfl⟩) (λq hq=>(YZ p _ _ q hq).2.1) hr
 simpa using this
def Quc(p:Qf)(hp:OkP p)(hs:sets p.zb p.zb.zd.length<=1000000)(SS:List (List IV)):Gh K 298 [.iv (maV p.zb),.iv (.int .i64 0),.clo 299 [] [.iv (.ptr (prC p)),.loc 0 0]] (JT p SS []) [0] (.iv (.bool true)) (JT p SS (X1 p)):=by
 have hit:=Qqd hK p.zb.zd.length p.zb 0 (by omega) (Qxz hp.zb hs);rw[Qrj hp.zb] at hit
 have hr:=Qg3 hK p hp SS (QS p.zb [] p.zb.zd) [] (λs h=>by
  simp only[QS,QOx,decide_eq_true_eq] at h;exact h.2) (by
  have:=Vo hp.zb;simp;omega)
 rw[QOg] at hr
 have:=qs hit (by kernel_rfl) (by simp[clAL]) (by simp[clAL,clA]) (λi hi=>by simp at hi;subst hi;exact⟨_,rfl⟩) (λq hq=>(YZ p _ _ q hq).2.1) hr
 simpa[X1] using this
omit hK in
theorem Qm9(p:Qf)(SS LL SS' LL':List (List IV))(args0:List AV)(ha:args0.all (clA [0,1,2,3])=true)(o:Qz)(h7:Qc o 7=some (.box [.loc 17 0]))(h17:Qc o 17=some (.box ((prC p).map AV.iv++[.yl 18012 SS.length,.yl 18013 LL.length])))
  (h12:Qc o 18012=some (.arr 246 3 (emb SS) 0))(h13:Qc o 18013=some (.arr 251 1 (emb LL) 0)):HOk [7,17,18012,18013] args0 o (JT p SS LL) (JT p SS' LL'):=by
 refine⟨by decide,ha,λq hq=>?_,λi hi h=>?_,λq hq=>⟨(YZ p _ _ q hq).1,(YZ p _ _ q hq).2.1⟩⟩
 .have h1:=YZ p _ _ q hq;refine⟨h1.1,?_,h1.2.2,h1.2.1⟩;simp only[QN7,QOe,or_false] at hq;rcases hq with rfl|rfl|rfl|rfl
  .exact h7
  .refine h17.trans ?_;simp[rnO,rnL,rn,prC,nth]
  .rw[JP];exact h12
  rw[JP];exact h13
 .simp at hi;have:i=0\/i=1\/i=2\/i=3:=by omega
  rcases this with rfl|rfl|rfl|rfl<;>simp[Qc] at h
def WC(p:Qf)(is:Bool)(hf:QoS p):Gd K 211 [prV p,.bool is] (.xf [if kE p is=0 then .ptr (U1 p) else .nilp,.int .i64 (kE p is)]):=by
 apply Qb hK QDh (by simp);simp;apply cK (by simpa using QwR hK p hf.small);by_cases hp:OkP p
 .cases is
  .simp[hp,kE]
  have hg1:=Que hK p hp;have hg2:=Quc hK p hp (hf.sets hp) (Q3 p);simp[hp];refine Qo hg1 ?_ ?_ ?_
  .simp[rn,rnL,nth,prC]
  .exact Qm9 p [] [] _ _ _ (by simp[clA,clAL]) _ (by simp[Qc]) (by simp[Qc,prC]) (by simp[Qc,emb]) (by simp[Qc,emb])
  have hrn:rnL (nth [7,17,18012,18013]) ((prC p).map AV.iv++[.yl 2 (Q3 p).length,.yl 3 0])=(prC p).map AV.iv++[.yl 18012 (Q3 p).length,.yl 18013 0]:=by simp[rnL,rn,prC,nth]
  simp[hrn];refine Qo hg2 ?_ ?_ ?_
  .simp[rn,rnL,nth,prC]
  .exact Qm9 p _ [] _ _ _ (by simp[clA,clAL]) _ (by simp[Qc]) (by simp[Qc,prC]) (by simp[Qc,emb]) (by simp[Qc,emb])
  have hrn2:rnL (nth [7,17,18012,18013]) ((prC p).map AV.iv++[.yl 2 (Q3 p).length,.yl 3 (X1 p).length])=(prC p).map AV.iv++[.yl 18012 (Q3 p).length,.yl 18013 (X1 p).length]:=by simp[rnL,rn,prC,nth]
  have hE1:QN p=[]↔Q3 p=[]\/X1 p=[]:=by
   unfold QN Q3 X1;rw[List.flatMap_eq_nil_iff];simp only[List.map_eq_nil_iff];constructor
   .intro h;cases hE:Zq p.zc [] p.zc.za with
    |nil=>exact .inl rfl
    |cons a r=>exact .inr (h a (by rw[hE];simp))
   grind
  have hk:kE p true=if Q3 p=[]\/X1 p=[] then 3 else 0:=by unfold kE;grind
  have hfile:U1 p=prC p++[.sl 3 (Q3 p),.sl 1 (X1 p)]:=rfl;rw[hk,hfile];generalize Q3 p=SS at *;generalize X1 p=LL at *;simp[hrn2];cases SS with
  |nil=>simp[prC]
  |cons a r=>
   cases LL with
   |nil=>simp[prC]
   |cons a2 r2=>simp[prC];omega
 simp[hp,kE]
omit hK
def YD{p:Qf}{t:QR}(h:t∈QN p):okS p.zb t.set:=(Qhu h).set
def Wm(p:Qf):(Q3 p).length=(Zq p.zc [] p.zc.za).length:=by simp[Q3]
def qe(p:Qf):(X1 p).length=(QS p.zb [] p.zb.zd).length:=by simp[X1]
def qh(p:Qf):(QN p).length=(Q3 p).length*(X1 p).length:=by
 rw[Wm,qe];unfold QN;generalize Zq p.zc [] p.zc.za=E;generalize QS p.zb [] p.zb.zd=S;induction E with
 |_=>grind
def Qp7{p:Qf}{is:Bool}(he:¬kE p is=0):kL p is=[]:=by
 unfold kL kE at *
 grind
structure Few(p:Qf):Prop where
 fine:QoS p
 ends:OkP p->(Zq p.zc [] p.zc.za).length<=1000000
 sets:OkP p->(QS p.zb [] p.zb.zd).length<=1000000
 all:OkP p->(QN p).length<=100000
include hK
def QjS(p:Qf)(is:Bool)(hf:Few p)(g:FuncId)(fs cs:List IV)(B:QR->Bool)(hg:kE p is=0->∀t∈QN p,Gd K g (fs++[.agg (ZT p t)]++cs) (.bool (B t)))(hc:callee prog g=true):
  Gd K 217 [prV p,.bool is,.clo g fs cs] (.xf [.int .i64 (if kE p is=0 then Xu ((kL p is).countP B) (kL p is).length else 0),.int .i64 (kE p is)]):=by
 apply Qb hK QDc (by simp);have hg63:=WC hK p is hf.fine;simp;apply cK (by simpa using hg63);by_cases he:kE p is=0
 .obtain⟨hp,_,hk,_⟩:=Yh he;have hg75:=QjP hK p (hf.ends hp) (hf.sets hp) (by have:=hf.all hp;omega) g fs cs B (hg he) hc;rw[hk];generalize U1 p=F at *;simp[he];apply cK (by simpa using hg75);simp
 .simp[he]
def QzQ(p:Qf)(t:QR)(hp:OkP p)(hs:okS p.zb t.set):Gd K 218 [.agg (ZT p t),.ptr (prC p)] (.bool (decide (p.z6<=(ZO p t:Int)))):=by apply Qb hK QDb (by simp);have hg:=QjT hK p t p.zo hp hs;obtain⟨v0,v1,v2,v3,hv⟩:∃v0 v1 v2 v3,ZT p t=[v0,v1,v2,v3]:=⟨_,_,_,_,rfl⟩;rw[hv] at hg |-;simp[prC];apply cK (by simpa using hg);have hnd:nd p p.zo=p:=rfl;simp[hnd]
def QzM(p:Qf)(t:QR)(hp:OkP p)(hs:okS p.zb t.set):Gd K 225 [.agg (ZT p t),.ptr (prC p)] (.bool (Jx p t)):=by apply Qb hK QC4 (by simp);have hg:=QqO hK p t p.zo hp hs;obtain⟨v0,v1,v2,v3,hv⟩:∃v0 v1 v2 v3,ZT p t=[v0,v1,v2,v3]:=⟨_,_,_,_,rfl⟩;rw[hv] at hg |-;simp[prC];apply cK (by simpa using hg);have hnd:nd p p.zo=p:=rfl;simp[hnd]
def QzO(p:Qf)(t:QR)(k:Nat)(hk:k<64)(hp:OkP p)(hs:okS p.zb t.set):Gd K 220 [.agg (ZT p t),.ptr (prC p),.ptr [.int .i64 k]] (.bool (QD p k t)):=by apply Qb hK QC9 (by simp);have hg:=QjR hK p t p.zo hp;have hb:=Qfp hp hs (zo:=p.zo) hk;have y9:∀n,pmN (nd p p.zo) t n<2 ^ 64:=λn=>Qmz hp t n;have hg2:=QjQ hK (pmN (nd p p.zo) t p.zf.length) k (y9 _) hk;have hnd:nd p p.zo=p:=rfl;rw[hb,hnd] at hg2;rw[hnd] at hg;obtain⟨v0,v1,v2,v3,hv⟩:∃v0 v1 v2 v3,ZT p t=[v0,v1,v2,v3]:=⟨_,_,_,_,rfl⟩;rw[hv] at hg |-;simp[prC];apply cK (by simpa using hg);simp;apply cK (by simpa using hg2);simp
def QAx(p:Qf)(hf:Few p):Gd K 120 [prV p] (.xf [.int .i64 (rCond p),.int .i64 (kE p true)]):=by
 apply Qb hK QEh (by simp)
 have hg:=QjS hK p true hf 218 [] [.ptr (prC p)] (λt=>decide (p.z6<=(ZO p t:Int))) (λhe t ht=>by have hp:=(Yh he).1;simpa using QzQ hK p t hp (YD ht)) (by kernel_rfl)
 simp;apply cK (by simpa[prC] using hg);simp[rCond]
def QAu(p:Qf)(hf:Few p):Gd K 126 [prV p] (.xf [.int .i64 (rGood p),.int .i64 (kE p true)]):=by
 apply Qb hK QEe (by simp)
 have hg:=QjS hK p true hf 225 [] [.ptr (prC p)] (Jx p) (λhe t ht=>by have hp:=(Yh he).1;simpa using QzM hK p t hp (YD ht)) (by kernel_rfl)
 simp;apply cK (by simpa[prC] using hg);simp[rGood]
def QAs(p:Qf)(hf:Few p):Gd K 130 [prV p] (.xf [.int .i64 (if kE p true=0 then(Xq p.zb 0 p.zo).1 else 0),.int .i64 (if kE p true=0 then(Xq p.zb 0 p.zo).2 else kE p true)]):=by
 apply Qb hK QEc (by simp);have hg:=WC hK p true hf.fine;have hg2:=QzJ hK p.zb 0 p.zo hf.fine.small.zd hf.fine.small.zk;generalize U1 p=F at *;simp;apply cK (by simpa using hg);by_cases he:kE p true=0
 .simp[he];apply cK (by simpa using hg2);simp
 simp[he]
omit hK
def QdJ(l:List Int)(n0:Int)(hne:l≠[])(h:∀x∈l,x<=n0):l.foldl min n0=(span l).1:=by
 cases l with
 |cons a r=>have:=h a (by simp);show r.foldl min (min n0 a)=r.foldl min a;grind
 |_=>grind
def QdK(l:List Int)(n0:Int)(hne:l≠[])(h:∀x∈l,n0<=x):l.foldl max n0=(span l).2:=by
 cases l with
 |cons a r=>have:=h a (by simp);show r.foldl max (max n0 a)=r.foldl max a;grind
 |_=>grind
def UR{α β:Type}(f:β->α->β)(b:β)(l:List α)(i:Nat)(h:i<l.length):(l.take (i+1)).foldl f b=f ((l.take i).foldl f b) l[i]:=by rw[QNW h,QOZ];rfl
include hK
def QAw(p:Qf)(link:Int)(hf:Few p):Gd K 122 [prV p,.int .i64 link] (.xf [.int .i64 (rProved p link),.int .i64 (kE p (JR p link))]):=by
 apply Qb hK QEg (by simp);have hd:=hf.fine.small.za;have hsl:(YJ p.zc.za).length=(JN p.zc.za).length:=by rw[<- Y5];simp[YJ,X8]
 have hwl:(JN p.zc.za).length<=p.zc.za.length:=VB Q8 p.zc.za 0
 have hg:=QjS hK p (JR p link) hf 220 [] [.ptr (prC p),.ptr [.int .i64 link]] (QD p link) (λhe t ht=>by
  have⟨hp,his,_⟩:=Yh he;have his:=of_decide_eq_true his;simp only[inR] at his;have:=hp.deedsLen;have h1:link=((link.toNat:Nat):Int):=by omega
  rw[h1];simpa using QzO hK p t link.toNat (by omega) hp (YD ht)) (by kernel_rfl)
 have hg67:=JS hK link 0 ((JN p.zc.za).length-1);simp;apply cK (by simpa using QzP hK p.zc hd);have hsl2:=hsl;generalize YJ p.zc.za=S at *;simp[hsl]
 (repeat' first|omega|apply And.intro|intro)
 apply cK (by simpa using hg67);simp;apply cK (by simpa[prC,JR] using hg);simp[rProved,JR]
def QAy(p:Qf)(hf:Few p):Gd K 117 [prV p] (.xf [.agg [.int .i64 (rFail p).1,.int .i64 (rFail p).2],.int .i64 (kE p true)]):=by
 apply Qb hK QEj (by simp);have hg:=WC hK p true hf.fine;have htl:=hf.fine.small.zf;simp;apply cK (by simpa using hg);by_cases he:kE p true=0;rotate_left
 .have hk:kL p true=[]:=Qp7 he;simp[he,rFail,hk,span]
 have⟨hp,_,hk,hne⟩:=Yh he;have hit:=Qqf hK p (hf.ends hp) (hf.sets hp);have hset:∀t∈QN p,okS p.zb t.set:=λt ht=>YD ht;have hg65:∀t∈QN p,Gd K 216 [.agg (ZT p t),.int .i64 p.zo] (.int .i64 (ZO p t:Nat)):=λt ht=>QjT hK p t p.zo hp (hset t ht)
 have hmin:=QdJ ((QN p).map λt=>(ZO p t:Int)) p.zf.length (by simpa using hne) (λx hx=>by obtain⟨t,_,rfl⟩:=QOb.1 hx;have:=QfZ p t;omega)
 have hmax:=QdK ((QN p).map λt=>(ZO p t:Int)) 0 (by simpa using hne) (λx hx=>by grind)
 have hr:rFail p=span ((QN p).map λt=>(ZO p t:Int)):=by unfold rFail;rw[hk]
 rw[hr,<- hmin,<- hmax];generalize U1 p=F at *;generalize QN p=T at *;simp[he];intro _;refine Zf (wy:=.fall) (o':=[(2,.box [.iv (.int .i64 0),.iv (.int .i64 0)]),(6,.box [.iv (.int .i64 ((T.map λt=>(ZO p t:Int)).foldl min p.zf.length)),.iv (.int .i64 ((T.map λt=>(ZO p t:Int)).foldl max 0))])]) rfl (by kernel_rfl) hit ?_ ?_
 .have:=Wh.all (P:=prog) (K:=K) (ps:=[24]) (asn:=Qgj) (body:=QlU) (ks:=[1,2,6]) (ids:=[2,6]) (eK:=[(1,.iv (.ptr (prC p))),(2,.loc 2 0),(6,.loc 6 0)]) (T.map (QdD p))
   (λi=>[(2,.box [.iv (.int .i64 0),.iv (.int .i64 0)]),(6,.box [.iv (.int .i64 (((T.map λt=>(ZO p t:Int)).take i).foldl min p.zf.length)),.iv (.int .i64 (((T.map λt=>(ZO p t:Int)).take i).foldl max 0))])]) λi x hx=>by
   simp only[QN6,QN2] at hx;obtain⟨t,ht,rfl⟩:=hx;have⟨y9,hget⟩:=QNY.1 ht;have hgt:=hg65 t (QOh ht);refine⟨rfl,?_⟩;rw[UR _ _ _ i (by simpa using y9),UR _ _ _ i (by simpa using y9)];obtain⟨v0,v1,v2,v3,hv⟩:∃v0 v1 v2 v3,ZT p t=[v0,v1,v2,v3]:=⟨_,_,_,_,rfl⟩;rw[hv] at hgt;simp[QdD,hv,Qgj,QlU,prC];apply cK (by simpa using hgt);simp[hget,VY,U5]
  simpa[prC] using this
 simp
omit hK
def V8(l:List Int)(lo hi:Int):(Z7 l lo hi).Pairwise (·<·):=by unfold Z7 Ya;refine List.Pairwise.filter _ ?_;rw[List.pairwise_map];exact List.pairwise_lt_range.imp λ{a b}h=>by omega
def Vm(l:List Int)(lo hi x:Int):x∈Z7 l lo hi↔lo<=x/\x<=hi/\x∈l:=by
 unfold Z7 Ya;simp only[QOx,QOb,QOr,decide_eq_true_eq];constructor
 .grind
 .rintro⟨h1,h2,h3⟩;exact⟨⟨(x-lo).toNat,by omega,by omega⟩,h3⟩
include hK
def QAA(p:Qf)(n:Int)(hf:Few p):Gd K 113 [prV p,.int .i64 n] (.xf [Qq (Uh p n),.int .i64 (kE p (Q0 p n))]):=by
 apply Qb hK QEl (by simp);have hg:=WC hK p (Q0 p n) hf.fine;have hg93:Gd K 212 [prV p,.int .i64 n] (.bool (Q0 p n)):=QqP hK p n hf.fine.small.zf;simp;apply cK (by simpa using hg93);simp;apply cK (by simpa using hg);by_cases he:kE p (Q0 p n)=0;rotate_left
 .have hk:=Qp7 he;have hr:Uh p n=[]:=by unfold Uh;rw[hk];simp[Z7,Ya]
  simp[he,hr]
 .obtain⟨hp,hn,hk,hne⟩:=Yh he;have hn':=of_decide_eq_true hn;simp only[inR] at hn';have hE:=hf.ends hp;have htl:=hp.trialsLen;obtain⟨i,rfl⟩:∃i:Nat,n=i:=⟨n.toNat,by omega⟩;have hi:i<p.zf.length:=by omega
  have hbr:Uh p i=Jv (((Zq p.zc [] p.zc.za).map λe=>QJ p i (Qt e)).filter λx=>decide (0<=x)):=by
   refine Qi4 (V8 _ _ _) (J3 _) λx=>?_;unfold Uh;rw[Vm,J4,hk];simp only[QPg,QOb,QOx,decide_eq_true_eq];have hS:QS p.zb [] p.zb.zd≠[]:=λc=>by have h1:=qh p;rw[qe,c] at h1;exact hne (QN4 (by simpa using h1))
   constructor
   .rintro⟨h1,h2,t,ht,rfl⟩;simp only[QN,QOK,QOb] at ht;grind
   rintro⟨⟨e,he,rfl⟩,h1⟩;have h2:=QbR hp (Qt e) hi;refine⟨h1,by omega,?_⟩;have⟨s,hs⟩:=QO1 _ hS;exact⟨⟨e,s⟩,by simp only[QN,QOK,QOb];grind,rfl⟩
  rw[hbr];have hfile:U1 p=prC p++[.sl 3 (Q3 p),.sl 1 (X1 p)]:=rfl;have hst:Q3 p=(Zq p.zc [] p.zc.za).map λe=>Xc p (Qt e):=rfl;rw[hfile,hst];generalize X1 p=LL at *;generalize Zq p.zc [] p.zc.za=E at *;simp[he,prC];intro _
  refine Qe (λj=>[(1,AV.iv (.int .i64 (i:Nat))),(8,.yk 22),(26,.iv (.sl 3 (E.map λe=>Xc p (Qt e)))),(27,.iv (.int .i64 E.length)),(28,.iv (.int .i64 (j:Nat)))])
   (λj=>[(22,.xh (Qbl (X9 (((E.take j).map λe=>QJ p i (Qt e)).filter λx=>decide (0<=x)))))]) E.length (λ_=>True) trivial ?_ ?_
  .intro _;rw[Qa QlW.eq_1];simp;apply cK (by simpa using QjU hK (Qbl (X9 ((E.map λe=>QJ p i (Qt e)).filter λx=>decide (0<=x)))));simp;refine cK (Qat ((E.map λe=>QJ p i (Qt e)).filter λx=>decide (0<=x)) (λx hx=>?_) ?_) ?_
   .simp only[QOx,QOb] at hx;obtain⟨⟨e,_,rfl⟩,_⟩:=hx;have:=QbR hp (Qt e) hi;omega
   .grind
   simp
  .intro j hj _ ih;have hst:Xc p (Qt E[j])=[.sl 1 ((List.range p.zf.length).map λi=>[.int .u64 (XG (Zr p i (Qt E[j])):Nat)]),.sl 1 ((List.range p.zf.length).map λi=>[.int .i64 (QJ p i (Qt E[j]))]),ZM (XO p (Qt E[j]))]:=rfl;rw[Qa QlW.eq_1];rw[QNW hj,QOd,QOT] at ih;by_cases hb:0<=QJ p i (Qt E[j])
   .have hfc:(List.map (λe=>QJ p i (Qt e)) [E[j]]).filter (λx=>decide (0<=x))=[QJ p i (Qt E[j])]:=by simp[hb]
    rw[hfc,X4] at ih;generalize hl:((E.take j).map λe=>QJ p i (Qt e)).filter (λx=>decide (0<=x))=l at *
    have hll:l.length<=1000000:=by grind
    have hle:=QfX (QJ p i (Qt E[j])) l;have hkk:=Y8 (X9 l);have hff:=Vc (QJ p i (Qt E[j])) (X9 l);have hii:=qw (QJ p i (Qt E[j])) (X9 l);generalize X9 l=kv at *;simp[hj,hst,hi,hb,hkk,hff,hii] at ih |-
    grind
   .have hfc:(List.map (λe=>QJ p i (Qt e)) [E[j]]).filter (λx=>decide (0<=x))=[]:=by simp[hb]
    rw[hfc,QOl] at ih;simp[hj,hst,hi,hb] at ih |-
    grind
def QAz(p:Qf)(n:Int)(hf:Few p):Gd K 115 [prV p,.int .i64 n] (.xf [.agg [.int .i64 (if kE p (Q0 p n)=0 then(XY p.zb (tr p n.toNat).zm (tr p n.toNat).zn).1 else 0),.int .i64 (if kE p (Q0 p n)=0 then(XY p.zb (tr p n.toNat).zm (tr p n.toNat).zn).2 else 0)],
   .int .i64 (if kE p (Q0 p n)=0 then tE p.zb (Vh (tr p n.toNat).zm (tr p n.toNat).zn 0) else kE p (Q0 p n))]):=by
 apply Qb hK QEk (by simp);have hg:=WC hK p (Q0 p n) hf.fine;have hg93:Gd K 212 [prV p,.int .i64 n] (.bool (Q0 p n)):=QqP hK p n hf.fine.small.zf;simp;apply cK (by simpa using hg93);simp;apply cK (by simpa using hg);by_cases he:kE p (Q0 p n)=0
 .obtain⟨hp,hn,hk,hne⟩:=Yh he;have hn':=of_decide_eq_true hn;simp only[inR] at hn';have hS:=hf.sets hp;have htl:=hp.trialsLen;obtain⟨i,rfl⟩:∃i:Nat,n=i:=⟨n.toNat,by omega⟩;have hi:i<p.zf.length:=by omega
  have hSne:QS p.zb [] p.zb.zd≠[]:=λc=>by have h1:=qh p;rw[qe,c] at h1;exact hne (QN4 (by simpa using h1))
  have ha:Vh (tr p i).zm (tr p i).zn 0=true:=by have a1:=(hp.trial hi).1;have a2:=(hp.trial hi).2.1;simp only[Vh,inR] at a1 a2 |-;simp;omega
  have htE:tE p.zb true=0:=by unfold tE;rw[if_pos hp.zb,if_pos rfl,if_neg hSne]
  have hrl:XY p.zb (tr p i).zm (tr p i).zn=((span ((QS p.zb [] p.zb.zd).map (qc p.zb (tr p i).zm (tr p i).zn))).1,(span ((QS p.zb [] p.zb.zd).map (upS p.zb (tr p i).zm (tr p i).zn))).2):=by unfold XY tL;rw[ha,if_pos ⟨hp.zb,rfl⟩]
  rw[QPg,ha,htE,hrl];have hfile:U1 p=prC p++[.sl 3 (Q3 p),.sl 1 (X1 p)]:=rfl;have hlv:X1 p=(QS p.zb [] p.zb.zd).map λs=>[.sl 2 (Zu p s)]:=rfl;rw[hfile,hlv];have hld:∀s,(Zu p s)[i]?=some [.int .i64 (qc p.zb (tr p i).zm (tr p i).zn s),.int .i64 (upS p.zb (tr p i).zm (tr p i).zn s)]:=λs=>by simp[Zu,hi]
  have hll:∀s,(Zu p s).length=p.zf.length:=λs=>by simp[Zu]
  have hld2:∀s(h:i<(Zu p s).length),(Zu p s)[i]'h=[.int .i64 (qc p.zb (tr p i).zm (tr p i).zn s),.int .i64 (upS p.zb (tr p i).zm (tr p i).zn s)]:=λs h=>by grind
  generalize Q3 p=SS at *;generalize QS p.zb [] p.zb.zd=S at *;have hpos:0<S.length:=QO7.2 hSne;obtain⟨s0,hs0⟩:∃s0,S[0]=s0:=⟨_,rfl⟩;have hcons:∃S',S=s0::S':=by
   cases S with
   |_=>grind
  generalize qc p.zb (tr p i).zm (tr p i).zn=lo at *;generalize upS p.zb (tr p i).zm (tr p i).zn=up at *
  have hmin:(span (S.map lo)).1=(S.map lo).foldl min (lo s0):=by obtain⟨S',rfl⟩:=hcons;show(S'.map lo).foldl min (lo s0)=(S'.map lo).foldl min (min (lo s0) (lo s0));grind
  have hmax:(span (S.map up)).2=(S.map up).foldl max (up s0):=by obtain⟨S',rfl⟩:=hcons;show(S'.map up).foldl max (up s0)=(S'.map up).foldl max (max (up s0) (up s0));grind
  clear hcons;rw[hmin,hmax];simp[he,prC,hi,hll,hld2,hpos,hs0];intro _
  refine Qe (λj=>[(1,AV.iv (.int .i64 (i:Nat))),(4,.loc 4 0),(8,.loc 8 0),(35,.iv (.sl 1 (S.map λs=>[.sl 2 (Zu p s)]))),(36,.iv (.int .i64 (S.length:Nat))),(37,.iv (.int .i64 (j:Nat)))])
   (λj=>[(4,.box [.iv (.int .i64 0),.iv (.int .i64 0)]),(8,.box [.iv (.int .i64 (((S.map lo).take j).foldl min (lo s0))),.iv (.int .i64 (((S.map up).take j).foldl max (up s0)))])]) S.length (λ_=>True) trivial ?_ ?_
  .intro _;rw[Qa QlV.eq_1];simp[QN1]
  intro j hj _ ih;rw[Qa QlV.eq_1];rw[UR _ _ _ j (by simpa using hj),UR _ _ _ j (by simpa using hj)] at ih;simp[hj,hi,hll,hld2,VY,U5] at ih |-
  grind
 simp[he]
omit hK
def QgF(T:List QR)(B:QR->Bool)(hne:T≠[]):(Xu (T.countP B) T.length=1)↔T.all B=true:=by
 have h1:0<T.length:=QO7.2 hne;have h2:T.countP B=T.length↔T.all B=true:=by rw[QPz,QOt]
 unfold Xu;grind
include hK
def QzN(p:Qf)(t:QR)(k:Nat)(hk:k<(XO p (Qt t.ends)).length)(hp:OkP p)(hs:okS p.zb t.set):Gd K 224 [.agg (ZT p t),.ptr (prC p),.ptr [.int .i64 k]] (.bool (QD p ((XO p (Qt t.ends)).getD k 0:Nat) t)):=by
 apply Qb hK QC5 (by simp);have hl:=hp.deedsLen;have hgd:(XO p (Qt t.ends)).getD k 0=(XO p (Qt t.ends))[k]:=by grind
 have hlt12:(XO p (Qt t.ends))[k]<12:=by have:=Wf _ _ _ _ (QN0 hk);have:=QgC p.zc.za p.zc.za.length;omega
 have hg:=QjR hK p t p.zo hp;have hb:=Qfp hp hs (zo:=p.zo) (k:=(XO p (Qt t.ends))[k]) (by omega);have y9:∀n,pmN (nd p p.zo) t n<2 ^ 64:=λn=>Qmz hp t n;have hg2:=QjQ hK (pmN (nd p p.zo) t p.zf.length) (XO p (Qt t.ends))[k] (y9 _) (by omega);have hnd:nd p p.zo=p:=rfl;rw[hb,hnd] at hg2;rw[hnd] at hg;rw[hgd];obtain⟨v0,v1,v3,hv⟩:∃v0 v1 v3,ZT p t=[v0,v1,ZM (XO p (Qt t.ends)),v3]:=⟨_,_,_,rfl⟩;rw[hv] at hg |-;generalize XO p (Qt t.ends)=now at *;simp[prC];apply cK (by simpa using hg);simp[hk];apply cK (by simpa using hg2);simp
def QAv(p:Qf)(hf:Few p):Gd K 124 [prV p] (.xf [Qq (Qbf p),.int .i64 (kE p true)]):=by
 apply Qb hK QEf (by simp);have hg:=WC hK p true hf.fine;simp;apply cK (by simpa using hg);by_cases he:kE p true=0
 .obtain⟨hp,_,hk,hne⟩:=Yh he;have hdl:=hp.deedsLen;have hnl:∀e,((XO p e).length:Int)=ZV p.zc.za:=λe=>ZW e hp.zc.za p.zc.za.length (QN3 _) (QN3 _);have hcb:=hp.zc.za.cnt p.zc.za.length (QN3 _) (QN3 _);have hnl2:∀e,(XO p e).length=(ZV p.zc.za).toNat:=λe=>by grind
  have hNb:(ZV p.zc.za).toNat<=12:=by show(cnt p.zc.za p.zc.za.length).toNat<=12;omega
  have hg75:∀s:Nat,s<(ZV p.zc.za).toNat->Gd K 223 [.ptr (U1 p),.clo 224 [] [.ptr (prC p),.ptr [.int .i64 s]]] (.int .i64 (Xu ((QN p).countP (λt=>QD p ((XO p (Qt t.ends)).getD s 0:Nat) t)) (QN p).length)):=λs hs=>QjP hK p (hf.ends hp) (hf.sets hp) (by have:=hf.all hp;omega) 224 [] _ _ (λt ht=>by simpa using QzN hK p t s (by grind) hp (YD ht)) (by kernel_rfl)
  have hr:Qbf p=acc (λs:Nat=>if(QN p).all (λt=>QD p ((XO p (Qt t.ends)).getD s 0:Nat) t) then [] else [(s:Int)]) (ZV p.zc.za).toNat:=by unfold Qbf;rw[if_pos he,hk]
  have hts:∀s:Nat,(Xu ((QN p).countP (λt=>QD p ((XO p (Qt t.ends)).getD s 0:Nat) t)) (QN p).length=1)↔(QN p).all (λt=>QD p ((XO p (Qt t.ends)).getD s 0:Nat) t)=true:=λs=>QgF _ _ hne;have hE:Zq p.zc [] p.zc.za≠[]:=λc=>by have h1:=qh p;rw[Wm,c] at h1;exact hne (QN4 (by simpa using h1))
  have hst:∃s0 s1 now rest,Q3 p=[s0,s1,ZM now]::rest/\now.length=(ZV p.zc.za).toNat:=by
   unfold Q3;cases hEE:Zq p.zc [] p.zc.za with
   |cons e r=>exact⟨_,_,XO p (Qt e),_,rfl,hnl2 _⟩
   |_=>grind
  obtain⟨s0,s1,now,rest,hst,hnow⟩:=hst;rw[hr];have hfile:U1 p=prC p++[.sl 3 (Q3 p),.sl 1 (X1 p)]:=rfl;rw[hfile,hst] at hg75 |-;clear hg hr hfile hst hE;generalize QN p=T at *;generalize X1 p=LL at *;generalize(ZV p.zc.za).toNat=N at *;obtain⟨tv,htv⟩:∃tv:Nat->Int,∀s,tv s=Xu (T.countP (λt=>QD p ((XO p (Qt t.ends)).getD s 0:Nat) t)) T.length:=⟨_,λ_=>rfl⟩;obtain⟨all,xd⟩:∃all:Nat->Bool,∀s,all s=T.all (λt=>QD p ((XO p (Qt t.ends)).getD s 0:Nat) t):=⟨_,λ_=>rfl⟩;simp only[<- htv,<- xd] at hg75 hts |-;obtain⟨pc,hpc⟩:∃pc:Nat->List Int,pc=λs:Nat=>if all s=true then [] else [(s:Int)]:=⟨_,rfl⟩
  rw[<- hpc];have hpc2:∀s:Nat,pc s=if all s=true then [] else [(s:Int)]:=λs=>by rw[hpc]
  clear hpc htv xd;simp[he,prC];intro _;rw[hnow]
  refine Qe (λi=>[(1,AV.iv (.ptr (prC p))),(4,.iv (.ptr (prC p++[.sl 3 ([s0,s1,ZM now]::rest),.sl 1 LL]))),(6,.yl 6 (acc pc i).length),(23,.iv (.int .i64 (N:Nat))),(24,.iv (.int .i64 (i:Nat)))])
   (λi=>[(6,.arr 3 1 (emb ((acc pc i).map λn=>[.int .i64 n])) 0)]) N (λ_=>True) trivial ?_ ?_
  .intro _;rw[Qa QlT.eq_1];simp[QN1]
  intro i hi _ ih;have hlen:(acc pc i).length<=i*1:=YO pc 1 (λs=>by grind) i;rw[Qa QlT.eq_1];rw[ZR pc i,hpc2 i] at ih;have hgi:=hg75 i hi;have htsi:=hts i;generalize tv i=tvi at *;generalize acc pc i=A at *;have hi':(i:Int)<N:=by omega
  simp[hi,hi'];apply Qd (by simpa using hgi) (.inr rfl);by_cases hal:all i=true
  .have h1:=htsi.2 hal;rw[if_pos hal] at ih;simp[h1] at ih |-
   grind
  have h1:¬tvi=1:=λc=>hal (htsi.1 c);rw[if_neg hal] at ih;simp[h1] at ih |-
  grind
 have hr:Qbf p=[]:=by unfold Qbf;rw[if_neg he]
 simp[he,hr]
omit hK
theorem Vy{α:Type}(f:α->Int)(n:Int):∀(l:List α)(b:Int),n<=l.foldl (λb k=>min b (f k)) b↔n<=b/\∀k∈l,n<=f k
 |[],b=>by simp
 |a::l,b=>by
  rw[QOP,Vy f n l]
  grind
theorem Qp4(p:Qf)(t:QR)(k:Nat)(n:Int)(hn:0<=n):∀N:Nat,n<=QdA p t k N↔∃i<N,inN (Zr p i (Qt t.ends)) k=true/\¬QJ p i (Qt t.ends)=k/\n<=(XT p i t.set).tdiv (den t.set)
 |0=>by have:QdA p t k 0 = -1:=rfl;omega
 |N+1=>by
  rw[Qej];have ih:=Qp4 p t k n hn N;unfold Qek;split
  .rename_i h;constructor
   all_goals grind
  grind
theorem Qht(p:Qf)(t:QR)(n:Int):∀(l:List Nat)(b:Int),n<=l.foldl (Qba p t) b↔n<=b/\∀i∈l,0<=(tr p i).z5->p.z6<=(JH p t i p.zf.length:Int)->n<=(XT p i t.set+den t.set-1).tdiv (den t.set)-1
 |[],b=>by simp
 |a::l,b=>by rw[QOP,Qht p t n l];simp only[QN7,forall_eq_or_imp];unfold Qba;grind
theorem Qql(f:Nat->Int):∀l:List Nat,l≠[]->∃a∈l,∀b∈l,f b<=f a
 |[],h=>absurd rfl h
 |[a],_=>⟨a,by simp,by simp⟩
 |a::b::l,_=>by obtain⟨c,h1,h2⟩:=Qql f (b::l) (by simp);grind
def Qrh{p:Qf}(hp:OkP p)(t:QR)(n:Int):(ZO (nd p n) t:Int)<p.z6↔∀i<p.zf.length,0<=(tr p i).z5->p.z6<=(JH p t i p.zf.length:Int)->¬XT p i t.set<=n*den t.set:=by
 have hrule:=hp.z6;simp only[inR] at hrule;have hf:ZO (nd p n) t=(List.range p.zf.length).countP λi=>decide (0<=(tr p i).z5)&&decide (XT p i t.set<=n*den t.set):=rfl;rw[hf];constructor
 .intro h i hi h1 h2 h3;have:JH p t i p.zf.length<=(List.range p.zf.length).countP λi=>decide (0<=(tr p i).z5)&&decide (XT p i t.set<=n*den t.set):=by
   unfold JH;refine List.countP_mono_left λk _ hk=>?_;grind
  omega
 .intro h;refine Classical.byContradiction λhc=>?_;have hpos:0<(List.range p.zf.length).countP λi=>decide (0<=(tr p i).z5)&&decide (XT p i t.set<=n*den t.set):=by omega
  rw[List.countP_eq_length_filter] at hpos hc;have⟨a,ha,hmax⟩:=Qql (λi=>XT p i t.set) _ (QO7.1 hpos);simp only[QOx,QOr,QNZ,decide_eq_true_eq] at ha;refine h a ha.1 ha.2.1 ?_ ha.2.2;have:((List.range p.zf.length).filter λi=>decide (0<=(tr p i).z5)&&decide (XT p i t.set<=n*den t.set)).length<=JH p t a p.zf.length:=by rw[<- List.countP_eq_length_filter];unfold JH;refine List.countP_mono_left λk hk1 hk=>?_;grind
  omega
def QeA{p:Qf}(hp:OkP p){t:QR}(hs:okS p.zb t.set){n:Int}(h0:0<=n)(h1:n<=999999999):Jx (nd p n) t=true↔n<=U2 p t:=by
 have hden:=(hp.zb.denB hs).1;have hld:∀i<p.zf.length,0<=XT p i t.set:=λi hi=>(hp.zb.numB hs (hp.trial hi).1 (hp.trial hi).2.1).1;have hg:Jx (nd p n) t=(((XO p (Qt t.ends)).all λ(k:Nat)=>QD (nd p n) k t)&&decide ((ZO (nd p n) t:Int)<p.z6)):=rfl;rw[hg,QNZ,decide_eq_true_eq,QOt,Qrh hp];unfold U2;rw[Qht];unfold Qgl;rw[Vy];have hprov:∀k:Nat,QD (nd p n) k t=true↔n<=QdA p t k p.zf.length:=λk=>by
  rw[Qp4 p t k n h0];have hpb:QD (nd p n) k t=(List.range p.zf.length).any λi=>decide (n*den t.set<=XT p i t.set)&&inN (Zr p i (Qt t.ends)) k&&!decide (QJ p i (Qt t.ends)=k):=rfl;rw[hpb,QOO];constructor
  .rintro⟨i,hi,h2⟩;have hi:=QOr.1 hi;simp at h2;exact⟨i,hi,h2.1.2,h2.2,(Wx (hld i hi) hden).2 h2.1.1⟩
  rintro⟨i,hi,h2,h3,h4⟩;have h5:=(Wx (hld i hi) hden).1 h4;grind
 constructor
 .rintro⟨h2,h3⟩;refine⟨⟨h1,λk hk=>(hprov k).1 (h2 k hk)⟩,λi hi h4 h5=>?_⟩;have hi:=QOr.1 hi;have h6:=h3 i hi h4 h5;have h7:¬(XT p i t.set+den t.set-1).tdiv (den t.set)<=n:=λc=>h6 ((Wl (hld i hi) hden).1 c);omega
 rintro⟨⟨_,h2⟩,h3⟩;refine⟨λk hk=>(hprov k).2 (h2 k hk),λi hi h4 h5 h6=>?_⟩;have h7:=h3 i (QOr.2 hi) h4 h5;have h8:=(Wl (c:=n) (hld i hi) hden).2 h6;omega
def QnQ{p:Qf}(hp:OkP p)(he:kE p true=0){n:Int}(h0:0<=n)(h1:n<=999999999):(QN p).all (Jx (nd p n))=true↔n<=JA p:=by
 unfold JA;rw[(Yh he).2.2.1,Vy,QOt];constructor
 .exact λh=>⟨h1,λt ht=>(QeA hp (YD ht) h0 h1).1 (h t ht)⟩
 .exact λh t ht=>(QeA hp (YD ht) h0 h1).2 (h.2 t ht)
include hK
def QzK(p:Qf)(t:QR)(n:Int)(hp:OkP p)(hs:okS p.zb t.set):Gd K 228 [.agg (ZT p t),.ptr [.int .i64 n],.ptr (prC p)] (.bool (Jx (nd p n) t)):=by apply Qb hK QC1 (by simp);have hg:=QqO hK p t n hp hs;obtain⟨v0,v1,v2,v3,hv⟩:∃v0 v1 v2 v3,ZT p t=[v0,v1,v2,v3]:=⟨_,_,_,_,rfl⟩;rw[hv] at hg |-;simp[prC];apply cK (by simpa using hg);simp
def QzL(p:Qf)(n:Int)(hf:Few p)(he:kE p true=0)(h0:0<=n)(h1:n<=999999999):Gd K 227 [.int .i64 n,.ptr [.ptr (U1 p)],.ptr (prC p)] (.bool (decide (n<=JA p))):=by
 apply Qb hK QC2 (by simp);have⟨hp,_,hk,hne⟩:=Yh he;have hg:=QjP hK p (hf.ends hp) (hf.sets hp) (by have:=hf.all hp;omega) 228 [] [.ptr [.int .i64 n],.ptr (prC p)] (Jx (nd p n)) (λt ht=>by simpa using QzK hK p t n hp (YD ht)) (by kernel_rfl);have hs:=QgF (QN p) (Jx (nd p n)) hne;rw[QnQ hp he h0 h1] at hs;generalize Xu ((QN p).countP (Jx (nd p n))) (QN p).length=tv at *;generalize U1 p=F at *;simp;apply cK (by simpa using hg);by_cases h:n<=JA p
 .have:=hs.2 h;simp[h,this]
 .have:¬tv=1:=λc=>h (hs.1 c);simp[h,this]
def QAt(p:Qf)(hf:Few p):Gd K 128 [prV p] (.xf [.int .i64 (Yw p).1,.int .i64 (Yw p).2]):=by
 apply Qb hK QEd (by simp);have hg:=WC hK p true hf.fine;simp;apply cK (by simpa using hg);by_cases he:kE p true=0;rotate_left
 .have hr:Yw p=(0,kE p true):=by unfold Yw;rw[if_neg he]
  rw[hr];simp[he];apply Qiq _ _ _ _ _ _ _ _;simp[he]
 have⟨hp,_,hk,hne⟩:=Yh he;have hg74:=λn h0 h1=>QzL hK p n hf he h0 h1;have hw:JA p<=999999999:=(Vy (U2 p) (JA p) (kL p true) 999999999).1 (Int.le_refl _) |>.1;have hr:Yw p=if JA p<0 then(0,3) else(JA p,0):=by unfold Yw;rw[if_pos he]
 rw[hr];generalize JA p=W at *;generalize U1 p=F at *;simp[he,prC];apply Qiq _ _ _ _ _ _ _ _;simp;refine⟨by kernel_rfl,cK (by simpa[prC] using hg74 0 (by omega) (by omega)) ?_⟩;by_cases hneg:W<0
 .have h2:¬0<=W:=by omega
  simp[hneg,h2]
 have h2:0<=W:=by omega
 simp[hneg,h2];refine QpW (S:=Int×Int) (λs=>[(6,.iv (.clo 227 [] [.ptr [.ptr F],.ptr (prC p)])),(7,.iv (.int .i64 s.1)),(8,.iv (.int .i64 s.2))]) (λ_=>[]) (λs=>0<=s.1/\s.1<=W/\W<=s.2/\s.2<=999999999) (λs=>(s.2-s.1).toNat) ?_ (0,999999999) ⟨by omega,h2,hw,by omega⟩;rintro⟨low,high⟩ ⟨i1,i2,i3,i4⟩ ih;simp only at i1 i2 i3 i4 ih |-;rw[Qa QsR.eq_1];by_cases y9:low<high
 .have hmid:(low+high+1).tdiv 2=(low+high+1) / 2:=QOB (by omega);have hm1:low<(low+high+1) / 2:=by omega
  have hm2:(low+high+1) / 2<=high:=by omega
  have hgm:=hg74 ((low+high+1) / 2) (by omega) (by omega);simp[y9,hmid];generalize(low+high+1) / 2=mid at *
  (repeat' first|omega|apply And.intro|intro)
  .kernel_rfl
  apply cK (by omega);by_cases hmw:mid<=W
  .simp[hmw];exact ih (mid,high) ⟨by simp only;omega,hmw,i3,i4⟩ (by simp only;omega)
  simp[hmw]
  (repeat' first|omega|apply And.intro|intro)
  exact ih (low,mid-1) ⟨i1,i2,by simp only;omega,by simp only;omega⟩ (by simp only;omega)
 have:low=W:=by omega
 subst this;simp[y9]
omit hK
def exD:List QB:=[⟨1,0,0,5,1⟩,⟨1,1,0,5,2⟩,⟨1,2,0,6,1⟩,⟨4,0,0,0,0⟩,⟨2,0,2,0,0⟩,⟨1,0,1,7,2⟩]
def exC:Ql:=⟨exD++[⟨4,0,0,0,0⟩],[],0⟩
def exM:Machine:=⟨[⟨100,10,11⟩,⟨50,5,5⟩],20,1,2,[⟨10,5,2500,250⟩],0⟩
def exP:Qf:=⟨exC,exM,[⟨30,0,0⟩,⟨31,0,-1⟩],4600,1⟩
include hK
def QNK:AV:=.xf [.agg [.yl 0 6,.iv (.sl 5 []),.iv (.int .i64 0)],.iv (.agg [.int .i64 6,.int .i64 1,.int .i64 0,.int .i64 6,.int .i64 (-1)]),.iv (.agg [.int .i64 6,.int .i64 0,.int .i64 0,.int .i64 (-1),.int .i64 1])]
omit hK
def Qrn:OkC exC:=by
 refine⟨by decide,by decide,by decide,λi h _=>?_,λs hs=>by simp[exC] at hs⟩;have all:∀i<7,ZA (exC.za.getD i d0) (cnt exC.za i):=by decide
 have:=all i h;grind
def Qw8:OkM exM:=by
 refine⟨by decide,?_,by decide,by decide,by decide,by decide,?_,by decide⟩
 .intro l hl;simp[exM] at hl;rcases hl with rfl|rfl<;>decide
 intro l hl;simp[exM] at hl;subst hl;decide
def Qnc:OkP exP:=by
 refine⟨Qrn,Qw8,by decide,by decide,by decide,λi h h'=>?_⟩;have all:∀i<2,Vv (exP.zf.getD i t0) (cnt exP.zc.za ((pv exP.zc.za).getD i 0)):=by decide
 have:=all i h';grind
def QrB{c:Ql}(hc:OkC c)(hs:c.zg=[]):Zq c [] c.za=Qp c.za:=by
 have hw:=hc.zh;simp only[inR] at hw;unfold Zq;have e1:((Qp c.za).map λx=>[]++x)=Qp c.za:=by simp
 rw[e1,List.filter_eq_self];intro e he;have h1:=Ql6 hc he;have h2:(QM c.za c.zg (Qt e):Int)<=c.zh:=by rw[hs];simpa[QM] using hw.1
 simpa using⟨h1,h2⟩
theorem Qd4:∀{ls:List ZL}{e:List Int},e∈Q1 ls->e.length=ls.length/\∀i(h:i<ls.length)(h':i<e.length),inR e[i] ls[i].lo ls[i].hi
 |[],e,h=>by simp[Q1] at h;subst h;simp
 |l::r,e,h=>by
  simp only[Q1,acc,QOK,QOb,QOr] at h;obtain⟨i,hi,e',he',rfl⟩:=h;have⟨h1,h2⟩:=Qd4 he';refine⟨by simp[h1],λj h h'=>?_⟩;cases j with
  |zero=>simp only[QPw,inR];omega
  |_=>grind
def QxQ{m:Machine}{s:Qn}(h:s∈QO m [] m.zd):okS m s:=by simp only[QO,QOK,QOb,QOr] at h;obtain⟨e,he,k,hk,rfl⟩:=h;have⟨h1,h2⟩:=Qd4 he;exact⟨by simpa using h1,by simp only[inR];omega,by simpa using h2⟩
def QxR(m:Machine):QS m [] m.zd=(QO m [] m.zd).filter λs=>decide ((ZS m m.zk s:Int)<=m.zh):=by unfold QS;refine QPC λs hs=>?_;rw[QPR];simp only[decide_eq_true_eq];exact⟨λh=>h.2,λh=>⟨QxQ hs,h⟩⟩
include hK
omit hK
theorem WK:∀ds:List QB,(Qp ds).length<=2 ^ ZF ds
 |[]=>by show 1<=2 ^ 0;decide
 |d::r=>by
  have ih:=WK r;by_cases h2:d.z2=2
  .have e1:ZF (d::r)=ZF r+1:=by simp[ZF,h2]
   rw[e1,Nat.pow_succ];simp[Qp,VH,h2];omega
  have e1:ZF (d::r)=ZF r:=by simp[ZF,h2]
  rw[e1];by_cases h0:d.z2=0
  .simp[Qp,VH,h0];omega
  by_cases h1:d.z2=1
  .simp[Qp,VH,h1];omega
  simp[Qp,VH,h0,h1,h2]
def Qne(c:Ql):(Zq c [] c.za).length<=2 ^ ZF c.za:=by refine QOz (QOp _ _) ?_;simpa using WK c.za
def Qtz{p:Qf}(h:¬Qiv p):Ql3 p:=by unfold Qiv Qw5 Qre at h;simp only[not_or] at h;exact⟨by omega,by omega,by omega,by omega,by omega⟩
def Qe2{p:Qf}(h:¬Qiv p)(hp:OkP p):1<=sets p.zb p.zb.zd.length/\sets p.zb p.zb.zd.length<=48/\2 ^ ZF p.zc.za<=48:=by
 have h1:ways p<=48:=by unfold Qiv at h;grind
 have hl:=hp.zb.zx;simp only[inR] at hl;have h2:1<=sets p.zb p.zb.zd.length:=by have h3:=Yy Zs p.zb.zd λl hl=>(hp.zb.span hl).1;unfold sets;rw[QN1 (QN3 _)];have h4:1*QH Zs p.zb.zd<=(p.zb.zw-p.zb.zu+1)*QH Zs p.zb.zd:=QOj (by omega) (by omega);omega
 unfold ways at h1;have hpos:1<=(2 ^ ZF p.zc.za:Nat):=Nat.pos_of_ne_zero (by simp);generalize(2 ^ ZF p.zc.za:Nat)=W at *;generalize sets p.zb p.zb.zd.length=S at *;have a1:S*1<=S*(W:Int):=QOX (by omega) (by omega);have a2:1*(W:Int)<=S*(W:Int):=QOj h2 (by omega);omega
def QGm{p:Qf}(h:¬Qiv p):Few p:=by
 refine⟨⟨Qtz h,λhp=>by have:=Qe2 h hp;omega⟩,λhp=>?_,λhp=>?_,λhp=>?_⟩
 .have h1:=Qne p.zc;have h2:=Qe2 h hp;omega
 .have h1:=Vo hp.zb;have h2:=Qe2 h hp;omega
 have h1:=Qne p.zc;have h2:=Qe2 h hp;have h3:=Vo hp.zb;rw[qh,Wm,qe];have h4:(Zq p.zc [] p.zc.za).length*(QS p.zb [] p.zb.zd).length<=48*48:=Nat.mul_le_mul (by omega) (by omega);omega
include hK
omit hK
def QdZ{c n:Nat}:Xu c n=1↔c=n:=by unfold Xu;omega
def Qb1{c n:Nat}(hn:n≠0):Xu c n=2↔c=0:=by unfold Xu;omega
include hK
omit hK
def Qpz(p:Qf):JA p<=999999999:=by
 unfold JA;have h:∀(l:List QR)(b:Int),l.foldl (λb t=>min b (U2 p t)) b<=b:=by
  intro l;induction l with
  |_=>grind
 exact h _ _
include hK
omit hK
theorem Qdg:∀(ds:List QB)(e:List Int),(∀d∈ds,inR d.z2 0 2)->e.length=ds.length->(∀i(h:i<ds.length)(h':i<e.length),inR e[i] 0 1/\(ds[i].z2<2->e[i]=ds[i].z2))->e∈Qp ds
 |[],e,_,hl,_=>by have:e=[]:=QN4 hl;subst this;simp[Qp]
 |d::ds,[],_,hl,_=>by cases hl
 |d::ds,x::e,hd,hl,h=>by
  have h0:=h 0 (by simp) (by simp);simp only[QPw] at h0
  have hr:=Qdg ds e (λd hd'=>hd d (by simp[hd'])) (by simpa using hl) (λi h1 h2=>by have:=h (i+1) (by simpa using h1) (by simpa using h2);grind)
  have hf:=hd d (by simp);simp only[inR] at hf h0;simp only[Qp,QOK,QOb];refine⟨x,?_,e,hr,rfl⟩;unfold VH;grind
def Qm4{d:QB}{n:Int}(h:ZA d n):inR d.z2 0 2:=by
 rcases h with h|h|h
 .exact h.2.1
 .exact h.2.1
 rw[h.2.2.1];simp[inR]
def QrC{c:Ql}(hc:OkC c){e:List Int}(h:Qoh c e):e∈Zq c [] c.za:=by simp only[Zq,QOx,decide_eq_true_eq,QOg,List.map_id'];refine⟨Qdg _ _ (λd hd=>?_) h.1.1 h.1.2,h⟩;obtain⟨i,hi,rfl⟩:=QON hd;exact Qm4 (hc.za i hi hi)
def QIE{p:Qf}(hp:OkP p){t:QR}(h:t∈QN p):kE p true=0:=by unfold kE;grind
def UE{α:Type}(f:α->Int):∀(l:List α)(t:α),t∈l->(span (l.map f)).1<=f t/\f t<=(span (l.map f)).2
 |[],_,h=>by cases h
 |a::r,t,h=>by
  have mono:∀(l:List α)(x u:Int),(l.map f).foldl min x<=x/\u<=(l.map f).foldl max u:=by
   intro l;induction l with
   |cons b l ih=>intro x u;simp only[QOk,QOP];have:=ih (min x (f b)) (max u (f b));omega
   |_=>grind
  have key:∀(l:List α)(x u:Int),t∈l->(l.map f).foldl min x<=f t/\f t<=(l.map f).foldl max u:=by
   intro l;induction l with
   |cons b l ih=>
    intro x u h;simp only[QOk,QOP];rcases QN7.1 h with rfl|h
    .have:=mono l (min x (f t)) (max u (f t));omega
    exact ih _ _ h
   |_=>grind
  simp only[QOk,span];rcases QN7.1 h with rfl|h
  .exact mono r _ _
  .exact key r _ _ h
def Qs8(k:Int)(b:Bool):Prop:=k=3\/(k=1/\b=true)\/(k=2/\b=false)
def QxK{α:Type}(f:α->Int)(a:Int):∀l:List α,l≠[]->(∀t∈l,a<=f t)->a<=(span (l.map f)).1
 |[],h,_=>absurd rfl h
 |b::r,_,h=>by
  have key:∀(l:List α)(x:Int),(∀t∈l,a<=f t)->a<=x->a<=(l.map f).foldl min x:=by
   intro l;induction l with
   |_=>grind
  simp only[QOk,span];grind
def QxJ{α:Type}(f:α->Int)(a:Int):∀l:List α,l≠[]->(∀t∈l,f t<=a)->(span (l.map f)).2<=a
 |[],h,_=>absurd rfl h
 |b::r,_,h=>by
  have key:∀(l:List α)(x:Int),(∀t∈l,f t<=a)->x<=a->(l.map f).foldl max x<=a:=by
   intro l;induction l with
   |_=>grind
  simp only[QOk,span];grind
instance (k:Int) (b:Bool):Decidable (Qs8 k b):=by unfold Qs8;infer_instance
include hK
omit hK
def QNT:=F0 "J<1zVQDKcTfbt8u=Pp>A7TjJ5T[[sWHq3TBKc08TMVy]4Rjg[vV1vsyKtNtCe^XR<QxNmUwZAYdDRcPGN8CBQ>4u=f3" ⟨_,by conv=>lhs;reduce⟩
def QNS:=F0 "zyDSB4N^?dAtwy_zl;kiyGl^WF=K9]yX3JsZn9X4zQMjR;FuD[zoLi?pb[q<Y:VV]j^Tq<WeS0j7<rXC?[w30yAZZl3" ⟨_,by conv=>lhs;reduce⟩
def QNR:=F0 "F_lLvny^<sHQ;gw0oCR^]e>:jjyF4f2LzRGP<Na:GPUTHwoxLF3nInVUPQv[Xc<TcUuYwj1a;8J8SLAEYi:Z?<Aav^Qvgf29" ⟨_,by conv=>lhs;reduce⟩
def QNL:=F0 "[=2kBFf4jG=db5E9h5Ip2PZSgxBot6=>ZeCqLaB3v1]TY[wf>mfi?qYS[7j1>gX7JFTf6In2s7s?VK4DEQG:TUciEpmnM:sCE<nd2E9t83" ⟨_,by conv=>lhs;reduce⟩
def QNV:=F0 "1v6inQdQnsrxJmHT]Jux57K5CZG0ANn^lmQiNB3:k[j5EF:V2BpEqV3sAwQUcoEgX5K_1UPC2W=_V[zsmE8QYYpSVBl7s3EvcJxxZFJv<3" ⟨_,by conv=>lhs;reduce⟩
def QNU:=F0 "Zfs:rfLtdhGZuF^gLBk<akEx6PQthEtyUP1riB20V4s:Xd8VHujM:5xa=m4<aba>egYWpD0BotZ21i^3]7hmI1CH<KiSewgLe8?019qTDg" ⟨_,by conv=>lhs;reduce⟩
def QJq:=fk func23 QNL (by kernel_rfl)
@[simp] theorem QEZ{α:Type}(lod:Nat->Option AO)(ids:List Nat)(f:α->List IV)(l:List α):List.map (Qpa lod ids∘List.map AV.iv∘f) l=List.map (List.map AV.iv∘f) l:=QO6 λa _=>QiG lod ids (f a)
include hK
@[simp] def prA(p:Qf)(ds ss bs ts:AV):List AV:=[ds,ss,.iv (.int .i64 p.zc.zh),.iv (Qs p.zb.zd),.iv (.int .i64 p.zb.zr),.iv (.int .i64 p.zb.zu),.iv (.int .i64 p.zb.zw),bs,.iv (.int .i64 p.zb.zh),ts,.iv (.int .i64 p.zo),.iv (.int .i64 p.z6)]
omit hK
@[simp] theorem QHN(L:List (List IV))(a b c d e:IV):emb L++[[.iv a,.iv b,.iv c,.iv d,.iv e]]=emb (L++[[a,b,c,d,e]]):=by simp[emb]
def U7{p:Qf}(hp:OkP p):kL p true=QN p:=by unfold kL;grind
def Qog(m:Machine)(l:List Qn)(mn load:Int):0<=qg m l mn load/\(qg m l mn load<=9999->ZK m l (qg m l mn load) mn load):=by
 classical
 unfold qg;refine⟨by omega,λh=>?_⟩
 have:=List.findIdx_getElem (p:=λ(n:Nat)=>decide (ZK m l n mn load)) (xs:=List.range 10000) (w:=by grind)
 simpa using this
include hK
omit hK
def chD(x fin:Int)(d:QB):QB:=if d.zp=1 then⟨d.zp,d.pos,fin,(d.bar+x).tmod 100,(d.z1+x).tmod 100⟩ else if d.zp=2 then⟨d.zp,d.pos,fin,d.bar,d.z1⟩ else d
def Qfc:∀l:List Int,l≠[]->(span l).1∈l/\(span l).2∈l
 |[],h=>absurd rfl h
 |a::r,_=>by
  have key:∀(r:List Int)(x u:Int),(r.foldl min x=x\/r.foldl min x∈r)/\(r.foldl max u=u\/r.foldl max u∈r):=by
   intro r;induction r with
   |cons b r ih=>
    intro x u;have⟨h1,h2⟩:=ih (min x b) (max u b);simp only[QOP,QN7];refine⟨?_,?_⟩
    .rcases h1 with h1|h1
     .rw[h1];omega
     grind
    rcases h2 with h2|h2
    .rw[h2];omega
    grind
   |_=>grind
  have⟨h1,h2⟩:=key r a a;simp only[span,QN7];exact⟨h1,h2⟩
include hK
omit hK
structure Rod where
 long:Int
 z7:Int
 grow:Int
 deriving DecidableEq
structure QY where
 yg:Int
 rod:Int
 count:Int
 rest:Int
 off:Int
 yh:Int
 yi:Int
 deriving DecidableEq
structure Za where
 yc:Int
 z8:Int
 z9:Int
 zi:List Rod
 zj:List QY
 zh:Int
 deriving DecidableEq
@[simp] def roC(r:Rod):List IV:=[.int .i64 r.long,.int .i64 r.z7,.int .i64 r.grow]
@[simp] def reC(x:QY):List IV:=[.int .i64 x.yg,.int .i64 x.rod,.int .i64 x.count,.int .i64 x.rest,.int .i64 x.off,.int .i64 x.yh,.int .i64 x.yi]
@[simp] def Qaa(l:List Rod):IV:=.sl 3 (l.map roC)
@[simp] def Jz(l:List QY):IV:=.sl 7 (l.map reC)
@[simp] def puC(p:Za):List IV:=[.int .i64 p.yc,.int .i64 p.z8,.int .i64 p.z9,Qaa p.zi,Jz p.zj,.int .i64 p.zh]
@[simp] def puV(p:Za):IV:=.agg (puC p)
def V3(r:Rod):Prop:=inR r.long 1 9999/\inR r.z7 0 (min 9 (r.long-1))/\inR r.grow 0 50
instance (r:Rod):Decidable (V3 r):=by unfold V3;infer_instance
def X7(n:Nat)(x:QY):Prop:=(x.yg=1\/x.yg=2)/\inR x.rod 0 ((n:Int)-1)/\inR x.count 0 99/\inR x.rest 0 9999/\inR x.off 0 99/\inR x.yh (-50) x.yi/\x.yi<=50
instance (n:Nat) (x:QY):Decidable (X7 n x):=by unfold X7;infer_instance
structure OkU(p:Za):Prop where
 yc:inR p.yc 0 50
 guess:inR p.z8 1 p.z9
 most:p.z9<=99999
 zh:inR p.zh 0 8
 rlen:p.zi.length<=4
 xlen:p.zj.length<=8
 zi:∀r∈p.zi,V3 r
 zj:∀x∈p.zj,X7 p.zi.length x
def okU(p:Za):Bool:=decide (inR p.yc 0 50)&&decide (inR p.z8 1 p.z9)&&decide (p.z9<=99999)&&decide (inR p.zh 0 8)&&decide (p.zi.length<=4)&&decide (p.zj.length<=8)&&decide (∀r∈p.zi,V3 r)&&decide (∀x∈p.zj,X7 p.zi.length x)
def Qx2(p:Za):okU p=true↔OkU p:=by simp only[okU,QNZ,decide_eq_true_eq];exact⟨λ⟨⟨⟨⟨⟨⟨⟨h1,h2⟩,h3⟩,h4⟩,h5⟩,h6⟩,h7⟩,h8⟩=>⟨h1,h2,h3,h4,h5,h6,h7,h8⟩,λ⟨h1,h2,h3,h4,h5,h6,h7,h8⟩=>⟨⟨⟨⟨⟨⟨⟨h1,h2⟩,h3⟩,h4⟩,h5⟩,h6⟩,h7⟩,h8⟩⟩
instance (p:Za):Decidable (OkU p):=decidable_of_iff _ (Qx2 p)
def Uo(p:Za)(x:QY):Int:=(p.zi.getD x.rod.toNat ⟨0,0,0⟩).grow
def Qxc(p:Za)(x:QY)(len rl t:Int):Int:=len*(1000000+p.yc*t)-(x.count*rl+x.rest)*(1000000+Uo p x*t)
def Qqk(p:Za)(x:QY)(len rl t:Int):Bool:=decide (Qxc p x len rl t<=x.off*1000000 /\ -Qxc p x len rl t<=x.off*1000000)
def Qe3(x:QY):Nat:=(x.yi-x.yh+1).toNat
def Ud(p:Za)(x:QY)(len rl:Int):Bool:=(List.range (Qe3 x)).any λ(i:Nat)=>Qqk p x len rl (x.yh+i)
def V2(a b:Int):List Int:=(List.range (b-a+1).toNat).map λ(i:Nat)=>a+i
def J9{a b x:Int}:x∈V2 a b↔a<=x/\x<=b:=by
 simp only[V2,QOb,QOr];constructor
 .omega
 intro h;exact⟨(x-a).toNat,by omega,by omega⟩
def WE(a b:Int):(V2 a b).Pairwise (·<·):=by unfold V2;rw[List.pairwise_map];exact List.pairwise_lt_range.imp λh=>by omega
def Z1:List Rod->List (List Int)
 |[]=>[[]]
 |r::rs=>(V2 (r.long-r.z7) r.long).flatMap λn=>(Z1 rs).map (n::·)
theorem QgB:∀(l:List Rod)(w:List Int),w∈Z1 l->w.length=l.length
 |[],w,h=>by simp[Z1] at h;simp[h]
 |r::rs,w,h=>by simp only[Z1,QOK,QOb] at h;obtain⟨n,_,v,hv,rfl⟩:=h;simp[QgB rs v hv]
theorem QeY:∀(l:List Rod)(w:List Int),w∈Z1 l->∀(i:Nat)(h:i<l.length),l[i].long-l[i].z7<=w.getD i 0/\w.getD i 0<=l[i].long
 |[],w,h,i,hi=>by simp at hi
 |r::rs,w,h,i,hi=>by
  simp only[Z1,QOK,QOb] at h;obtain⟨n,hn,v,hv,rfl⟩:=h;cases i with
  |zero=>simpa using J9.1 hn
  |succ i=>have:=QeY rs v hv i (by simpa using hi);simpa using this
def Qgm(p:Za)(wh:Int)(w:List Int)(len:Int)(x:QY):Bool:=decide (x.yg=wh)&&!Ud p x len (w.getD x.rod.toNat 0)
def wrU(p:Za)(wh:Int)(w:List Int)(len:Int):Nat:=p.zj.countP (Qgm p wh w len)
def XH(p:Za):List Int:=V2 p.z8 p.z9
structure TrU where
 ya:Int
 yb:Int
 zi:List Int
def YH(p:Za)(t:TrU):Nat:=wrU p 1 t.zi t.ya+wrU p 2 t.zi t.yb
def Ql1(p:Za):List TrU:=(XH p).flatMap λb=>(XH p).flatMap λa=>(Z1 p.zi).map λw=>⟨b,a,w⟩
def YQ(p:Za):List TrU:=(Ql1 p).filter λt=>decide ((YH p t:Int)<=p.zh)
def Qex(p:Za)(wh:Int)(w:List Int)(n:Nat):List Int:=(XH p).filter λlen=>wrU p wh w len==n
def Qbm(p:Za)(wh:Int)(w:List Int):List Nat:=(List.range (p.zj.length+1)).filter λn=>!(Qex p wh w n).isEmpty
structure Grp where
 zh:Nat
 lens:List Int
def Un(p:Za)(wh:Int)(w:List Int):List Grp:=(Qbm p wh w).map λn=>⟨n,Qex p wh w n⟩
structure Bun where
 zi:List Int
 ya:Grp
 yb:Grp
def QdN(p:Za):List Bun:=(Z1 p.zi).flatMap λw=>(Un p 1 w).flatMap λg=>(Un p 2 w).map λh=>⟨w,g,h⟩
def VT(p:Za):List Bun:=(QdN p).filter λx=>decide (((x.ya.zh+x.yb.zh:Nat):Int)<=p.zh)
def Qfv{p:Za}{t:TrU}:t∈YQ p↔t.ya∈XH p/\t.yb∈XH p/\t.zi∈Z1 p.zi/\(YH p t:Int)<=p.zh:=by simp only[YQ,Ql1,QOx,QOK,QOb,decide_eq_true_eq];grind
def Qgy(p:Za)(wh:Int)(w:List Int)(len:Int):wrU p wh w len<=p.zj.length:=QOw
def Yp{p:Za}{wh:Int}{w:List Int}{n:Nat}{len:Int}:len∈Qex p wh w n↔len∈XH p/\wrU p wh w len=n:=by simp[Qex,QOx]
def YA{p:Za}{wh:Int}{w:List Int}{g:Grp}:g∈Un p wh w↔g.lens=Qex p wh w g.zh/\g.lens≠[]:=by
 simp only[Un,Qbm,QOb,QOx,QOr];constructor
 .grind
 rintro⟨h1,h2⟩;refine⟨g.zh,⟨?_,?_⟩,by rw[<- h1]⟩
 .obtain⟨x,hx⟩:=QO1 _ h2;rw[h1] at hx;have:=Qgy p wh w x;have:=(Yp.1 hx).2;omega
 grind
def qb{p:Za}{x:Bun}:x∈VT p↔x.zi∈Z1 p.zi/\x.ya∈Un p 1 x.zi/\x.yb∈Un p 2 x.zi/\((x.ya.zh+x.yb.zh:Nat):Int)<=p.zh:=by simp only[VT,QdN,QOx,QOK,QOb,decide_eq_true_eq];grind
def Ve{p:Za}{t:TrU}(h:t∈YQ p):∃x∈VT p,x.zi=t.zi/\t.ya∈x.ya.lens/\t.yb∈x.yb.lens:=by
 have⟨hb,ha,hw,hn⟩:=Qfv.1 h;have h1:t.ya∈Qex p 1 t.zi (wrU p 1 t.zi t.ya):=Yp.2 ⟨hb,rfl⟩;have h2:t.yb∈Qex p 2 t.zi (wrU p 2 t.zi t.yb):=Yp.2 ⟨ha,rfl⟩
 exact⟨⟨t.zi,⟨_,Qex p 1 t.zi (wrU p 1 t.zi t.ya)⟩,⟨_,Qex p 2 t.zi (wrU p 2 t.zi t.yb)⟩⟩,qb.2 ⟨hw,YA.2 ⟨rfl,List.ne_nil_of_mem h1⟩,YA.2 ⟨rfl,List.ne_nil_of_mem h2⟩,hn⟩,rfl,h1,h2⟩
def Y1{p:Za}{x:Bun}(h:x∈VT p){b a:Int}(hb:b∈x.ya.lens)(ha:a∈x.yb.lens):⟨b,a,x.zi⟩∈YQ p:=by have⟨hw,hg,hh,hn⟩:=qb.1 h;have h1:=(YA.1 hg).1;have h2:=(YA.1 hh).1;rw[h1] at hb;rw[h2] at ha;have⟨hb1,hb2⟩:=Yp.1 hb;have⟨ha1,ha2⟩:=Yp.1 ha;refine Qfv.2 ⟨hb1,ha1,hw,?_⟩;simp only[YH,hb2,ha2];exact hn
def Z5{p:Za}{x:Bun}(h:x∈VT p):x.ya.lens.Pairwise (·<·)/\x.yb.lens.Pairwise (·<·)/\x.ya.lens≠[]/\x.yb.lens≠[]:=by
 have⟨_,hg,hh,_⟩:=qb.1 h;have h1:=YA.1 hg;have h2:=YA.1 hh;refine⟨?_,?_,h1.2,h2.2⟩
 .rw[h1.1];exact(WE _ _).filter _
 rw[h2.1];exact(WE _ _).filter _
def Qbz{p:Za}:VT p=[]↔YQ p=[]:=by
 constructor
 .intro h;refine List.eq_nil_iff_forall_not_mem.2 λt ht=>?_;have⟨x,hx,_⟩:=Ve ht;grind
 .intro h;refine List.eq_nil_iff_forall_not_mem.2 λx hx=>?_;have⟨_,_,h1,h2⟩:=Z5 hx;have⟨b,hb⟩:=QO1 _ h1;have⟨a,ha⟩:=QO1 _ h2;have:=Y1 hx hb ha;grind
def Qwe{l:List Int}(h:l.Pairwise (·<·))(hne:l≠[]):l.head hne∈l/\l.getLast hne∈l/\∀x∈l,l.head hne<=x/\x<=l.getLast hne:=by
 refine⟨List.head_mem hne,List.getLast_mem hne,λx hx=>⟨?_,?_⟩⟩
 .cases l with
  |nil=>cases hx
  |cons a r=>
   rcases QN7.1 hx with rfl|hx
   .grind
   exact Int.le_of_lt (List.rel_of_pairwise_cons h hx)
 .obtain⟨i,hi,rfl⟩:=QON hx;rw[List.getLast_eq_getElem];rcases Nat.lt_or_eq_of_le (Nat.le_sub_one_of_lt hi) with h1|h1
  .exact Int.le_of_lt (QPl.1 h i _ hi (by omega) h1)
  grind
def Xw(l:List Int):Int:=l.headD 0
def Xk(l:List Int):Int:=l.getLastD 0
def Xs{l:List Int}(h:l.Pairwise (·<·))(hne:l≠[]):Xw l∈l/\Xk l∈l/\∀x∈l,Xw l<=x/\x<=Xk l:=by
 have:=Qwe h hne
 have e1:Xw l=l.head hne:=by cases l with
  |cons a r=>rfl
  |_=>grind
 have e2:Xk l=l.getLast hne:=by cases l with
  |cons a r=>unfold Xk;grind
  |_=>grind
 grind
def QxL{l:List Int}{a b:Int}(hne:l≠[])(ha:a∈l)(hb:b∈l)(h:∀x∈l,a<=x/\x<=b):span l=(a,b):=by have h1:=UE (λx:Int=>x) l a ha;have h2:=UE (λx:Int=>x) l b hb;have h3:=QxK (λx:Int=>x) a l hne (λx hx=>(h x hx).1);have h4:=QxJ (λx:Int=>x) b l hne (λx hx=>(h x hx).2);simp only[List.map_id'] at h1 h2 h3 h4;grind
def YY(t:TrU):Int:=t.yb-t.ya
def loB(x:Bun):Int:=Xw x.yb.lens-Xk x.ya.lens
def hiB(x:Bun):Int:=Xk x.yb.lens-Xw x.ya.lens
def Qe9(p:Za):Int×Int:=((span ((VT p).map loB)).1,(span ((VT p).map hiB)).2)
def Qb4(p:Za):Qe9 p=span ((YQ p).map YY):=by
 by_cases hn:YQ p=[]
 .have:=Qbz.2 hn;simp[Qe9,hn,this]
 .have hb:VT p≠[]:=λh=>hn (Qbz.1 h);have xc:(VT p).map loB≠[]:=by simpa using hb
  have hhi:(VT p).map hiB≠[]:=by simpa using hb
  have h1:=(Qfc _ xc).1;have h2:=(Qfc _ hhi).2;symm;have⟨x,hx,ex⟩:=QOb.1 h1;have⟨y,hy,ey⟩:=QOb.1 h2;have⟨s1,s2,s3,s4⟩:=Z5 hx;have⟨s5,s6,s7,s8⟩:=Z5 hy;refine QxL (by simpa using hn) ?_ ?_ ?_
  .refine QOb.2 ⟨_,Y1 hx (Xs s1 s3).2.1 (Xs s2 s4).1,?_⟩;rw[<- ex];rfl
  .refine QOb.2 ⟨_,Y1 hy (Xs s5 s7).1 (Xs s6 s8).2.1,?_⟩;rw[<- ey];rfl
  .intro z hz;obtain⟨t,ht,rfl⟩:=QOb.1 hz;have⟨u,hu,_,hub,hua⟩:=Ve ht;have⟨u1,u2,u3,u4⟩:=Z5 hu;have e1:=(Xs u1 u3).2.2 _ hub;have e2:=(Xs u2 u4).2.2 _ hua;have f1:=(UE loB _ _ hu).1;have f2:=(UE hiB _ _ hu).2;simp only[loB,hiB,YY] at *;omega
def Xr(b a part:Int):Bool:=decide (1000*(a-b)<=part*b)
def Qew{b a b' a' part:Int}(hp:0<=part)(hb:b<=b')(ha:a'<=a)(h:Xr b a part=true):Xr b' a' part=true:=by simp only[Xr,decide_eq_true_eq] at *;have:part*b<=part*b':=QOX hb hp;omega
def Qev(p:Za)(part:Int):Int:=if(VT p).all λx=>Xr (Xw x.ya.lens) (Xk x.yb.lens) part then 1 else if(VT p).any λx=>Xr (Xk x.ya.lens) (Xw x.yb.lens) part then 3 else 2
def Qqj(p:Za)(part:Int)(hp:0<=part):Qev p part=if(YQ p).all λt=>Xr t.ya t.yb part then 1 else if(YQ p).any λt=>Xr t.ya t.yb part then 3 else 2:=by
 have e1:((VT p).all λx=>Xr (Xw x.ya.lens) (Xk x.yb.lens) part)=((YQ p).all λt=>Xr t.ya t.yb part):=by
  rw[QPR];simp only[QOt];constructor
  .intro h t ht;have⟨u,hu,_,hub,hua⟩:=Ve ht;have⟨u1,u2,u3,u4⟩:=Z5 hu;exact Qew hp ((Xs u1 u3).2.2 _ hub).1 ((Xs u2 u4).2.2 _ hua).2 (h u hu)
  intro h x hx;have⟨u1,u2,u3,u4⟩:=Z5 hx;exact h _ (Y1 hx (Xs u1 u3).1 (Xs u2 u4).2.1)
 have e2:((VT p).any λx=>Xr (Xk x.ya.lens) (Xw x.yb.lens) part)=((YQ p).any λt=>Xr t.ya t.yb part):=by
  rw[QPR];simp only[QOO];constructor
  .rintro⟨x,hx,h⟩;have⟨u1,u2,u3,u4⟩:=Z5 hx;exact⟨_,Y1 hx (Xs u1 u3).2.1 (Xs u2 u4).1,h⟩
  rintro⟨t,ht,h⟩;have⟨u,hu,_,hub,hua⟩:=Ve ht;have⟨u1,u2,u3,u4⟩:=Z5 hu;exact⟨u,hu,Qew hp ((Xs u1 u3).2.2 _ hub).2 ((Xs u2 u4).2.2 _ hua).1 h⟩
 unfold Qev;rw[e1,e2]
def QNO(p:Za):Option Nat:=(List.range 1001).find? λ(i:Nat)=>decide (Qev p i=1)
def QxT(p:Za)(rod:Nat):List Int:=Jv ((VT p).map λx=>x.zi.getD rod 0)
def QpR{p:Za}{rod:Nat}{n:Int}:n∈QxT p rod↔∃t∈YQ p,t.zi.getD rod 0=n:=by
 unfold QxT;rw[J4,QOb];constructor
 .rintro⟨x,hx,e⟩;have⟨_,_,h1,h2⟩:=Z5 hx;have⟨b,hb⟩:=QO1 _ h1;have⟨a,ha⟩:=QO1 _ h2;exact⟨_,Y1 hx hb ha,e⟩
 rintro⟨t,ht,e⟩;have⟨x,hx,h1,_⟩:=Ve ht;grind
end Go.Pf
namespace Go.Pf
open Go
abbrev Txt:=List UInt8
def Qgu(w:Txt):Option Int:=
 if w.head?=some 45 then
  (if(w.drop 1).length<=9/\(w.drop 1).head?≠some 48 then(Lib.decNat (w.drop 1)).map λ(m:Nat)=>-(m:Int) else none)
 else if w.length<=9/\(w.head?=some 48->w.length<=1) then(Lib.decNat w).map λ(m:Nat)=>(m:Int) else none
def Qid(u:Nat):Lib.decDigits u≠[]:=by rw[Lib.decDigits];split<;>simp
theorem WI:∀(l:Txt)(acc m:Nat)(c:UInt8),Lib.decFrom acc l=some m->Lib.decFrom acc (l++[c])=(Lib.digitVal c).map λd=>m*10+d
 |[],acc,m,c,h=>by cases h;simp only[QOg,Lib.decFrom];grind
 |b::r,acc,m,c,h=>by
  simp only[QOa,Lib.decFrom] at h |-;cases hb:Lib.digitVal b with
  |some d=>rw[hb] at h;exact WI r _ m c h
  |_=>grind
def Qdb{d:Nat}(h:d<10):Lib.digitVal (UInt8.ofNat (48+d))=some d:=by
 have:(UInt8.ofNat (48+d)).toNat=48+d:=by simp;omega
 unfold Lib.digitVal;grind
def QdM(u:Nat):Lib.decFrom 0 (Lib.decDigits u)=some u:=by
 induction u using Nat.strongRecOn with
 |ind u ih=>
  rw[Lib.decDigits];split
  .rename_i h;have:=Qdb h;simp only[Lib.decFrom,this];simp
  rename_i h;rw[WI _ _ _ _ (ih (u / 10) (by omega)),Qdb (by omega)];simp;omega
def qA(u:Nat):Lib.decNat (Lib.decDigits u)=some u:=by unfold Lib.decNat;rw[if_neg (by simpa[List.isEmpty_iff] using Qid u),QdM]
def WA(u:Nat):∃d,d<10/\(Lib.decDigits u).head?=some (UInt8.ofNat (48+d))/\(d=0->u=0):=by
 induction u using Nat.strongRecOn with
 |ind u ih=>
  rw[Lib.decDigits];split
  .rename_i h;exact⟨u,h,by simp,id⟩
  rename_i h;obtain⟨d,h1,h2,h3⟩:=ih (u / 10) (by omega);grind
def QtO{d:Nat}(h:d<10):UInt8.ofNat (48+d)≠45:=by intro e;have:=congrArg UInt8.toNat e;simp at this;omega
def Qei{d:Nat}(h:d<10)(e:UInt8.ofNat (48+d)=48):d=0:=by have:=congrArg UInt8.toNat e;simp at this;omega
theorem QaA:∀(n:Nat)(l:Txt),l.length=n->∀u,Lib.decNat l=some u->(l.head?=some 48->l.length<=1)->Lib.decDigits u=l
 |0,l,hl,u,h,_=>by have:=QN4 hl;subst this;cases h
 |n+1,l,hl,u,h,hz=>by
  have hne:l≠[]:=λe=>by grind
  obtain⟨r,c,rfl⟩:∃r c,l=r++[c]:=⟨l.dropLast,l.getLast hne,(QPh hne).symm⟩;have hr:r.length=n:=by simpa using hl
  have h':Lib.decFrom 0 (r++[c])=some u:=by unfold Lib.decNat at h;grind
  have hdv:∀d,Lib.digitVal c=some d->d<10/\c=UInt8.ofNat (48+d):=λd hd=>by
   unfold Lib.digitVal at hd;split at hd
   .rename_i hc;injection hd with hd;refine⟨by omega,UInt8.toNat_inj.1 ?_⟩;simp;omega
   cases hd
  cases hm:Lib.decFrom 0 r with
  |none=>
   exfalso;have:∀(l:Txt)(acc:Nat),Lib.decFrom acc l=none->Lib.decFrom acc (l++[c])=none:=by
    intro l;induction l with
    |nil=>intro acc h;cases h
    |cons b t ih=>
     intro acc h;simp only[QOa,Lib.decFrom] at h |-
     grind
   grind
  |some m=>
   rw[WI r 0 m c hm,QN2] at h';obtain⟨d,hd,rfl⟩:=h';obtain⟨hd10,rfl⟩:=hdv d hd;by_cases hr0:r=[]
   .subst hr0;cases hm;rw[Lib.decDigits];simp[hd10]
   .have hpos:0<r.length:=QO7.2 hr0;have hhead:r.head?≠some 48:=λe=>by
     grind
    have hm':Lib.decNat r=some m:=by unfold Lib.decNat;grind
    have ih:=QaA n r hr m hm' (λe=>absurd e hhead);have hm0:m≠0:=λe=>by
     subst e;have e1:Lib.decDigits 0=[48]:=by rw[Lib.decDigits];rfl
     grind
    rw[Lib.decDigits,dif_neg (by omega)]
    grind
def QpL{w:Txt}{v:Int}(h:Qgu w=some v):Lib.itoa v=w/\(Lib.trimPrefix w [45]).length<=9/\Lib.atoiAll w=.ok v:=by
 unfold Qgu at h;split at h
 .rename_i h45;obtain⟨r,rfl⟩:∃r,w=45::r:=by
   cases w with
   |_=>grind
  simp only[List.drop_succ_cons,List.drop_zero] at h;split at h
  .rename_i hc;rw[QN2] at h;obtain⟨m,hm,rfl⟩:=h;have hd:=QaA _ r rfl m hm (λe=>absurd e hc.2);have hm1:1<=m:=by
    rcases QPI m with h0|h0
    .subst h0;exfalso;have e1:Lib.decDigits 0=[48]:=by rw[Lib.decDigits];rfl
     grind
    exact h0
   refine⟨by rw[Lib.itoa_neg m hm1,hd],by simp[Lib.trimPrefix,Lib.hasPrefix,hc.1],?_⟩;rw[Lib.atoiAll_short _ (by simp;omega)]
   simp[Lib.atoi,hm,Lib.NumEnd.ofOption]
  cases h
 .rename_i h45;split at h
  .rename_i hc;rw[QN2] at h;obtain⟨m,hm,rfl⟩:=h;have hd:=QaA _ w rfl m hm hc.2;have⟨d,hd10,hh,_⟩:=WA m;rw[hd] at hh;refine⟨by rw[Lib.itoa_nonneg,hd],?_,?_⟩
   .have:Lib.hasPrefix w [45]=false:=by
     cases w with
     |nil=>rfl
     |cons a r=>have:a≠45:=λe=>h45 (by rw[e];rfl);simp[Lib.hasPrefix,List.isPrefixOf,Ne.symm this]
    simp[Lib.trimPrefix,this,hc.1]
   rw[Lib.atoiAll_short _ (by omega)]
   cases w with
   |nil=>cases hm
   |cons a r=>
    have e45:a≠45:=λe=>h45 (by rw[e];rfl);have e43:a≠43:=λe=>by subst e;simp at hh;have:=congrArg UInt8.toNat hh;simp at this;omega
    simp[Lib.atoi,e45,e43,hm,Lib.NumEnd.ofOption]
  .cases h
def Qqa{w:Txt}{v:Int}(h1:Lib.itoa v=w)(h2:(Lib.trimPrefix w [45]).length<=9):Qgu w=some v:=by
 unfold Lib.itoa at h1;split at h1
 .rename_i hv;subst h1;have⟨d,hd10,hh,h0⟩:=WA v.natAbs;have hz:(Lib.decDigits v.natAbs).head?≠some 48:=λe=>by
   rw[hh] at e;injection e with e;have:=h0 (Qei hd10 e);omega
  have hl:(Lib.decDigits v.natAbs).length<=9:=by simpa[Lib.trimPrefix,Lib.hasPrefix] using h2
  simp[Qgu,hz,hl,qA];omega
 rename_i hv;subst h1;have⟨d,hd10,hh,h0⟩:=WA v.toNat;have h45:(Lib.decDigits v.toNat).head?≠some 45:=λe=>by rw[hh] at e;injection e with e;exact QtO hd10 e
 have hp:Lib.hasPrefix (Lib.decDigits v.toNat) [45]=false:=by
  cases hw:Lib.decDigits v.toNat with
  |nil=>rfl
  |cons a r=>have:a≠45:=λe=>h45 (by rw[hw,e];rfl);simp[Lib.hasPrefix,List.isPrefixOf,Ne.symm this]
 have hl:(Lib.decDigits v.toNat).length<=9:=by simpa[Lib.trimPrefix,hp] using h2
 have h48:(Lib.decDigits v.toNat).head?=some 48->(Lib.decDigits v.toNat).length<=1:=λe=>by rw[hh] at e;injection e with e;have:=h0 (Qei hd10 e);rw[this,Lib.decDigits];simp
 unfold Qgu;rw[if_neg h45,if_pos ⟨hl,h48⟩,qA];simp;omega
end Go.Pf
namespace Go.Pf
open Go Go.Ev Go.Proofs Go.RowKit Go.Proofs.Tryz
structure Qg where
 ze:Qf
 zq:Za
@[simp] def hoC(h:Qg):List IV:=[Qr h.ze.zc.za,Qj h.ze.zc.zg,.int .i64 h.ze.zc.zh,Qs h.ze.zb.zd,.int .i64 h.ze.zb.zr,.int .i64 h.ze.zb.zu,.int .i64 h.ze.zb.zw,Zk h.ze.zb.zk,.int .i64 h.ze.zb.zh,Q4 h.ze.zf,.int .i64 h.ze.zo,.int .i64 h.ze.z6,.int .i64 h.zq.yc,.int .i64 h.zq.z8,.int .i64 h.zq.z9,Qaa h.zq.zi,Jz h.zq.zj,.int .i64 h.zq.zh]
@[simp] def hoV(h:Qg):IV:=.agg (hoC h)
def okH(h:Qg):Prop:=OkP h.ze/\OkU h.zq
noncomputable instance (h:Qg):Decidable (okH h):=Classical.propDecidable _
def QIu:Txt:=[121,101,115]
def tNo:Txt:=[110,111]
def QnP:Txt:=[110,111,110,101]
def QgG:Txt:=[119,104,97,116]
def QiF:Txt:=[115,117,114,101,108,121]
def Qo9:Txt:=[110,101,118,101,114]
def Qe8:Txt:=[112,101,114,104,97,112,115]
def UZ:List Txt->Txt
 |[]=>[]
 |[x]=>x
 |x::y::r=>x++32::UZ (y::r)
def QtX(l:List Int):Txt:=if l=[] then QnP else UZ (l.map Lib.itoa)
def XX(l:List Int)(e:Int):Txt:=if e=0 then QtX l else if e=3 then QnP else tNo
def qi(n e:Int):Txt:=if e=0 then(if n=1 then QiF else if n=2 then Qo9 else Qe8) else XX [] e
inductive Qdx where
 |weld|cut|turn|prove|undo|see|balance|read
 |who|wher|first|pulls|z5|loads|y6|y5|y7|opn|good|worth|zm|stretch|best|holds|zi
 deriving DecidableEq
def ZE:List (Txt×Nat×Qdx):=[([119,101,108,100],4,.weld),([99,117,116],2,.cut),([116,117,114,110],0,.turn),([112,114,111,118,101],3,.prove),([117,110,100,111],0,.undo),([115,101,101],5,.see),([98,97,108,97,110,99,101],4,.balance),([114,101,97,100],7,.read),([119,104,111],1,.who),([119,104,101,114,101],1,.wher),([102,105,114,115,116],0,.first),([112,117,108,108,115],2,.pulls),([98,114,111,107,101],1,.z5),([108,111,97,100,115],1,.loads),([102,97,105,108,117,114,101,115],0,.y6),([99,111,110,100,101,109,110,101,100],0,.y5),([112,114,111,118,101,100],1,.y7),([111,112,101,110],0,.opn),([103,111,111,100],0,.good),([119,111,114,116,104],0,.worth),([119,101,105,103,104,116],0,.zm),([115,116,114,101,116,99,104],0,.stretch),([98,101,115,116],0,.best),([104,111,108,100,115],1,.holds),([114,111,100,115],1,.zi)]
def V6(w:Txt):Option (Nat×Qdx):=(ZE.find? λp=>p.1==w).map (·.2)
def nI(l:List Int)(i:Nat):Int:=l.getD i 0
def Qk(h:Qg)(d:QB):Qg:={ h with ze:={ h.ze with zc:={ h.ze.zc with za:=h.ze.zc.za++[d] } } }
def VM(h:Qg)(v:Qdx)(l:List Int):Option Qg:=
 match v with
 | .weld=>some (Qk h ⟨1,nI l 0,nI l 1,nI l 2,nI l 3⟩)
 | .cut=>some (Qk h ⟨2,nI l 0,nI l 1,0,0⟩)
 | .turn=>some (Qk h ⟨3,0,0,0,0⟩)
 | .prove=>some { h with ze:={ h.ze with zc:={ h.ze.zc with za:=h.ze.zc.za++[⟨4,0,0,0,0⟩] },zf:=h.ze.zf++[⟨nI l 0,nI l 1,nI l 2⟩] } }
 | .undo=>match h.ze.zc.za.getLast? with
   |none=>none
   |some d=>some { h with ze:={ h.ze with zc:={ h.ze.zc with za:=h.ze.zc.za.dropLast },zf:=if d.zp=4 then h.ze.zf.dropLast else h.ze.zf } }
 | .see=>some { h with ze:={ h.ze with zc:={ h.ze.zc with zg:=h.ze.zc.zg++[⟨nI l 0,nI l 1,nI l 2,nI l 3,nI l 4⟩] } } }
 | .balance=>some { h with ze:={ h.ze with zb:={ h.ze.zb with zk:=h.ze.zb.zk++[⟨nI l 0,nI l 1,nI l 2,nI l 3⟩] } } }
 | .read=>some { h with zq:={ h.zq with zj:=h.zq.zj++[⟨nI l 0,nI l 1,nI l 2,nI l 3,nI l 4,nI l 5,nI l 6⟩] } }
 |_=>none
def Xl:Qdx->Bool
 | .weld| .cut| .turn| .prove| .undo| .see| .balance| .read=>true
 |_=>false
def Zg(out:List Txt)(c:UInt8):List Txt:=if c=32 then out++[[]] else out.set (out.length-1) (out.getD (out.length-1) []++[c])
def spl(s:Txt):List Txt:=s.foldl Zg [[]]
@[simp] def strs(l:List Txt):IV:=.sl 1 (l.map λs=>[.str s])
def QnU(x:List Txt)(l:Txt)(c:UInt8):Zg (x++[l]) c=x++Zg [l] c:=by unfold Zg;grind
def QiI(s:Txt):∀(x:List Txt)(l:Txt),s.foldl Zg (x++[l])=x++s.foldl Zg [l]:=by
 induction s with
 |nil=>intro x l;rfl
 |cons c s ih=>
  intro x l;simp only[QOP];rw[QnU];by_cases h:c=32
  .have e:Zg [l] c=[l]++[[]]:=by simp[Zg,h]
   grind
  have e:Zg [l] c=[l++[c]]:=by simp[Zg,h]
  rw[e,ih]
def Qd3(s:Txt):∀l:Txt,s.foldl Zg [l]≠[]:=by
 induction s with
 |nil=>intro l;simp
 |cons c s ih=>
  intro l;simp only[QOP];by_cases h:c=32
  .have e:Zg [l] c=[l]++[[]]:=by simp[Zg,h]
   rw[e,QiI];simp
  have e:Zg [l] c=[l++[c]]:=by simp[Zg,h]
  grind
def Qpc(a b:Txt):spl (a++32::b)=spl a++spl b:=by
 unfold spl;rw[QOZ];have h:=Qd3 a [];generalize a.foldl Zg [[]]=x at *;obtain⟨y,l,rfl⟩:∃y l,x=y++[l]:=⟨x.dropLast,x.getLast h,(QPh h).symm⟩;simp only[QOP];have e:Zg (y++[l]) 32=(y++[l])++[[]]:=by simp[Zg]
 rw[e,QiI]
def Yn(s:Txt):spl (32::s)=[]::spl s:=by have:=Qpc [] s;simpa[spl] using this
def Qty(s:Txt):∀l:Txt,s.foldl Zg [l]=(l++(spl s).headD [])::(spl s).tail:=by
 induction s with
 |nil=>intro l;simp[spl]
 |cons c s ih=>
  intro l;by_cases h:c=32
  .subst h;rw[Yn,QOP];have e:Zg [l] 32=[l]++[[]]:=by simp[Zg]
   rw[e,QiI];simp[spl]
  have e:∀l,Zg [l] c=[l++[c]]:=λl=>by simp[Zg,h]
  rw[QOP,e,ih]
  have:spl (c::s)=([c]++(spl s).headD [])::(spl s).tail:=by unfold spl;grind
  grind
def UC(c:UInt8)(s:Txt)(h:c≠32):spl (c::s)=(c::(spl s).headD [])::(spl s).tail:=by
 have e:Zg [[]] c=[[c]]:=by simp[Zg,h]
 unfold spl;rw[QOP,e,Qty];rfl
theorem splitK_spl:∀s:Txt,Lib.splitK [32] 0 (Lib.count s [32]) s=spl s
 |[]=>by
  rw[Lib.count_miss (by simp[Lib.index])]
  rfl
 |c::s=>by
  have ih:=splitK_spl s;by_cases h:c=32
  .subst h;have hix:Lib.index ((32:UInt8)::s) [32]=0:=by rw[Lib.index];grind
   rw[Lib.count_cons_eq,Nat.add_comm,Lib.splitK,hix,Yn,<- ih];simp
  rw[Lib.count_cons_ne c 32 s h,UC c s h,<- ih];have hp:([32]:List UInt8).isPrefixOf (c::s)=false:=by grind
  have hix:Lib.index (c::s) [32]=if Lib.index s [32] == -1 then -1 else Lib.index s [32]+1:=by rw[Lib.index,hp];simp
  cases hk:Lib.count s [32] with
  |zero=>simp[Lib.splitK]
  |succ k=>
   have hm:¬Lib.index s [32] = -1:=λe=>by rw[Lib.count_miss e] at hk;cases hk
   have hge:=Lib.index_ge s [32];obtain⟨j,hj⟩:∃j:Nat,Lib.index s [32]=j:=⟨(Lib.index s [32]).toNat,by omega⟩;have h1:¬((j:Int) == -1)=true:=by simp
   have h2:¬((j:Int)+1 == -1)=true:=by simp;omega
   have h3:((j:Int)+1).toNat=j+1:=by omega
   simp only[Lib.splitK,hix,hj,if_neg h1,if_neg h2,h3,QPg];simp
theorem spl_len:∀s:Txt,(spl s).length<=s.length+1
 |[]=>by simp[spl]
 |c::s=>by
  have ih:=spl_len s;by_cases h:c=32
  .subst h;rw[Yn];simp;exact ih
  rw[UC c s h];simp;omega
def QaL(s:Txt):∀x∈spl s,x.length<=s.length:=by
 induction s with
 |nil=>intro x hx;simp[spl] at hx;subst hx;simp
 |cons c s ih=>
  intro x hx;by_cases h:c=32
  .subst h;rw[Yn] at hx;grind
  rw[UC c s h] at hx;rcases QN7.1 hx with rfl|hx
  .cases hs:spl s with
   |_=>grind
  have:=ih x (List.mem_of_mem_tail hx);simp;omega
end Go.Pf
namespace Go.Ev
open Go Go.RowKit
section
variable{P:Program}{K:World->Prop}
def Qeo(ob j i):Qc [(j,ob)] i=if i=j then some ob else none:=by simp[Qc]
def Wa(j){f args xs o q e sz rows mv}(hg:QdU P K f xs q e sz rows mv)(hx:imms (Qc o) 40 args=some xs):Y0 P K f args o [] (ren j q) [(j,ZG e sz rows mv)]:=by
 intro w ok L vs hK hnew hown hlaid hvl hvs
 let a:Act:={ tmps:=vs.toArray,defers:=[] }
 let w0:XS:=⟨w,FrO w (Qc o) L,λ_ h=>h.1,λt=>a.tmps.getD t undef⟩
 have hget:∀t(y9:t<vs.length),a.tmps.getD t undef=vs[t]:=λt y9=>by simp[a,QOL,y9]
 have hrel:Rel ok ⟨vs.length,[]⟩ w0 (look (Js 0 args)) (Qc o) a w L:=by
  refine⟨Zv.refl _ _,⟨[],rfl,QPA,by simp⟩,?_,λt=>?_,hlaid.y8,hlaid.apart,λt _=>rfl⟩
  .simp[a]
  rcases JE args 0 t with h1|⟨z,_,h2,h3⟩
  .rw[h1];exact .iv _ _ (.any _)
  rw[h3];simp only[Nat.sub_zero] at h2;have y9:t<vs.length:=by rw[hvl];exact(QNY.1 h2).1
  rw[hget t y9];exact hvs t z _ h2 (QNX y9)
 have hs:=(Yj hrel (ok1:=ok) (λb hb=>hb.1) (lo':=Qc o) (λ_ _ h=>h) (λid ob b hob hb=>hown b ⟨id,ob,hob,hb⟩) 40).2 args xs hx;refine(hg w ok vs (hK w (Zv.refl _ _)) hnew (by rw[hvl,hs.1]) λk x u hk hu=>?_).mono λx w' ⟨v,l,he,hrep,hq,hb⟩=>⟨v,λ_=>l,he,?_,?_,Below.keep hb λb h=>h.1,by simp⟩
 .have y9:k<args.length:=by rw[<- hs.1];exact(QNY.1 hk).1
  exact hs.2 k args[k] x u (QNX y9) hk (hvs k _ u (QNX y9) hu)
 .refine⟨λid ob hob=>?_,λi k oi oj b hij hi hj=>?_⟩
  .rw[Qeo] at hob;split at hob
   .injection hob with hob;subst hob;cases l<;>simp only[ZG,QK] at hrep |-;have⟨h1,h2,h3,h4,h5⟩:=hrep;refine⟨⟨h1.own,λk hk hf=>h1.free k hk hf.1⟩,h2,h3,h4,λi k c x u hc hx hu=>?_⟩;have hr:=h5 i k c x u hc hx hu;rw[QN6,QN2] at hc;obtain⟨c',_,rfl⟩:=hc;rw[QN6,QN2] at hx;obtain⟨x',_,rfl⟩:=hx;cases hr with
    |iv _ _ r=>exact .iv _ _ (r.mono λb hb _=>⟨⟨hb.1,λid o ho=>hb.2 0 _ (show one (ZG e sz rows mv) 0=some (ZG e sz rows mv) from rfl)⟩,rfl⟩)
   cases hob
  rw[Qeo] at hi hj;grind
 .refine Qfl (λb hb=>⟨hb.1,λid o ho=>hb.2 0 _ (show one (ZG e sz rows mv) 0=some (ZG e sz rows mv) from rfl)⟩) (i:=0) (j:=j) (ob:=ZG e sz rows mv) (by simp[one]) (by simp[Qc]) rfl hq
def qG{C:Env->Qz->Prop}{g:FuncId}{ia ib n et sz mv N e2 sz2 mv2:Nat}{d:Option Nat}{e:Env}{o:Qz}{avs:List AV}{rows rows2:List (List IV)}(mk:List (Option IV))(hl:mk.length<=30)
  (hg:QdU P K g (mk.map λx=>x.getD (.sl sz (rows.take n))) (.yl 0 N) e2 sz2 rows2 mv2)(h1:avs=mk.map λx=>match x with|some y=>AV.iv y|none=>.yl ia n)
  (hid:Qc o ia=some (.arr et sz (rows.map (List.map .iv)) mv))(hib:Qc o ib=none)(hne:ia≠ib)(hmv:mv<=n)(hn:n<=rows.length)
  (h:C (bnd d (.yl ib N) (Qpi (X2 [ia,ib] [] o) e)) (QtQ [ia,ib] (X2 [ia,ib] [] o) o [(1,ZG e2 sz2 rows2 mv2)])):HK P K g [ia,ib] d C e o avs:=by
 have hrn:∀rows:List (List IV),(rows.map (List.map AV.iv)).map (rnL (nth [ia,ib]))=rows.map (List.map AV.iv):=λrows=>Qch _ rows
 refine Qo (args0:=mk.map λx=>match x with|some y=>AV.iv y|none=>.yl 0 n) (o0:=[(0,.arr et sz (rows.map (List.map .iv)) mv)]) (st:=[]) (y:=.yl 1 N) (o1:=[(1,ZG e2 sz2 rows2 mv2)])
  (Wa 1 hg (QfE rfl hmv hn mk 40 (by omega))) ?_ ?_ ?_
 .rw[h1,List.map_map]
  refine QO6 λx _=>?_;cases x<;>simp[rn,nth]
 .refine⟨by simpa using hne,?_,?_,?_,by simp[ZG,Zt]⟩
  .rw[QOt]
   intro z hz;obtain⟨x,_,rfl⟩:=QOb.1 hz;cases x<;>simp[clA]
  .intro p hp;simp only[QOu] at hp;subst hp;refine⟨by simp,?_,?_,rfl⟩
   .simp only[nth,List.getD_cons_zero,rnO,hrn,hid]
   simp only[clO,QOt];intro z hz;obtain⟨x,_,rfl⟩:=QOb.1 hz;exact Qdf _ x
  intro i hi h;simp at hi;rcases(show i=0\/i=1 by omega) with rfl|rfl
  .simp[Qc] at h
  simpa[nth] using hib
 .simpa[rn,nth] using h
end
section
variable{P:Program}{K:World->Prop}
def Qcm{ok w' fr o1 L'}(h:QoR fr ok w' (Qc o1) L')(y9:∀b,fr b->b<w'.heap.size):Rel ok ⟨0,[]⟩ ⟨w',fr,y9,λ_=>undef⟩ (look []) (Qc o1) { tmps:=#[],defers:=[] } w' L':=
 ⟨Zv.refl _ _,⟨[],rfl,QPA,by simp⟩,rfl,λt=>.iv _ _ (.any _),h.y8,h.apart,λt ht=>by simp at ht⟩
def VD(hK:∀w w',K w->Below w.heap.size w w'->K w'){f xs y o1 r}(h:Y0 P K f (xs.map .iv) [] [] y o1)(hi:imm (Qc o1) 40 y=some r):Good P K f xs r:=by
 intro w ok vs hk hnew hl hvs;have hn:∀b,¬QaF (Qc []) (λ_=>.one 0) b:=λb ⟨id,ob,h1,_⟩=>by simp[Qc] at h1
 have hFr:∀b,b<w.heap.size->FrO w (Qc []) (λ_=>.one 0) b:=λb hb=>⟨hb,hn b⟩
 refine(h w ok (λ_=>.one 0) vs (λw' y4=>hK w w' hk (y4.mono hFr).below) hnew (λb hb=>absurd hb (hn b)) ⟨by simp[Qc],by simp[Qc]⟩ (by simpa using hl) (λk x u hx hu=>?_)).mono
  λe w' ⟨v,L',he,hlaid,hrep,y4,_⟩=>⟨v,he,?_,(y4.mono hFr).below⟩
 .rw[QN6,QN2] at hx;obtain⟨z,hz,rfl⟩:=hx;exact .iv _ _ ((hvs k z u hz hu).mono λb hb _=>⟨⟨hb,by simp[Qc]⟩,rfl⟩)
 .have y9:∀b,FrO w (Qc []) (λ_=>.one 0) b->b<w'.heap.size:=λb hb=>QOM hb.1 y4.size;refine(Yj (Qcm hlaid y9) (ok1:=ok) (λb hb=>hb.1) (lo':=Qc o1) (λ_ _ h=>h) (λid ob b hob hb=>?_) 40).1 y v r hrep hi;by_cases hbl:b<w.heap.size
  .exact absurd (hFr b hbl) ((hlaid.y8 id ob hob).lt hb).1
  .exact hnew b (QO9.1 hbl)
def Y0.give{f args o rows st r cs xs}(h:Y0 P K f args o st (.iv r) ((0,.box cs)::rows))(hst0:∀i∈st,i=0)
  (hx:imms (λi=>if i=0 then Option.none else Qc ((0,.box cs)::rows) i) 40 cs=some xs):Y0 P K f args o st (.iv r) [(0,.box (xs.map .iv))]:=by
 intro w ok L vs hK hnew hown hlaid hvl hvs;refine(h w ok L vs hK hnew hown hlaid hvl hvs).mono λe w' ⟨v,L',he,hl',hrep,y4,hst⟩=>⟨v,L',he,?_,?_,y4,?_⟩
 .have h0:Qc ((0,AO.box cs)::rows) 0=some (.box cs):=rfl;have y9:∀b,FrO w (Qc o) L b->b<w'.heap.size:=λb hb=>QOM hb.1 y4.size;have one0:∀i ob,Qc [(0,AO.box (xs.map AV.iv))] i=some ob->i=0/\ob=.box (xs.map .iv):=λi ob hob=>by
   simp only[Qc] at hob;grind
  have hsub:∀b,okL ok (Qc ((0,AO.box cs)::rows)) L' b->okL ok (Qc [(0,AO.box (xs.map AV.iv))]) L' b:=λb hb=>⟨hb.1,λi ob hob=>by obtain⟨rfl,rfl⟩:=one0 i ob hob;exact hb.2 0 _ h0⟩
  have hs:=(Yj (Qcm hl' y9) (ok1:=okL ok (Qc [(0,AO.box (xs.map AV.iv))]) L') hsub (lo':=λi=>if i=0 then Option.none else Qc ((0,.box cs)::rows) i)
   (λid ob hob=>by
     split at hob
     .cases hob
     exact hob)
   (λid ob b hob hb=>by
     split at hob
     .cases hob
     rename_i hid;refine⟨?_,λi oi hi=>?_⟩
     .have hnf:=((hl'.y8 id ob hob).lt hb).1;by_cases hbl:b<w.heap.size
      .exact hown b (Classical.byContradiction λhno=>hnf ⟨hbl,hno⟩)
      exact hnew b (QO9.1 hbl)
     obtain⟨rfl,rfl⟩:=one0 i oi hi;exact λhb0=>hl'.apart 0 id _ ob b (λe=>hid e.symm) h0 hob hb0 hb) 40).2 cs xs hx
  refine⟨λi ob hob=>?_,λi j oi oj b hij hi hj=>?_⟩
  .obtain⟨rfl,rfl⟩:=one0 i ob hob;have hob0:=hl'.y8 0 _ h0;generalize L' 0=l0 at hob0;cases l0 with
   |box b=>have⟨hB,t,us,hb,hul,h1,hcx⟩:=hob0;refine⟨hB,t,us,hb,by rw[QN9,hs.1];exact hul,h1,λk x u hk hu=>?_⟩;grind
   |_=>exact hob0.elim
  grind
 .cases hrep with
  |iv _ _ hr=>exact .iv _ _ (hr.mono λb hb _=>⟨⟨hb.1,λi ob hob=>by
   simp only[Qc] at hob;split at hob
   .rename_i hi;subst hi;exact hb.2 0 _ (show Qc ((0,AO.box cs)::rows) 0=some (.box cs) from rfl)
   cases hob⟩,rfl⟩)
 intro i hi ob hob;have hi0:=hst0 i hi;subst hi0;have⟨ob',h1,h2⟩:=hst 0 hi ob hob;have:ob'=.box cs:=by have h0:Qc ((0,AO.box cs)::rows) 0=some (.box cs):=rfl;rw[h0] at h1;injection h1 with h1;exact h1.symm
 subst this;refine⟨_,rfl,?_⟩;cases ob<;>simp only[VR] at h2 |-
 grind
end
end Go.Ev
namespace Go.Pf
open Go Go.Ev Go.Proofs Go.RowKit Go.Proofs.Tryz
structure KW(w:World):Prop where
 shaped:w.ShapedOpen prog
 tab: Lib.TabIs prog w "internal/strconv.uint64pow10" .u64 Lib.pow10Tab
 syn: ∃tp p, w.var? prog "strconv.ErrSyntax" = some #[.iface tp p]
 rng: ∃tp p, w.var? prog "strconv.ErrRange" = some #[.iface tp p]
def QAD{n:String}{cs:Array Value}{w:World}(h:w.var? prog n=some cs):∃g,prog.globalNamed n=some g/\g<w.heap.size:=by
 unfold World.var? at h;cases hg:prog.globalNamed n with
 |_=>grind
def Qe4{n:String}{cs:Array Value}{w w':World}(h:w.var? prog n=some cs)(hb:Below w.heap.size w w'):w'.var? prog n=some cs:=by have⟨g,hg,y9⟩:=QAD h;exact var?_below hb hg y9 h
def hKW:∀w w',KW w->Below w.heap.size w w'->KW w':=λw w' ⟨h1,h2,⟨t1,p1,h3⟩,t2,p2,h4⟩ hb=>⟨World.ShapedOpen.keptBut h1 (hb.frame (λ_=>False)) (λ_ c=>c.elim),Qe4 h2 hb,⟨t1,p1,Qe4 h3 hb⟩,t2,p2,Qe4 h4 hb⟩
def QAn(s:Txt)(hs:s.length<=1000):Gd KW 139 [.str s,.str [32]] (strs (spl s)):=by
 intro w ok vs hk hok hl hx;obtain⟨v0,v1,rfl⟩:∃v0 v1,vs=[v0,v1]:=by
  match vs,hl with
  |[a,b],_=>grind
 have r0:=hx 0 _ v0 rfl rfl;have r1:=hx 1 _ v1 rfl rfl;cases r0;cases r1;have:=Any.strings_Split_shaped Tryz.laysM146 ⟨s.toArray⟩ ⟨[32].toArray⟩ w hk.shaped (by simp[ByteArray.size];omega) (by simp[ByteArray.size]);refine this.mono λe w' ⟨he,hw⟩=>?_;subst he hw;have hb:=QF w (.cells ((Lib.splitB ⟨[32].toArray⟩ 0 (Lib.countB ⟨s.toArray⟩ ⟨[32].toArray⟩) ⟨s.toArray⟩).map Value.string).toArray (Tryz.laysM146_ren.t 9));have hd:(Lib.splitB ⟨[32].toArray⟩ 0 (Lib.countB ⟨s.toArray⟩ ⟨[32].toArray⟩) ⟨s.toArray⟩).map (·.data.toList)=spl s:=by rw[Lib.splitB_data];exact splitK_spl s
 have hlen:=Lib.splitB_all ⟨[32].toArray⟩ (by simp[ByteArray.size]) 0 _ ⟨s.toArray⟩ rfl;generalize Lib.countB ⟨s.toArray⟩ ⟨[32].toArray⟩=n at *;generalize Lib.splitB ⟨[32].toArray⟩ 0 n ⟨s.toArray⟩=L at *;refine⟨_,rfl,?_,hb⟩;have hl2:(spl s).length=n+1:=by grind
 have hnl:n+1<=maxLen:=by have:=spl_len s;simp only[maxLen];omega
 have rep:=QZ.sl (ok:=ok) (w:=w.alloc (.cells (L.map Value.string).toArray (Tryz.laysM146_ren.t 9))) 1 ((spl s).map λs=>[IV.str s]) w.heap.size 0 (n+1) (λk=>.string (L.getD k default)) (by simp[hl2]) hnl (by simp) (λk hk=>?_) (λi j c x hi hj=>?_)
 .simpa[hl2] using rep
 .simp[hl2] at hk;have hkl:k<L.length:=by omega
  refine⟨hok _ (QN3 _),?_,rfl⟩;rw[QOn];exact Ys w _ _ k _ (by simp[hkl])
 .simp only[QN6,QN2] at hi;obtain⟨t,ht,rfl⟩:=hi;have hj0:j=0:=by
   grind
  subst hj0;simp at hj;subst hj;rw[<- hd,QN6,QN2] at ht;obtain⟨z,hz,rfl⟩:=ht;have e:L.getD (i*1+0) default=z:=by simp[hz]
  rw[e];have:=QZ.str (ok:=ok) (w:=w.alloc (.cells (L.map Value.string).toArray (Tryz.laysM146_ren.t 9))) z.data.toList;simpa using this
def QjO(n:Int)(h: -9223372036854775808<=n/\n<=9223372036854775807):Gd KW 236 [.int .i64 n] (.str (Lib.itoa n)):=by
 intro w ok vs hk hok hl hx;obtain⟨v0,rfl⟩:∃v0,vs=[v0]:=by
  match vs,hl with
  |[a],_=>exact⟨a,rfl⟩
 have r0:=hx 0 _ v0 rfl rfl;cases r0;refine(Any.strconv_Itoa Tryz.laysM171 n h.1 h.2 w hk.tab).mono λe w' ⟨he,k,os,hw⟩=>?_;subst he hw;exact⟨_,rfl,.str _,⟨rfl,rfl,rfl,by simp[Go.Sort.grow],λb hb=>Array.getElem?_append_left hb⟩⟩
def QzG(s p:Txt):Gd KW 237 [.str s,.str p] (.str (Lib.trimPrefix s p)):=by
 intro w ok vs hk hok hl hx;obtain⟨v0,v1,rfl⟩:∃v0 v1,vs=[v0,v1]:=by
  match vs,hl with
  |[a,b],_=>grind
 have r0:=hx 0 _ v0 rfl rfl;have r1:=hx 1 _ v1 rfl rfl;cases r0;cases r1;refine(Any.strings_TrimPrefix Tryz.lays101 ⟨s.toArray⟩ ⟨p.toArray⟩ w).mono λe w' ⟨he,hw⟩=>?_;subst he hw;exact⟨_,rfl,.str _,Below.refl _ _⟩
def QzH(s:Txt)(hs:s.length<=1000):Gd KW 235 [.str s] (.xf (match Lib.atoiAll s with| .ok v=>[.int .i64 v,.lit .nilIface]| .range=>[.int .i64 (Lib.atoiSat s),.ifn]|_=>[.int .i64 0,.ifn])):=by
 intro w ok vs hk hok hl hx;obtain⟨v0,rfl⟩:∃v0,vs=[v0]:=by
  match vs,hl with
  |[a],_=>exact⟨a,rfl⟩
 have r0:=hx 0 _ v0 rfl rfl;cases r0;have two:∀(w':World)(n:Int)(z:IV)(u:Value),QZ ok w' z u->QZ ok w' (.xf [.int .i64 n,z]) (.tuple #[.int .i64 n,u]):=λw' n z u hz=>by
  refine .xf [.int .i64 n,z] [.int .i64 n,u] rfl λk x v hk hv=>?_
  match k,hk,hv with
  |0,hk,hv=>injection hk with hk;injection hv with hv;subst hk hv;exact .int _ _
  |1,hk,hv=>grind
  |k+2,hk,hv=>simp at hk
 cases h:Lib.atoiAll s with
 |ok v=>
  refine(Any.strconv_Atoi_ok Tryz.laysC172 ⟨s.toArray⟩ (by simp[ByteArray.size];omega) v (by simpa using h) w).mono λe w' ⟨he,hw⟩=>?_;subst he;refine⟨_,rfl,two _ _ _ _ (.lit _),?_⟩;rcases hw with rfl|⟨t,rfl⟩
  .exact Below.refl _ _
  exact⟨rfl,rfl,rfl,by rw[Lib.bytesWorld_size];omega,λj hj=>Lib.bytesWorld_at_old _ _ _ j hj⟩
 |range=>have⟨tp,p,hv⟩:=hk.rng;refine(Any.strconv_Atoi_range_var Tryz.laysC172 ⟨s.toArray⟩ (by simp[ByteArray.size];omega) (by simpa using h) tp p w hv).mono λe w' ⟨N,he,_,_,hb⟩=>?_;subst he;exact⟨_,rfl,two _ _ _ _ (.ifn _ rfl),hb⟩
 |_=>have⟨tp,p,hv⟩:=hk.syn;refine(Any.strconv_Atoi_syntax_var Tryz.laysC172 ⟨s.toArray⟩ (by simp[ByteArray.size];omega) (by simpa using h) tp p w hv).mono λe w' ⟨N,he,_,_,hb⟩=>?_;subst he;exact⟨_,rfl,two _ _ _ _ (.ifn _ rfl),hb⟩
def Qzh(l:List Txt)(hl0:l.length<=1000000)(hj:(Lib.join l [32]).length<=140737488355328):Gd KW 286 [strs l,.str [32]] (.str (Lib.join l [32])):=by
 intro w ok vs hk hok hl hx;obtain⟨v0,v1,rfl⟩:∃v0 v1,vs=[v0,v1]:=by
  match vs,hl with
  |[a,b],_=>grind
 have r0:=hx 0 _ v0 rfl rfl;have r1:=hx 1 _ v1 rfl rfl;cases r1;have none_:∀(a:Option Addr)(c:Nat),l=[]->Calls prog 286 [Value.slice a 0 c,.string ⟨[32].toArray⟩].toArray w (λe w'=>∃v,e=.returned v/\QZ ok w' (.str (Lib.join l [32])) v/\Below w.heap.size w w'):=λa c h0=>by subst h0;refine(Any.strings_Join_none Tryz.lays156 Tryz.Builder_Extra_156 a c ⟨[32].toArray⟩ w).mono λe w' ⟨he,hw⟩=>?_;subst he hw;exact⟨_,rfl,.str [],Below.refl _ _⟩
 simp only[strs] at r0;generalize hrows:(l.map λs=>[IV.str s])=rows at r0;have hrl:rows.length=l.length:=by grind
 cases r0 with
 |sl _ _ b off cap u hlc hc hsz hu hxx=>
  have hcell:∀(j:Nat)(x:ByteArray),(l.map λs=>(⟨s.toArray⟩:ByteArray))[j]?=some x->w.cell? ⟨b,off+j,none⟩=some (.string x):=λj x hj=>by
   rw[QN6,QN2] at hj;obtain⟨s,hs,rfl⟩:=hj;have hjl:=(QNY.1 hs).1;have h1:=(hu j (by rw[hrl];omega)).2.1;have h2:=hxx j 0 [.str s] (.str s) (by grind) rfl;simp only[QPF,QPd] at h2;cases h2':u j with
   |_=>rw[h2'] at h2;first|(cases h2;rw[h1,h2'])|cases h2
  by_cases h0:l=[]
  .grind
  have hbk:b<w.heap.size:=QO0 w ⟨b,off+0,none⟩ (hu 0 (by grind)).2.1;have hd:(l.map λs=>(⟨s.toArray⟩:ByteArray)).map (·.data.toList)=l:=by simp[List.map_map,Function.comp_def]
  have:=Any.strings_Join Tryz.lays156 Tryz.Builder_Extra_156 b off cap (l.map λs=>(⟨s.toArray⟩:ByteArray)) ⟨[32].toArray⟩ w hcell hbk (by simp;omega) (by simp;omega) (by rw[hd];exact hj);rw[hd,QN9,<- hrl] at this;refine this.mono λe w' ⟨he,hb⟩=>?_;subst he;exact⟨_,rfl,.str _,hb⟩
 |_=>grind
end Go.Pf
namespace Go.Pf
open Go Go.Ev Go.Proofs Go.RowKit Go.ChangeShapes Go.WideShapes Go.Proofs.YtpiohpigfaahcaaGreatDoor Go.Proofs.Tryz
def own:ownKnob prog.godebug=none:=by kernel_rfl
def Qp5:laidOutB prog=true:=by kernel_rfl
noncomputable def QcI(os:Os):World:=World.laidAll prog os Rows.booksReplayRow.laid
def Qt0(os:Os)(args:Array Value):laidMet prog Rows.booksReplayRow.laid ((QcI os).forCall (λ_ _=>0) ⟨#[],args,[]⟩).memory:=
 laidMet_laidAll args (by kernel_rfl) (by kernel_rfl)
def QJx: "*" ++ "errors.errorString" = "*errors.errorString":=by decide
theorem Qxb(u: TypeId)(h: prog.typeName? 3 u = some "*errors.errorString"): u = 441:=typeName_ptr_named (nm:= "errors.errorString") (by rw [QJx];kernel_rfl) (by kernel_rfl) (by decide) u (by rw [QJx];exact h)
def qN(es:List Sh)(row:List IV):Prop:=∀(j:Nat)(s:Sh)(x:IV),es[j]?=some s->row[j]?=some x->Qbp s x
abbrev shI:Sh:=Sh.int IntKind.i64
theorem QwF(n:Nat):∀rows:List (List IV),(∀row∈rows,row.length=n)->(∀row∈rows,qN (List.replicate n shI) row)->∃fs:List (List Int),rows=fs.map (λl=>l.map λx=>.int .i64 x)/\∀l∈fs,l.length=n
 |[],_,_=>⟨[],rfl,by simp⟩
 |row::rows,hrl,hr=>by
  obtain⟨fs,hfs,hl⟩:=QwF n rows (λr hr'=>hrl r (by simp[hr'])) (λr hr'=>hr r (by simp[hr']));have h1:=hrl row (by simp);have h2:=hr row (by simp);have key:∀row:List IV,(∀x∈row,Qbp shI x)->∃l:List Int,row=l.map (λx=>.int .i64 x)/\l.length=row.length:=λrow=>by
   induction row with
   |nil=>exact λ_=>⟨[],rfl,rfl⟩
   |cons x r ih=>
    intro h;obtain⟨l,e,hl⟩:=ih λy hy=>h y (by simp[hy]);have hx:=h x (by simp);cases hx with
    |int _ m _ _=>exact⟨m::l,by simp[<- e],by simp[hl]⟩
  obtain⟨l,e,hll⟩:=key row λx hx=>by obtain⟨k,hk,rfl⟩:=QON hx;exact h2 k shI row[k] (by simp[<- h1,hk]) (by simp[hk])
  exact⟨l::fs,by simp[hfs,e],λx hx=>by
   rcases QN7.1 hx with rfl|hx
   .omega
   exact hl x hx⟩
def Wr{α:Type}{n:Nat}{c:α->List IV}(g:List Int->α)(hg:∀l:List Int,l.length=n->c (g l)=l.map λx=>.int .i64 x){rows:List (List IV)}(h1:∀row∈rows,row.length=n)(h2:∀row∈rows,qN (List.replicate n shI) row):∃fs:List α,rows=fs.map c:=by obtain⟨fs,rfl,hl⟩:=QwF n rows h1 h2;refine⟨fs.map g,?_⟩;rw[List.map_map];exact QO6 λl h=>(hg l (hl l h)).symm
def Qn1(rows:List (List IV)):(∀row∈rows,row.length=5)->(∀row∈rows,qN [shI,shI,shI,shI,shI] row)->∃fs:List QB,rows=fs.map dC:=
 Wr (λl=>⟨l.getD 0 0,l.getD 1 0,l.getD 2 0,l.getD 3 0,l.getD 4 0⟩) λl h=>match l,h with
  |[_,_,_,_,_],_=>rfl
def QiR(rows:List (List IV)):(∀row∈rows,row.length=5)->(∀row∈rows,qN [shI,shI,shI,shI,shI] row)->∃fs:List XC,rows=fs.map sC:=
 Wr (λl=>⟨l.getD 0 0,l.getD 1 0,l.getD 2 0,l.getD 3 0,l.getD 4 0⟩) λl h=>match l,h with
  |[_,_,_,_,_],_=>rfl
def QiS(rows:List (List IV)):(∀row∈rows,row.length=3)->(∀row∈rows,qN [shI,shI,shI] row)->∃fs:List ZL,rows=fs.map leC:=
 Wr (λl=>⟨l.getD 0 0,l.getD 1 0,l.getD 2 0⟩) λl h=>match l,h with
  |[_,_,_],_=>rfl
def Qps(rows:List (List IV)):(∀row∈rows,row.length=4)->(∀row∈rows,qN [shI,shI,shI,shI] row)->∃fs:List ZD,rows=fs.map baC:=
 Wr (λl=>⟨l.getD 0 0,l.getD 1 0,l.getD 2 0,l.getD 3 0⟩) λl h=>match l,h with
  |[_,_,_,_],_=>rfl
def QiQ(rows:List (List IV)):(∀row∈rows,row.length=3)->(∀row∈rows,qN [shI,shI,shI] row)->∃fs:List WM,rows=fs.map trC:=
 Wr (λl=>⟨l.getD 0 0,l.getD 1 0,l.getD 2 0⟩) λl h=>match l,h with
  |[_,_,_],_=>rfl
def Qpr(rows:List (List IV)):(∀row∈rows,row.length=3)->(∀row∈rows,qN [shI,shI,shI] row)->∃fs:List Rod,rows=fs.map roC:=
 Wr (λl=>⟨l.getD 0 0,l.getD 1 0,l.getD 2 0⟩) λl h=>match l,h with
  |[_,_,_],_=>rfl
def Qn0(rows:List (List IV)):(∀row∈rows,row.length=7)->(∀row∈rows,qN [shI,shI,shI,shI,shI,shI,shI] row)->∃fs:List QY,rows=fs.map reC:=
 Wr (λl=>⟨l.getD 0 0,l.getD 1 0,l.getD 2 0,l.getD 3 0,l.getD 4 0,l.getD 5 0,l.getD 6 0⟩) λl h=>match l,h with
  |[_,_,_,_,_,_,_],_=>rfl
def QIx:shp prog 7 40=some [.sl 40 [shI,shI,shI,shI,shI],.sl 40 [shI,shI,shI,shI,shI],shI,.sl 24 [shI,shI,shI],shI,shI,shI,.sl 32 [shI,shI,shI,shI],shI,.sl 24 [shI,shI,shI],shI,shI,shI,shI,shI,.sl 24 [shI,shI,shI],.sl 56 [shI,shI,shI,shI,shI,shI,shI],shI]:=by kernel_rfl
def QNo:shp prog 7 9=some [.str]:=by kernel_rfl
def QIr:∃fs,prog.underlying 40=some (.struct fs):=⟨_,underlying40⟩
theorem Qwf{x:IV}(h:Ql4 prog 9 x):∃t,x=.str t/\t.length<=1000000000000000:=by
 obtain⟨ss,h1,h2⟩:=h;rw[QNo] at h1;injection h1 with h1;subst h1;rw[underlying9] at h2;obtain⟨s,hs,hf⟩:=h2;injection hs with hs _;subst hs;cases hf with
 |str t h=>exact⟨t,rfl,by simp only[reachBytes] at h;omega⟩
theorem QsV{x:IV}(h:Ql4 prog 40 x):∃h,x=hoV h:=by
 have⟨ss,h1,h2⟩:=h;rw[QIx] at h1;injection h1 with h1;subst h1;have⟨fs',hu⟩:=QIr;rw[hu] at h2;obtain⟨xs,rfl,hl,hf⟩:=h2
 match xs,hl with
 |[a0,a1,a2,a3,a4,a5,a6,a7,a8,a9,a10,a11,a12,a13,a14,a15,a16,a17],_=>
  have h0:=hf 0 _ a0 rfl rfl;have h1:=hf 1 _ a1 rfl rfl;have h2:=hf 2 _ a2 rfl rfl;have h3:=hf 3 _ a3 rfl rfl;have h4:=hf 4 _ a4 rfl rfl;have h5:=hf 5 _ a5 rfl rfl;have h6:=hf 6 _ a6 rfl rfl;have h7:=hf 7 _ a7 rfl rfl;have h8:=hf 8 _ a8 rfl rfl;have h9:=hf 9 _ a9 rfl rfl;have h10:=hf 10 _ a10 rfl rfl;have h11:=hf 11 _ a11 rfl rfl;have h12:=hf 12 _ a12 rfl rfl;have h13:=hf 13 _ a13 rfl rfl;have h14:=hf 14 _ a14 rfl rfl;have h15:=hf 15 _ a15 rfl rfl;have h16:=hf 16 _ a16 rfl rfl;have h17:=hf 17 _ a17 rfl rfl;cases h0 with
  |sl _ _ rows0 _ _ hrl0 hr0=>
  cases h1 with
  |sl _ _ rows1 _ _ hrl1 hr1=>
  cases h2 with
  |int _ n2 _ _=>
  cases h3 with
  |sl _ _ rows3 _ _ hrl3 hr3=>
  cases h4 with
  |int _ n4 _ _=>
  cases h5 with
  |int _ n5 _ _=>
  cases h6 with
  |int _ n6 _ _=>
  cases h7 with
  |sl _ _ rows7 _ _ hrl7 hr7=>
  cases h8 with
  |int _ n8 _ _=>
  cases h9 with
  |sl _ _ rows9 _ _ hrl9 hr9=>
  cases h10 with
  |int _ n10 _ _=>
  cases h11 with
  |int _ n11 _ _=>
  cases h12 with
  |int _ n12 _ _=>
  cases h13 with
  |int _ n13 _ _=>
  cases h14 with
  |int _ n14 _ _=>
  cases h15 with
  |sl _ _ rows15 _ _ hrl15 hr15=>
  cases h16 with
  |sl _ _ rows16 _ _ hrl16 hr16=>
  cases h17 with
  |int _ n17 _ _=>
  obtain⟨l0,rfl⟩:=Qn1 rows0 hrl0 hr0;obtain⟨l1,rfl⟩:=QiR rows1 hrl1 hr1;obtain⟨l3,rfl⟩:=QiS rows3 hrl3 hr3;obtain⟨l7,rfl⟩:=Qps rows7 hrl7 hr7;obtain⟨l9,rfl⟩:=QiQ rows9 hrl9 hr9;obtain⟨l15,rfl⟩:=Qpr rows15 hrl15 hr15;obtain⟨l16,rfl⟩:=Qn0 rows16 hrl16 hr16;exact⟨⟨⟨⟨l0,l1,n2⟩,⟨l3,n4,n5,n6,l7,n8⟩,l9,n10,n11⟩,⟨n12,n13,n14,l15,l16,n17⟩⟩,rfl⟩
def QID{W:World}(hL:laidMetH prog Rows.booksReplayRow.laid W)(hsh:W.ShapedOpen prog):KW W:=by
 have hl:laidMet prog Rows.booksReplayRow.laid W:=by rw[MakeChecks.laidMetH_plain _ _ _ (by kernel_rfl)] at hL;exact hL
 have h2:=hl.tail.tail;have h4:=h2.tail.tail;have h5:=h4.tail;refine⟨hsh,?_,?_,?_⟩
 .exact Lib.tabIs_of_head (n:=20) (rest:=Rows.booksReplayRow.laid.drop 3) (g:=5) (t:=445) (e:=406) (by kernel_rfl) (by kernel_rfl) underlying445 underlying406 (by kernel_rfl) (by kernel_rfl) h2
 .obtain⟨a0, s0, hv0, _⟩:=laid_sentinel h5 (show prog.globalNamed "strconv.ErrSyntax" = some 1 by kernel_rfl) (show(prog.globals[1]?).map (·.type) = some 274 by kernel_rfl) underlying274 Qxb underlying441 underlying443 rfl rfl underlying9 (by kernel_rfl) (by kernel_rfl);exact⟨_,_,hv0⟩
 obtain⟨a0, s0, hv0, _⟩:=laid_sentinel h4 (show prog.globalNamed "strconv.ErrRange" = some 2 by kernel_rfl) (show(prog.globals[2]?).map (·.type) = some 274 by kernel_rfl) underlying274 Qxb underlying441 underlying443 rfl rfl underlying9 (by kernel_rfl) (by kernel_rfl);exact⟨_,_,hv0⟩
def Qp8{P:Program}{f:FuncId}{fn:Func}{s:ChangeSpec}{c:OpenClaim}
  (k1:c.wf (OpenSpec.ofChange s)=true)(k2:laidOutB P=true)(k3:mapsRowed P=true)(k4:fn.params.all (P.readableRec ·)=true)(k5:namedTie P c.named s.vars=true)
  (k6:(c.stops==[])=true)(k7:(P.stops==[])=true)(k8:(c.knobs==[])=true)(k9:(P.stopKnobs==[])=true)
  (k10:(c.inPlace==P.inPlace f)=true)(k11:(c.unfollowed==P.unfollowed f)=true)(k12:(c.recurses==P.recurses f)=true)(k13:(c.named==P.varsNamed f)=true)
  (k14:(c.maps==(fn.params.toList++s.plain.varTypes P).any (P.mapsRec ·))=true)(k15:(c.ifaces==(fn.params.toList++s.plain.varTypes P).any (P.ifacesRec ·))=true)(k16:(c.mapsOut==P.mapsAmong fn.resultTypes.toList)=true)
  (k17:(c.loops==(fn.params.toList++s.plain.varTypes P).any (P.loopsFrom ·))=true)(k17b:(c.wideKeys==(fn.params.toList++s.plain.varTypes P++fn.resultTypes.toList).any (P.wideKeysFrom ·))=true)
  (k18:s.vars.all (P.varReadable ·)=true)(k19:fn.resultTypes.all (λt=>P.readableRec t&&decide (t<P.types.size))=true)(k20:(c.ifacesOut==fn.resultTypes.toList.any (P.ifacesRec ·))=true)(k21:(c.loopsOut==fn.resultTypes.toList.any (P.loopsFrom ·))=true)
  (k22:(c.plainKeys==P.plainKeys)=true)(k23:c.shortTexts.isNone=true)(k23b:P.stopsHeard=true)(k24:P.mayEnter=true)(k24b:(c.lifted==P.liftsFinal)=true)(k24c:(P.make==some c.make)=true)
  (k25:(c.kinds==(if c.domain.isEmpty then [] else fn.params.toList.map λt=>match P.underlying t with|some (.int k)=>some k|_=>none))=true)(k26:(c.pinned==c.pinnedBy)=true)
  (k27:(c.veiled==(fn.params.toList++s.plain.varTypes P++fn.resultTypes.toList).any (P.veiledRec ·))=true)(k28:c.veiledFits P fn.params.toList (fn.params.toList++s.plain.varTypes P++fn.resultTypes.toList)=true):joinedFacts P f fn s c=true:=by
 simp only[joinedFacts,QNZ];exact⟨⟨⟨⟨⟨⟨⟨⟨⟨⟨⟨⟨⟨⟨⟨⟨⟨⟨⟨⟨⟨⟨⟨⟨⟨⟨⟨⟨⟨⟨⟨k1,k2⟩,k3⟩,k4⟩,k5⟩,k6⟩,k7⟩,k8⟩,k9⟩,k10⟩,k11⟩,k12⟩,k13⟩,k14⟩,k15⟩,k16⟩,k17⟩,k17b⟩,k18⟩,k19⟩,k20⟩,k21⟩,k22⟩,k23⟩,k23b⟩,k24⟩,k24b⟩,k24c⟩,k25⟩,k26⟩,k27⟩,k28⟩
def QIW:mapsRowed prog=true:=by kernel_rfl
def QIV:(prog.stops==[])=true:=by kernel_rfl
def QIU:(prog.stopKnobs==[])=true:=by kernel_rfl
def QAI:prog.stopsHeard=true:=by kernel_rfl
def QGo:prog.mayEnter=true:=by kernel_rfl
def QIS:(Rows.booksReplayRow.plainKeys==prog.plainKeys)=true:=by kernel_rfl
def QIR:(Rows.booksReplayRow.lifted==prog.liftsFinal)=true:=by kernel_rfl
def QIQ:(prog.make==some Rows.booksReplayRow.make)=true:=by kernel_rfl
def QGn:Tryz.pinned.checked.prog.looks []=true:=by kernel_rfl
end Go.Pf
namespace Go.Bk
open Go Go.Ev Go.RowKit
attribute [simp] Qel
abbrev W:=List UInt8
@[simp] def Qq(l:List Int):IV:=.sl 1 (l.map λn=>[.int .i64 n])
@[simp] def strs(l:List W):IV:=.sl 1 (l.map λs=>[.str s])
def tx(s:W):Bool:=s.all (λc=>decide (32<=c.toNat)&&decide (c.toNat<=126))&&decide (s.length<=60)
def two(n:Nat):W:=[UInt8.ofNat (48+n / 10),UInt8.ofNat (48+n % 10)]
def v1(c:UInt8):Int:=(c.toNat:Int)-32
def S1:W->Int
 |[]=>0
 |c::s=>v1 c+S1 s
def S2:Nat->W->Int
 |_,[]=>0
 |k,c::s=>v1 c*(k:Int)+S2 (k+1) s
def QV(s:W):W:=s++two (S1 s % 97).toNat++two (S2 1 s % 97).toNat
def QwP(c:UInt8):Bool:=decide (48<=c.toNat)&&decide (c.toNat<=57)
def dg:W->Int
 |[a,b]=>if QwP a&&QwP b then 10*((a.toNat:Int)-48)+((b.toNat:Int)-48) else -1
 |_=>-1
def numOf(r:W):Int×W×Bool:=if decide (r.length<2)||!tx (r.drop 2) then(0,[],false) else(dg (r.take 2),r.drop 2,decide (0<=dg (r.take 2))&&decide (dg (r.take 2)<40))
def Zb(r:W):Int×Bool:=if decide (r.length≠4)||decide (r.take 2≠[46,46]) then(0,false) else(dg (r.drop 2),decide (0<=dg (r.drop 2))&&decide (dg (r.drop 2)<=40))
def YE(r:W):Bool:=(numOf r).2.2||(Zb r).2
def XA:W->W->Nat
 |a::r,b::s=>(if a=b then 0 else 1)+XA r s
 |_,_=>0
def fits(l r:W):Bool:=YE r&&decide (l.length=r.length+4)&&decide (XA l (QV r)<=1)
def Qh1(want:Int)(r:W)(i:Nat):Int:=((want-(S1 (r.take i++[32]++r.drop (i+1))).tmod 97).tmod 97+97).tmod 97
def fix(want:Int)(r:W)(i:Nat):W:=r.take i++[UInt8.ofNat (32+Qh1 want r i).toNat]++r.drop (i+1)
def XF(l:W):Option W:=
 if l.length<6 then none else
 let r:=l.take (l.length-4)
 if fits l r then some r else
 let want:=dg ((l.drop (l.length-4)).take 2)
 if want<0 then none else
 ((List.range r.length).find? λi=>fits l (fix want r i)).map λi=>fix want r i
def Qe5(c:UInt8):c.toNat<256:=c.toNat_lt
def Qbx(c:UInt8): -32<=v1 c/\v1 c<=223:=by have:=Qe5 c;unfold v1;omega
def Qgr(s:W): -32*(s.length:Int)<=S1 s/\S1 s<=223*(s.length:Int):=by
 induction s with
 |nil=>simp[S1]
 |cons c s ih=>have:=Qbx c;simp only[S1,QOi];omega
def Qdu(s t:W):S1 (s++t)=S1 s+S1 t:=by
 induction s with
 |nil=>simp[S1]
 |cons c s ih=>simp only[QOa,S1,ih];omega
def Qis(s t:W)(k:Nat):S2 k (s++t)=S2 k s+S2 (k+s.length) t:=by
 induction s generalizing k with
 |nil=>simp[S2]
 |cons c s ih=>simp only[QOa,S2,ih,QOi];rw[show k+1+s.length=k+(s.length+1) by omega];omega
def QnE(s:W)(k:Nat)(hk:k+s.length<=200001): -7000000*(s.length:Int)<=S2 k s/\S2 k s<=50000000*(s.length:Int):=by
 induction s generalizing k with
 |nil=>simp[S2]
 |cons c s ih=>simp only[QOi] at hk;have h1:=ih (k+1) (by omega);have⟨h2,h3⟩:=Qbx c;simp only[S2,QOi];have e1:v1 c*(k:Int)<=223*(k:Int):=QOj h3 (by omega);have e2: -32*(k:Int)<=v1 c*(k:Int):=QOj h2 (by omega);omega
def Ql9{n:Int}(h: -2147483648<=n)(h':n<=2147483647):IntKind.wrap .i32 n=n:=by unfold IntKind.wrap;simp[IntKind.bits,IntKind.signed];omega
def Qmh(a b:UInt8):((a.toNat:Int)=b.toNat)=(a=b):=by
 apply propext;constructor
 .intro h;exact UInt8.toNat_inj.1 (by omega)
 .intro h;rw[h]
def QAT(s:W)(i:Nat)(h:i<s.length)(hc:s[i].toNat<128):Qtk s i=(s[i].toNat,1):=by
 unfold Qtk Utf8.decode;have e:(ByteArray.get! ⟨s.toArray⟩ (i+0)).toNat=s[i].toNat:=by simp[ByteArray.get!,h]
 simp only[e];rw[if_pos (by omega)]
def QAU(s:W)(i:Nat)(h:i<s.length)(hc:128<=s[i].toNat):128<=(Qtk s i).1:=by
 unfold Qtk Utf8.decode;have e:(ByteArray.get! ⟨s.toArray⟩ (i+0)).toNat=s[i].toNat:=by simp[ByteArray.get!,h]
 simp only[e];rw[if_neg (by omega)]
 repeat' split
 all_goals first
  |(simp only[Utf8.runeError];omega)
  |(simp at *;omega)
@[simp] theorem QNn(c:UInt8):IntKind.i64.wrap (c.toNat:Int)=c.toNat:=by have:=Qe5 c;exact wrap_i64 (by omega) (by omega)
@[simp] theorem QIq(c:UInt8):IntKind.i64.wrap ((c.toNat:Int)-48)=c.toNat-48:=by have:=Qe5 c;exact wrap_i64 (by omega) (by omega)
def QnD{α:Type}{p:α->Bool}{l:List α}{i:Nat}(hi:i<l.length)(h:(l.take i).all p=true)(h':p l[i]=true):(l.take (i+1)).all p=true:=by rw[QNW hi,List.all_append,h];simp[h']
def Qcu{α:Type}{p:α->Bool}{l:List α}{i:Nat}(hi:i<l.length)(h':p l[i]=false):l.all p=false:=by
 cases h:l.all p with
 |false=>rfl
 |true=>rw[QOt] at h;rw[h _ (QN0 hi)] at h';cases h'
def Qxj(s:W)(i:Nat)(hi:i<s.length):S1 (s.take (i+1))=S1 (s.take i)+v1 s[i]/\S2 1 (s.take (i+1))=S2 1 (s.take i)+v1 s[i]*((i:Int)+1):=by
 rw[QNW hi,Qdu,Qis];have:(s.take i).length=i:=by simp;omega
 simp only[S1,S2,this];rw[show((1+i:Nat):Int)=(i:Int)+1 by omega];omega
theorem Qdc:∀(a b:W)(i:Nat)(h:i<a.length)(h':i<b.length),XA (a.take (i+1)) b=XA (a.take i) b+if a[i]=b[i] then 0 else 1
 |[],_,i,h,_=>by simp at h
 |x::a,[],i,_,h'=>by simp at h'
 |x::a,y::b,0,_,_=>by simp[XA]
 |x::a,y::b,i+1,h,h'=>by have:=Qdc a b i (by simpa using h) (by simpa using h');simp only[List.take_succ_cons,XA,this,List.getElem_cons_succ];omega
def QrW(a b:W):XA a b<=a.length:=by
 induction a generalizing b with
 |nil=>simp[XA]
 |cons x a ih=>
  cases b with
  |nil=>simp[XA]
  |cons y b=>have:=ih b;simp only[XA,QOi];split<;>omega
def QEX{s:W}(h:tx s=true):∀c∈s,32<=c.toNat/\c.toNat<=126:=by intro c hc;simp only[tx,QNZ,QOt,decide_eq_true_eq] at h;exact h.1 c hc
def plain(s:W):Prop:=∀c∈s,32<=c.toNat/\c.toNat<=126
def QnF{s:W}(h:plain s):0<=S1 s:=by
 induction s with
 |nil=>simp[S1]
 |cons c s ih=>have:=ih (λc hc=>h c (QO2 _ hc));have:=h c (by simp);simp only[S1,v1];omega
def Qxk{s:W}(h:plain s)(k:Nat):0<=S2 k s:=by
 induction s generalizing k with
 |nil=>simp[S2]
 |cons c s ih=>
  have:=ih (λc hc=>h c (QO2 _ hc)) (k+1);have:=h c (by simp);have hv:0<=v1 c:=by simp only[v1];omega
  have:=QOQ hv (show(0:Int)<=k by omega);simp only[S2];omega
def Qni{s:W}(h:0<=dg s):plain s:=by
 match s with
 |[]=>simp[dg] at h
 |[a]=>simp[dg] at h
 |[a,b]=>
  simp only[dg] at h;split at h
  .rename_i hd;simp only[QwP,QNZ,decide_eq_true_eq] at hd;intro c hc;simp at hc;rcases hc with rfl|rfl<;>omega
  omega
 |a::b::c::s=>simp[dg] at h
def Jc{r:W}(h:YE r=true):plain r/\r.length<=62/\2<=r.length:=by
 simp only[YE,QO8] at h;rcases h with h|h
 .unfold numOf at h;split at h
  .simp at h
  rename_i hc;simp only[QO8,decide_eq_true_eq,QOD,not_or,Bool.not_eq_false] at hc;simp only[QNZ,decide_eq_true_eq] at h;have h1:=Qni h.1;have h2:=QEX hc.2;have h3:(r.drop 2).length<=60:=by have:=hc.2;simp only[tx,QNZ,decide_eq_true_eq] at this;exact this.2
  simp at h3;refine⟨λc hc=>?_,by omega,by omega⟩;rw[<- QO5 2 r] at hc;rcases QOc.1 hc with hc|hc
  .exact h1 c hc
  exact h2 c hc
 .unfold Zb at h;split at h
  .simp at h
  .rename_i hc;simp only[QO8,decide_eq_true_eq,not_or,ne_eq,Decidable.not_not] at hc;simp only[QNZ,decide_eq_true_eq] at h;have h1:=Qni h.1;refine⟨λc hc'=>?_,by omega,by omega⟩;rw[<- QO5 2 r,hc.2] at hc';rcases QOc.1 hc' with hc'|hc'
   .simp at hc';subst hc';decide
   .exact h1 c hc'
def Yf(r:W):(QV r).length=r.length+4:=by simp[QV,two]
end Go.Bk
namespace Go.Bk
open Go Go.Ev Go.Proofs Go.RowKit Go.Proofs.Tryz
variable{K:World->Prop}(hK:∀w w',K w->Below w.heap.size w w'->K w')
open Go.Pf(Gd c143_ok c144_ok c148_ok c149_ok c150_ok c151_ok c241_ok c242_ok c31_ok c57_ok c58_ok c64_ok c65_ok c66_ok)
include hK
def Qj1(s:W):Gd K 148 [.str s] (.int .i64 (dg s)):=by
 apply Qb hK c148_ok (by simp)
 match s with
 |[]=>simp[dg]
 |[a]=>simp[dg]
 |[a,b]=>have ha:=Qe5 a;have hb:=Qe5 b;simp[dg,QwP];omega
 |a::b::c::s=>simp[dg];omega
def Qau(s:W)(h:s.length=2):Gd K 144 [.str s] (.int .i64 (dg s)):=by
 apply Qb hK c144_ok (by simp)
 match s,h with
 |[a,b],_=>have ha:=Qe5 a;have hb:=Qe5 b;simp[dg,QwP];omega
def QAk(s:W)(hs:s.length<=1000000):Gd K 151 [.str s] (.bool (tx s)):=by
 apply Qb hK c151_ok (by simp);simp;refine Qe (λi=>[(0,AV.iv (IV.str s)),(3,AV.iv (.int .i64 (i:Nat)))]) (λ_=>[]) s.length (λi=>(s.take i).all (λc=>decide (32<=c.toNat)&&decide (c.toNat<=126))=true) (by simp) ?_ ?_
 .intro h;rw[Qa Go.Pf.c151_b0.eq_1];rw[QN5] at h;simp[tx,h];omega
 .intro i hi h ih;have hc:=Qe5 s[i];rw[Qa Go.Pf.c151_b0.eq_1];by_cases h1:32<=s[i].toNat
  .by_cases h2:s[i].toNat<=126
   .have:=ih (QnD hi h (by simp[h1,h2]));simp[hi] at this |-
    repeat' first|omega|assumption|intro _|apply And.intro
   have e:=Qcu (p:=λc:UInt8=>decide (32<=c.toNat)&&decide (c.toNat<=126)) hi (by simp[h2]);simp[hi,tx,e]
   repeat' first|omega|assumption|intro _|apply And.intro
  .have e:=Qcu (p:=λc:UInt8=>decide (32<=c.toNat)&&decide (c.toNat<=126)) hi (by simp[h1]);simp[hi,tx,e]
   repeat' first|omega|assumption|intro _|apply And.intro
def Qw1(s:W)(hs:s.length<=1000000):Gd K 31 [.str s] (.bool (tx s)):=by
 apply Qb hK c31_ok (by simp);simp;refine Qe (λi=>[(0,AV.iv (IV.str s)),(6,AV.yk 6)]) (λi=>[(6,AO.siter s i)]) s.length (λi=>(s.take i).all (λc=>decide (32<=c.toNat)&&decide (c.toNat<=126))=true) (by simp) ?_ ?_
 .intro h;rw[Qa Go.Pf.c31_b0.eq_1];rw[QN5] at h;simp[tx,h];omega
 .intro i hi h ih;have hc:=Qe5 s[i];rw[Qa Go.Pf.c31_b0.eq_1];by_cases h0:s[i].toNat<128
  .have hd:=QAT s i hi h0;by_cases h1:32<=s[i].toNat
   .by_cases h2:s[i].toNat<=126
    .have:=ih (QnD hi h (by simp[h1,h2]));simp[hi,hd] at this |-
     repeat' first|omega|assumption|intro _|apply And.intro
    have e:=Qcu (p:=λc:UInt8=>decide (32<=c.toNat)&&decide (c.toNat<=126)) hi (by simp[h2]);simp[hi,hd,tx,e]
    repeat' first|omega|assumption|intro _|apply And.intro
   have e:=Qcu (p:=λc:UInt8=>decide (32<=c.toNat)&&decide (c.toNat<=126)) hi (by simp[h1]);simp[hi,hd,tx,e]
   repeat' first|omega|assumption|intro _|apply And.intro
  .have hd:=QAU s i hi (by omega);have e:=Qcu (p:=λc:UInt8=>decide (32<=c.toNat)&&decide (c.toNat<=126)) hi (by simp;omega);simp[hi,tx,e]
   repeat' first|omega|assumption|intro _|apply And.intro
def QqY(s:W)(hs:s.length<=100000):Gd K 149 [.str s] (.xf [.int .i64 ((S1 s).tmod 97),.int .i64 ((S2 1 s).tmod 97)]):=by
 apply Qb hK c149_ok (by simp);simp;refine Zz (λi=>[(0,AV.iv (IV.str s)),(2,AV.iv (.int .i64 (S1 (s.take i)))),(3,AV.iv (.int .i64 (S2 1 (s.take i)))),(4,AV.iv (.int .i64 (i:Nat)))]) (λ_=>[]) s.length ?_ ?_
 .rw[Qa Go.Pf.c149_b0.eq_1]
  simp
 .intro i hi ih;have⟨e1,e2⟩:=Qxj s i hi;have r1:=Qgr (s.take (i+1));have r2:=QnE (s.take (i+1)) 1 (by simp;omega);have q1:((s.take (i+1)).length:Int)<=100000:=by simp;omega
  have⟨r3,r4⟩:=Qbx s[i];have q2:v1 s[i]*((i:Int)+1)<=223*((i:Int)+1):=QOj r4 (by omega);have q3: -32*((i:Int)+1)<=v1 s[i]*((i:Int)+1):=QOj r3 (by omega);rw[Qa Go.Pf.c149_b0.eq_1];rw[e1,e2] at ih;rw[e1] at r1;rw[e2] at r2;have ev:((s[i].toNat:Int)-32)=v1 s[i]:=rfl;simp[hi,ev] at ih |-;rw[Int.mul_comm (v1 s[i])] at ih q2 q3 r2
  repeat' first|omega|assumption|intro _|apply And.intro
def QwV(s:W)(hs:s.length<=100000):Gd K 57 [.str s] (.xf [.int .i64 ((S1 s).tmod 97),.int .i64 ((S2 1 s).tmod 97)]):=by
 apply Qb hK c57_ok (by simp);simp;refine Zz (λi=>[(0,AV.iv (IV.str s)),(2,AV.iv (.int .i64 (S1 (s.take i)))),(3,AV.iv (.int .i64 (S2 1 (s.take i)))),(7,AV.iv (.int .i64 (s.length:Nat))),(8,AV.iv (.int .i64 (i:Nat)))]) (λ_=>[]) s.length ?_ ?_
 .rw[Qa Go.Pf.c57_b0.eq_1]
  simp
 .intro i hi ih;have⟨e1,e2⟩:=Qxj s i hi;have r1:=Qgr (s.take (i+1));have r2:=QnE (s.take (i+1)) 1 (by simp;omega);have q1:((s.take (i+1)).length:Int)<=100000:=by simp;omega
  have⟨r3,r4⟩:=Qbx s[i];have q2:v1 s[i]*((i:Int)+1)<=223*((i:Int)+1):=QOj r4 (by omega);have q3: -32*((i:Int)+1)<=v1 s[i]*((i:Int)+1):=QOj r3 (by omega);rw[Qa Go.Pf.c57_b0.eq_1];rw[e1,e2] at ih;rw[e1] at r1;rw[e2] at r2;have ev:((s[i].toNat:Int)-32)=v1 s[i]:=rfl;simp[hi,ev] at ih |-
  repeat' first|omega|assumption|intro _|apply And.intro
def QqX(n:Nat)(hn:n<100):Gd K 150 [.int .i64 (n:Nat)] (.str (two n)):=by
 apply Qb hK c150_ok (by simp);have h1:((n:Int)).tdiv 10=(n:Int) / 10:=QOB (by omega);have h2:((n:Int)).tmod 10=(n:Int) % 10:=QOy (by omega);have w1:IntKind.u8.wrap (48+(n:Int) / 10)=48+(n:Int) / 10:=QeW (by omega) (by omega);have w2:IntKind.u8.wrap (48+(n:Int) % 10)=48+(n:Int) % 10:=QeW (by omega) (by omega);have t1:(48+(n:Int) / 10).toNat=48+n / 10:=by omega
 have t2:(48+(n:Int) % 10).toNat=48+n % 10:=by omega
 simp[h1,h2,w1,w2,two,YV,t1,t2];omega
def QmY(n:Nat)(hn:n<100):Gd K 58 [.int .i64 (n:Nat)] (.str (two n)):=by
 apply Qb hK c58_ok (by simp);have h1:((n:Int)).tdiv 10=(n:Int) / 10:=QOB (by omega);have h2:((n:Int)).tmod 10=(n:Int) % 10:=QOy (by omega);have w1:IntKind.i32.wrap (48+(n:Int) / 10)=48+(n:Int) / 10:=Ql9 (by omega) (by omega);have w2:IntKind.i32.wrap (48+(n:Int) % 10)=48+(n:Int) % 10:=Ql9 (by omega) (by omega);have t1:(48+(n:Int) / 10).toNat=48+n / 10:=by omega
 have t2:(48+(n:Int) % 10).toNat=48+n % 10:=by omega
 simp[h1,h2,two,YV,qW,w1,w2,t1,t2];omega
def QzB(a b:W)(h:a.length<=b.length)(hb:b.length<=1000000):Gd K 242 [.str a,.str b] (.int .i64 (XA a b:Nat)):=by
 apply Qb hK c242_ok (by simp);simp;refine Zz (λi=>[(0,AV.iv (IV.str a)),(1,AV.iv (IV.str b)),(5,AV.iv (.int .i64 (XA (a.take i) b:Nat))),(6,AV.iv (.int .i64 (i:Nat)))]) (λ_=>[]) a.length ?_ ?_
 .rw[Qa Go.Pf.c242_b0.eq_1]
  simp
 .intro i hi ih;have hi':i<b.length:=by omega
  have e:=Qdc a b i hi hi';have l:=QrW (a.take i) b;rw[QPj] at l;rw[Qa Go.Pf.c242_b0.eq_1];have hne:=Qmh a[i] b[i];by_cases hc:a[i]=b[i]
  .rw[if_pos hc] at e;rw[e] at ih;simp[hi,hi',hne,hc] at ih |-
   repeat' first|omega|assumption|intro _|apply And.intro
  .rw[if_neg hc] at e;rw[e] at ih;simp[hi,hi',hne,hc] at ih |-
   repeat' first|omega|assumption|intro _|apply And.intro
def Qq2(a b:W)(h:a.length<=b.length)(hb:b.length<=1000000):Gd K 143 [.str a,.str b] (.int .i64 (XA a b:Nat)):=by
 apply Qb hK c143_ok (by simp);simp;refine Zz (λi=>[(0,AV.iv (IV.str a)),(1,AV.iv (IV.str b)),(5,AV.iv (.int .i64 (XA (a.take i) b:Nat))),(8,AV.iv (.int .i64 (a.length:Nat))),(9,AV.iv (.int .i64 (i:Nat)))]) (λ_=>[]) a.length ?_ ?_
 .rw[Qa Go.Pf.c143_b0.eq_1]
  simp
 .intro i hi ih;have hi':i<b.length:=by omega
  have e:=Qdc a b i hi hi';have l:=QrW (a.take i) b;rw[QPj] at l;rw[Qa Go.Pf.c143_b0.eq_1];have hne:=Qmh a[i] b[i];by_cases hc:a[i]=b[i]
  .rw[if_pos hc] at e;rw[e] at ih;simp[hi,hi',hne,hc] at ih |-
   repeat' first|omega|assumption|intro _|apply And.intro
  .rw[if_neg hc] at e;rw[e] at ih;simp[hi,hi',hne,hc] at ih |-
   repeat' first|omega|assumption|intro _|apply And.intro
def QmW(r:W):Gd K 66 [.str r] (.xf [.int .i64 (Zb r).1,.bool (Zb r).2]):=by
 apply Qb hK c66_ok (by simp);by_cases h4:r.length=4
 .have ht:r.take 4=r:=QN1 (by omega);by_cases hp:r.take 2=[46,46]
  .have e:Zb r=(dg (r.drop 2),decide (0<=dg (r.drop 2))&&decide (dg (r.drop 2)<=40)):=by simp[Zb,h4,hp]
   rw[e];simp[h4,hp,ht];apply Qd (Qj1 hK (r.drop 2)) (by simp);by_cases hd:0<=dg (r.drop 2)<;>simp[hd]
  have e:Zb r=(0,false):=by simp[Zb,h4,hp]
  rw[e];simp[h4,hp]
 .have hi:¬((r.length:Int)=4):=by omega
  have e:Zb r=(0,false):=by simp[Zb,h4]
  rw[e];simp[hi]
def QmX(r:W)(h:r.length<=1000000):Gd K 65 [.str r] (.xf [.int .i64 (numOf r).1,.str (numOf r).2.1,.bool (numOf r).2.2]):=by
 apply Qb hK c65_ok (by simp);by_cases h2:r.length<2
 .have hi:((r.length:Int)<2):=by omega
  have e:numOf r=(0,[],false):=by simp[numOf,h2]
  rw[e];simp[hi]
 .have hi:¬((r.length:Int)<2):=by omega
  have hi':(2:Int)<=(r.length:Int):=by omega
  have ht:r.take r.length=r:=QN5;simp[hi,hi'];apply Qd (QAk hK (r.drop 2) (by simp;omega)) (by simp);by_cases hx:tx (r.drop 2)=true
  .have e:numOf r=(dg (r.take 2),r.drop 2,decide (0<=dg (r.take 2))&&decide (dg (r.take 2)<40)):=by simp[numOf,h2,hx]
   rw[e];simp[hx];refine⟨hi',Qd (Qj1 hK (r.take 2)) (by simp) ?_⟩;by_cases hd:0<=dg (r.take 2)<;>simp[hd,hi']
  .have e:numOf r=(0,[],false):=by simp[numOf,hx]
   rw[e];simp[hx]
def QzC(r:W)(h:r.length<=1000000):Gd K 241 [.str r] (.bool (YE r)):=by apply Qb hK c241_ok (by simp);simp;apply Qd (QmX hK r h) (by simp);simp;apply Qd (QmW hK r) (by simp);by_cases h1:(numOf r).2.2=true<;>simp[h1,YE]
def QwU(r:W)(h:plain r)(hl:r.length<=100000):Gd K 64 [.str r] (.str (QV r)):=by
 apply Qb hK c64_ok (by simp);simp;apply Qd (QqY hK r hl) (by simp);simp;have e1:(S1 r).tmod 97=((S1 r % 97).toNat:Nat):=by rw[QOy (QnF h)];omega
 have e2:(S2 1 r).tmod 97=((S2 1 r % 97).toNat:Nat):=by rw[QOy (Qxk h 1)];omega
 rw[e1,e2];have el:QV r=r++two (S1 r % 97).toNat++two (S2 1 r % 97).toNat:=rfl;rw[el];have h1:(S1 r % 97).toNat<100:=by omega
 have h2:(S2 1 r % 97).toNat<100:=by omega
 generalize(S1 r % 97).toNat=a at *;generalize(S2 1 r % 97).toNat=b at *;apply Qd (QqX hK a h1) (by simp);have la:(two a).length=2:=rfl;have lb:(two b).length=2:=rfl;simp[la];refine⟨by omega,Qd (QqX hK b h2) (by simp) ?_⟩;simp[la,lb];omega
end Go.Bk
namespace Go.Bk
open Go Go.Ev Go.Proofs Go.RowKit Go.Proofs.Tryz
variable{K:World->Prop}(hK:∀w w',K w->Below w.heap.size w w'->K w')
open Go.Pf(Gd c142_ok c147_ok c32_ok c56_ok c63_ok)
def ql{a:UInt8}(h:QwP a=true):48<=a.toNat/\a.toNat<=57:=by simpa[QwP] using h
def Qwv{s:W}(h:0<=dg s):two (dg s).toNat=s:=by
 match s with
 |[]=>simp[dg] at h
 |[a]=>simp[dg] at h
 |[a,b]=>
  simp only[dg] at h |-;split at h
  .rename_i hd;simp only[QNZ] at hd;have⟨h1,h2⟩:=ql hd.1;have⟨h3,h4⟩:=ql hd.2;rw[if_pos (by simp[hd])];have e:(10*((a.toNat:Int)-48)+((b.toNat:Int)-48)).toNat=10*(a.toNat-48)+(b.toNat-48):=by omega
   rw[e];have e1:48+(10*(a.toNat-48)+(b.toNat-48)) / 10=a.toNat:=by omega
   have e2:48+(10*(a.toNat-48)+(b.toNat-48)) % 10=b.toNat:=by omega
   simp only[two,e1,e2,UInt8.ofNat_toNat]
  omega
 |a::b::c::s=>simp[dg] at h
def QGt(s:W):dg s<100 /\ -1<=dg s:=by
 match s with
 |[]=>simp[dg]
 |[a]=>simp[dg]
 |[a,b]=>
  simp only[dg];split
  .rename_i hd;simp only[QNZ] at hd;have⟨h1,h2⟩:=ql hd.1;have⟨h3,h4⟩:=ql hd.2;omega
  omega
 |a::b::c::s=>simp[dg]
def Qnh{n:Nat}(h:n<100):dg (two n)=n:=by
 have e1:(UInt8.ofNat (48+n / 10)).toNat=48+n / 10:=by simp only[UInt8.toNat_ofNat'];omega
 have e2:(UInt8.ofNat (48+n % 10)).toNat=48+n % 10:=by simp only[UInt8.toNat_ofNat'];omega
 simp only[two,dg,QwP,e1,e2];rw[if_pos (by simp;omega)];omega
def Qu(s:W):(Int×W×Bool)×Bool:=
 if s.length<2 then((0,[],false),false)
 else if s.take 2=[46,46] then
  (if s.length=4 then((dg (s.drop 2),[],true),decide (0<=dg (s.drop 2))&&decide (dg (s.drop 2)<=40)) else((0,[],false),false))
 else((dg (s.take 2),s.drop 2,false),decide (0<=dg (s.take 2))&&decide (dg (s.take 2)<40)&&tx (s.drop 2))
def Qdw(n:Nat)(t:W)(c:Bool):W:=if c then [46,46]++two n else two n++t
@[simp] def QFn(p:Int×W×Bool):IV:=.agg [.int .i64 p.1,.str p.2.1,.bool p.2.2]
def Vt{s:W}(hp:s.take 2=[46,46])(h4:s.length=4):Qu s=((dg (s.drop 2),[],true),decide (0<=dg (s.drop 2))&&decide (dg (s.drop 2)<=40)):=by unfold Qu;rw[if_neg (by omega),if_pos hp,if_pos h4]
def JB{s:W}(h2:¬s.length<2)(hp:s.take 2=[46,46])(h4:s.length≠4):Qu s=((0,[],false),false):=by unfold Qu;rw[if_neg h2,if_pos hp,if_neg h4]
def UM{s:W}(h2:¬s.length<2)(hp:s.take 2≠[46,46]):Qu s=((dg (s.take 2),s.drop 2,false),decide (0<=dg (s.take 2))&&decide (dg (s.take 2)<40)&&tx (s.drop 2)):=by unfold Qu;rw[if_neg h2,if_neg hp]
def Vs{s:W}(h2:s.length<2):Qu s=((0,[],false),false):=by unfold Qu;rw[if_pos h2]
def W8(s:W):(Qu s).2=YE s:=by
 unfold YE;by_cases h2:s.length<2
 .have h4:s.length≠4:=by omega
  rw[Vs h2];simp[numOf,Zb,h2,h4]
 by_cases hp:s.take 2=[46,46]
 .have hd:dg (s.take 2) = -1:=by rw[hp];decide
  have hn:(numOf s).2.2=false:=by
   unfold numOf;split
   .rfl
   simp only[hd];decide
  by_cases h4:s.length=4
  .rw[Vt hp h4,hn]
   simp[Zb,h4,hp]
  rw[JB h2 hp h4,hn];simp[Zb,h4]
 rw[UM h2 hp];have hm:(Zb s).2=false:=by simp[Zb,hp]
 rw[hm];by_cases hx:tx (s.drop 2)=true
 .simp[numOf,hx,h2]
 simp[numOf,hx]
def J8{s:W}(h:YE s=true):0<=(Qu s).1.1/\(Qu s).1.1<=40/\Qdw (Qu s).1.1.toNat (Qu s).1.2.1 (Qu s).1.2.2=s:=by
 rw[<- W8] at h;by_cases h2:s.length<2
 .rw[Vs h2] at h;cases h
 .by_cases hp:s.take 2=[46,46]
  .by_cases h4:s.length=4
   .rw[Vt hp h4] at h |-
    simp only[QNZ,decide_eq_true_eq] at h;refine⟨h.1,h.2,?_⟩;simp only[Qdw,if_true,Qwv h.1];rw[<- hp,QO5]
   rw[JB h2 hp h4] at h;cases h
  .rw[UM h2 hp] at h |-
   simp only[QNZ,decide_eq_true_eq] at h;refine⟨h.1.1,by have:=h.1.2;simp only;omega,?_⟩;simp only[Qdw,QOo,if_false,Qwv h.1.1,QO5]
def Qca{l:W}(h:l.length<6):XF l=none:=by unfold XF;rw[if_pos h]
def UH{l r:W}(h:¬l.length<6)(hr:l.take (l.length-4)=r)(hf:fits l r=true):XF l=some r:=by subst hr;unfold XF;rw[if_neg h];simp only[hf,if_true]
def qZ{l r:W}(h:¬l.length<6)(hr:l.take (l.length-4)=r)(hf:fits l r=false)(hd:dg ((l.drop (l.length-4)).take 2)<0):XF l=none:=by subst hr;unfold XF;rw[if_neg h];simp only[hf,QOo,if_false,hd,if_true]
def Y4{l r:W}{want:Int}(h:¬l.length<6)(hr:l.take (l.length-4)=r)(hf:fits l r=false)(hw:dg ((l.drop (l.length-4)).take 2)=want)(hd:¬want<0):XF l=((List.range r.length).find? λi=>fits l (fix want r i)).map λi=>fix want r i:=by subst hr hw;unfold XF;rw[if_neg h];simp only[hf,QOo,if_false,hd]
def Qrb{p:Nat->Bool}{n i:Nat}(hi:i<n)(h:∀j,j<i->p j=false)(hp:p i=true):(List.range n).find? p=some i:=by rw[List.find?_range_eq_some];exact⟨hp,QOr.2 hi,λj hj=>by simp[h j hj]⟩
def QbL{p:Nat->Bool}{n:Nat}(h:∀j,j<n->p j=false):(List.range n).find? p=none:=by rw[List.find?_eq_none];intro x hx;rw[QOr] at hx;simp[h x hx]
def QeC(want:Int)(r:W)(i:Nat):0<=Qh1 want r i/\Qh1 want r i<97:=by
 unfold Qh1;generalize want-_=x;have h1:=QPe x (show(0:Int)<97 by omega);have h2: -97<x.tmod 97:=by have:=QPe (-x) (show(0:Int)<97 by omega);rw[Int.neg_tmod] at this;omega
 rw[QOy (by omega)]
 omega
def Qj4(want:Int)(r:W)(i:Nat)(h:i<r.length):(fix want r i).length=r.length:=by simp[fix];omega
include hK
def QqZ(l r:W)(hr:r.length<=1000000)(hl:l.length<=1000000):Gd K 147 [.str l,.str r] (.bool (fits l r)):=by
 apply Qb hK c147_ok (by simp);simp;apply Qd (QzC hK r hr) (by simp);by_cases h:YE r=true;rotate_left
 .simp[h,fits]
 .have hll:(-9223372036854775808:Int)<=(r.length:Int)+4/\(r.length:Int)+4<=9223372036854775807:=by omega
  by_cases hq:l.length=r.length+4
  .have hi:(l.length:Int)=(r.length:Int)+4:=by omega
   simp[h,hi];refine⟨by omega,?_⟩;have⟨h1,h2,h3⟩:=Jc h;apply Qd (QwU hK r h1 (by omega)) (by simp);simp;have:=Yf r;apply Qd (QzB hK l (QV r) (by omega) (by omega)) (by simp);simp[fits,h,hq];omega
  .have hi:¬((l.length:Int)=(r.length:Int)+4):=by omega
   simp[h,hi,fits,hq];omega
def QFS(n:Nat)(t:W)(c:Bool)(hn:n<100)(ht:t.length<=1000000):Gd K 56 [QFn ((n:Nat),t,c)] (.str (Qdw n t c)):=by
 apply Qb hK c56_ok (by simp);have la:(two n).length=2:=rfl;cases c with
 |true=>simp;apply Qd (QmY hK n hn) (by simp);simp[la,Qdw]
 |false=>simp;apply Qd (QmY hK n hn) (by simp);simp[la,Qdw];omega
def QqB(n:Nat)(t:W)(c:Bool)(hn:n<100)(h:plain (Qdw n t c))(hl:(Qdw n t c).length<=1000)(ht:t.length<=1000):Gd K 32 [QFn ((n:Nat),t,c)] (.str (QV (Qdw n t c))):=by
 apply Qb hK c32_ok (by simp);have g58:=QFS hK n t c hn (by omega);simp at g58 |-;apply Qd g58 (by simp);generalize Qdw n t c=r at *;simp;apply Qd (QwV hK r (by omega)) (by simp);simp;have e1:(S1 r).tmod 97=((S1 r % 97).toNat:Nat):=by rw[QOy (QnF h)];omega
 have e2:(S2 1 r).tmod 97=((S2 1 r % 97).toNat:Nat):=by rw[QOy (Qxk h 1)];omega
 rw[e1,e2];have el:QV r=r++two (S1 r % 97).toNat++two (S2 1 r % 97).toNat:=rfl;rw[el];have h1:(S1 r % 97).toNat<100:=by omega
 have h2:(S2 1 r % 97).toNat<100:=by omega
 generalize(S1 r % 97).toNat=a at *;generalize(S2 1 r % 97).toNat=b at *;apply Qd (QmY hK a h1) (by simp);have la:(two a).length=2:=rfl;have lb:(two b).length=2:=rfl;simp[la];refine⟨by omega,Qd (QmY hK b h2) (by simp) ?_⟩;simp[la,lb];omega
def Qq3(s:W)(h:s.length<=1000000):Gd K 142 [.str s] (.xf [QFn (Qu s).1,.bool (Qu s).2]):=by
 apply Qb hK c142_ok (by simp);by_cases h2:s.length<2
 .have hi:((s.length:Int)<2):=by omega
  rw[Vs h2];simp[hi]
 .have hi:¬((s.length:Int)<2):=by omega
  have hi':(2:Int)<=(s.length:Int):=by omega
  by_cases hp:s.take 2=[46,46]
  .by_cases h4:s.length=4
   .have hi4:((s.length-2:Nat):Int)=2:=by omega
    rw[Vt hp h4];simp[hi,hi',hp,hi4];apply Qd (Qau hK (s.drop 2) (by simp;omega)) (by simp);by_cases hd:0<=dg (s.drop 2)<;>simp[hd]
   have hi4:¬((s.length-2:Nat):Int)=2:=by omega
   rw[JB h2 hp h4];simp[hi,hi',hp,hi4]
  .rw[UM h2 hp]
   simp[hi,hi',hp];apply Qd (Qau hK (s.take 2) (by simp;omega)) (by simp);by_cases hd:0<=dg (s.take 2)
   .by_cases hd4:dg (s.take 2)<40
    .simp[hd,hd4];apply Qd (Qw1 hK (s.drop 2) (by simp;omega)) (by simp);simp
    simp[hd,hd4]
   .simp[hd]
def QFP(l:W)(hl:l.length<=10000):Gd K 63 [.str l] (.xf [.str ((XF l).getD []),.bool (XF l).isSome]):=by
 apply Qb hK c63_ok (by simp);by_cases h6:l.length<6
 .have hi:((l.length:Int)<6):=by omega
  rw[Qca h6];simp[hi]
 have hi:¬((l.length:Int)<6):=by omega
 have hn:((l.length:Int)-4).toNat=l.length-4:=by omega
 generalize hR:XF l=R;simp[hi,hn];refine⟨by omega,by omega,?_⟩;have hrl:(l.take (l.length-4)).length=l.length-4:=by simp
 generalize hr:l.take (l.length-4)=r at hrl;apply Qd (QqZ hK l r (by omega) (by omega)) (by simp);by_cases hf:fits l r=true
 .rw[UH h6 hr hf] at hR;subst hR;simp[hf]
 have hf':fits l r=false:=by simpa using hf
 have hr4:(r.length:Int)=(l.length:Int)-4:=by omega
 have e2:List.drop (l.length-4) (List.take ((((l.length-4:Nat):Int)+2)).toNat l)=(l.drop (l.length-4)).take 2:=by
  rw[show((((l.length-4:Nat):Int)+2)).toNat=(l.length-4)+2 by omega,List.drop_take]
  congr 1;omega
 simp[hf',hrl,e2];refine⟨by omega,by omega,?_⟩;generalize hwt:(l.drop (l.length-4)).take 2=wt;apply Qd (Qj1 hK wt) (by simp);by_cases hd:dg wt<0
 .rw[qZ h6 hr hf' (by rw[hwt];exact hd)] at hR;subst hR;simp[hd]
 rw[Y4 h6 hr hf' (by rw[hwt]) hd] at hR;have hwr:=QGt wt;generalize hw:dg wt=want at *;simp[hd];refine Qe (λi=>[(0,AV.iv (IV.str l)),(4,AV.iv (IV.str r)),(5,AV.iv (.int .i64 want)),(6,AV.iv (.int .i64 (i:Nat)))]) (λ_=>[]) r.length (λi=>∀j,j<i->fits l (fix want r j)=false) (by simp) ?_ ?_
 .intro hq;rw[Qa Go.Pf.c63_b0.eq_1];rw[QbL hq] at hR;subst hR;simp
 intro i hi hq ih;have hir:(i:Int)<(r.length:Int):=by omega
 rw[Qa Go.Pf.c63_b0.eq_1];have hfl:=Qj4 want r i hi;have hfr:=QeC want r i;have ht1:((i:Int)+1).toNat=i+1:=by omega
 have hlen:((r.take i)++[32]++r.drop (i+1)).length=r.length:=by simp;omega
 have hS:=Qgr ((r.take i)++[32]++r.drop (i+1));have g49:=QqY hK ((r.take i)++[32]++r.drop (i+1)) (by omega);have hfixv:Qh1 want r i=((want-(S1 ((r.take i)++[32]++r.drop (i+1))).tmod 97).tmod 97+97).tmod 97:=rfl;have hfix:fix want r i=r.take i++[UInt8.ofNat (32+Qh1 want r i).toNat]++r.drop (i+1):=rfl;generalize hs1:(S1 ((r.take i)++[32]++r.drop (i+1))).tmod 97=s1 at *
 have hs1a: -97<s1/\s1<97:=by
  rw[<- hs1]
  exact⟨by have:=QPe (-(S1 ((r.take i)++[32]++r.drop (i+1)))) (show(0:Int)<97 by omega);rw[Int.neg_tmod] at this;omega,QPe _ (by omega)⟩
 have hm: -97<(want-s1).tmod 97/\(want-s1).tmod 97<97:=⟨by have:=QPe (-(want-s1)) (show(0:Int)<97 by omega);rw[Int.neg_tmod] at this;omega,QPe _ (by omega)⟩
 have hw8:IntKind.u8.wrap (32+Qh1 want r i)=32+Qh1 want r i:=QeW (by omega) (by omega);simp[hi,hir,ht1];refine⟨by omega,by omega,⟨by omega,by omega⟩,⟨by omega,by omega⟩,by omega,?_⟩;have g49':=g49;simp at g49';apply Qd g49' (by simp);generalize(S2 1 (List.take i r++[32]++List.drop (i+1) r)).tmod 97=s2 at *;have hfix':List.take i r++UInt8.ofNat (32+Qh1 want r i).toNat::List.drop (i+1) r=fix want r i:=by rw[hfix];simp
 simp[<- hfixv,hw8,YV,ht1,hfix']
 repeat' (first|omega|apply And.intro)
 apply Qd (QqZ hK l (fix want r i) (by omega) (by omega)) (by simp);by_cases hfi:fits l (fix want r i)=true
 .rw[Qrb hi hq hfi] at hR;subst hR;simp[hfi]
 have hfi':fits l (fix want r i)=false:=by simpa using hfi
 have:=ih (λj hj=>by
  rcases QO4.1 hj with h|h
  .exact hq j h
  subst h;exact hfi')
 simp[hfi'] at this |-;exact⟨by omega,this⟩
end Go.Bk
namespace Go.Bk
open Go Go.Ev Go.Proofs Go.RowKit Go.Proofs.Tryz
variable{K:World->Prop}(hK:∀w w',K w->Below w.heap.size w w'->K w')
open Go.Pf(Gd c60_b0 c60_ok)
theorem qz:∀(a b:W),XA a b=XA b a
 |[],b=>by cases b<;>rfl
 |x::a,[]=>rfl
 |x::a,y::b=>by
  simp only[XA,qz a b];by_cases h:x=y
  .simp[h]
  simp[h,Ne.symm h]
def Qdd(a:W):XA a a=0:=by
 induction a with
 |nil=>rfl
 |cons x a ih=>simp[XA,ih]
theorem VL:∀(a b c d:W),a.length=b.length->XA (a++c) (b++d)=XA a b+XA c d
 |[],[],c,d,_=>by simp[XA]
 |x::a,y::b,c,d,h=>by simp only[QOa,XA,VL a b c d (by simpa using h)];omega
 |[],y::b,c,d,h=>by simp at h
 |x::a,[],c,d,h=>by simp at h
theorem Xz:∀(a b:W),a.length=b.length->XA a b=0->a=b
 |[],[],_,_=>rfl
 |x::a,y::b,h,hd=>by
  simp only[XA] at hd;have h1:x=y:=by
   by_cases h:x=y
   .exact h
   simp[h] at hd
  have h2:=Xz a b (by simpa using h) (by omega);rw[h1,h2]
 |[],y::b,h,_=>by simp at h
 |x::a,[],h,_=>by simp at h
def QvB(want:Int)(r:W)(i:Nat)(h:i<r.length):XA r (fix want r i)<=1:=by
 have e:r=r.take i++([r[i]]++r.drop (i+1)):=by simp
 have e2:fix want r i=r.take i++([UInt8.ofNat (32+Qh1 want r i).toNat]++r.drop (i+1)):=by simp[fix]
 rw[e2]
 conv=>lhs;arg 1;rw[e]
 rw[VL _ _ _ _ rfl,Qdd,VL [r[i]] [UInt8.ofNat (32+Qh1 want r i).toNat] _ _ rfl,Qdd];simp only[XA];split<;>omega
def Qm7{l r:W}{want:Int}{i:Nat}(h4:4<=l.length)(hr:l.take (l.length-4)=r)(hf:fits l r=false)(hi:i<r.length):fits l (fix want r i)=(YE (fix want r i)&&decide (QV (fix want r i)=fix want r i++l.drop (l.length-4))):=by
 have hrl:r.length=l.length-4:=by rw[<- hr];simp
 have hfl:=Qj4 want r i hi;have hl:l=r++l.drop (l.length-4):=by rw[<- hr];simp
 have hdl:(l.drop (l.length-4)).length=4:=by simp;omega
 generalize hq:fix want r i=q at *;have xc:QV q=q++(two (S1 q % 97).toNat++two (S2 1 q % 97).toNat):=by simp[QV]
 generalize hdd:two (S1 q % 97).toNat++two (S2 1 q % 97).toNat=dd at xc;have hddl:dd.length=4:=by rw[<- hdd];rfl
 have hdf:=QvB want r i hi;rw[hq] at hdf;by_cases hrow:YE q=true;rotate_left
 .have:YE q=false:=by simpa using hrow
  simp[fits,this]
 .have hlen:l.length=q.length+4:=by omega
  unfold fits;simp only[hrow,hlen,decide_true,Bool.true_and];rw[xc];have hd:XA l (q++dd)=XA r q+XA (l.drop (l.length-4)) dd:=by
   conv=>lhs;rw[hl]
   exact VL _ _ _ _ (by omega)
  rw[<- hlen,hd];by_cases heq:dd=l.drop (l.length-4)
  .rw[<- heq,Qdd]
   simp;exact hdf
  .have hne:¬(q++dd=q++l.drop (l.length-4)):=λe=>heq (List.append_cancel_left e);have h1:XA (l.drop (l.length-4)) dd≠0:=λe=>heq (Xz _ _ (by omega) e).symm;by_cases h2:XA r q=0
   .have hrq:=Xz _ _ hfl.symm h2;rw[hrq] at hf;have:fits l q=decide (XA l (QV q)<=1):=by unfold fits;simp only[hrow,hlen,decide_true,Bool.true_and]
    rw[this,xc,hd,h2,decide_eq_false_iff_not] at hf;simp[hne];omega
   .simp[hne];omega
def Qcb{l r:W}(h6:¬l.length<6)(hr:l.take (l.length-4)=r)(hf:fits l r=false)(hw:¬dg ((l.drop (l.length-4)).take 2)<0)(hz:dg ((l.drop (l.length-4)).drop 2)<0):XF l=none:=by
 rw[Y4 h6 hr hf rfl hw,QbL]
 .rfl
 .intro j hj;rw[Qm7 (by omega) hr hf hj]
  generalize fix _ r j=q;by_cases hrow:YE q=true
  .rw[hrow,Bool.true_and,decide_eq_false_iff_not]
   intro he;have xc:QV q=q++(two (S1 q % 97).toNat++two (S2 1 q % 97).toNat):=by simp[QV]
   rw[xc] at he;have he2:=List.append_cancel_left he;rw[<- he2] at hz;have e1:(two (S1 q % 97).toNat++two (S2 1 q % 97).toNat).drop 2=two (S2 1 q % 97).toNat:=rfl;rw[e1,Qnh (by omega)] at hz;omega
  .have:YE q=false:=by simpa using hrow
   rw[this,Bool.false_and]
def XL(l:W):Int×W×Bool:=match XF l with
 |some r=>(Qu r).1
 |none=>(0,[],false)
include hK
def QfJ(r:W)(hrow:YE r=true):Gd K 32 [QFn (Qu r).1] (.str (QV r)):=by
 have⟨q1,q2,q3⟩:=J8 hrow;have⟨h1,h2,h3⟩:=Jc hrow;generalize hP:(Qu r).1=P at *;have⟨pn,pt,pc⟩:=P;simp only at q1 q2 q3;obtain⟨m,rfl⟩:∃m:Nat,pn=m:=⟨pn.toNat,by omega⟩;rw[QPg] at q3;have htl:pt.length<=1000:=by
  have:=congrArg List.length q3;unfold Qdw at this;split at this
  .rename_i hc;have:pt=[]:=by
    have hP':=hP;unfold Qu at hP'
    repeat' (split at hP')
    all_goals (injection hP' with x1 x2;injection x2 with x2 x3)
    .exact x2.symm
    .exact x2.symm
    .exact x2.symm
    rw[<- x3] at hc;cases hc
   rw[this];simp
  simp at this;omega
 have g41:=QqB hK m pt pc (by omega) (by rw[q3];exact h1) (by rw[q3];omega) htl;rw[q3] at g41;exact g41
def k62:List AI:=[.inBlock 0,.code (.seq (.ops [⟨some 109,none,.bld [.int .i64 0,.str [],.bool false] []⟩,⟨none,none,.sto 2 3 (.t 2) (.t 109)⟩,⟨some 3,none,.xg (.bool false)⟩] false) .ret)]
def QwM(l r:W)(R:Option W)(S:Int×W×Bool)(want:Int)(hl:l.length<=10000)(h6:¬l.length<6)(hrl:r.length=l.length-4)(hr:l.take (l.length-4)=r)(hf':fits l r=false)
  (hw:dg ((l.drop (l.length-4)).take 2)=want)(hd:¬want<0)(hR:XF l=R)(hS:XL l=S):
  XJ prog K (FnF (QdT [Qbu.cell 2 3 true,Qbu.tmp 3] (.xf [.agg [.int .i64 S.1,.str S.2.1,.bool S.2.2],.bool R.isSome]))) c60_b0 [0,2,4,7,60,61] [2] k62
   [(0,.iv (.str l)),(2,.loc 2 0),(4,.iv (.str r)),(7,.iv (.int .i64 want)),(60,.iv (.int .i64 (r.length:Nat))),(61,.iv (.int .i64 0))]
   [(2,.box [.iv (.int .i64 0),.iv (.str []),.iv (.bool false)])]:=by
 rw[Y4 h6 hr hf' hw hd] at hR;have hwr:=QGt ((l.drop (l.length-4)).take 2);rw[hw] at hwr;refine Qe (λi=>[(0,AV.iv (.str l)),(2,.loc 2 0),(4,.iv (.str r)),(7,.iv (.int .i64 want)),(60,.iv (.int .i64 (r.length:Nat))),(61,.iv (.int .i64 (i:Nat)))]) (λ_=>[(2,AO.box [.iv (.int .i64 0),.iv (.str []),.iv (.bool false)])]) r.length (λi=>∀j,j<i->fits l (fix want r j)=false) (by simp) ?_ ?_
 .intro hq;rw[Qa Go.Pf.c60_b0.eq_1];rw[QbL hq] at hR;have hS':XL l=(0,[],false):=by
   unfold XL;rw[Y4 h6 hr hf' hw hd,QbL hq];rfl
  rw[hS'] at hS;subst hR hS;simp[k62]
 .intro i hi hq ih;have hir:(i:Int)<(r.length:Int):=by omega
  rw[Qa Go.Pf.c60_b0.eq_1];have hfl:=Qj4 want r i hi;have hfr:=QeC want r i;have hset:r.set i 32=r.take i++[32]++r.drop (i+1):=by rw[List.set_eq_take_append_cons_drop,if_pos hi];simp
  have hfixv:Qh1 want r i=((want-(S1 (r.set i 32)).tmod 97).tmod 97+97).tmod 97:=by rw[hset];rfl
  have hfix:r.set i (UInt8.ofNat (32+Qh1 want r i).toNat)=fix want r i:=by rw[List.set_eq_take_append_cons_drop,if_pos hi];simp[fix]
  have g59:=QwV hK (r.set i 32) (by simp;omega);generalize hs2:(S2 1 (r.set i 32)).tmod 97=s2 at *;generalize hs1:(S1 (r.set i 32)).tmod 97=s1 at *
  have hs1a: -97<s1/\s1<97:=by
   rw[<- hs1]
   exact⟨by have:=QPe (-(S1 (r.set i 32))) (show(0:Int)<97 by omega);rw[Int.neg_tmod] at this;omega,QPe _ (by omega)⟩
  have hm: -97<(want-s1).tmod 97/\(want-s1).tmod 97<97:=⟨by have:=QPe (-(want-s1)) (show(0:Int)<97 by omega);rw[Int.neg_tmod] at this;omega,QPe _ (by omega)⟩
  have hw8:IntKind.u8.wrap (Qh1 want r i)=Qh1 want r i:=QeW (by omega) (by omega);simp[hi,hir];refine⟨by omega,Qd g59 (by simp) ?_⟩;simp[hi,<- hfixv,hw8,hfix]
  repeat' (first|omega|apply And.intro)
  have g72:=Qq3 hK (fix want r i) (by omega);simp at g72;apply Qd g72 (by simp);rw[W8];have hfx:=Qm7 (want:=want) (by omega) hr hf' hi;have hdl:((r.length:Int)).toNat=l.length-4:=by omega
  have hfd:(l.drop (l.length-4)).length=4:=by simp;omega
  by_cases hrow:YE (fix want r i)=true;rotate_left
  .have hrow':YE (fix want r i)=false:=by simpa using hrow
   rw[hrow'] at hfx;simp only[Bool.false_and] at hfx
   have:=ih (λj hj=>by
    rcases QO4.1 hj with h|h
    .exact hq j h
    subst h;exact hfx)
   simp[hrow'] at this |-;exact⟨by omega,this⟩
  .have g41:=QfJ hK (fix want r i) hrow;simp at g41;simp[hrow];apply Qd g41 (by simp);simp[hrl];rw[hrow,Bool.true_and] at hfx;refine⟨by omega,λhE=>?_,λhE=>⟨by omega,?_⟩⟩
   .have hfi:fits l (fix want r i)=true:=by rw[hfx];simp[hE]
    have hfd':=Y4 h6 hr hf' hw hd;rw[Qrb hi hq hfi] at hR hfd';have hS':XL l=(Qu (fix want r i)).1:=by unfold XL;rw[hfd'];rfl
    rw[hS'] at hS;subst hR hS;simp
   .have:=ih (λj hj=>by
     rcases QO4.1 hj with h|h
     .exact hq j h
     subst h;rw[hfx];simp[hE])
    simp[hrl] at this;exact this
def QFQ(l:W)(hl:l.length<=10000):Gd K 60 [.str l] (.xf [QFn (XL l),.bool (XF l).isSome]):=by
 apply Qb hK c60_ok (by simp);by_cases h6:l.length<6
 .have hi:((l.length:Int)<6):=by omega
  have e:=Qca h6;simp[hi,XL,e]
 have hi:¬((l.length:Int)<6):=by omega
 have hn:((l.length:Int)-4).toNat=l.length-4:=by omega
 generalize hR:XF l=R;generalize hS:XL l=S;simp[hi,hn];refine⟨by omega,by omega,?_⟩;have hrl:(l.take (l.length-4)).length=l.length-4:=by simp
 generalize hr:l.take (l.length-4)=r at hrl;have g72:=Qq3 hK r (by omega);simp at g72;apply Qd g72 (by simp);rw[W8]
 have e2:List.drop r.length (List.take ((r.length:Int)+2).toNat l)=(l.drop (l.length-4)).take 2:=by
  rw[show((r.length:Int)+2).toNat=(l.length-4)+2 by omega,hrl,List.drop_take]
  congr 1;omega
 have e3:List.drop ((r.length:Int)+2).toNat l=(l.drop (l.length-4)).drop 2:=by rw[show((r.length:Int)+2).toNat=(l.length-4)+2 by omega,List.drop_drop]
 have xc:=Yf r;by_cases hf:fits l r=true
 .have hrow:YE r=true:=by
   simp only[fits,QNZ] at hf;exact hf.1.1
  have hdf:XA (QV r) l<=1:=by simp only[fits,QNZ,decide_eq_true_eq] at hf;rw[qz];exact hf.2
  rw[UH h6 hr hf] at hR;have hS':XL l=(Qu r).1:=by unfold XL;rw[UH h6 hr hf]
  rw[hS'] at hS;subst hR hS;have g41:=QfJ hK r hrow;simp at g41;simp[hrow];apply Qd g41 (by simp);simp;apply Qd (Qq2 hK (QV r) l (by omega) (by omega)) (by simp);have hdi:((XA (QV r) l:Nat):Int)<=1:=by omega
  simp[hdi]
 have hf':fits l r=false:=by simpa using hf
 have hwl:((l.drop (l.length-4)).take 2).length=2:=by simp;omega
 have hzl:((l.drop (l.length-4)).drop 2).length=2:=by simp;omega
 generalize hwt:(l.drop (l.length-4)).take 2=wt at *;generalize hzt:(l.drop (l.length-4)).drop 2=zt at *;by_cases hrow:YE r=true
 .have hdi:¬((XA (QV r) l:Nat):Int)<=1:=by
   have hlen:l.length=r.length+4:=by omega
   have:fits l r=decide (XA l (QV r)<=1):=by unfold fits;simp only[hrow,hlen,decide_true,Bool.true_and]
   rw[this,decide_eq_false_iff_not,qz] at hf';omega
  have g41:=QfJ hK r hrow;simp at g41;simp[hrow];apply Qd g41 (by simp);simp;apply Qd (Qq2 hK (QV r) l (by omega) (by omega)) (by simp);simp[hdi,e2,e3];refine⟨by omega,by omega,Qd (Qau hK wt hwl) (by simp) ?_⟩;simp[e3];refine⟨by omega,by omega,Qd (Qau hK zt hzl) (by simp) ?_⟩;simp;refine⟨λh0=>⟨λhz=>?_,λ_=>QwM hK l r R S (dg wt) hl h6 hrl hr hf' (by rw[hwt]) (by omega) hR hS⟩,λhneg=>?_⟩
  .have e:=Qcb h6 hr hf' (by rw[hwt];omega) (by rw[hzt];exact hz);have hS':XL l=(0,[],false):=by unfold XL;rw[e]
   rw[e] at hR;rw[hS'] at hS;subst hR hS;simp
  have e:=qZ h6 hr hf' (by rw[hwt];exact hneg);have hS':XL l=(0,[],false):=by unfold XL;rw[e]
  rw[e] at hR;rw[hS'] at hS;subst hR hS;simp
 simp[hrow,e2];refine⟨by omega,by omega,Qd (Qau hK wt hwl) (by simp) ?_⟩;simp[e3];refine⟨by omega,by omega,Qd (Qau hK zt hzl) (by simp) ?_⟩;simp;refine⟨λh0=>⟨λhz=>?_,λ_=>QwM hK l r R S (dg wt) hl h6 hrl hr hf' (by rw[hwt]) (by omega) hR hS⟩,λhneg=>?_⟩
 .have e:=Qcb h6 hr hf' (by rw[hwt];omega) (by rw[hzt];exact hz);have hS':XL l=(0,[],false):=by unfold XL;rw[e]
  rw[e] at hR;rw[hS'] at hS;subst hR hS;simp
 have e:=qZ h6 hr hf' (by rw[hwt];exact hneg);have hS':XL l=(0,[],false):=by unfold XL;rw[e]
 rw[e] at hR;rw[hS'] at hS;subst hR hS;simp
end Go.Bk
namespace Go.Bk
open Go Go.Ev Go.Proofs Go.RowKit Go.Proofs.Tryz
variable{K:World->Prop}(hK:∀w w',K w->Below w.heap.size w w'->K w')
open Go.Pf(Gd c12_ok c141_ok c145_ok c146_ok c17_ok c18_ok c238_ok c239_ok c240_ok c29_ok c30_ok c317_ok c321_ok c4_ok c55_ok c5_ok)
def total(l:List W):Nat:=(l.map λs=>s.length+1).sum
def large(l:List W):Bool:=decide (5000<total l)
def crowded(s:W):Bool:=decide (90<s.count 10)
def QnN(l:List W)(i:Nat)(h:i<l.length):total (l.take (i+1))=total (l.take i)+(l[i].length+1):=by rw[QNW h];simp only[total,QOd,List.sum_append,QOk,List.map_nil,List.sum_cons,List.sum_nil,QPd]
def Qtt(l:List W)(i:Nat):total (l.take i)<=total l:=by
 conv=>rhs;rw[<- QO5 i l]
 simp only[total,QOd,List.sum_append];omega
def YC(a:List W×W)(c:UInt8):List W×W:=if c=10 then(a.1++[a.2],[]) else(a.1,a.2++[c])
def lns(s:W):List W×W:=s.foldl YC ([],[])
def qf(s:W)(c:UInt8):lns (s++[c])=YC (lns s) c:=by simp[lns]
def QtU(s:W)(i:Nat)(h:i<s.length):lns (s.take (i+1))=YC (lns (s.take i)) s[i]:=by rw[QNW h,qf]
def QtV(s:W):(lns s).2.length<=s.length/\s.drop (s.length-(lns s).2.length)=(lns s).2:=by
 have:∀(n:Nat)(s:W),s.length=n->(lns s).2.length<=s.length/\s.drop (s.length-(lns s).2.length)=(lns s).2:=by
  intro n;induction n with
  |zero=>intro s h;have:s=[]:=QN4 h;subst this;simp[lns]
  |succ n ih=>
   intro s h;have hs:s=s.take n++[s[n]]:=by have:=QNW (l:=s) (i:=n) (by omega);rw[<- this,QN1 (by omega)]
   obtain⟨h1,h2⟩:=ih (s.take n) (by simp;omega);have hl:(s.take n).length=n:=by simp;omega
   rw[hl] at h1 h2;generalize s[n]=c at hs;generalize s.take n=t at *;subst hs;rw[qf];unfold YC;split
   .simp
   simp only[QOf,List.length_singleton];refine⟨by omega,?_⟩;rw[hl,List.drop_append_of_le_length (by omega)]
   have:n+1-((lns t).2.length+1)=n-(lns t).2.length:=by omega
   rw[this,h2]
 exact this _ s rfl
def Qp0(s:W):(lns s).1.length=s.count 10/\(lns s).1.length<=s.length:=by
 have:∀(n:Nat)(s:W),s.length=n->(lns s).1.length=s.count 10:=by
  intro n;induction n with
  |zero=>intro s h;have:s=[]:=QN4 h;subst this;simp[lns]
  |succ n ih=>
   intro s h;have hs:s=s.take n++[s[n]]:=by have:=QNW (l:=s) (i:=n) (by omega);rw[<- this,QN1 (by omega)]
   have h1:=ih (s.take n) (by simp;omega);generalize s[n]=c at hs;generalize s.take n=t at *;subst hs;rw[qf,List.count_append];unfold YC;split
   .rename_i hc;subst hc;simp[h1]
   rename_i hc;simp[h1,hc]
 exact⟨this _ s rfl,by rw[this _ s rfl];exact List.count_le_length⟩
def Wd(b:W):Option (List W):=if b.getLast?=some 10 then some (lns b).1 else none
def Qbi{α:Type}(p:α->Bool):List α->Nat->Int
 |[],_=>-1
 |a::r,k=>if p a then k else Qbi p r (k+1)
theorem QbE{α:Type}(p:α->Bool):∀(l:List α)(k:Nat),decide (0<=Qbi p l k)=l.any p
 |[],k=>by simp[Qbi]
 |a::r,k=>by
  simp only[Qbi,List.any_cons];by_cases h:p a=true
  .simp[h]
  have h':p a=false:=by simpa using h
  simp[h',<- QbE p r (k+1)]
def QvH:callee prog 30=true:=by unfold callee;rw[func30];rfl
include hK
def good4(l:List W)(h:∀s∈l,s.length<=1000000000000000):Gd K 4 [strs l] (.bool (large l)):=by
 apply Qb hK c4_ok (by simp);simp;refine Zz (λi=>[(0,AV.iv (strs l)),(3,AV.iv (.int .i64 (total (l.take i):Nat))),(4,AV.iv (.int .i64 (i:Nat)))]) (λ_=>[]) l.length ?_ ?_
 .rw[Qa Go.Pf.c4_b0.eq_1]
  simp[large];omega
 .intro i hi ih;rw[Qa Go.Pf.c4_b0.eq_1];have e:=QnN l i hi;have hb:=h l[i] (QN0 hi);have ht:=Qtt l i;rw[e] at ih;by_cases hc:total (l.take i)<=5000
  .have hci:((total (l.take i):Nat):Int)<=5000:=by omega
   simp[hi,hci] at ih |-;intro _;have e3:((total (l.take i):Nat):Int)+((l[i].length:Int)+1)=(total (l.take i):Int)+(l[i].length:Int)+1:=by omega
   repeat' (first|omega|assumption|apply And.intro)
  .have hci:¬((total (l.take i):Nat):Int)<=5000:=by omega
   simp[hi,hci,large];omega
def Qq4(l m:List W):Gd K 12 [strs l,strs m] (.bool (decide (l=m))):=by
 apply Qb hK c12_ok (by simp);simp;intro hl hm;refine⟨λe c=>e (by rw[c]),λe=>?_⟩;have e:l.length=m.length:=by omega
 refine Qe (λi=>[(0,AV.iv (strs l)),(1,AV.iv (strs m)),(5,AV.iv (.int .i64 (i:Nat)))]) (λ_=>[]) l.length (λi=>l.take i=m.take i) (by simp) ?_ ?_
 .intro h;rw[Qa Go.Pf.c12_b0.eq_1];simp at h |-;intro _;rw[e,QN5] at h;exact h
 .intro i hi h ih;have hi':i<m.length:=by omega
  rw[Qa Go.Pf.c12_b0.eq_1];simp[hi,hi'] at h ih |-;intro _;refine⟨λe c=>e (by subst c;rfl),λe=>⟨by omega,ih ?_⟩⟩;rw[QNW hi,QNW hi',h,e]
def Qw3(l m:List Int):Gd K 17 [Qq l,Qq m] (.bool (decide (l=m))):=by
 apply Qb hK c17_ok (by simp);simp;intro hl hm;refine⟨λe c=>e (by rw[c]),λe=>?_⟩;have e:l.length=m.length:=by omega
 refine Qe (λi=>[(0,AV.iv (Qq l)),(1,AV.iv (Qq m)),(5,AV.iv (.int .i64 (i:Nat)))]) (λ_=>[]) l.length (λi=>l.take i=m.take i) (by simp) ?_ ?_
 .intro h;rw[Qa Go.Pf.c17_b0.eq_1];simp at h |-;intro _;rw[e,QN5] at h;exact h
 .intro i hi h ih;have hi':i<m.length:=by omega
  rw[Qa Go.Pf.c17_b0.eq_1];simp[hi,hi'] at h ih |-;intro _;refine⟨λe c=>e (by subst c;rfl),λe=>⟨by omega,ih ?_⟩⟩;rw[QNW hi,QNW hi',h,e]
def QfK(l:List Int)(n:Int):Gd K 321 [Qq l,.int .i64 n] (.bool (decide (n∈l))):=by
 apply Qb hK c321_ok (by simp);simp;refine Qe (λi=>[(0,AV.iv (Qq l)),(1,AV.iv (.int .i64 n)),(5,AV.iv (.int .i64 (i:Nat)))]) (λ_=>[]) l.length (λi=>n∉l.take i) (by simp) ?_ ?_
 .intro h;rw[Qa Go.Pf.c321_b0.eq_1];simp at h |-;exact λ_=>h
 .intro i hi h ih;rw[Qa Go.Pf.c321_b0.eq_1];simp[hi] at h ih |-;refine λhl=>⟨λe=>e▸QN0 hi,λe=>⟨by omega,ih ?_⟩⟩;rw[QNW hi];simp only[QOc,QOu,not_or];exact⟨h,λc=>e c.symm⟩
def good5(s:W)(hs:s.length<=1000000):Gd K 5 [.str s] (.bool (crowded s)):=by
 apply Qb hK c5_ok (by simp);simp;refine Zz (λi=>[(0,AV.iv (.str s)),(3,AV.iv (.int .i64 ((s.take i).count 10:Nat))),(4,AV.iv (.int .i64 (i:Nat)))]) (λ_=>[]) s.length ?_ ?_
 .rw[Qa Go.Pf.c5_b0.eq_1]
  simp[crowded];omega
 .intro i hi ih;rw[Qa Go.Pf.c5_b0.eq_1];have hle:=List.count_le_length (a:=(10:UInt8)) (l:=s.take i);rw[QPj] at hle;have hne:=Qmh s[i] 10;rw[QNW hi,List.count_append] at ih;by_cases hc:s[i]=10
  .simp[hi,hc] at ih |-
   repeat' first|omega|assumption|intro _|apply And.intro
  .have hc':¬((s[i].toNat:Int)=10):=λe=>hc (UInt8.toNat_inj.1 (by have:(10:UInt8).toNat=10:=rfl;omega));simp[hi,hc,hc'] at ih |-
   repeat' first|omega|assumption|intro _|apply And.intro
def Qtj(l:List W):Int:=if 40<l.length then 2 else if l.all tx then 0 else 1
def QGd(b:W)(hb:b.length<=1000000):Gd K 18 [.str b] (.xf [strs ((Wd b).getD []),.bool (Wd b).isSome]):=by
 apply Qb hK c18_ok (by simp);by_cases h0:b.length=0
 .have:b=[]:=QN4 h0;subst this;simp[Wd]
 .have hi0:¬((b.length:Int)=0):=by omega
  have y9:b.length-1<b.length:=by omega
  have hne:b≠[]:=λe=>h0 (by rw[e];rfl);have hn:((b.length:Int)-1).toNat=b.length-1:=by omega
  have hlast:b.getLast?=some b[b.length-1]:=by rw[List.getLast?_eq_getElem?,QNX y9]
  by_cases hc:b[b.length-1]=10;rotate_left
  .have hci:¬((b[b.length-1].toNat:Int)=10):=λe=>hc (UInt8.toNat_inj.1 (by have:(10:UInt8).toNat=10:=rfl;omega));have hcut:Wd b=none:=by
    unfold Wd;rw[hlast,if_neg];intro e;injection e with e;exact hc e
   rw[hcut];simp[hne,hn,y9,hci];omega
  .have hci:((b[b.length-1].toNat:Int)=10):=by rw[hc];rfl
   have hcut:Wd b=some (lns b).1:=by unfold Wd;rw[hlast,hc];rfl
   rw[hcut];simp[hne,hn,y9,hci];refine⟨by omega,by omega,?_⟩;refine Zz (λi=>[(0,AV.iv (.str b)),(4,AV.yl 4 (lns (b.take i)).1.length),(5,AV.iv (.int .i64 ((i-(lns (b.take i)).2.length:Nat):Int))),(6,AV.iv (.int .i64 (i:Nat)))]) (λi=>[(4,AO.arr 9 1 (emb ((lns (b.take i)).1.map λs=>[.str s])) 0)]) b.length ?_ ?_
   .rw[Qa Go.Pf.c18_b0.eq_1]
    simp
   .intro i hi ih;rw[Qa Go.Pf.c18_b0.eq_1];have hst:=QtU b i hi;have⟨r1,r2⟩:=QtV (b.take i);have⟨_,r3⟩:=Qp0 (b.take i);have htl:(b.take i).length=i:=by simp;omega
    rw[htl] at r1 r2 r3;generalize lns (b.take i)=P at *;have⟨A,r⟩:=P;simp only at r1 r2 r3;rw[hst] at ih;by_cases hbi:b[i]=10
    .have hbii:((b[i].toNat:Int)=10):=by rw[hbi];rfl
     have e:YC (A,r) b[i]=(A++[r],[]):=by simp[YC,hbi]
     rw[e] at ih;simp[hi,hbii,r2] at ih |-
     repeat' (first|omega|assumption|apply And.intro)
    .have hbii:¬((b[i].toNat:Int)=10):=λe=>hbi (UInt8.toNat_inj.1 (by have:(10:UInt8).toNat=10:=rfl;omega));have e:YC (A,r) b[i]=(A,r++[b[i]]):=by simp[YC,hbi]
     rw[e] at ih;have e5:i+1-(r.length+1)=i-r.length:=by omega
     simp[hi,hbii,e5] at ih |-
     repeat' (first|omega|assumption|apply And.intro)
def Qy6(s t:W)(hs:s.length<=1000000)(ht:t.length<=1000000):Gd K 317 [.str s,.str t] (.bool (decide (t.length<=s.length)&&decide (s.drop (s.length-t.length)=t))):=by
 apply Qb hK c317_ok (by simp);by_cases h:t.length<=s.length
 .have hi:(t.length:Int)<=s.length:=by omega
  have hn:((s.length:Int)-(t.length:Int)).toNat=s.length-t.length:=by omega
  have hx:s.take s.length=s:=QN5;simp[hi,h,hn]
  repeat' (first|omega|apply And.intro)
 .have hi:¬(t.length:Int)<=s.length:=by omega
  simp[hi,h]
def QzF(s:W)(hs:s.length<=1000000):Gd K 238 [.str s,.str [10]] (.xf [.str (if s.getLast?=some 10 then s.dropLast else s),.bool (decide (s.getLast?=some 10))]):=by
 apply Qb hK c238_ok (by simp);simp;apply Qd (Qy6 hK s [10] hs (by simp)) (by simp);rcases List.eq_nil_or_concat s with rfl|⟨t,c,rfl⟩
 .simp
 .have hn:(((t.length:Int)+1-1)).toNat=t.length:=by omega
  by_cases hc:c=10
  .simp[hc];simp at hs;omega
  .simp[hc]
def QAl(s:W)(hs:s.length<=1000000):Gd K 141 [.str s,.str [10]] (.xf [.str (if s.getLast?=some 10 then s.dropLast else s),.bool (decide (s.getLast?=some 10))]):=by apply Qb hK c141_ok (by simp);simp;apply Qd (QzF hK s hs) (by simp);simp
def QzE(l:List Int)(n:Int):Gd K 239 [Qq l,.int .i64 n] (.int .i64 (Qbi (·==n) l 0)):=by
 apply Qb hK c239_ok (by simp);generalize hR:Qbi (·==n) l 0=R;simp;intro hl;refine Qe (λi=>[(0,AV.iv (Qq l)),(1,AV.iv (.int .i64 n)),(7,AV.iv (.int .i64 (l.length:Nat))),(8,AV.iv (.int .i64 (i:Nat)))]) (λ_=>[]) l.length (λi=>Qbi (·==n) (l.drop i) i=R) (by simpa using hR) ?_ ?_
 .intro hq;rw[Qa Go.Pf.c239_b0.eq_1];rw[List.drop_length] at hq;simp[<- hq,Qbi]
 .intro i hi hq ih;rw[Qa Go.Pf.c239_b0.eq_1];rw[QOq hi] at hq;by_cases hc:n=l[i]
  .have:R=i:=by rw[<- hq];simp[Qbi,hc]
   subst this;simp[hi,hc]
  .have hc':¬l[i]=n:=λe=>hc e.symm;have:=ih (by rw[<- hq];simp[Qbi,hc']);simp[hi,hc] at this |-;exact⟨by omega,this⟩
def QzD(l:List W)(n:W):Gd K 240 [strs l,.str n] (.int .i64 (Qbi (·==n) l 0)):=by
 apply Qb hK c240_ok (by simp);generalize hR:Qbi (·==n) l 0=R;simp;intro hl;refine Qe (λi=>[(0,AV.iv (strs l)),(1,AV.iv (.str n)),(7,AV.iv (.int .i64 (l.length:Nat))),(8,AV.iv (.int .i64 (i:Nat)))]) (λ_=>[]) l.length (λi=>Qbi (·==n) (l.drop i) i=R) (by simpa using hR) ?_ ?_
 .intro hq;rw[Qa Go.Pf.c240_b0.eq_1];rw[List.drop_length] at hq;simp[<- hq,Qbi]
 .intro i hi hq ih;rw[Qa Go.Pf.c240_b0.eq_1];rw[QOq hi] at hq;by_cases hc:n=l[i]
  .have:R=i:=by rw[<- hq];simp[Qbi,hc]
   subst this;simp[hi,hc]
  .have hc':¬l[i]=n:=λe=>hc e.symm;have:=ih (by rw[<- hq];simp[Qbi,hc']);simp[hi,hc] at this |-;exact⟨by omega,this⟩
def Qq1(l:List Int)(n:Int):Gd K 145 [Qq l,.int .i64 n] (.bool (l.any (·==n))):=by
 apply Qb hK c145_ok (by simp);have g:=QzE hK l n;rw[<- QbE _ l 0];generalize Qbi (·==n) l 0=R at *
 simp at g |-;apply Qd g (by simp);simp
def Qq0(l:List W)(n:W):Gd K 146 [strs l,.str n] (.bool (l.any (·==n))):=by
 apply Qb hK c146_ok (by simp);have g:=QzD hK l n;rw[<- QbE _ l 0];generalize Qbi (·==n) l 0=R at *
 simp at g |-;apply Qd g (by simp);simp
def QF5(s:W)(hs:s.length<=1000000):Gd K 30 [.str s] (.bool (!tx s)):=by apply Qb hK c30_ok (by simp);simp;apply Qd (Qw1 hK s hs) (by simp);simp
def QFT(l:List W)(h:∀s∈l,s.length<=1000000):Gd K 55 [strs l,.fn 30] (.int .i64 (Qbi (λs=>!tx s) l 0)):=by
 apply Qb hK c55_ok (by simp);generalize hR:Qbi (λs=>!tx s) l 0=R;simp;intro hl;refine Qe (λi=>[(0,AV.iv (strs l)),(1,AV.iv (.fn 30)),(7,AV.iv (.int .i64 (l.length:Nat))),(8,AV.iv (.int .i64 (i:Nat)))]) (λ_=>[]) l.length (λi=>Qbi (λs=>!tx s) (l.drop i) i=R) (by simpa using hR) ?_ ?_
 .intro hq;rw[Qa Go.Pf.c55_b0.eq_1];rw[List.drop_length] at hq;simp[<- hq,Qbi]
 .intro i hi hq ih;rw[Qa Go.Pf.c55_b0.eq_1];rw[QOq hi] at hq;simp[hi];refine⟨QvH,Qd (QF5 hK l[i] (h _ (QN0 hi))) (by simp) ?_⟩;by_cases hx:tx l[i]=true
  .have:=ih (by rw[<- hq];simp[Qbi,hx]);simp[hx] at this |-;exact⟨by omega,this⟩
  .have hx':tx l[i]=false:=by simpa using hx
   have:R=i:=by rw[<- hq];simp[Qbi,hx']
   subst this;simp[hx']
def QF6(l:List W)(h:∀s∈l,s.length<=1000000):Gd K 29 [strs l,.fn 30] (.bool (!l.all tx)):=by
 apply Qb hK c29_ok (by simp);have g:=QFT hK l h;have e2:(!l.all tx)=l.any λs=>!tx s:=List.not_all_eq_any_not;rw[e2,<- QbE _ l 0];generalize Qbi (λs=>!tx s) l 0=R at *
 simp at g |-;apply Qd g (by simp);simp
end Go.Bk
namespace Go.Bk
open Go Go.Ev Go.Proofs Go.RowKit Go.Proofs.Tryz
variable{K:World->Prop}(hK:∀w w',K w->Below w.heap.size w w'->K w')
open Go.Pf(Gd c59_ok c61_ok c62_ok)
def spl:W->List W
 |[]=>[[]]
 |c::s=>if c=10 then []::spl s else(c::(spl s).headD [])::(spl s).tail
def Qd3(s:W):spl s≠[]:=by
 cases s with
 |nil=>simp[spl]
 |cons c s=>unfold spl;split<;>simp
def QtW(s:W):∀(A:List W)(r:W),(s.foldl YC (A,r)).1++[(s.foldl YC (A,r)).2]=A++(r++(spl s).headD [])::(spl s).tail:=by
 induction s with
 |nil=>intro A r;simp[spl]
 |cons c s ih=>
  intro A r;rw[QOP];by_cases hc:c=10
  .have e:YC (A,r) c=(A++[r],[]):=by simp[YC,hc]
   have e2:spl (c::s)=[]::spl s:=by simp[spl,hc]
   rw[e,e2,ih];have:=Qd3 s;cases h:spl s with
   |nil=>exact absurd h this
   |cons a l=>simp
  have e:YC (A,r) c=(A,r++[c]):=by simp[YC,hc]
  have e2:spl (c::s)=(c::(spl s).headD [])::(spl s).tail:=by simp[spl,hc]
  rw[e,e2,ih];simp
def Qya(s:W):(lns s).1++[(lns s).2]=spl s:=by
 unfold lns;rw[QtW];have:=Qd3 s;cases h:spl s with
 |nil=>exact absurd h this
 |cons a l=>simp
def QAV(t:W):(lns (t++[10])).1=spl t:=by rw[qf,<- Qya];simp[YC]
include hK
def QFR(hS:∀s:W,s.length<=1000000->Gd K 139 [.str s,.str [10]] (strs (spl s)))(b:W)(hb:b.length<=1000000):Gd K 59 [.str b] (.xf [strs ((Wd b).getD []),.bool (Wd b).isSome]):=by
 apply Qb hK c59_ok (by simp);simp;apply Qd (QAl hK b hb) (by simp);rcases List.eq_nil_or_concat b with rfl|⟨t,c,rfl⟩
 .simp[Wd]
 .by_cases hc:c=10
  .have e:Wd (t++[c])=some (spl t):=by unfold Wd;rw[hc,QAV];simp
   simp at hb;have hS':=hS t (by omega);simp[hc] at hS' e |-;apply Qd hS' (by simp);simp[e]
  .have e:Wd (t++[c])=none:=by unfold Wd;simp[hc]
   simp[hc] at e |-;simp[e]
def YI{α:Type}[BEq α](l:List α)(x:α):List α:=if l.any (·==x) then l else l++[x]
def Qyn(l:List Int)(x:Int)(hl:l.length<=1000000):QaG prog K 61 3 1 (l.map λn=>[.int .i64 n]) [.int .i64 x] ((YI l x).map λn=>[.int .i64 n]):=by
 unfold YI;cases h:l.any (·==x) with
 |true=>refine Qey λv0=>?_;have hK':=QEA.stay (sz:=1) (rows:=l.map λn=>[.int .i64 n]) (v0:=v0) hK;apply Qb hK' c61_ok (by simp);have g:=Ev.good_row (v0:=v0) (Qq1 hK l x) rfl;rw[h] at g;simp;apply Qd g (by simp[Zh]);simp
 |false=>apply QcT 4 c61_ok (by simp) rfl (by simp);have g:=Qq1 hK l x;rw[h] at g;rw[Qmt];simp;apply Qd g (by simp[Zh]);simp;refine⟨⟨by omega,by omega⟩,by simp,rfl,rfl,rfl⟩
def Qym(l:List W)(x:W)(hl:l.length<=1000000):QaG prog K 62 9 1 (l.map λn=>[.str n]) [.str x] ((YI l x).map λn=>[.str n]):=by
 unfold YI;cases h:l.any (·==x) with
 |true=>refine Qey λv0=>?_;have hK':=QEA.stay (sz:=1) (rows:=l.map λn=>[.str n]) (v0:=v0) hK;apply Qb hK' c62_ok (by simp);have g:=Ev.good_row (v0:=v0) (Qq0 hK l x) rfl;rw[h] at g;simp;apply Qd g (by simp[Zh]);simp
 |false=>apply QcT 4 c62_ok (by simp) rfl (by simp);have g:=Qq0 hK l x;rw[h] at g;rw[Qmt];simp;apply Qd g (by simp[Zh]);simp;refine⟨⟨by omega,by omega⟩,by simp,rfl,rfl,rfl⟩
end Go.Bk
namespace Go.Bk
open Go Go.Ev Go.Proofs Go.RowKit Go.Proofs.Tryz
def Qwz(s:W):spl (10::s)=[]::spl s:=by simp[spl]
def UC(c:UInt8)(s:W)(h:c≠10):spl (c::s)=(c::(spl s).headD [])::(spl s).tail:=by simp[spl,h]
theorem splitK_spl:∀s:W,Lib.splitK [10] 0 (Lib.count s [10]) s=spl s
 |[]=>by
  rw[Lib.count_miss (by simp[Lib.index])]
  rfl
 |c::s=>by
  have ih:=splitK_spl s;by_cases h:c=10
  .subst h;have hix:Lib.index ((10:UInt8)::s) [10]=0:=by rw[Lib.index];simp[List.isPrefixOf]
   rw[Lib.count_cons_eq,Nat.add_comm,Lib.splitK,hix,Qwz,<- ih];simp
  .rw[Lib.count_cons_ne c 10 s h,UC c s h,<- ih]
   have hp:([10]:List UInt8).isPrefixOf (c::s)=false:=by simp[List.isPrefixOf,Ne.symm h]
   have hix:Lib.index (c::s) [10]=if Lib.index s [10] == -1 then -1 else Lib.index s [10]+1:=by rw[Lib.index,hp];simp
   cases hk:Lib.count s [10] with
   |zero=>simp[Lib.splitK]
   |succ k=>
    have hm:¬Lib.index s [10] = -1:=λe=>by rw[Lib.count_miss e] at hk;cases hk
    have hge:=Lib.index_ge s [10];obtain⟨j,hj⟩:∃j:Nat,Lib.index s [10]=j:=⟨(Lib.index s [10]).toNat,by omega⟩;have h1:¬((j:Int) == -1)=true:=by simp
    have h2:¬((j:Int)+1 == -1)=true:=by simp;omega
    have h3:((j:Int)+1).toNat=j+1:=by omega
    simp only[Lib.splitK,hix,hj,if_neg h1,if_neg h2,h3,QPg];simp
theorem spl_len:∀s:W,(spl s).length<=s.length+1
 |[]=>by simp[spl]
 |c::s=>by
  have ih:=spl_len s;by_cases h:c=10
  .subst h;rw[Qwz];simp;exact ih
  .rw[UC c s h];simp;omega
end Go.Bk
namespace Go.Pf
open Go Go.Ev Go.Proofs Go.RowKit Go.Proofs.Tryz
def hSB(s:Txt)(hs:s.length<=1000000):Gd KW 139 [.str s,.str [10]] (Bk.strs (Bk.spl s)):=by
 intro w ok vs hk hok hl hx;obtain⟨v0,v1,rfl⟩:∃v0 v1,vs=[v0,v1]:=by
  match vs,hl with
  |[a,b],_=>grind
 have r0:=hx 0 _ v0 rfl rfl;have r1:=hx 1 _ v1 rfl rfl;cases r0;cases r1;have:=Any.strings_Split_shaped Tryz.laysM146 ⟨s.toArray⟩ ⟨[10].toArray⟩ w hk.shaped (by simp[ByteArray.size];omega) (by simp[ByteArray.size]);refine this.mono λe w' ⟨he,hw⟩=>?_;subst he hw;have hb:=QF w (.cells ((Lib.splitB ⟨[10].toArray⟩ 0 (Lib.countB ⟨s.toArray⟩ ⟨[10].toArray⟩) ⟨s.toArray⟩).map Value.string).toArray (Tryz.laysM146_ren.t 9));have hd:(Lib.splitB ⟨[10].toArray⟩ 0 (Lib.countB ⟨s.toArray⟩ ⟨[10].toArray⟩) ⟨s.toArray⟩).map (·.data.toList)=Bk.spl s:=by rw[Lib.splitB_data];exact Bk.splitK_spl s
 have hlen:=Lib.splitB_all ⟨[10].toArray⟩ (by simp[ByteArray.size]) 0 _ ⟨s.toArray⟩ rfl;generalize Lib.countB ⟨s.toArray⟩ ⟨[10].toArray⟩=n at *;generalize Lib.splitB ⟨[10].toArray⟩ 0 n ⟨s.toArray⟩=L at *;refine⟨_,rfl,?_,hb⟩;have hl2:(Bk.spl s).length=n+1:=by grind
 have hnl:n+1<=maxLen:=by have:=Bk.spl_len s;simp only[maxLen];omega
 have rep:=QZ.sl (ok:=ok) (w:=w.alloc (.cells (L.map Value.string).toArray (Tryz.laysM146_ren.t 9))) 1 ((Bk.spl s).map λs=>[IV.str s]) w.heap.size 0 (n+1) (λk=>.string (L.getD k default)) (by simp[hl2]) hnl (by simp) (λk hk=>?_) (λi j c x hi hj=>?_)
 .simpa[hl2] using rep
 .simp[hl2] at hk;have hkl:k<L.length:=by omega
  refine⟨hok _ (QN3 _),?_,rfl⟩;rw[QOn];exact Ys w _ _ k _ (by simp[hkl])
 .simp only[QN6,QN2] at hi;obtain⟨t,ht,rfl⟩:=hi;have hj0:j=0:=by
   grind
  subst hj0;simp at hj;subst hj;rw[<- hd,QN6,QN2] at ht;obtain⟨z,hz,rfl⟩:=ht;have e:L.getD (i*1+0) default=z:=by simp[hz]
  rw[e];have:=QZ.str (ok:=ok) (w:=w.alloc (.cells (L.map Value.string).toArray (Tryz.laysM146_ren.t 9))) z.data.toList;simpa using this
end Go.Pf
namespace Go.Proofs
open Go.Shelf Go.RowKit Go.Lib
variable{P:Program}{ρ:Ren}
set_option maxHeartbeats 2000000 in
theorem QoK(L:SlLaysE0.n41 P ρ)(i0:TypeInfo)(z:Value)(size bytes:Nat)(hi:P.info? (ρ.t 23)=some i0)(hz0:i0.zero=some z)(hz1:i0.size=size)(hz2:i0.bytes=bytes)(hzs:z.cells.size=size)(hsz:0<size)
  (z23:∀w,(Go.sizeOf (ρ.t 23)).run P w=.ok size w)(a:Addr)(c:Nat)(w:World):
  Calls P (ρ.f 41) #[.slice (some a) 0 c] w λe w'=>∃v',e=.returned v'/\w'.ownsRow w.heap.size (ρ.t 23) size v' 0 []/\Below w.heap.size w w':=by
 have mixed:=L.mixed;have t4:=L.t4;have a4:=L.a4;have z4:=L.z4;have v4:=L.v4;have t22:=L.t22;have a22:=L.a22;have z22:=L.z22;have v22:=L.v22;have q22:∀(w:World)(a:Option Addr)(n c n' c':Nat),(binOp .eql (ρ.t 22) (.slice a n c) (.slice none n' c')).run P w=.ok (.bool a.isNone) w:=λw a n c n' c'=>Lib.run_eql_slice_nil w _ _ a n c n' c' L.t22;have u22:∀w,Sem.run P (underlying (ρ.t 22)) w=.ok (TypeDesc.slice (ρ.t 23)) w:=run_underlying t22;have⟨_,_,FG⟩:=L.f41
 go_enter FG,SlBodyN.n41_ntmps ρ
 go_wp2_with (at_builtin;refine wpList_append_own _ rfl _ _ (ρ.t 22) rfl w.heap.size (ρ.t 23) i0 z size bytes t22 hi hz0 hz1 hz2 hzs hsz _ _ _ rfl (World.ownsRow_made w #[] 0 (QN3 _) (QPk _) (by simp)) a 0 c [] rfl ?qc1 ?qc2 ?qc3 ?qc4 ?qc5 ?qc6 ?_)
 case qc1=>simp
 case qc2=>grind
 case qc3=>grind
 case qc4=>simp
 case qc5=>simp
 case qc6=>simp
 intro v' w1 hown hgrow hnil
 go_wp2
 go_ret
 refine⟨v',rfl,by simpa using hown,?_⟩;exact((Below.refl _ w).alloc (QN3 _) _).grown hgrow (by simp) (by intro k hk;simp[Value.ownBlock] at hk;omega)
end Go.Proofs
namespace Go.Ev
open Go Go.RowKit
section
variable{P:Program}{K:World->Prop}
def QrX{f:FuncId}{e:TypeId}{sz bytes:Nat}
  (hcl:∀(b off n c:Nat)(news:List Value)(w:World),news.length=n*sz->n<=maxLen->n*bytes<=140737488355328->(∀(j:Nat)(u:Value),news[j]?=some u->w.cell? ⟨b,off+j,none⟩=some u)->(∀u∈news,u.oneCell'=true) ->Calls P f #[.slice (some ⟨b,off,none⟩) n c] w λx w'=>∃v',x=.returned v'/\w'.ownsRow w.heap.size e sz v' n news/\v'≠.slice none 0 0/\Below w.heap.size w w')
  (hnil:∀w:World,Calls P f #[.slice none 0 0] w λx w'=>x=.returned (.slice none 0 0)/\w'=w)
  (hzero:∀(a:Addr)(w:World),Calls P f #[.slice (some a) 0 0] w λx w'=>∃v',x=.returned v'/\w'.ownsRow w.heap.size e sz v' 0 []/\Below w.heap.size w w')
  (rows:List (List IV))(hb:rows.length*bytes<=140737488355328)(hsz:∀c∈rows,c.length=sz):QdU P K f [.sl sz rows] (.yl 0 rows.length) e sz rows 0:=by
 by_cases hne:rows=[]
 .subst hne;intro w ok vs hk hnew hl hvs;obtain⟨v0,rfl⟩:∃v0,vs=[v0]:=by
   match vs,hl with
   |[v],_=>exact⟨v,rfl⟩
  have hrep:=hvs 0 _ v0 rfl rfl
  have fin:∀(v':Value)(w':World),w'.ownsRow w.heap.size e sz v' 0 []->Below w.heap.size w w' ->∃v l,Ending.returned v'=.returned v/\QK (λb=>b<w.heap.size) (okL ok (one (ZG e sz [] 0)) (λ_=>l)) w' (one (ZG e sz [] 0)) (λ_=>l) (ZG e sz [] 0) l /\
     QG (okL ok (one (ZG e sz [] 0)) (λ_=>l)) w' (one (ZG e sz [] 0)) (λ_=>l) (ren 0 (.yl 0 0)) v/\Below w.heap.size w w':=by
   intro v' w' hown hbel;have hsl:=Yz hown;have hge:∀b,v'.ownBlock=some b->w.heap.size<=b:=λb h=>(hown.lt b h).1;have hown0:w'.ownsRow 0 e sz v' 0 []:=by have⟨h1,h2⟩:=hown;refine⟨h1,?_⟩;grind
   refine⟨v',.arr v' [],rfl,⟨⟨by simpa using hown0,λb h1 h2=>by grind⟩,QPk _,by simp,by simp,by simp⟩,?_,hbel⟩;exact QG.yl (ok:=okL ok (one (ZG e sz [] 0)) (λ_=>.arr v' [])) (w:=w') (lo:=one (ZG e sz [] 0)) (L:=λ_=>.arr v' []) 0 e sz [] 0 v' [] (by simp[one,ZG]) rfl hsl
  cases hrep with
  |nils _=>exact(hnil w).mono λx w' ⟨h1,h2⟩=>by subst h1 h2;exact fin _ _ ⟨by simp,.inl ⟨rfl,rfl⟩⟩ (Below.refl _ _)
  |nilz _ a=>exact(hzero a w).mono λx w' ⟨v',h1,h2,h3⟩=>by grind
  |sl _ _ b off cap u hlc hc hs hu hx=>exact(hcl b off 0 cap [] w (by simp) (by simp) (by simp) (by simp) (by simp)).mono λx w' ⟨v',h1,h2,_,h3⟩=>by grind
 exact WJ hcl rows hb hsz hne
end
end Go.Ev
namespace Go.Pf
open Go Go.Ev Go.Proofs Go.RowKit Go.Shelf Go.Proofs.Tryz
noncomputable def Qjr(t:TypeId)(h:(prog.info? t).isSome=true):TypeInfo:=(prog.info? t).get h
noncomputable def Qxr(i:TypeInfo)(h:i.zero.isSome=true):Value:=i.zero.get h
section
variable{K:World->Prop}
def Qde{f:FuncId}{ρ:Ren}{e:TypeId}(sz bytes:Nat)(L:SlLaysE0.n41 prog ρ)(hf:ρ.f 41=f)(he:ρ.t 23=e)(h1:(prog.info? e).isSome=true)(h2:(Qjr e h1).zero.isSome=true)(h3:(Qjr e h1).size=sz)(h4:(Qjr e h1).bytes=bytes)(h5:(Qxr (Qjr e h1) h2).cells.size=sz)(h0:0<sz)
  (hz:∀w,(Go.sizeOf e).run prog w=.ok sz w)(rows:List (List IV))(hb:rows.length*bytes<=140737488355328)(hsz:∀c∈rows,c.length=sz):Gp K f [.sl sz rows] (.yl 0 rows.length) e sz rows 0:=by
 subst hf he;have hi:prog.info? (ρ.t 23)=some (Qjr _ h1):=by simp[Qjr]
 have hz0:(Qjr _ h1).zero=some (Qxr _ h2):=by simp[Qxr]
 exact QrX (λb off n c news w g1 g2 g3 g4 g5=>AnyE.slices_Clone L _ _ sz bytes hi hz0 h3 h4 h5 h0 hz b off n c news w g1 g2 g3 g4 g5) (λw=>AnyE.slices_Clone_nil L 0 0 w)
  (λa w=>QoK L _ _ sz bytes hi hz0 h3 h4 h5 h0 hz a 0 w) rows hb hsz
def QGA(l:List QB)(hl:l.length<=1000):Gp K 86 [Qr l] (.yl 0 l.length) 136 5 (l.map dC) 0:=by have h:=Qde (K:=K) (f:=86) (e:=136) 5 40 Tryz.clone86 rfl rfl (by kernel_rfl) (by kernel_rfl) (by kernel_rfl) (by kernel_rfl) (by kernel_rfl) (by decide) sizeOf136 (l.map dC) (by simp;omega) (by simp);simpa using h
def QGz(l:List XC)(hl:l.length<=1000):Gp K 87 [Qj l] (.yl 0 l.length) 156 5 (l.map sC) 0:=by have h:=Qde (K:=K) (f:=87) (e:=156) 5 40 Tryz.clone87 rfl rfl (by kernel_rfl) (by kernel_rfl) (by kernel_rfl) (by kernel_rfl) (by kernel_rfl) (by decide) sizeOf156 (l.map sC) (by simp;omega) (by simp);simpa using h
def QGy(l:List ZL)(hl:l.length<=1000):Gp K 88 [Qs l] (.yl 0 l.length) 134 3 (l.map leC) 0:=by have h:=Qde (K:=K) (f:=88) (e:=134) 3 24 Tryz.clone88 rfl rfl (by kernel_rfl) (by kernel_rfl) (by kernel_rfl) (by kernel_rfl) (by kernel_rfl) (by decide) sizeOf134 (l.map leC) (by simp;omega) (by simp);simpa using h
def QGx(l:List ZD)(hl:l.length<=1000):Gp K 89 [Zk l] (.yl 0 l.length) 160 4 (l.map baC) 0:=by have h:=Qde (K:=K) (f:=89) (e:=160) 4 32 Tryz.clone89 rfl rfl (by kernel_rfl) (by kernel_rfl) (by kernel_rfl) (by kernel_rfl) (by kernel_rfl) (by decide) sizeOf160 (l.map baC) (by simp;omega) (by simp);simpa using h
def QGw(l:List Rod)(hl:l.length<=1000):Gp K 90 [Qaa l] (.yl 0 l.length) 113 3 (l.map roC) 0:=by have h:=Qde (K:=K) (f:=90) (e:=113) 3 24 Tryz.clone90 rfl rfl (by kernel_rfl) (by kernel_rfl) (by kernel_rfl) (by kernel_rfl) (by kernel_rfl) (by decide) sizeOf113 (l.map roC) (by simp;omega) (by simp);simpa using h
def QGv(l:List QY)(hl:l.length<=1000):Gp K 91 [Jz l] (.yl 0 l.length) 115 7 (l.map reC) 0:=by have h:=Qde (K:=K) (f:=91) (e:=115) 7 56 Tryz.clone91 rfl rfl (by kernel_rfl) (by kernel_rfl) (by kernel_rfl) (by kernel_rfl) (by kernel_rfl) (by decide) sizeOf115 (l.map reC) (by simp;omega) (by simp);simpa using h
def QGu(l:List WM)(hl:l.length<=1000):Gp K 92 [Q4 l] (.yl 0 l.length) 111 3 (l.map trC) 0:=by have h:=Qde (K:=K) (f:=92) (e:=111) 3 24 Tryz.clone92 rfl rfl (by kernel_rfl) (by kernel_rfl) (by kernel_rfl) (by kernel_rfl) (by kernel_rfl) (by decide) sizeOf111 (l.map trC) (by simp;omega) (by simp);simpa using h
end
end Go.Pf
namespace Go.Proofs
open Go.Proofs.Tryz
open Go.Shelf
def Tryz.keys435_ren:Go.Shelf.Ren:=⟨fun|10=>435|n=>n,fun|23=>215|26=>3|3=>45|28=>249|0=>0|27=>248|33=>143|4=>4|n=>n,fun|n=>n⟩
def Tryz.keys435:Go.Proofs.SlLaysZI.n10 prog Tryz.keys435_ren:={
 mixed:=by kernel_rfl
 f10:=⟨Tryz.f435.name,by decide,func435.trans (congrArg some (by kernel_rfl))⟩
 t0:=underlying0
 a0:=isAgg0
 z0:=sizeOf0
 v0:=zeroValue0
 t4:=underlying4
 a4:=isAgg4
 z4:=sizeOf4
 v4:=zeroValue4
 t23:=underlying215
 a23:=isAgg215
 z23:=sizeOf215
 v23:=zeroValue215
 t26:=underlying3
 a26:=isAgg3
 z26:=sizeOf3
 v26:=zeroValue3
 t33:=underlying143
 a33:=isAgg143
 z33:=sizeOf143
 v33:=zeroValue143 }
end Go.Proofs
namespace Go.Pf
open Go Go.Ev Go.Proofs Go.RowKit Go.Shelf Go.Proofs.Tryz
def V7(lb:Array Value)(S:List Int->Prop)(N:Nat)(hN:N<=1000000)(w:World)(hseq:SeqGives Fence.wide 2 prog 435 lb encZ S N w):Calls prog 213 #[.func (.func 435) #[] lb] w λe w'=>∃(v:Value)(ss:List Int),e=.returned v/\S ss /\
   w'.ownsRow w.heap.size 3 1 v ss.length ((ss.mergeSort (λx y=>decide (x<=y))).map encZ)/\(v=.slice none 0 0↔ss=[])/\Below w.heap.size w w':=by
 refine(callsIn_wide (n:=5)).1 ?_;exact AnyZI.sorted_in Tryz.sorted213 Fence.wide 5 trivial trivial trivial trivial rfl (by omega) (Tryz.sorts301 _) (enters_of func301 (by kernel_rfl) rfl) 435 lb trivial (enters_of func435 (by kernel_rfl) rfl) S N (by unfold maxLen;omega) (by omega) w hseq
section
variable{K:World->Prop}
def QuE(kvs:List (MK×IV))(ks:List Int)(hk:kvs.map (·.1)=ks.map (λx=>MK.int .i64 x))(hwf:∀x∈ks,-9223372036854775808<=x/\x<9223372036854775808)(hlen:ks.length<=1000000):
  Gd K 213 [.clo 435 [] [.ptr [.map kvs]]] (Qq (ks.mergeSort λx y=>decide (x<=y))):=by
 intro w ok vs hK hnew hl hvs;obtain⟨v0,rfl⟩:∃v0,vs=[v0]:=by
  match vs,hl with
  |[v],_=>exact⟨v,rfl⟩
 have hrep:=hvs 0 _ v0 rfl rfl
 have fin:∀(v:Value)(w':World)(ss:List Int),ss.Perm ks->w'.ownsRow w.heap.size 3 1 v ss.length ((ss.mergeSort (λx y=>decide (x<=y))).map encZ)->Below w.heap.size w w' ->
   ∃v1,Ending.returned v=.returned v1/\QZ ok w' (Qq (ks.mergeSort λx y=>decide (x<=y))) v1/\Below w.heap.size w w':=λv w' ss hp ho hb=>by
  refine⟨v,rfl,?_,hb⟩;have e1:ss.mergeSort (λx y=>decide (x<=y))=ks.mergeSort λx y=>decide (x<=y):=mergeSort_of_perm_i hp;rw[e1] at ho;have hl2:ss.length=ks.length:=hp.length_eq;have e3:(ks.mergeSort λx y=>decide (x<=y)).length=ss.length:=by simp[hl2]
  generalize(ks.mergeSort λx y=>decide (x<=y))=zs at *
  obtain⟨h1,h2|⟨g,cap,cur,h2,h3,h4,h5,h6,h7,h8⟩⟩:=ho
  .obtain⟨rfl,h2⟩:=h2;have:zs=[]:=QN4 (by omega);subst this;exact .nils _
  subst h2;rw[<- e3];refine W0 zs g cap (by omega) h6 (hnew g h3) λj z hj=>?_;have hjl:=(QNY.1 hj).1;have:(cur.toList.take (ss.length*1))[j]?=some (.int .i64 z):=by grind
  rw[QOS,if_pos (by omega)] at this;simp only[World.cell?,h4];simpa using this
 cases hrep with
 |clo _ _ _ us vs' h1 h2 hf hc=>
  obtain rfl:us=[]:=QN4 h1;obtain⟨p,rfl⟩:∃p,vs'=[p]:=by
   match vs',h2 with
   |[v],_=>exact⟨v,rfl⟩
  have hp:=hc 0 _ p rfl rfl;cases hp with
  |ptr _ b off u hu hx=>
   have hcell:=(hu 0 (by simp)).2.1;rw[QPd] at hcell;have hbw:b<w.heap.size:=QO0 w ⟨b,off,none⟩ hcell;have hm:=hx 0 _ rfl;generalize u 0=u0 at hcell hm;cases hm with
   |mapn=>
    have hk0:ks=[]:=by simpa using hk.symm
    subst hk0;refine(V7 _ _ 0 (by omega) w (JM (ρ:=Tryz.keys435_ren) { Tryz.keys435 with } Fence.wide 2 trivial rfl b off w hbw hcell)).mono ?_;grind
   |map _ r es clock hok hr hmr hd hxx=>
    have hks:kvs.length=ks.length:=by simpa using congrArg List.length hk
    have hkey:∀(i:Nat)(x:MapEntry),es[i]?=some x->∃n:Int,ks[i]?=some n/\x.key=.int .i64 n:=λi x hx=>by have⟨k,h3,h4⟩:=hmr.keys i x hx;rw[<- QN6,hk,QN6,QN2] at h3;obtain⟨n,h5,rfl⟩:=h3;exact⟨n,h5,h4⟩
    have hrd:∀(i:Nat)(x:MapEntry),es[i]?=some x->∃n:Int,ks[i]?=some n/\x.key=.int .i64 n/\WideElems.rd prog 3 Qiw x=some (.int .i64 n,.nil):=λi x hx=>by have⟨n,h3,h4⟩:=hkey i x hx;exact⟨n,h3,h4,QwI h4 (hwf n (QOh h3))⟩
    have hlist:es.toList.map (λx=>intOf (WideElems.rg prog 3 Qiw x).1)=ks:=by
     refine List.ext_getElem? λi=>?_;rw[QN6];cases hx:es[i]? with
     |none=>
      have:es.size<=i:=by grind
      have hz:=hmr.size;grind
     |some x=>have⟨n,h3,h4,h5⟩:=hrd i x hx;rw[Array.getElem?_toList,hx,h3];simp[WideElems.rg,h5,intOf]
    have hown:w.ownsMap prog 3 Qiw r ks.length (DataW.map ((es.toList.map (WideElems.rg prog 3 Qiw)).foldr DataW.insert [])):=by
     refine⟨es,clock,hr,⟨by have:=hmr.size;unfold maxLen;omega,⟨λx hx=>?_,?_,?_⟩,λx hx=>?_⟩,by grind,rfl⟩
     .obtain⟨i,hi⟩:=QOF hx;exact hmr.born i x (by simpa using hi)
     .rw[List.nodup_iff_pairwise_ne] at *
      refine QPl.2 λi j hi hj hij heq=>?_;simp at hi hj heq;have:=hmr.apart i j es[i] es[j] (by simp[hi]) (by simp[hj]) heq;omega
     .refine QPl.2 λi j hi hj hij heq=>?_;simp at hi hj heq;obtain⟨k1,h3,h4⟩:=hmr.keys i es[i] (by simp[hi]);obtain⟨k2,h5,h6⟩:=hmr.keys j es[j] (by simp[hj]);rw[QN2] at h3 h5;obtain⟨p,h7,rfl⟩:=h3;obtain⟨q,h8,rfl⟩:=h5;rw[h4,h6] at heq;have:p.1=q.1:=by
       cases hp1:p.1<;>cases hq1:q.1<;>rw[hp1,hq1] at heq<;>simp[MK.val] at heq |-<;>simp_all
      grind
     have⟨i,hi⟩:=QOF hx;grind
    have hperm:(intKeys (DataW.map ((es.toList.map (WideElems.rg prog 3 Qiw)).foldr DataW.insert []))).Perm ks:=by have:=(sorted_perm (es.toList.map (WideElems.rg prog 3 Qiw))).map λp=>intOf p.1;rw[List.map_map] at this;refine this.trans ?_;rw[show es.toList.map ((λp=>intOf p.1)∘WideElems.rg prog 3 Qiw)=ks from hlist]
    have hsz:=hown.size_le;refine(V7 _ _ _ (by omega) w (Wg (ρ:=Tryz.keys435_ren) { Tryz.keys435 with } Fence.wide 2 trivial rfl (by omega) b off r _ _ w hbw hcell hown)).mono ?_;grind
end
end Go.Pf
namespace Go.Pf
open Go Go.Ev Go.Proofs Go.RowKit Go.Proofs.Tryz
variable{K:World->Prop}(hK:∀w w',K w->Below w.heap.size w w'->K w')
include hK
def Yk(x a b:Int):Gd K 185 [.int .i64 x,.int .i64 a,.int .i64 b] (.bool (decide (inR x a b))):=by apply Qb hK QDA (by simp);by_cases h:a<=x<;>simp[inR,h]
def V1(x a b:Int):Gd K 76 [.int .i64 x,.int .i64 a,.int .i64 b] (.bool (decide (inR x a b))):=by apply Qb hK QGN (by simp);simp;exact cK (Z8 hK x a b) (by simp)
def Qz0(n:Int):Gd K 187 [.int .i64 n] (.bool (decide (n=1\/n=2))):=by apply Qb hK QDy (by simp);by_cases h:n=1<;>simp[h]
def QFL(n:Int):Gd K 77 [.int .i64 n] (.bool (decide (n=1\/n=2))):=by apply Qb hK QGM (by simp);by_cases h:n=1<;>simp[h]
def Qz2(r:Rod):Gd K 184 [.agg (roC r)] (.bool (decide (V3 r))):=by
 apply Qb hK QDB (by simp);simp;apply cK (Yk hK _ _ _);by_cases h1:inR r.long 1 9999
 .have h1':=h1;simp only[inR] at h1';simp[h1,V3,VY];refine⟨by omega,cK (Yk hK _ _ _) ?_⟩;by_cases h2:inR r.z7 0 (min 9 (r.long-1))
  .simp[h2];exact cK (Yk hK _ _ _) (by simp)
  simp[h2]
 simp[h1,V3]
def Qz1(p:Za)(x:QY)(hl:p.zi.length<=1000):Gd K 186 [.agg (reC x),.ptr (puC p)] (.bool (decide (X7 p.zi.length x))):=by
 apply Qb hK QDz (by simp);simp;apply cK (Qz0 hK _);by_cases h1:x.yg=1\/x.yg=2;rotate_left
 .simp[h1,X7]
 .simp[h1,X7];intro _;refine⟨by omega,cK (Yk hK _ _ _) ?_⟩;by_cases h2:inR x.rod 0 ((p.zi.length:Int)-1);rotate_left
  .simp[h2]
  .simp[h2];apply cK (Yk hK _ _ _);by_cases h3:inR x.count 0 99
   .simp[h3];apply cK (Yk hK _ _ _);by_cases h4:inR x.rest 0 9999
    .simp[h4];apply cK (Yk hK _ _ _);by_cases h5:inR x.off 0 99
     .simp[h5];apply cK (Yk hK _ _ _);by_cases h6:inR x.yh (-50) x.yi
      .simp[h6]
      simp[h6]
     simp[h5]
    simp[h4]
   .simp[h3]
def Qzi(r:QY)(g:FuncId)(cs:List IV)(q:QY->Bool)(hg:Gd K g ([.agg (reC r)]++cs) (.bool (q r)))(hc:callee prog g=true):Gd K 284 [.agg (reC r),.ptr [.clo g [] cs]] (.bool (!q r)):=by apply Qb hK QCh (by simp);simp;exact⟨hc,cK hg (by simp)⟩
def QuC(r:Rod)(g:FuncId)(q:Rod->Bool)(hg:Gd K g [.agg (roC r)] (.bool (q r)))(hc:callee prog g=true):Gd K 282 [.agg (roC r),.ptr [.fn g]] (.bool (!q r)):=by apply Qb hK QCj (by simp);simp;exact⟨hc,cK hg (by simp)⟩
def QyX(l:List Rod)(g:FuncId)(cs:List IV)(p:Rod->Bool)(hg:∀x∈l,Gd K g ([.agg (roC x)]++cs) (.bool (p x)))(hc:callee prog g=true)(hl:l.length<=1000):Gd K 337 [Qaa l,.clo g [] cs] (.int .i64 (fi p l)):=by
 apply Qb hK QBO (by simp);simp;intro _;refine Qe (λi=>[(0,AV.iv (Qaa l)),(1,AV.iv (.clo g [] cs)),(7,AV.iv (.int .i64 l.length)),(8,AV.iv (.int .i64 (i:Nat)))]) (λ_=>[]) l.length (λi=>∀x∈l.take i,p x=false) (by simp) ?_ ?_
 .intro h;rw[Qa QkB.eq_1];rw[QN5] at h;simp[WF p l h]
 intro i hi h ih;rw[Qa QkB.eq_1];have hgi:=hg l[i] (QN0 hi);simp[hi] at ih |-;refine⟨hc,cK hgi ?_⟩;by_cases hp:p l[i]=true
 .simp[hp,Qj9 p l i hi hp h]
 have hp':p l[i]=false:=by simpa using hp
 simp[hp'];refine⟨by omega,ih ?_⟩;rw[QNW hi]
 grind
def QyW(l:List QY)(g:FuncId)(cs:List IV)(p:QY->Bool)(hg:∀x∈l,Gd K g ([.agg (reC x)]++cs) (.bool (p x)))(hc:callee prog g=true)(hl:l.length<=1000):Gd K 338 [Jz l,.clo g [] cs] (.int .i64 (fi p l)):=by
 apply Qb hK QBN (by simp);simp;intro _;refine Qe (λi=>[(0,AV.iv (Jz l)),(1,AV.iv (.clo g [] cs)),(7,AV.iv (.int .i64 l.length)),(8,AV.iv (.int .i64 (i:Nat)))]) (λ_=>[]) l.length (λi=>∀x∈l.take i,p x=false) (by simp) ?_ ?_
 .intro h;rw[Qa QkA.eq_1];rw[QN5] at h;simp[WF p l h]
 intro i hi h ih;rw[Qa QkA.eq_1];have hgi:=hg l[i] (QN0 hi);simp[hi] at ih |-;refine⟨hc,cK hgi ?_⟩;by_cases hp:p l[i]=true
 .simp[hp,Qj9 p l i hi hp h]
 have hp':p l[i]=false:=by simpa using hp
 simp[hp'];refine⟨by omega,ih ?_⟩;rw[QNW hi]
 grind
def Qzk(l:List Rod)(g:FuncId)(cs:List IV)(p:Rod->Bool)(hg:∀x∈l,Gd K g ([.agg (roC x)]++cs) (.bool (p x)))(hc:callee prog g=true)(hl:l.length<=1000):Gd K 281 [Qaa l,.clo g [] cs] (.bool (l.any p)):=by apply Qb hK QCk (by simp);simp;apply cK (QyX hK l g cs p hg hc hl);simp[Ut]
def Qzj(l:List QY)(g:FuncId)(cs:List IV)(p:QY->Bool)(hg:∀x∈l,Gd K g ([.agg (reC x)]++cs) (.bool (p x)))(hc:callee prog g=true)(hl:l.length<=1000):Gd K 283 [Jz l,.clo g [] cs] (.bool (l.any p)):=by apply Qb hK QCi (by simp);simp;apply cK (QyW hK l g cs p hg hc hl);simp[Ut]
def QzZ(l:List Rod)(g:FuncId)(q:Rod->Bool)(hg:∀x,Gd K g [.agg (roC x)] (.bool (q x)))(hc:callee prog g=true)(hl:l.length<=1000):Gd K 188 [Qaa l,.fn g] (.bool (l.all q)):=by apply Qb hK QDx (by simp);simp;apply cK (Qzk hK l 282 [.ptr [.fn g]] (λx=>!q x) (λx _=>QuC hK x g q (hg x) hc) (by kernel_rfl) hl);simp[List.all_eq_not_any_not]
def QzY(l:List QY)(g:FuncId)(cs:List IV)(q:QY->Bool)(hg:∀x,Gd K g ([.agg (reC x)]++cs) (.bool (q x)))(hc:callee prog g=true)(hl:l.length<=1000):Gd K 189 [Jz l,.clo g [] cs] (.bool (l.all q)):=by apply Qb hK QDw (by simp);simp;apply cK (Qzj hK l 284 [.ptr [.clo g [] cs]] (λx=>!q x) (λx _=>Qzi hK x g cs q (hg x) hc) (by kernel_rfl) hl);simp[List.all_eq_not_any_not]
def QwQ(p:Za)(hl:p.zi.length<=1000)(hx:p.zj.length<=1000):Gd K 85 [puV p] (.int .i64 (if OkU p then 0 else 40)):=by
 apply Qb hK QGG (by simp);have no:∀q:Prop,(OkU p->q)->¬q->¬OkU p:=λq h1 h2 h=>h2 (h1 h);simp;apply cK (Yk hK _ _ _);by_cases h1:inR p.yc 0 50;rotate_left
 .have:=no _ (λh=>h.yc) h1;simp[h1,this]
 simp[h1];apply cK (Yk hK _ _ _);by_cases h2:inR p.z8 1 p.z9;rotate_left
 .have:=no _ (λh=>h.guess) h2;simp[h2,this]
 simp[h2];by_cases h3:p.z9<=99999;rotate_left
 .have h3':99999<p.z9:=by omega
  have:=no _ (λh=>h.most) h3;grind
 have h3':¬99999<p.z9:=by omega
 simp[h3'];intro _;apply cK (Yk hK _ _ _);by_cases h4:inR p.zh 0 8;rotate_left
 .have:=no _ (λh=>h.zh) h4;simp[h4,this]
 simp[h4];intro _;by_cases h5:p.zi.length<=4;rotate_left
 .have h5':(4:Int)<p.zi.length:=by omega
  have:=no _ (λh=>h.rlen) h5;grind
 have h5':¬(4:Int)<p.zi.length:=by omega
 simp[h5'];intro _;by_cases h6:p.zj.length<=8;rotate_left
 .have h6':(8:Int)<p.zj.length:=by omega
  have:=no _ (λh=>h.xlen) h6;grind
 have h6':¬(8:Int)<p.zj.length:=by omega
 simp[h6'];intros;apply cK (QzZ hK p.zi 184 (λr=>decide (V3 r)) (Qz2 hK) (by kernel_rfl) hl);by_cases h7:∀r∈p.zi,V3 r
 .have h7':p.zi.all (λr=>decide (V3 r))=true:=by simpa using h7
  simp only[h7'];simp;apply cK (QzY hK p.zj 186 [.ptr (puC p)] (λx=>decide (X7 p.zi.length x)) (λx=>Qz1 hK p x hl) (by kernel_rfl) hx);by_cases h8:∀x∈p.zj,X7 p.zi.length x
  .have h8':p.zj.all (λx=>decide (X7 p.zi.length x))=true:=by simpa using h8
   have hok:OkU p:=⟨h1,h2,h3,h4,h5,h6,h7,h8⟩;simp only[h8'];simp[hok]
  have h8':p.zj.all (λx=>decide (X7 p.zi.length x))=false:=by simpa using h8
  have:=no _ (λh=>h.zj) h8;simp only[h8'];simp[this]
 have h7':p.zi.all (λr=>decide (V3 r))=false:=by simpa using h7
 have:=no _ (λh=>h.zi) h7;simp only[h7'];simp[this]
omit hK
def Qcw{a b A B:Int}(h0:0<=a)(h1:a<=A)(h2: -B<=b)(h3:b<=B): -(A*B)<=a*b/\a*b<=A*B:=by
 have hB:0<=B:=by omega
 have hA:0<=A:=by omega
 have e1:a*b<=a*B:=QOX h3 h0;have e2:a*B<=A*B:=QOj h1 hB;have e3:a*(-B)<=a*b:=QOX h2 h0;grind
def Qnd{p:Za}{x:QY}{len rl t:Int}(hp:OkU p)(hx:X7 p.zi.length x)(hlen:0<=len/\len<=99999)(hrl:0<=rl/\rl<=9999)(ht: -50<=t/\t<=50):(0<=x.count*rl/\x.count*rl<=1000000)/\(-2500<=p.yc*t/\p.yc*t<=2500)/\(-2500<=Uo p x*t/\Uo p x*t<=2500) /\(-200000000000<=len*(1000000+p.yc*t)/\len*(1000000+p.yc*t)<=200000000000) /\(-4000000000000<=(x.count*rl+x.rest)*(1000000+Uo p x*t)/\(x.count*rl+x.rest)*(1000000+Uo p x*t)<=4000000000000)/\(0<=x.off*1000000/\x.off*1000000<=99000000):=by
 have⟨hw,hr,hc,hrest,hoff,hwl,hwh⟩:=hx;have hi:=hp.yc;simp only[inR] at *;have y9:x.rod.toNat<p.zi.length:=by omega
 have hg:0<=Uo p x/\Uo p x<=50:=by unfold Uo;rw[List.getD_eq_getElem?_getD,QNX y9];have:=(hp.zi _ (QN0 y9)).2.2;simpa[inR] using this
 have b1:=Qcw hc.1 hc.2 (b:=rl) (B:=9999) (by omega) (by omega);have b1':=QOQ hc.1 hrl.1;have b2:=Qcw hi.1 hi.2 (b:=t) (B:=50) (by omega) (by omega);have b3:=Qcw hg.1 hg.2 (b:=t) (B:=50) (by omega) (by omega);have b4:=Qcw hlen.1 hlen.2 (b:=1000000+p.yc*t) (B:=1002500) (by omega) (by omega);have b5:=Qcw (a:=x.count*rl+x.rest) (A:=1000000) (by omega) (by omega) (b:=1000000+Uo p x*t) (B:=1002500) (by omega) (by omega);omega
def QmR(p:Za)(x:QY)(len rl t:Int):Qqk p x len rl t=decide (max (Qxc p x len rl t) (-Qxc p x len rl t)<=x.off*1000000):=by unfold Qqk;grind
def QgE{n:Nat}{x:QY}(hx:X7 n x):x.yh+Qe3 x=x.yi+1:=by have⟨_,_,_,_,_,h,_⟩:=hx;simp only[inR] at h;unfold Qe3;omega
def Qg5{p:Za}{x:QY}{len rl:Int}(h:∀j:Nat,j<Qe3 x->Qqk p x len rl (x.yh+j)=false):Ud p x len rl=false:=by unfold Ud;grind
def Qg6{p:Za}{x:QY}{len rl:Int}(j:Nat)(hj:j<Qe3 x)(h:Qqk p x len rl (x.yh+j)=true):Ud p x len rl=true:=QOO.2 ⟨j,QOr.2 hj,h⟩
include hK
def QwS(p:Za)(n:Int)(hl:p.zi.length<=1000):Gd K 78 [puV p,.int .i64 n] (.bool (decide (inR n 0 ((p.zi.length:Int)-1)))):=by apply Qb hK QGL (by simp);simp;intro _;refine⟨by omega,cK (V1 hK _ _ _) ?_⟩;simp
def QyB(p:Za)(x:QY)(len rl:Int)(hp:OkU p)(hx:X7 p.zi.length x)(hlen:0<=len/\len<=99999)(hrl:0<=rl/\rl<=9999):Gd K 434 [puV p,.agg (reC x),.int .i64 len,.int .i64 rl] (.bool (Ud p x len rl)):=by
 apply Qb hK QBl (by simp);have h1:=hx.2.1;have h3:=hx.2.2.2.1;have hwl:=hx.2.2.2.2.2.1;have hwh:=hx.2.2.2.2.2.2;simp only[inR] at h1 h3 hwl;have b0:=(Qnd hp hx hlen hrl (t:=0) (by omega)).1;have y9:x.rod.toNat<p.zi.length:=by omega
 have hwp:=QgE hx;simp;refine⟨by omega,by omega,?_⟩;have e0:AV.iv (.int .i64 x.yh)=AV.iv (.int .i64 (x.yh+((0:Nat):Int))):=by simp
 rw[e0];refine Qe (λi=>[(2,AV.iv (.int .i64 len)),(4,AV.iv (.ptr (puC p))),(5,AV.iv (.ptr (reC x))),(9,AV.iv (.int .i64 (x.count*rl+x.rest))),(10,AV.iv (.int .i64 (x.yh+(i:Nat))))]) (λ_=>[]) (Qe3 x) (λi=>∀j:Nat,j<i->Qqk p x len rl (x.yh+j)=false) (by simp) ?_ ?_
 .intro h;have hn:=Qg5 h;rw[Qa Qkf.eq_1];have:¬x.yh+((Qe3 x:Nat):Int)<=x.yi:=by omega
  simp[this,hn]
 intro i hi h ih;rw[Qa Qkf.eq_1];have hle:x.yh+(i:Int)<=x.yi:=by omega
 obtain⟨b1,b2,b3,b4,b5,b6⟩:=Qnd hp hx hlen hrl (t:=x.yh+(i:Int)) (by omega);have hgr:p.zi[x.rod.toNat].grow=Uo p x:=by simp[Uo,y9]
 have hab:=QmR p x len rl (x.yh+(i:Int));have her:Qxc p x len rl (x.yh+(i:Int))=len*(1000000+p.yc*(x.yh+i))-(x.count*rl+x.rest)*(1000000+Uo p x*(x.yh+i)):=rfl;generalize hE:Qxc p x len rl (x.yh+(i:Int))=E at *;by_cases hh:Qqk p x len rl (x.yh+(i:Int))=true
 .have hr:=Qg6 i hi hh;rw[hh] at hab;have hm:(if E < -E then -E else E)<=x.off*1000000:=by
   grind
  simp[hle,y9,hgr,hr];omega
 have hf:Qqk p x len rl (x.yh+(i:Int))=false:=by simpa using hh
 rw[hf] at hab;have hm:¬(if E < -E then -E else E)<=x.off*1000000:=by grind
 have ih:=ih (λj hj=>by grind)
 simp at ih;simp[hle,y9,hgr];grind
def Qqr(p:Za)(hl:p.zi.length<=1000)(hx:p.zj.length<=1000):Gd K 43 [puV p] (.int .i64 (if OkU p then 0 else 40)):=by
 apply Qb hK QG7 (by simp);have no:∀q:Prop,(OkU p->q)->¬q->¬OkU p:=λq h1 h2 h=>h2 (h1 h);simp;apply cK (V1 hK _ _ _);by_cases h1:inR p.yc 0 50;rotate_left
 .have:=no _ (λh=>h.yc) h1;simp[h1,this]
 .simp[h1];apply cK (V1 hK _ _ _);by_cases h2:inR p.z8 1 p.z9;rotate_left
  .have:=no _ (λh=>h.guess) h2;simp[h2,this]
  .simp[h2];by_cases h3:p.z9<=99999;rotate_left
   .have h3':99999<p.z9:=by omega
    have:=no _ (λh=>h.most) h3;grind
   .have h3':¬99999<p.z9:=by omega
    simp[h3'];intro _;apply cK (V1 hK _ _ _);by_cases h4:inR p.zh 0 8;rotate_left
    .have:=no _ (λh=>h.zh) h4;simp[h4,this]
    .simp[h4];intro _;by_cases h5:p.zi.length<=4;rotate_left
     .have h5':(4:Int)<p.zi.length:=by omega
      have:=no _ (λh=>h.rlen) h5;grind
     .have h5':¬(4:Int)<p.zi.length:=by omega
      simp[h5'];intro _;by_cases h6:p.zj.length<=8;rotate_left
      .have h6':(8:Int)<p.zj.length:=by omega
       have:=no _ (λh=>h.xlen) h6;grind
      .have h6':¬(8:Int)<p.zj.length:=by omega
       simp[h6'];intros;refine Qe (λi=>[(1,AV.iv (.ptr (puC p))),(3,AV.iv (.int .i64 (i:Nat)))]) (λ_=>[]) p.zi.length (λi=>∀r∈p.zi.take i,V3 r) (by simp) ?_ ?_
       .intro h7;rw[QN5] at h7;rw[Qa Qsq.eq_1];simp;intro _;refine Qe (λi=>[(1,AV.iv (.ptr (puC p))),(5,AV.iv (.int .i64 (i:Nat)))]) (λ_=>[]) p.zj.length (λi=>∀x∈p.zj.take i,X7 p.zi.length x) (by simp) ?_ ?_
        .intro h8;rw[QN5] at h8;rw[Qa Qsp.eq_1];have hok:OkU p:=⟨h1,h2,h3,h4,h5,h6,h7,h8⟩;simp[hok]
        intro i hi h8 ih;have bad:¬X7 p.zi.length p.zj[i]->¬OkU p:=λhb hh=>hb (hh.zj _ (QN0 hi))
        have ih:=λhr:X7 p.zi.length p.zj[i]=>ih (by
         rw[QNW hi]
         grind)
        rw[Qa Qsp.eq_1];generalize hX:p.zj[i]=X at *;simp[hi,hX] at ih |-;intros;apply cK (QFL hK X.yg);by_cases k1:X.yg=1\/X.yg=2;rotate_left
        .simp[k1,bad (λhh=>k1 hh.1)]
        simp[k1];apply cK (by simpa using QwS hK p X.rod hl);by_cases k2:inR X.rod 0 ((p.zi.length:Int)-1);rotate_left
        .simp[k2,bad (λhh=>k2 hh.2.1)]
        simp[k2];apply cK (V1 hK _ _ _);by_cases k3:inR X.count 0 99;rotate_left
        .simp[k3,bad (λhh=>k3 hh.2.2.1)]
        simp[k3];apply cK (V1 hK _ _ _);by_cases k4:inR X.rest 0 9999
        .simp[k4];apply cK (V1 hK _ _ _);by_cases k5:inR X.off 0 99
         .simp[k5];apply cK (V1 hK _ _ _);by_cases k6:inR X.yh (-50) X.yi
          .simp[k6];by_cases k7:X.yi<=50
           .have ih:=ih ⟨k1,k2,k3,k4,k5,k6,k7⟩;grind
           have:=bad (λhh=>k7 hh.2.2.2.2.2.2);grind
          simp[k6,bad (λhh=>k6 hh.2.2.2.2.2.1)]
         simp[k5,bad (λhh=>k5 hh.2.2.2.2.1)]
        simp[k4,bad (λhh=>k4 hh.2.2.2.1)]
       .intro i hi h7 ih;have bad:¬V3 p.zi[i]->¬OkU p:=λhb hh=>hb (hh.zi _ (QN0 hi))
        have ih:=λhr:V3 p.zi[i]=>ih (by
         rw[QNW hi]
         grind)
        rw[Qa Qsq.eq_1];generalize hX:p.zi[i]=X at *;simp[hi,hX] at ih |-;intros;apply cK (V1 hK _ _ _);by_cases k1:inR X.long 1 9999
        .have k1':=k1;simp only[inR] at k1';simp[k1];have hmin:(if X.long-1<9 then X.long-1 else 9)=min 9 (X.long-1):=by split<;>omega
         refine⟨by omega,cK (by simpa[hmin] using V1 hK X.z7 0 (min 9 (X.long-1))) ?_⟩;by_cases k2:inR X.z7 0 (min 9 (X.long-1))
         .simp[k2];apply cK (V1 hK _ _ _);by_cases k3:inR X.grow 0 50
          .have ih:=ih ⟨k1,k2,k3⟩;simp[k3];grind
          simp[k3,bad (λhh=>k3 hh.2.2)]
         simp[k2,bad (λhh=>k2 hh.2.1)]
        .simp[k1,bad (λhh=>k1 hh.1)]
def QyE(n:Int)(h: -9223372036854775807<=n/\n<=9223372036854775807):Gd K 410 [.int .i64 n] (.int .i64 (max n (-n))):=by
 apply Qb hK QBo (by simp);have e:(if n < -n then -n else n)=max n (-n):=by split<;>omega
 simp;simp[e];omega
@[simp] def tuV(t:TrU):List IV:=[.int .i64 t.ya,.int .i64 t.yb,Qq t.zi]
def QyI(p:Za)(x:QY)(t:TrU)(hp:OkU p)(hx:X7 p.zi.length x)(hb:0<=t.ya/\t.ya<=99999)(ha:0<=t.yb/\t.yb<=99999)(hl:t.zi.length=p.zi.length)(hr:∀r∈t.zi,0<=r/\r<=9999):
  Gd K 375 [puV p,.agg (reC x),.agg (tuV t)] (.bool (Ud p x (if x.yg=2 then t.yb else t.ya) (t.zi.getD x.rod.toNat 0))):=by
 apply Qb hK QBv (by simp);have h1:=hx.2.1;have h3:=hx.2.2.2.1;have hwl:=hx.2.2.2.2.2.1;have hwh:=hx.2.2.2.2.2.2;simp only[inR] at h1 h3 hwl;have y9:x.rod.toNat<p.zi.length:=by omega
 have hlt2:x.rod.toNat<t.zi.length:=by omega
 have hrl:=hr _ (QN0 hlt2);have hgd:t.zi.getD x.rod.toNat 0=t.zi[x.rod.toNat]:=by simp[hlt2]
 rw[hgd];generalize hRL:t.zi[x.rod.toNat]=rl at *;have hlen:0<=(if x.yg=2 then t.yb else t.ya)/\(if x.yg=2 then t.yb else t.ya)<=99999:=by split<;>omega
 have b0:=(Qnd hp hx hlen hrl (t:=0) (by omega)).1;have hwp:=QgE hx
 have key:∀(w0 len:Int),0<=len/\len<=99999->XJ prog K (FnF (QdT [Qbu.tmp 6] (.bool (Ud p x len rl)))) Qf7 [3,4,7,8,9] []
   [AI.inBlock 0,AI.code ((AC.ops [{ d:=some 6,g:=none,op:=AOp.xg (Opd.bool false) }] false).seq AC.ret)]
   [(3,AV.iv (.ptr (puC p))),(4,AV.iv (.ptr [.int .i64 w0,.int .i64 x.rod,.int .i64 x.count,.int .i64 x.rest,.int .i64 x.off,.int .i64 x.yh,.int .i64 x.yi])),(7,AV.iv (.int .i64 len)),(8,AV.iv (.int .i64 (x.count*rl+x.rest))),(9,AV.iv (.int .i64 x.yh))] []:=by
  intro w0 len hlen;have e0:AV.iv (.int .i64 x.yh)=AV.iv (.int .i64 (x.yh+((0:Nat):Int))):=by simp
  rw[e0];refine Qe (λi=>[(3,AV.iv (.ptr (puC p))),(4,AV.iv (.ptr [.int .i64 w0,.int .i64 x.rod,.int .i64 x.count,.int .i64 x.rest,.int .i64 x.off,.int .i64 x.yh,.int .i64 x.yi])),(7,AV.iv (.int .i64 len)),(8,AV.iv (.int .i64 (x.count*rl+x.rest))),(9,AV.iv (.int .i64 (x.yh+(i:Nat))))]) (λ_=>[]) (Qe3 x) (λi=>∀j:Nat,j<i->Qqk p x len rl (x.yh+j)=false) (by simp) ?_ ?_
  .intro h;have hn:=Qg5 h;rw[Qa Qf7.eq_1];have:¬x.yh+((Qe3 x:Nat):Int)<=x.yi:=by omega
   simp[this,hn]
  intro i hi h ih;rw[Qa Qf7.eq_1];have hle:x.yh+(i:Int)<=x.yi:=by omega
  obtain⟨b1,b2,b3,b4,b5,b6⟩:=Qnd hp hx hlen hrl (t:=x.yh+(i:Int)) (by omega);have hgr:p.zi[x.rod.toNat].grow=Uo p x:=by simp[Uo,y9]
  have hab:=QmR p x len rl (x.yh+(i:Int));have her:Qxc p x len rl (x.yh+(i:Int))=len*(1000000+p.yc*(x.yh+i))-(x.count*rl+x.rest)*(1000000+Uo p x*(x.yh+i)):=rfl;generalize hE:Qxc p x len rl (x.yh+(i:Int))=E at *;have hg:=QyE hK E;rw[her] at hg;by_cases hh:Qqk p x len rl (x.yh+(i:Int))=true
  .have hr:=Qg6 i hi hh;rw[hh] at hab;have hm:=of_decide_eq_true hab.symm;rw[her] at hm;simp[hle,y9,hgr,hr];generalize len*(1000000+p.yc*(x.yh+i))=X at *;generalize(x.count*rl+x.rest)*(1000000+Uo p x*(x.yh+i))=Y at *
   (repeat' first|omega|apply And.intro|intro)
   apply cK (hg (by omega));simp[hm];omega
  have hf:Qqk p x len rl (x.yh+(i:Int))=false:=by simpa using hh
  rw[hf] at hab;have hm:=of_decide_eq_false hab.symm;rw[her] at hm
  have ih:=ih (λj hj=>by grind)
  simp at ih;simp[hle,y9,hgr];generalize len*(1000000+p.yc*(x.yh+i))=X at *;generalize(x.count*rl+x.rest)*(1000000+Uo p x*(x.yh+i))=Y at *
  (repeat' first|omega|apply And.intro|intro)
  apply cK (hg (by omega));simp[hm];grind
 by_cases hw:x.yg=2
 .simp[hw,hlt2,hRL];exact⟨by omega,by omega,by omega,by simpa using key 2 t.yb ha⟩
 simp[hw,hlt2,hRL];exact⟨by omega,by omega,by omega,by simpa using key x.yg t.ya hb⟩
omit hK
def V5(p:Za)(t:TrU)(x:QY):Bool:=!Ud p x (if x.yg=2 then t.yb else t.ya) (t.zi.getD x.rod.toNat 0)
def Qgx{p:Za}(hp:OkU p)(t:TrU):p.zj.countP (V5 p t)=YH p t:=by
 unfold YH wrU;have:∀l:List QY,(∀x∈l,x.yg=1\/x.yg=2)->l.countP (V5 p t)=l.countP (Qgm p 1 t.zi t.ya)+l.countP (Qgm p 2 t.zi t.yb):=by
  intro l;induction l with
  |nil=>intro _;rfl
  |cons x r ih=>
   intro h;have ih:=ih λy hy=>h y (by simp[hy]);rw[QPn,QPn,QPn,ih];rcases h x (by simp) with hx|hx
   .have h1:Qgm p 1 t.zi t.ya x=V5 p t x:=by simp[Qgm,V5,hx]
    have h2:Qgm p 2 t.zi t.yb x=false:=by simp[Qgm,hx]
    grind
   have h1:Qgm p 2 t.zi t.yb x=V5 p t x:=by simp[Qgm,V5,hx]
   have h2:Qgm p 1 t.zi t.ya x=false:=by simp[Qgm,hx]
   grind
 exact this _ λx hx=>(hp.zj x hx).1
structure QJu(p:Za)(t:TrU):Prop where
 ya:0<=t.ya/\t.ya<=99999
 yb:0<=t.yb/\t.yb<=99999
 len:t.zi.length=p.zi.length
 zi:∀r∈t.zi,0<=r/\r<=9999
def QbT{p:Za}(hp:OkU p){w:List Int}(hw:w∈Z1 p.zi):w.length=p.zi.length/\∀r∈w,0<=r/\r<=9999:=by have hl:=QgB _ _ hw;refine⟨hl,λr hr=>?_⟩;obtain⟨i,hi,rfl⟩:=QON hr;have hb:=QeY _ _ hw i (by omega);have hr:=hp.zi _ (QN0 (show i<p.zi.length by omega));simp only[V3,inR] at hr;grind
def Qj5{p:Za}(hp:OkU p){t:TrU}(ht:t∈Ql1 p):QJu p t:=by simp only[Ql1,QOK,QOb] at ht;obtain⟨b,hb,a,ha,w,hw,rfl⟩:=ht;have hb:=J9.1 hb;have ha:=J9.1 ha;have hg:=hp.guess;have hm:=hp.most;simp only[inR] at hg;have⟨h1,h2⟩:=QbT hp hw;exact⟨⟨by simp only;omega,by simp only;omega⟩,⟨by simp only;omega,by simp only;omega⟩,h1,h2⟩
include hK
def Qy1(p:Za)(t:TrU)(hp:OkU p)(hf:QJu p t):Gd K 333 [puV p,.agg (tuV t)] (.int .i64 (YH p t:Nat)):=by
 apply Qb hK QBS (by simp);rw[<- Qgx hp t];have hxl:=hp.xlen;simp;refine Qe (λi=>[(2,AV.iv (.ptr (puC p))),(3,AV.iv (.ptr (tuV t))),(5,AV.iv (.int .i64 ((p.zj.take i).countP (V5 p t):Nat))),(6,AV.iv (.int .i64 (i:Nat)))]) (λ_=>[]) p.zj.length (λ_=>True) trivial ?_ ?_
 .intro _;rw[Qa QkE.eq_1];simp
 intro i hi _ ih;have hg:=QyI hK p p.zj[i] t hp (hp.zj _ (QN0 hi)) hf.ya hf.yb hf.len hf.zi;have hb:Ud p p.zj[i] (if p.zj[i].yg=2 then t.yb else t.ya) (t.zi.getD p.zj[i].rod.toNat 0)=!V5 p t p.zj[i]:=by simp[V5]
 rw[hb] at hg;have hcl:(p.zj.take i).countP (V5 p t)<=i:=QOz QOw (by simp;omega);rw[QNW hi,QOH] at ih;rw[Qa QkE.eq_1];generalize hX:p.zj[i]=X at *;cases hwb:V5 p t X
 .simp[hwb] at ih hg;simp[hi,hX];intros;apply cK (by simpa using hg);simp;grind
 simp[hwb] at ih hg;simp[hi,hX];intros;apply cK (by simpa using hg);simp;grind
def Qy0(t:TrU)(part:Int)(hb:0<=t.ya/\t.ya<=99999)(ha:0<=t.yb/\t.yb<=99999)(hp:0<=part/\part<=1000):Gd K 334 [.agg (tuV t),.int .i64 part] (.bool (Xr t.ya t.yb part)):=by apply Qb hK QBR (by simp);have:=Qcw hp.1 hp.2 (b:=t.ya) (B:=99999) (by omega) (by omega);simp[Xr];omega
omit hK
theorem JX:∀l:List Rod,(∀r∈l,V3 r)->(Z1 l).length<=10 ^ l.length
 |[],_=>by simp[Z1]
 |r::rs,h=>by
  have ih:=JX rs λx hx=>h x (by simp[hx]);have hr:=(h r (by simp)).2.1;simp only[inR] at hr;simp only[Z1,List.length_flatMap,QN9];have:((V2 (r.long-r.z7) r.long).map λ_=>(Z1 rs).length).sum<=10*10 ^ rs.length:=by rw[List.map_const',List.sum_replicate_nat];refine Nat.mul_le_mul ?_ ih;simp[V2];omega
  grind
def Qa1(first:List Int)(lo:Int)(rs:List Rod)(i:Nat):List (List Int):=(Z1 rs).map λw=>first++(lo+i)::w
def QbU(first:List Int)(r:Rod)(rs:List Rod):(Z1 (r::rs)).map (first++·)=acc (Qa1 first (r.long-r.z7) rs) (r.long-(r.long-r.z7)+1).toNat:=by simp only[Z1,V2,acc,QPO,List.flatMap_map,List.map_map];rfl
include hK
theorem Qqu(p:Za)(hp:OkU p):∀(n:Nat)(first:List Int),first.length+n=p.zi.length->Gd K 374 [puV p,Qq first] (.sl 1 ((Z1 (p.zi.drop first.length)).map λw=>[Qq (first++w)]))
 |0,first,hn=>by
  apply Qb hK Qsx (by simp);have e1:p.zi.drop first.length=[]:=QOA (by omega)
  have e2:first.length=p.zi.length:=by omega
  rw[e1];simp[Z1,e2]
  (repeat' first|omega|apply And.intro|intro)
 |n+1,first,hn=>by
  have ih:=Qqu p hp n;apply Qb hK Qsx (by simp);have y9:first.length<p.zi.length:=by omega
  have hne:¬(first.length:Int)=p.zi.length:=by omega
  have hl:=hp.rlen;have e1:p.zi.drop first.length=p.zi[first.length]::p.zi.drop (first.length+1):=QOq y9
  have hro:=hp.zi _ (QN0 y9);have e3:((Z1 (p.zi.drop first.length)).map λw=>[Qq (first++w)])=(acc (Qa1 first (p.zi[first.length].long-p.zi[first.length].z7) (p.zi.drop (first.length+1))) (p.zi[first.length].long-(p.zi[first.length].long-p.zi[first.length].z7)+1).toNat).map λw=>[Qq w]:=by rw[e1,<- QbU,List.map_map];rfl
  rw[e3]
  have hsz:(Z1 (p.zi.drop (first.length+1))).length<=10000:=by
   refine QOz (JX _ λr hr=>hp.zi r (QOW hr)) ?_;have:(p.zi.drop (first.length+1)).length<=4:=by simp;omega
   exact QOV (by decide) this
  generalize hR:p.zi[first.length]=R at *
  have hbs:∀i,(Qa1 first (R.long-R.z7) (p.zi.drop (first.length+1)) i).length<=10000:=λi=>by simpa[Qa1] using hsz
  have ih2:∀i:Nat,Gd K 374 [puV p,Qq (first++[R.long-R.z7+(i:Int)])] (.sl 1 ((Qa1 first (R.long-R.z7) (p.zi.drop (first.length+1)) i).map λw=>[Qq w])):=λi=>by have:=ih (first++[R.long-R.z7+(i:Int)]) (by simp;omega);simp only[QOf,QOi,QOE,QOn] at this;rw[Qa1,List.map_map];simpa[Function.comp_def] using this
  have⟨hr1,hr2,hr3⟩:=hro;simp only[inR] at hr1 hr2 hr3;generalize Qa1 first (R.long-R.z7) (p.zi.drop (first.length+1))=pc at *
  simp[hne,y9,hR]
  (repeat' first|omega|apply And.intro|intro)
  have e0:AV.iv (IV.int .i64 (R.long-R.z7))=AV.iv (.int .i64 (R.long-R.z7+((0:Nat):Int))):=by simp
  rw[e0]
  refine Qe (λi=>[(1,AV.iv (Qq first)),(2,AV.iv (.ptr (puC p))),(5,AV.yl 5 (acc pc i).length),(6,AV.loc 6 0),(7,AV.iv (.int .i64 (R.long-R.z7+(i:Nat))))])
   (λi=>[(5,AO.arr 45 1 (emb ((acc pc i).map λw=>[Qq w])) 0),(6,AO.box [.iv (.int .i64 R.long),.iv (.int .i64 R.z7),.iv (.int .i64 R.grow)])]) (R.long-(R.long-R.z7)+1).toNat (λi=>True) trivial ?_ ?_
  .intro _;have q1:R.long-R.z7+((R.long-(R.long-R.z7)+1).toNat:Int)=R.long+1:=by omega
   have q2:¬R.long+1<=R.long:=by omega
   rw[q1,Qa Qkl.eq_1];simp[q2]
  intro i hi _ hh;have q1:R.long-R.z7+(i:Int)<=R.long:=by omega
  have q3:R.long-R.z7+((i:Int)+1)=R.long-R.z7+i+1:=by omega
  have hlen:=YO pc 10000 hbs i;have hbi:=hbs i;have hg:=ih2 i;rw[ZR pc i] at hh;rw[Qa Qkl.eq_1];simp[q1,q3] at hh |-
  (repeat' first|omega|apply And.intro|intro)
  refine VN [some (puV p),none] (by simp) (rows:=(first++[R.long-R.z7+(i:Int)]).map λn=>[.int .i64 n]) (n:=first.length+1) (sz:=1) (et:=3) (mv:=0) (r:=.sl 1 ((pc i).map λw=>[Qq w])) ?_ (by simp) (by simp[Qc]) (by simp) (by simp) ?_
  .have:((first++[R.long-R.z7+(i:Int)]).map λn=>[IV.int IntKind.i64 n]).take (first.length+1)=(first++[R.long-R.z7+(i:Int)]).map λn=>[IV.int IntKind.i64 n]:=QN1 (by simp);rw[this];exact hg
  simp[-List.map_map,Qw,QE,QC,Qm]
  (repeat' first|omega|apply And.intro|intro)
omit hK
def Qxi{α:Type}(pc:Nat->List α){i n:Nat}(h:i<=n):(acc pc i).length<=(acc pc n).length:=by
 obtain⟨k,rfl⟩:∃k,n=i+k:=⟨n-i,by omega⟩;induction k with
 |succ k ih=>refine QOz (ih (by omega)) ?_;rw[<- QPa,ZR,QOf];omega
 |_=>grind
def QcR(p:Za):Nat:=(p.z9-p.z8+1).toNat
def Qfq(p:Za)(b:Int)(j:Nat):List TrU:=(Z1 p.zi).map λw=>⟨b,p.z8+j,w⟩
def Qi2(p:Za)(i:Nat):List TrU:=acc (Qfq p (p.z8+i)) (QcR p)
def QoM(p:Za):Ql1 p=acc (Qi2 p) (QcR p):=by simp only[Ql1,XH,V2,acc,QcR,List.flatMap_map];rfl
noncomputable def uE(p:Za)(is:Bool):Int:=if OkU p then(if is=true then(if YQ p=[] then 3 else 0) else 1) else 40
def uL(p:Za)(is:Bool):List TrU:=if OkU p/\is=true then YQ p else []
def Qbk{α:Type}(f:α->Bool)(l:List α)(i:Nat)(h:i<l.length):(l.take (i+1)).filter f=(l.take i).filter f++(if f l[i] then [l[i]] else []):=by
 rw[QNW h,QOT]
 grind
include hK
def Qy2(p:Za)(hp:OkU p)(hN:(Ql1 p).length<=1000000):Gd K 332 [puV p] (.sl 3 ((Ql1 p).map tuV)):=by
 apply Qb hK QBT (by simp);simp;have hg367:=Qqu hK p hp p.zi.length [] (by simp);simp only[QOE,List.drop_zero,QOg] at hg367;apply cK (by simpa using hg367);have hgu:=hp.guess;have hmo:=hp.most;simp only[inR] at hgu;have hWl:(Z1 p.zi).length<=10000:=by refine QOz (JX _ hp.zi) ?_;exact QOV (by decide) hp.rlen
 rw[QoM] at hN |-;have hG:p.z8+(QcR p:Int)=p.z9+1:=by unfold QcR;omega
 have hpB:∀b j,Qfq p b j=(Z1 p.zi).map λw=>(⟨b,p.z8+j,w⟩:TrU):=λb j=>rfl;have hpA:∀i,Qi2 p i=acc (Qfq p (p.z8+i)) (QcR p):=λi=>rfl;generalize Z1 p.zi=W at *;generalize Qfq p=pB at *;generalize Qi2 p=pA at *;generalize QcR p=G at *;simp;have e0:AV.iv (IV.int .i64 p.z8)=AV.iv (.int .i64 (p.z8+((0:Nat):Int))):=by simp
 rw[e0]
 refine Qe (λi=>[(1,AV.iv (.ptr (puC p))),(3,AV.yl 3 (acc pA i).length),(4,AV.iv (.sl 1 (W.map λw=>[Qq w]))),(5,AV.iv (.int .i64 (p.z8+(i:Nat))))])
  (λi=>[(3,AO.arr 347 3 (emb ((acc pA i).map tuV)) 0)]) G (λi=>True) trivial ?_ ?_
 .intro _;have q2:¬p.z9+1<=p.z9:=by omega
  rw[hG,Qa QkF.eq_1];simp[q2]
 .intro i hi _ ih;have q1:p.z8+(i:Int)<=p.z9:=by omega
  have q3:p.z8+((i:Int)+1)=p.z8+i+1:=by omega
  have hl1:=Qxi pA (show i+1<=G by omega);rw[ZR,hpA i] at ih hl1;rw[QOf] at hl1;rw[Qa QkF.eq_1];generalize acc pA i=T at *;simp[q1,q3] at ih |-;rw[e0];have eT:T=T++acc (pB (p.z8+i)) 0:=by simp[acc]
  rw[eT]
  refine Qe (λj=>[(1,AV.iv (.ptr (puC p))),(3,AV.yl 3 (T++acc (pB (p.z8+i)) j).length),(4,AV.iv (.sl 1 (W.map λw=>[Qq w]))),(5,AV.iv (.int .i64 (p.z8+(i:Nat)))),(6,AV.iv (.int .i64 (p.z8+(j:Nat))))])
   (λj=>[(3,AO.arr 347 3 (emb ((T++acc (pB (p.z8+i)) j).map tuV)) 0)]) G (λi=>True) trivial ?_ ?_
  .intro _;have q2:¬p.z9+1<=p.z9:=by omega
   rw[hG,Qa QkG.eq_1];simp[q2];grind
  .intro j hj _ ih2;have q1':p.z8+(j:Int)<=p.z9:=by omega
   have q3':p.z8+((j:Int)+1)=p.z8+j+1:=by omega
   have hl2:=Qxi (pB (p.z8+i)) (show j+1<=G by omega);rw[ZR,hpB] at ih2 hl2;rw[QOf,QN9] at hl2;rw[Qa QkG.eq_1];have hlS:(T++acc (pB (p.z8+i)) j).length=T.length+(acc (pB (p.z8+i)) j).length:=by simp
   rw[<- QPc] at ih2;generalize hS:T++acc (pB (p.z8+i)) j=S at *;simp[q1',q3'] at ih2 |-;have⟨Pf,hP0,hPs,hPn,hPl⟩:=Qfo (λw=>(⟨p.z8+i,p.z8+j,w⟩:TrU)) W;have eS:S=S++Pf 0:=by grind
   rw[eS]
   refine Qe (λk=>[(1,AV.iv (.ptr (puC p))),(3,AV.yl 3 (S++Pf k).length),(4,AV.iv (.sl 1 (W.map λw=>[Qq w]))),(5,AV.iv (.int .i64 (p.z8+(i:Nat)))),(6,AV.iv (.int .i64 (p.z8+(j:Nat)))),(7,AV.iv (.int .i64 (k:Nat)))])
    (λk=>[(3,AO.arr 347 3 (emb ((S++Pf k).map tuV)) 0)]) W.length (λi=>True) trivial ?_ ?_
   .intro _;have hl:=hPl W.length (QN3 _);have hPm:(Pf W.length).map tuV=W.map (tuV∘λw=>(⟨p.z8+i,p.z8+j,w⟩:TrU)):=by grind
    rw[Qa QkH.eq_1];simp[hl,hPm];grind
   .intro k hk _ ih3;have hl:=hPl k (by omega);rw[hPs k hk] at ih3;rw[Qa QkH.eq_1];simp[hk,hl] at ih3 |-
    grind
def QfL(p:Za)(is:Bool)(hl:p.zi.length<=1000)(hx:p.zj.length<=1000)(hN:OkU p->(Ql1 p).length<=1000000):Gd K 265 [puV p,.bool is] (.xf [.sl 3 ((uL p is).map tuV),.int .i64 (uE p is)]):=by
 apply Qb hK QCA (by simp);simp;apply cK (by simpa using Qqr hK p hl hx);by_cases hp:OkU p;rotate_left
 .simp[hp,uL,uE]
 cases is
 .simp[hp,uL,uE]
 have hN:=hN hp;simp[hp];apply cK (by simpa using Qy2 hK p hp hN);have hE:uE p true=if YQ p=[] then 3 else 0:=by simp[uE,hp]
 have hL:uL p true=YQ p:=by simp[uL,hp]
 have hfit:∀t∈Ql1 p,QJu p t:=λt ht=>Qj5 hp ht;rw[hE,hL];have hTr:YQ p=(Ql1 p).filter λt=>decide ((YH p t:Int)<=p.zh):=rfl;generalize YQ p=B at *;generalize Ql1 p=A at *;simp
 refine Qe (λi=>[(2,AV.iv (.ptr (puC p))),(7,AV.yl 7 ((A.take i).filter λt=>decide ((YH p t:Int)<=p.zh)).length),(8,AV.iv (.sl 3 (A.map tuV))),(9,AV.iv (.int .i64 (i:Nat)))])
  (λi=>[(7,AO.arr 347 3 (emb (((A.take i).filter λt=>decide ((YH p t:Int)<=p.zh)).map tuV)) 0)]) A.length (λ_=>True) trivial ?_ ?_
 .intro _;rw[Qa Qk8.eq_1,QN5,<- hTr];clear hTr hE hL;by_cases hB:B=[]
  .simp[hB]
  have hB':¬B.length=0:=by simpa using hB
  simp[hB,hB']
 intro i hi _ ih;have hg:=Qy1 hK p A[i] hp (hfit _ (QN0 hi));have hcl:((A.take i).filter λt=>decide ((YH p t:Int)<=p.zh)).length<=i:=QOz (QOp _ _) (by simp;omega);rw[Qbk _ _ _ hi] at ih;rw[Qa Qk8.eq_1];generalize hT:A[i]=T at *;generalize(A.take i).filter (λt=>decide ((YH p t:Int)<=p.zh))=B at *
 by_cases hw:(YH p T:Int)<=p.zh
 .simp[hi,hT,hw] at ih |-
  intros;apply cK (by simpa using hg);simp[hi,hT,hw];grind
 simp[hi,hT,hw] at ih |-;intros;apply cK (by simpa using hg);simp[hi,hT,hw];grind
end Go.Pf
