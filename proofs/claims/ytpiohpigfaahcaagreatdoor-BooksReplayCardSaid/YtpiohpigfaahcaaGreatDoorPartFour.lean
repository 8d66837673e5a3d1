/- Copies, comparisons, zp is far too much, the reference's checks. -/
import Derived.Test.YtpiohpigfaahcaaGreatDoorPartThree
import Derived.Lib.SliceRun
import Derived.Lib.JoinLaws
import Derived.Shelf.Spec.SlicesInsertGrow
set_option linter.all false
set_option maxRecDepth 100000
namespace Go.Pf
open Go Go.Ev Go.Proofs Go.RowKit Go.Proofs.Tryz
variable{K:World->Prop}(hK:∀w w',K w->Below w.heap.size w w'->K w')
def QB.ext{a b:QB}(h0:a.zp=b.zp)(h1:a.pos=b.pos)(h2:a.z2=b.z2)(h3:a.bar=b.bar)(h4:a.z1=b.z1):a=b:=by cases a;cases b;simp_all
def XC.ext{a b:XC}(h0:a.after=b.after)(h1:a.pos=b.pos)(h2:a.z2=b.z2)(h3:a.bar=b.bar)(h4:a.z1=b.z1):a=b:=by cases a;cases b;simp_all
def ZL.ext{a b:ZL}(h0:a.long=b.long)(h1:a.lo=b.lo)(h2:a.hi=b.hi):a=b:=by cases a;cases b;simp_all
def ZD.ext{a b:ZD}(h0:a.zm=b.zm)(h1:a.zn=b.zn)(h2:a.load=b.load)(h3:a.off=b.off):a=b:=by cases a;cases b;simp_all
def WM.ext{a b:WM}(h0:a.zm=b.zm)(h1:a.zn=b.zn)(h2:a.z5=b.z5):a=b:=by cases a;cases b;simp_all
def QH{α:Type}(f:α->Int):List α->Int
 |[]=>1
 |a::l=>f a*QH f l
def Qcq{α:Type}(f:α->Int)(l:List α)(a:α):QH f (l++[a])=QH f l*f a:=by
 induction l with
 |nil=>simp[QH]
 |cons b l ih=>simp[QH,ih,Int.mul_assoc]
def Yy{α:Type}(f:α->Int)(l:List α)(h:∀a∈l,1<=f a):1<=QH f l:=by
 induction l with
 |nil=>simp[QH]
 |cons b l ih=>have h1:=h b (by simp);have h2:=ih λa ha=>h a (by simp[ha]);have:=QOY h1 h2 (by omega) (by omega);simp only[QH];omega
def Zs(l:ZL):Int:=l.hi-l.lo+1
def sets(m:Machine)(i:Nat):Int:=(m.zw-m.zu+1)*QH Zs (m.zd.take i)
def ZF(ds:List QB):Nat:=ds.countP λd=>decide (d.z2=2)
def QgK(m:Machine)(i:Nat)(h:i<m.zd.length):sets m (i+1)=sets m i*Zs m.zd[i]:=by unfold sets;rw[QNW h,Qcq,Int.mul_assoc]
def Qre(m:Machine):Prop:=40<m.zd.length\/40<m.zk.length\/(OkM m/\∃i,0<i/\i<=m.zd.length/\150<sets m i)
noncomputable instance (m:Machine):Decidable (Qre m):=Classical.propDecidable _
def Qw5(c:Ql):Prop:=40<c.za.length\/40<c.zg.length\/(OkC c/\5<ZF c.za)
noncomputable instance (c:Ql):Decidable (Qw5 c):=Classical.propDecidable _
def ways(p:Qf):Int:=sets p.zb p.zb.zd.length*(2 ^ ZF p.zc.za:Nat)
def Qiv(p:Qf):Prop:=Qw5 p.zc\/Qre p.zb\/40<p.zf.length\/(OkP p/\48<ways p)
noncomputable instance (p:Qf):Decidable (Qiv p):=Classical.propDecidable _
def Qo3(ds:List QB)(i:Nat)(h:i<ds.length):ZF (ds.take (i+1))=ZF (ds.take i)+if ds[i].z2=2 then 1 else 0:=by unfold ZF;rw[QNW h,QOH];grind
def Qo2(ds:List QB)(i:Nat):ZF (ds.take i)<=ZF ds:=by
 conv=>rhs;rw[<- QO5 i ds]
 unfold ZF;grind
def Qx0{n:Nat}(h:n<=5):2 ^ n<=32:=by
 have:n=0\/n=1\/n=2\/n=3\/n=4\/n=5:=by omega
 grind
def OkM.span{m:Machine}(h:OkM m){l:ZL}(hl:l∈m.zd):1<=Zs l/\Zs l<=1000:=by have:=h.zd l hl;simp[Zm,inR] at this;have h1:=of_decide_eq_true this.1.2;unfold Zs;omega
def OkM.sets_pos{m:Machine}(h:OkM m)(i:Nat):1<=sets m i:=by have h1:=Yy Zs (m.zd.take i) λa ha=>(h.span (QOJ ha)).1;have h2:=h.zx;simp only[inR] at h2;have:=QOY (show(1:Int)<=m.zw-m.zu+1 by omega) h1 (by omega) (by omega);unfold sets;omega
include hK
def QFV(a b:Ql):Gd K 53 [chV a,chV b] (.bool (decide (a=b))):=by
 apply Qb hK QGY (by simp);by_cases h1:a.zh=b.zh;rotate_left
 .have:a≠b:=λe=>h1 (by rw[e]);simp[h1,this]
 .by_cases h2:a.za.length=b.za.length
  .by_cases h3:a.zg.length=b.zg.length
   .simp[h1,h2,h3];intros;refine Qe (λi=>[(2,AV.iv (.ptr [Qr a.za,Qj a.zg,.int .i64 b.zh])),(3,AV.iv (.ptr [Qr b.za,Qj b.zg,.int .i64 b.zh])),(5,AV.iv (.int .i64 (i:Nat)))]) (λ_=>[]) a.za.length (λi=>a.za.take i=b.za.take i) (by simp) ?_ ?_
    .intro h;rw[h2,QN5,<- h2,QN5] at h;rw[Qa Qsm.eq_1];simp;intros;refine Qe (λi=>[(2,AV.iv (.ptr [Qr a.za,Qj a.zg,.int .i64 b.zh])),(3,AV.iv (.ptr [Qr b.za,Qj b.zg,.int .i64 b.zh])),(6,AV.iv (.int .i64 (i:Nat)))]) (λ_=>[]) a.zg.length (λi=>a.zg.take i=b.zg.take i) (by simp) ?_ ?_
     .intro h';rw[h3,QN5,<- h3,QN5] at h';rw[Qa Qsl.eq_1];have:a=b:=by cases a;cases b;simp_all
      subst this;simp
     intro i hi h ih;have hi':i<b.zg.length:=by omega
     rw[Qa Qsl.eq_1];by_cases e:a.zg[i]=b.zg[i]
     .simp[hi,hi',e] at ih |-
      intros;refine⟨by omega,ih ?_⟩;rw[QNW hi,QNW hi',h,e]
     have hne:a≠b:=λc=>by grind
     have e':=λk1 k2 k3 k4 k5=>e (XC.ext k1 k2 k3 k4 k5);simp[hi,hi',hne];grind
    intro i hi h ih;have hi':i<b.za.length:=by omega
    rw[Qa Qsm.eq_1];by_cases e:a.za[i]=b.za[i]
    .simp[hi,hi',e] at ih |-
     intros;refine⟨by omega,ih ?_⟩;rw[QNW hi,QNW hi',h,e]
    have hne:a≠b:=λc=>by grind
    have e':=λk1 k2 k3 k4 k5=>e (QB.ext k1 k2 k3 k4 k5);simp[hi,hi',hne];grind
   have h3':¬(a.zg.length:Int)=b.zg.length:=by omega
   have:a≠b:=λe=>h3 (by rw[e]);simp[h1,h2,h3',this]
  .have h2':¬(a.za.length:Int)=b.za.length:=by omega
   have:a≠b:=λe=>h2 (by rw[e]);simp[h1,h2',this]
def QFU(a b:Machine):Gd K 54 [maV a,maV b] (.bool (decide (a=b))):=by
 apply Qb hK QGX (by simp);by_cases h1:a.zr=b.zr;rotate_left
 .have:a≠b:=λe=>h1 (by rw[e]);simp[h1,this]
 .by_cases h2:a.zu=b.zu/\a.zw=b.zw
  .by_cases h3:a.zh=b.zh
   .by_cases h4:a.zd.length=b.zd.length
    .by_cases h5:a.zk.length=b.zk.length
     .simp[h1,h2.1,h2.2,h3,h4,h5];intros;refine Qe (λi=>[(2,AV.iv (.ptr [Qs a.zd,.int .i64 b.zr,.int .i64 b.zu,.int .i64 b.zw,Zk a.zk,.int .i64 b.zh])),(3,AV.iv (.ptr [Qs b.zd,.int .i64 b.zr,.int .i64 b.zu,.int .i64 b.zw,Zk b.zk,.int .i64 b.zh])),(5,AV.iv (.int .i64 (i:Nat)))]) (λ_=>[]) a.zd.length (λi=>a.zd.take i=b.zd.take i) (by simp) ?_ ?_
      .intro h;rw[h4,QN5,<- h4,QN5] at h;rw[Qa Qsk.eq_1];simp;intros;refine Qe (λi=>[(2,AV.iv (.ptr [Qs a.zd,.int .i64 b.zr,.int .i64 b.zu,.int .i64 b.zw,Zk a.zk,.int .i64 b.zh])),(3,AV.iv (.ptr [Qs b.zd,.int .i64 b.zr,.int .i64 b.zu,.int .i64 b.zw,Zk b.zk,.int .i64 b.zh])),(6,AV.iv (.int .i64 (i:Nat)))]) (λ_=>[]) a.zk.length (λi=>a.zk.take i=b.zk.take i) (by simp) ?_ ?_
       .intro h';rw[h5,QN5,<- h5,QN5] at h';rw[Qa Qsj.eq_1];have:a=b:=by cases a;cases b;simp_all
        subst this;simp
       intro i hi h ih;have hi':i<b.zk.length:=by omega
       rw[Qa Qsj.eq_1];by_cases e:a.zk[i]=b.zk[i]
       .simp[hi,hi',e] at ih |-
        intros;refine⟨by omega,ih ?_⟩;rw[QNW hi,QNW hi',h,e]
       have hne:a≠b:=λc=>by grind
       have e':=λk1 k2 k3 k4=>e (ZD.ext k1 k2 k3 k4);simp[hi,hi',hne];grind
      intro i hi h ih;have hi':i<b.zd.length:=by omega
      rw[Qa Qsk.eq_1];by_cases e:a.zd[i]=b.zd[i]
      .simp[hi,hi',e] at ih |-
       intros;refine⟨by omega,ih ?_⟩;rw[QNW hi,QNW hi',h,e]
      have hne:a≠b:=λc=>by grind
      have e':=λk1 k2 k3=>e (ZL.ext k1 k2 k3);simp[hi,hi',hne];grind
     have h':¬(a.zk.length:Int)=b.zk.length:=by omega
     have:a≠b:=λe=>h5 (by rw[e]);simp[h1,h2.1,h2.2,h3,h4,h',this]
    have h':¬(a.zd.length:Int)=b.zd.length:=by omega
    have:a≠b:=λe=>h4 (by rw[e]);simp[h1,h2.1,h2.2,h3,h',this]
   have:a≠b:=λe=>h3 (by rw[e]);simp[h1,h2.1,h2.2,h3,this]
  .have:a≠b:=λe=>h2 (by grind);by_cases k1:a.zu=b.zu
   .have k2:¬a.zw=b.zw:=λc=>h2 ⟨k1,c⟩;simp[h1,k1,k2,this]
   .simp[h1,k1,this]
def QF8(a b:Qf):Gd K 27 [prV a,prV b] (.bool (decide (a=b))):=by
 apply Qb hK QHc (by simp);simp;apply cK (QFV hK a.zc b.zc);by_cases h1:a.zc=b.zc;rotate_left
 .have:a≠b:=λe=>h1 (by rw[e]);simp[h1,this]
 .simp[h1];apply cK (QFU hK a.zb b.zb);by_cases h2:a.zb=b.zb;rotate_left
  .have:a≠b:=λe=>h2 (by rw[e]);simp[h1,h2,this]
  .by_cases h3:a.zf.length=b.zf.length
   .by_cases h4:a.zo=b.zo
    .by_cases h5:a.z6=b.z6
     .simp[h1,h2,h3,h4,h5];intros;refine Qe (λi=>[(2,AV.iv (.ptr [Qr b.zc.za,Qj b.zc.zg,.int .i64 b.zc.zh,Qs b.zb.zd,.int .i64 b.zb.zr,.int .i64 b.zb.zu,.int .i64 b.zb.zw,Zk b.zb.zk,.int .i64 b.zb.zh,Q4 a.zf,.int .i64 b.zo,.int .i64 b.z6])),(3,AV.iv (.ptr [Qr b.zc.za,Qj b.zc.zg,.int .i64 b.zc.zh,Qs b.zb.zd,.int .i64 b.zb.zr,.int .i64 b.zb.zu,.int .i64 b.zb.zw,Zk b.zb.zk,.int .i64 b.zb.zh,Q4 b.zf,.int .i64 b.zo,.int .i64 b.z6])),(5,AV.iv (.int .i64 (i:Nat)))]) (λ_=>[]) a.zf.length (λi=>a.zf.take i=b.zf.take i) (by simp) ?_ ?_
      .intro h;rw[h3,QN5,<- h3,QN5] at h;rw[Qa QsJ.eq_1];have:a=b:=by cases a;cases b;simp_all
       subst this;simp
      intro i hi h ih;have hi':i<b.zf.length:=by omega
      rw[Qa QsJ.eq_1];by_cases e:a.zf[i]=b.zf[i]
      .simp[hi,hi',e] at ih |-
       intros;refine⟨by omega,ih ?_⟩;rw[QNW hi,QNW hi',h,e]
      have hne:a≠b:=λc=>by grind
      have e':=λk1 k2 k3=>e (WM.ext k1 k2 k3);simp[hi,hi',hne];grind
     have:a≠b:=λe=>h5 (by rw[e]);simp[h1,h2,h3,h4,h5,this]
    have:a≠b:=λe=>h4 (by rw[e]);simp[h1,h2,h3,h4,this]
   .have h':¬(a.zf.length:Int)=b.zf.length:=by omega
    have:a≠b:=λe=>h3 (by rw[e]);simp[h1,h2,h',this]
def Qqq(m:Machine)(hl:m.zd.length<=1000)(hb:m.zk.length<=1000):Gd K 70 [maV m] (.int .i64 (if OkM m then 0 else 30)):=by
 apply Qb hK QGT (by simp);have no:∀q:Prop,(OkM m->q)->¬q->¬OkM m:=λq h1 h2 h=>h2 (h1 h);by_cases h1:m.zd.length<=3;rotate_left
 .have h1':(3:Int)<m.zd.length:=by omega
  have:=no _ OkM.len h1;simp[h1',this]
 .have h1':¬(3:Int)<m.zd.length:=by omega
  simp[h1'];intros;apply cK (Jm hK _ _ _);by_cases h3:inR m.zr 0 9999;rotate_left
  .have:=no _ OkM.zr h3;simp[h3,this]
  .simp[h3];apply cK (Jm hK _ _ _);by_cases h4:inR m.zu 0 m.zw;rotate_left
   .have:=no _ OkM.zx h4;simp[h4,this]
   .by_cases h5:m.zw<=20
    .have h5':¬20<m.zw:=by omega
     by_cases h6:m.zk.length<=6;rotate_left
     .have h6':(6:Int)<m.zk.length:=by omega
      have:=no _ OkM.blen h6;simp[h4,h5',h6',this]
     have h6':¬(6:Int)<m.zk.length:=by omega
     simp[h4,h5',h6'];intros;apply cK (Jm hK _ _ _);by_cases h8:inR m.zh 0 6;rotate_left
     .have:=no _ OkM.zh h8;simp[h8,this]
     simp[h8];refine Qe (λi=>[(1,AV.iv (.ptr [Qs m.zd,.int .i64 m.zr,.int .i64 m.zu,.int .i64 m.zw,Zk m.zk,.int .i64 m.zh])),(3,AV.iv (.int .i64 (i:Nat)))]) (λ_=>[]) m.zd.length (λi=>∀l∈m.zd.take i,Zm l=false) (by simp) ?_ ?_
     .intro h2;rw[QN5] at h2;rw[Qa Qsf.eq_1];simp;intros;refine Qe (λi=>[(1,AV.iv (.ptr [Qs m.zd,.int .i64 m.zr,.int .i64 m.zu,.int .i64 m.zw,Zk m.zk,.int .i64 m.zh])),(4,AV.iv (.int .i64 (i:Nat)))]) (λ_=>[]) m.zk.length (λi=>∀l∈m.zk.take i,Jr l=false) (by simp) ?_ ?_
      .intro h7;rw[QN5] at h7;have:OkM m:=⟨h1,h2,h3,h4,h5,h6,h7,h8⟩;rw[Qa Qse.eq_1];simp[this]
      intro i hi h ih;rw[Qa Qse.eq_1];simp[hi] at ih |-;intros;apply cK (QhS hK _ _ _);by_cases k1:inR m.zk[i].zm 0 9999/\inR m.zk[i].zn 0 99/\inR m.zk[i].load 0 999999999
      .simp[k1];apply cK (Jm hK _ _ _);by_cases k2:inR m.zk[i].off 0 999999999
       .simp[k2];refine⟨by omega,ih ?_⟩;rw[QNW hi];intro l hl;rcases QOc.1 hl with hl|hl
        .exact h l hl
        rw[QOu.1 hl];simp[Jr,k1,k2]
       have:=no _ (λhh=>hh.zk _ (QN0 hi)) (by simp[Jr,k2]);simp[k2,this]
      have:=no _ (λhh=>hh.zk _ (QN0 hi)) (by simp only[Jr];grind);simp[k1,this]
     intro i hi h ih;rw[Qa Qsf.eq_1];simp[hi] at ih |-;intros;apply cK (Jm hK _ _ _);by_cases k1:inR m.zd[i].long 1 1000;rotate_left
     .have:=no _ (λhh=>hh.zd _ (QN0 hi)) (by simp[Zm,k1]);simp[k1,this]
     simp[k1,hi];apply cK (Jm hK _ _ _);by_cases k2:inR m.zd[i].lo 1 m.zd[i].hi
     .by_cases k3:m.zd[i].hi<=1000
      .have k3':¬1000<m.zd[i].hi:=by omega
       simp[k2,k3',hi];refine⟨by omega,ih ?_⟩;rw[QNW hi];intro l hl;rcases QOc.1 hl with hl|hl
       .exact h l hl
       rw[QOu.1 hl];simp[Zm,k1,k2,k3]
      have k3':1000<m.zd[i].hi:=by omega
      have:=no _ (λhh=>hh.zd _ (QN0 hi)) (by simp[Zm,k3]);simp[k2,k3',hi,this]
     have:=no _ (λhh=>hh.zd _ (QN0 hi)) (by simp[Zm,k2]);simp[k2,this]
    .have h5':20<m.zw:=by omega
     have:=no _ OkM.zw h5;simp[h4,h5',this]
def Qqs(p:Qf)(hs:Ql3 p):Gd K 42 [prV p] (.int .i64 (if OkP p then 0 else 60)):=by
 apply Qb hK QG8 (by simp);have no:∀q:Prop,(OkP p->q)->¬q->¬OkP p:=λq h1 h2 h=>h2 (h1 h);simp;apply cK (QhU hK p.zc hs.za hs.zg);by_cases h1:OkC p.zc;rotate_left
 .have:=no _ OkP.zc h1;simp[h1,this]
 .simp[h1];apply cK (Qqq hK p.zb hs.zd hs.zk);by_cases h2:OkM p.zb;rotate_left
  .have:=no _ OkP.zb h2;simp[h2,this]
  .simp[h2];apply cK (QhT hK _ _ _);by_cases h3:inR p.zo 0 999999999;rotate_left
   .have:=no _ OkP.zo h3;simp[h3,this]
   .simp[h3];apply cK (QhT hK _ _ _);by_cases h4:inR p.z6 1 12;rotate_left
    .have:=no _ OkP.z6 h4;simp[h4,this]
    .simp[h4];apply cK (QwT hK p.zc hs.za);have hpl:=Qee p.zc.za;have hpv:Xv XI p.zc.za 0=pv p.zc.za:=rfl;rw[hpv];by_cases h5:p.zf.length=(pv p.zc.za).length;rotate_left
     .have h5':¬((pv p.zc.za).length:Int)=p.zf.length:=by omega
      have:=no _ OkP.many h5;simp[h5',this]
     .simp[h5];intros;have h90:=QFM hK p.zc hs.za;have hEl:(p.zc.za.map λd=>d.z2.tmod 2).length=p.zc.za.length:=by simp
      generalize(p.zc.za.map λd=>d.z2.tmod 2)=E at h90 hEl;apply cK h90;simp;apply cK (QmV hK p.zc E h1.za hs.za (by omega));simp;refine Qe (λi=>[(1,AV.iv (.ptr [Qr p.zc.za,Qj p.zc.zg,.int .i64 p.zc.zh,Qs p.zb.zd,.int .i64 p.zb.zr,.int .i64 p.zb.zu,.int .i64 p.zb.zw,Zk p.zb.zk,.int .i64 p.zb.zh,Q4 p.zf,.int .i64 p.zo,.int .i64 p.z6])),(3,AV.iv (ZM (pv p.zc.za))),(4,AV.iv (QA9 (Qke p.zc.za (Qt E) p.zc.za.length))),(5,AV.iv (.int .i64 (i:Nat)))]) (λ_=>[]) p.zf.length (λi=>∀k(h:k<(pv p.zc.za).length)(h':k<p.zf.length),k<i->Vv p.zf[k] (cnt p.zc.za (pv p.zc.za)[k])) (by simp) ?_ ?_
      .intro h;have:OkP p:=⟨h1,h2,h3,h4,h5,λi h1 h2=>h i h1 h2 h2⟩;rw[Qa Qsr.eq_1];simp[this]
      .intro i hi h ih;have hi':i<(pv p.zc.za).length:=by omega
       have y9:=Qef hi';have hb:=h1.za.cnt (pv p.zc.za)[i] (by omega) (by omega);have hcg:=VO p.zc.za (Qt E) p.zc.za.length (pv p.zc.za)[i] (by omega);have hcl:=ZW (Qt E) h1.za (pv p.zc.za)[i] (by omega) (by omega);rw[Qa Qsr.eq_1];by_cases k:Vv p.zf[i] (cnt p.zc.za (pv p.zc.za)[i])
       .have ih':=ih (λk' h1' h2' hk=>by
         grind)
        simp[hi,hi'] at ih' |-;intros;apply cK (QhS hK _ _ _);have k1:=k.1;have k2:=k.2.1;have hz:inR 0 0 999999999:=by simp[inR]
        have hlt1:(pv p.zc.za)[i]<p.zc.za.length+1:=by omega
        simp[k1,k2,hz,hi',hlt1,hcg,hcl];have k3:=k.2.2
        (repeat' first|omega|apply And.intro|intro)
        apply cK (QhT hK _ _ _);simp[k3];grind
       .have:=no _ (λhh=>hh.zf i hi' hi) k;simp[hi,hi',this];intros;apply cK (QhS hK _ _ _);by_cases kk:inR p.zf[i].zm 0 9999/\inR p.zf[i].zn 0 99/\inR 0 0 999999999
        .have hlt1:(pv p.zc.za)[i]<p.zc.za.length+1:=by omega
         simp[kk,hi',hlt1,hcg,hcl]
         (repeat' first|omega|apply And.intro|intro)
         apply cK (QhT hK _ _ _);have k3:¬inR p.zf[i].z5 (-1) (cnt p.zc.za (pv p.zc.za)[i]-1):=λc=>k ⟨kk.1,kk.2.1,c⟩;simp[k3]
        .simp[kk]
def QFO(c:Ql):Gd K 67 [chV c] (.bool (decide (Qw5 c))):=by
 have hd:decide (Qw5 c)=decide (40<c.za.length\/40<c.zg.length\/(OkC c/\5<ZF c.za)):=by
  by_cases h:Qw5 c
  .rw[decide_eq_true h];exact(decide_eq_true (p:=40<c.za.length\/40<c.zg.length\/(OkC c/\5<ZF c.za)) h).symm
  rw[decide_eq_false h];exact(decide_eq_false (p:=40<c.za.length\/40<c.zg.length\/(OkC c/\5<ZF c.za)) h).symm
 rw[hd];apply Qb hK QGW (by simp);by_cases h1:c.za.length<=40;rotate_left
 .have h1':(40:Int)<c.za.length:=by omega
  have h1'':40<c.za.length:=by omega
  simp[h1',h1'']
  try omega
 .by_cases h2:c.zg.length<=40
  .have h1':¬(40:Int)<c.za.length:=by omega
   have h2':¬(40:Int)<c.zg.length:=by omega
   have h1'':¬40<c.za.length:=by omega
   have h2'':¬40<c.zg.length:=by omega
   simp[h1',h2',h1'',h2''];intros;apply cK (QhU hK c (by omega) (by omega));by_cases h3:OkC c;rotate_left
   .simp[h3]
   simp[h3];refine Qe (λi=>[(1,AV.iv (.ptr [Qr c.za,Qj c.zg,.int .i64 c.zh])),(3,AV.iv (.int .i64 (ZF (c.za.take i):Nat))),(4,AV.iv (.int .i64 (i:Nat)))]) (λ_=>[]) c.za.length (λi=>True) trivial ?_ ?_
   .intro _;rw[Qa Qsi.eq_1];simp;omega
   intro i hi _ ih;have hb:ZF (c.za.take i)<=i:=by have:=QOw (p:=λd:QB=>decide (d.z2=2)) (l:=c.za.take i);simp at this;unfold ZF;omega
   rw[Qa Qsi.eq_1]
   have hc:ZF (c.za.take (i+1))=ZF (c.za.take i)+if c.za[i].z2=2 then 1 else 0:=by unfold ZF;rw[QNW hi,QOH];grind
   rw[hc] at ih;by_cases e:c.za[i].z2=2
   .simp[hi,e] at ih |-
    grind
   simp[hi,e] at ih |-
   grind
  .have h1':¬(40:Int)<c.za.length:=by omega
   have h2':(40:Int)<c.zg.length:=by omega
   have h2'':40<c.zg.length:=by omega
   simp[h1',h2',h2'']
   try omega
def QFN(m:Machine):Gd K 68 [maV m] (.bool (decide (Qre m))):=by
 apply Qb hK QGV (by simp);by_cases h1:m.zd.length<=40;rotate_left
 .have h1':(40:Int)<m.zd.length:=by omega
  have:Qre m:=.inl (by omega);simp[h1',this]
 .by_cases h2:m.zk.length<=40
  .have h1':¬(40:Int)<m.zd.length:=by omega
   have h2':¬(40:Int)<m.zk.length:=by omega
   simp[h1',h2'];intros;apply cK (Qqq hK m (by omega) (by omega));by_cases h3:OkM m;rotate_left
   .have:¬Qre m:=by
     rintro (h|h|⟨h,_⟩)
     all_goals grind
    simp[h3,this]
   have h4:=h3.zx;have h5:=h3.zw;simp only[inR] at h4;simp[h3]
   (repeat' first|omega|apply And.intro|intro)
   have e0:m.zw-m.zu+1=sets m 0:=by simp[sets,QH]
   rw[e0];refine Qe (λi=>[(1,AV.iv (.ptr [Qs m.zd,.int .i64 m.zr,.int .i64 m.zu,.int .i64 m.zw,Zk m.zk,.int .i64 m.zh])),(3,AV.iv (.int .i64 (sets m i))),(4,AV.iv (.int .i64 (i:Nat)))]) (λ_=>[]) m.zd.length (λi=>sets m i<=150/\∀k,0<k->k<=i->sets m k<=150) ⟨by rw[<- e0];omega,λk h h'=>by omega⟩ ?_ ?_
   .intro⟨_,h⟩;have:¬Qre m:=by
     rintro (h|h|⟨_,k,hk,hk',hk2⟩)
     all_goals grind
    rw[Qa Qsh.eq_1];simp[this]
   intro i hi ⟨hq,xd⟩ ih;have hs:=h3.span (QN0 hi);have hss:=QgK m i hi;have hp:=h3.sets_pos i;have hb:sets m i*Zs m.zd[i]<=150*1000:=QOY hq hs.2 (by omega) (by omega);have hb':0<=sets m i*Zs m.zd[i]:=QOQ (by omega) (by omega);have hsp:Zs m.zd[i]=m.zd[i].hi-m.zd[i].lo+1:=rfl;have hlv:=h3.zd _ (QN0 hi);simp[Zm] at hlv;have hlv1:=hlv.1.2;have hlv2:=hlv.2;simp only[inR] at hlv1;rw[Qa Qsh.eq_1];rw[hss,hsp] at ih;simp only[hsp] at hb hb' hss;by_cases hg:150<sets m i*(m.zd[i].hi-m.zd[i].lo+1)
   .have hex:Qre m:=.inr (.inr ⟨h3,i+1,by omega,by omega,by rw[hss];exact hg⟩);simp[hi,hg,hex];omega
   have:=ih ⟨by omega,λk hk hk'=>by grind⟩
   simp[hi,hg] at this |-
   grind
  .have h1':¬(40:Int)<m.zd.length:=by omega
   have h2':(40:Int)<m.zk.length:=by omega
   have:Qre m:=.inr (.inl (by omega));simp[h1',h2',this]
def QFY(p:Qf):Gd K 40 [prV p] (.bool (decide (Qiv p))):=by
 apply Qb hK QHa (by simp);simp;apply cK (QFO hK p.zc);by_cases h1:Qw5 p.zc
 .have:Qiv p:=.inl h1;simp[h1,this]
 .simp[h1];apply cK (QFN hK p.zb);by_cases h2:Qre p.zb
  .have:Qiv p:=.inr (.inl h2);simp[h2,this]
  .by_cases h3:p.zf.length<=40
   .have h3':¬(40:Int)<p.zf.length:=by omega
    simp[h2,h3'];intros;have g1:p.zc.za.length<=40:=QO9.1 λc=>h1 (.inl c);have g2:p.zc.zg.length<=40:=QO9.1 λc=>h1 (.inr (.inl c));have g3:p.zb.zd.length<=40:=QO9.1 λc=>h2 (.inl c);have g4:p.zb.zk.length<=40:=QO9.1 λc=>h2 (.inr (.inl c));apply cK (Qqs hK p ⟨by omega,by omega,by omega,by omega,by omega⟩);by_cases h4:OkP p;rotate_left
    .have:¬Qiv p:=by
      rintro (h|h|h|h)
      all_goals grind
     simp[h4,this]
    have k4:=h4.zb.zx;have k5:=h4.zb.zw;simp only[inR] at k4;have hlen:=h4.zb.len;have htw:ZF p.zc.za<=5:=QO9.1 λc=>h1 (.inr (.inr ⟨h4.zc,c⟩));have hset:∀i,i<=p.zb.zd.length->sets p.zb i<=150:=λi hi=>by
     rcases QPI i with rfl|hp
     .simp[sets,QH];omega
     exact Int.not_lt.1 λc=>h2 (.inr (.inr ⟨h4.zb,i,hp,hi,c⟩))
    simp[h4]
    (repeat' first|omega|apply And.intro|intro)
    have e0:p.zb.zw-p.zb.zu+1=sets p.zb 0:=by simp[sets,QH]
    rw[e0];refine Qe (λi=>[(1,AV.iv (.ptr [Qr p.zc.za,Qj p.zc.zg,.int .i64 p.zc.zh,Qs p.zb.zd,.int .i64 p.zb.zr,.int .i64 p.zb.zu,.int .i64 p.zb.zw,Zk p.zb.zk,.int .i64 p.zb.zh,Q4 p.zf,.int .i64 p.zo,.int .i64 p.z6])),(3,AV.iv (.int .i64 (sets p.zb i))),(4,AV.iv (.int .i64 (i:Nat)))]) (λ_=>[]) p.zb.zd.length (λi=>True) trivial ?_ ?_
    .intro _;rw[Qa Qsw.eq_1];simp
     (repeat' first|omega|apply And.intro|intro)
     have e1:sets p.zb p.zb.zd.length=sets p.zb p.zb.zd.length*(2 ^ ZF (p.zc.za.take 0):Nat):=by simp[ZF]
     rw[e1];refine Qe (λi=>[(1,AV.iv (.ptr [Qr p.zc.za,Qj p.zc.zg,.int .i64 p.zc.zh,Qs p.zb.zd,.int .i64 p.zb.zr,.int .i64 p.zb.zu,.int .i64 p.zb.zw,Zk p.zb.zk,.int .i64 p.zb.zh,Q4 p.zf,.int .i64 p.zo,.int .i64 p.z6])),(3,AV.iv (.int .i64 (sets p.zb p.zb.zd.length*(2 ^ ZF (p.zc.za.take i):Nat)))),(5,AV.iv (.int .i64 (i:Nat)))]) (λ_=>[]) p.zc.za.length (λi=>True) trivial ?_ ?_
     .intro _;rw[Qa Qsv.eq_1]
      have:Qiv p↔48<ways p:=⟨λh=>by
       rcases h with h|h|h|h
       all_goals grind,λh=>.inr (.inr (.inr ⟨h4,h⟩))⟩
      rw[QN5];by_cases hw:48<ways p
      .have hf:=this.2 hw;unfold ways at hw;generalize sets p.zb p.zb.zd.length*(2 ^ ZF p.zc.za:Nat)=W at *;simp[hf,hw]
      have hf:¬Qiv p:=λc=>hw (this.1 c);unfold ways at hw;generalize sets p.zb p.zb.zd.length*(2 ^ ZF p.zc.za:Nat)=W at *;simp[hf,hw]
     intro i hi _ ih;have hpw:=Qx0 (QOz (Qo2 p.zc.za i) htw);have hs1:=hset _ (QN3 _);have hs2:=h4.zb.sets_pos p.zb.zd.length;have hb:sets p.zb p.zb.zd.length*(2 ^ ZF (p.zc.za.take i):Nat)<=150*32:=QOY hs1 (Int.ofNat_le.2 hpw) (QPJ _) (by omega);have hb':0<=sets p.zb p.zb.zd.length*(2 ^ ZF (p.zc.za.take i):Nat):=QOQ (by omega) (QPJ _);rw[Qa Qsv.eq_1];rw[Qo3 _ _ hi] at ih;by_cases e:p.zc.za[i].z2=2
     .have e2:sets p.zb p.zb.zd.length*(2 ^ (ZF (p.zc.za.take i)+1):Nat)=sets p.zb p.zb.zd.length*(2 ^ ZF (p.zc.za.take i):Nat)*2:=by
       grind
      rw[if_pos e,e2] at ih;generalize sets p.zb p.zb.zd.length*(2 ^ ZF (p.zc.za.take i):Nat)=W at *;simp[hi,e] at ih |-
      grind
     rw[if_neg e,QPd] at ih;generalize sets p.zb p.zb.zd.length*(2 ^ ZF (p.zc.za.take i):Nat)=W at *;simp[hi,e] at ih |-
     grind
    intro i hi _ ih;have hs:=h4.zb.span (QN0 hi);have hss:=QgK p.zb i hi;have hp:=h4.zb.sets_pos i;have hb:sets p.zb i*Zs p.zb.zd[i]<=150*1000:=QOY (hset i (by omega)) hs.2 (by omega) (by omega);have hb':0<=sets p.zb i*Zs p.zb.zd[i]:=QOQ (by omega) (by omega);have hsp:Zs p.zb.zd[i]=p.zb.zd[i].hi-p.zb.zd[i].lo+1:=rfl;have hlv:=h4.zb.zd _ (QN0 hi);simp[Zm] at hlv;have hlv1:=hlv.1.2;have hlv2:=hlv.2;simp only[inR] at hlv1;rw[Qa Qsw.eq_1];rw[hss,hsp] at ih;simp only[hsp] at hb hb' hss;simp[hi] at ih |-
    grind
   .have h3':(40:Int)<p.zf.length:=by omega
    have:Qiv p:=.inr (.inr (.inl (by omega)));simp[h2,h3',this]
omit hK
def d0:QB:=⟨0,0,0,0,0⟩
def JN(ds:List QB):List Nat:=Xv Q8 ds 0
def QdB(ds:List QB)(k:Nat):QB:=ds.getD ((JN ds).getD k 0) d0
def Qmc{ds:List QB}{j:Nat}(h:j∈JN ds):j<ds.length:=by have:=Qar Q8 ds 0 j h;omega
def QeZ(ds:List QB)(i:Nat):wn ds i<=(JN ds).length:=by
 unfold wn JN
 conv=>rhs;rw[<- QO5 i ds,VC]
 simp
def Qeb(ds:List QB)(s:XC)(now:List Nat):Bool:=
 (decide (s.bar<0)||decide (s.bar=(QdB ds (now.getD (plc s.pos s.z2 now.length) 0)).bar)) &&
 (decide (s.z1<0)||decide (s.z1=(QdB ds (now.getD (plc s.pos s.z2 now.length) 0)).z1))
def U3(ds:List QB)(e:Nat->Int)(s:XC):Bool:=Qeb ds s (cab ds e s.after.toNat)
def QM(ds:List QB)(ss:List XC)(e:Nat->Int):Nat:=ss.countP λs=>!U3 ds e s
def QaI(ds:List QB)(ss:List XC)(e:Nat->Int)(i:Nat)(h:i<ss.length):QM ds (ss.take (i+1)) e=QM ds (ss.take i) e+if U3 ds e ss[i] then 0 else 1:=by unfold QM;rw[QNW h,QOH];grind
def qR(ds:List QB)(ss:List XC)(e:Nat->Int):QM ds ss e<=ss.length:=QOw
def Qt2(ds:List QB)(ends:List Int):Prop:=ends.length=ds.length/\∀i(h:i<ds.length)(h':i<ends.length),inR ends[i] 0 1/\(ds[i].z2<2->ends[i]=ds[i].z2)
noncomputable instance (ds:List QB) (ends:List Int):Decidable (Qt2 ds ends):=Classical.propDecidable _
def Qoh(c:Ql)(ends:List Int):Prop:=Qt2 c.za ends/\(QM c.za c.zg (Qt ends):Int)<=c.zh
noncomputable instance (c:Ql) (ends:List Int):Decidable (Qoh c ends):=Classical.propDecidable _
structure Qn where
 zy:List Int
 zx:Int
 deriving DecidableEq
structure QR where
 ends:List Int
 set:Qn
 deriving DecidableEq
@[simp] def seC(s:Qn):List IV:=[Qq s.zy,.int .i64 s.zx]
@[simp] def tuC(t:QR):List IV:=[Qq t.ends,Qq t.set.zy,.int .i64 t.set.zx]
def okS(m:Machine)(s:Qn):Prop:=s.zy.length=m.zd.length/\inR s.zx m.zu m.zw/\∀i(h:i<m.zd.length)(h':i<s.zy.length),inR s.zy[i] m.zd[i].lo m.zd[i].hi
noncomputable instance (m:Machine) (s:Qn):Decidable (okS m s):=Classical.propDecidable _
def Jw(m:Machine)(zx w mn:Int):Int:=w+max 0 (m.zr-mn*zx)
def VQ(m:Machine):Int:=QH (·.long) m.zd
def den(s:Qn):Int:=QH id s.zy
def num(m:Machine)(s:Qn)(w mn:Int):Int:=Jw m s.zx w mn*VQ m
def Qab{α:Type}(f:α->Int)(l:List α)(i:Nat)(h:i<l.length):QH f (l.take (i+1))=QH f (l.take i)*f l[i]:=by rw[QNW h,Qcq]
theorem Qmx{α:Type}(f:α->Int):∀(l:List α),(∀a∈l,1<=f a/\f a<=1000)->1<=QH f l/\QH f l<=(1000 ^ l.length:Nat)
 |[],_=>by simp[QH]
 |a::l,h=>by have h1:=h a (by simp);have h2:=Qmx f l λa ha=>h a (by simp[ha]);have h3:=QOY h1.1 h2.1 (by omega) (by omega);have h4:=QOY h1.2 h2.2 (by omega) (by omega);simp only[QH,QOi];omega
def Qx1{n:Nat}(h:n<=3):1000 ^ n<=1000000000:=by
 have:n=0\/n=1\/n=2\/n=3:=by omega
 grind
def Qcp{α:Type}(f:α->Int)(l:List α)(h:∀a∈l,1<=f a/\f a<=1000)(hl:l.length<=3):1<=QH f l/\QH f l<=1000000000:=by have h1:=Qmx f l h;have h2:=Qx1 hl;omega
def OkM.lever{m:Machine}(h:OkM m){l:ZL}(hl:l∈m.zd):(1<=l.long/\l.long<=1000)/\1<=l.lo/\l.lo<=l.hi/\l.hi<=1000:=by have:=h.zd l hl;simp[Zm] at this;simp only[inR] at this;omega
def OkM.bal{m:Machine}(h:OkM m){b:ZD}(hl:b∈m.zk):inR b.zm 0 9999/\inR b.zn 0 99/\inR b.load 0 999999999/\inR b.off 0 999999999:=by have:=h.zk b hl;simp[Jr] at this;grind
def OkM.zq{m:Machine}(h:OkM m){zx w mn:Int}(hl:inR zx m.zu m.zw)(hw:inR w 0 9999)(hm:inR mn 0 99):(0<=mn*zx/\mn*zx<=1980)/\0<=Jw m zx w mn/\Jw m zx w mn<=19998:=by have h1:=h.zx;have h2:=h.zw;have h3:=h.zr;simp only[inR] at *;have h4:=QOQ (a:=mn) (b:=zx) (by omega) (by omega);have h5:=QOY (show mn<=99 by omega) (show zx<=20 by omega) (by omega) (by omega);unfold Jw;omega
def OkM.longs{m:Machine}(h:OkM m)(i:Nat):1<=QH (·.long) (m.zd.take i)/\QH (·.long) (m.zd.take i)<=1000000000:=
 Qcp _ _ (λa ha=>(h.lever (QOJ ha)).1) (by have:=h.len;simp;omega)
theorem OkM.zy{m:Machine}(h:OkM m){s:Qn}(hs:okS m s)(i:Nat):1<=QH id (s.zy.take i)/\QH id (s.zy.take i)<=1000000000:=Qcp _ _ (λa ha=>by obtain⟨k,hk,rfl⟩:=QON (QOJ ha);have h1:=hs.2.2 k (by rw[<- hs.1];exact hk) hk;have h2:=h.lever (QN0 (show k<m.zd.length by grind));simp only[inR,id] at *;omega) (by have:=h.len;have:=hs.1;simp;omega)
def OkM.aboveB{m:Machine}(h:OkM m):1<=VQ m/\VQ m<=1000000000:=by
 have:=h.longs m.zd.length
 rwa [QN5] at this
def OkM.denB{m:Machine}(h:OkM m){s:Qn}(hs:okS m s):1<=den s/\den s<=1000000000:=by
 have:=h.zy hs s.zy.length
 rwa [QN5] at this
def OkM.numB{m:Machine}(h:OkM m){s:Qn}(hs:okS m s){w mn:Int}(hw:inR w 0 9999)(hm:inR mn 0 99):0<=num m s w mn/\num m s w mn<=19998000000000:=by have h1:=h.aboveB;have h2:=(h.zq hs.2.1 hw hm).2;have h3:=QOQ (a:=Jw m s.zx w mn) (b:=VQ m) (by omega) (by omega);have h4:=QOY h2.2 h1.2 (by omega) (by omega);unfold num;omega
def WY(m:Machine)(s:Qn)(b:ZD):Bool:=decide (num m s b.zm b.zn-b.load*den s<=b.off*den s /\ -(num m s b.zm b.zn-b.load*den s)<=b.off*den s)
def ZS(m:Machine)(bs:List ZD)(s:Qn):Nat:=bs.countP λb=>!WY m s b
def QaH(m:Machine)(bs:List ZD)(s:Qn)(i:Nat)(h:i<bs.length):ZS m (bs.take (i+1)) s=ZS m (bs.take i) s+if WY m s bs[i] then 0 else 1:=by unfold ZS;rw[QNW h,QOH];grind
def qQ(m:Machine)(bs:List ZD)(s:Qn):ZS m bs s<=bs.length:=QOw
def Yi(m:Machine)(s:Qn):Prop:=okS m s/\(ZS m m.zk s:Int)<=m.zh
noncomputable instance (m:Machine) (s:Qn):Decidable (Yi m s):=Classical.propDecidable _
def QfC(p:Qf)(t:QR):Prop:=Qoh p.zc t.ends/\Yi p.zb t.set
noncomputable instance (p:Qf) (t:QR):Decidable (QfC p t):=Classical.propDecidable _
include hK
def QyF(c:Ql)(ends:List Int):Gd K 409 [chV c,Qq ends] (.bool (decide (Qt2 c.za ends))):=by
 apply Qb hK QBp (by simp);have no:∀q:Prop,(Qt2 c.za ends->q)->¬q->¬Qt2 c.za ends:=λq h1 h2 h=>h2 (h1 h);by_cases h1:ends.length=c.za.length;rotate_left
 .have h1':¬(ends.length:Int)=c.za.length:=by omega
  have:=no _ (λhh=>hh.1) h1;simp[h1',this]
 .simp[h1];intros;refine Qe (λi=>[(1,AV.iv (Qq ends)),(2,AV.iv (.ptr [Qr c.za,Qj c.zg,.int .i64 c.zh])),(5,AV.iv (.int .i64 (i:Nat)))]) (λ_=>[]) ends.length (λi=>∀k(h:k<c.za.length)(h':k<ends.length),k<i->inR ends[k] 0 1/\(c.za[k].z2<2->ends[k]=c.za[k].z2)) (by simp) ?_ ?_
  .intro h;have:Qt2 c.za ends:=⟨h1,λk hk hk'=>h k hk hk' hk'⟩;rw[Qa Qki.eq_1];simp[this]
  .intro i hi h ih;have hi':i<c.za.length:=by omega
   rw[Qa Qki.eq_1];simp[hi,hi'] at ih |-;intros;apply cK (Z8 hK _ _ _);by_cases k1:inR ends[i] 0 1
   .by_cases k2:c.za[i].z2<2
    .by_cases k3:ends[i]=c.za[i].z2
     .have k1':=k1;rw[k3] at k1';simp[k1',k2,k3,hi,hi'];refine⟨by omega,ih λk hk hk' y9=>?_⟩;grind
     have:=no _ (λhh=>(hh.2 i hi' hi).2 k2) k3;simp[k1,k2,k3,hi,hi',this]
    simp[k1,k2,hi,hi'];refine⟨by omega,ih λk hk hk' y9=>?_⟩;grind
   .have:=no _ (λhh=>(hh.2 i hi' hi).1) k1;simp[k1,this]
def QyN(c:Ql)(s:XC)(ends:List Int)(hc:OkD c.za c.za.length)(hl:c.za.length<=1000)(he:c.za.length<=ends.length)(hs:Z0 s c.za):Gd K 369 [chV c,.agg (sC s),Qq ends] (.bool (U3 c.za (Qt ends) s)):=by
 apply Qb hK QBA (by simp);have⟨s1,s2,s3,s4,s5⟩:=hs;simp only[inR] at s1 s2 s3;have y9:s.after.toNat<c.za.length+1:=by omega
 have hcl:=ZW (Qt ends) hc s.after.toNat (by omega) (by omega);have hcg:=VO c.za (Qt ends) c.za.length s.after.toNat (by omega);have hcb:=hc.cnt s.after.toNat (by omega) (by omega);have hclt:=Wf c.za (Qt ends) s.after.toNat;have hww:=QeZ c.za s.after.toNat;simp;apply cK (QmV hK c ends hc hl he);simp[y9,hcg];refine⟨by omega,cK (QqA hK c hl) ?_⟩;simp;intros;apply cK (Qj0 hK s.pos s.z2 (cab c.za (Qt ends) s.after.toNat).length (by omega) (by omega));have hp:(if s.z2=1 then((cab c.za (Qt ends) s.after.toNat).length:Int)-1-s.pos else s.pos)=(plc s.pos s.z2 (cab c.za (Qt ends) s.after.toNat).length:Nat):=by unfold plc;split<;>omega
 have hpl:plc s.pos s.z2 (cab c.za (Qt ends) s.after.toNat).length<(cab c.za (Qt ends) s.after.toNat).length:=Qhc (by omega);have hwe:Xv Q8 c.za 0=JN c.za:=rfl;rw[hp,hwe];have hr:U3 c.za (Qt ends) s=Qeb c.za s (cab c.za (Qt ends) s.after.toNat):=rfl;rw[hr];unfold Qeb;generalize plc s.pos s.z2 (cab c.za (Qt ends) s.after.toNat).length=at_ at *;generalize cab c.za (Qt ends) s.after.toNat=now at *
 have h1:now[at_]<(JN c.za).length:=by have:=hclt now[at_] (QN0 hpl);omega
 have h2:(JN c.za)[now[at_]]<c.za.length:=Qmc (QN0 h1);have hm:QdB c.za (now.getD at_ 0)=c.za[(JN c.za)[now[at_]]]:=by simp[QdB,List.getD_eq_getElem?_getD,hpl,h1,h2]
 rw[hm];simp[hpl,h1,h2];grind
def QjE(c:Ql)(ends:List Int)(hc:OkC c)(he:c.za.length<=ends.length):Gd K 320 [chV c,Qq ends] (.int .i64 (QM c.za c.zg (Qt ends))):=by
 apply Qb hK QB1 (by simp);have hl:=hc.len;simp;refine Qe (λi=>[(1,AV.iv (Qq ends)),(2,AV.iv (.ptr [Qr c.za,Qj c.zg,.int .i64 c.zh])),(5,AV.iv (.int .i64 (QM c.za (c.zg.take i) (Qt ends):Nat))),(6,AV.iv (.int .i64 (i:Nat)))]) (λ_=>[]) c.zg.length (λi=>True) trivial ?_ ?_
 .intro _;rw[Qa QkR.eq_1];simp
 .intro i hi _ ih;have hle:=qR c.za (c.zg.take i) (Qt ends);have hsl:=hc.slen;simp at hle;rw[Qa QkR.eq_1];rw[QaI _ _ _ _ hi] at ih;simp[hi] at ih |-;intros;apply cK (QyN hK c c.zg[i] ends hc.za (by omega) he (hc.zg _ (QN0 hi)));cases hr:U3 c.za (Qt ends) c.zg[i]
  .simp[hr] at ih |-
   grind
  .simp[hr] at ih |-
   grind
def QyL(c:Ql)(ends:List Int)(hc:OkC c):Gd K 371 [chV c,Qq ends] (.bool (decide (Qoh c ends))):=by
 apply Qb hK QBy (by simp);simp;apply cK (QyF hK c ends);by_cases h1:Qt2 c.za ends
 .simp[h1];apply cK (QjE hK c ends hc (by rw[h1.1];omega));simp[Qoh,h1]
 .simp[h1,Qoh]
def QcW(m:Machine)(s:Qn)(w mn:Int)(hm:OkM m)(hs:okS m s)(hw:inR w 0 9999)(hmn:inR mn 0 99):Gd K 254 [maV m,.agg (seC s),.int .i64 w,.int .i64 mn] (.xf [.int .i64 (num m s w mn),.int .i64 (den s)]):=by
 apply Qb hK QCL (by simp);have hp:=hm.zq hs.2.1 hw hmn;have h3:=hm.zr;simp only[inR] at h3 hw;simp
 (repeat' first|omega|apply And.intro|intro)
 have e0:(w+if mn*s.zx<m.zr then m.zr-mn*s.zx else 0)=Jw m s.zx w mn*QH (·.long) (m.zd.take 0):=by simp only[Jw,QH,List.take_zero,Int.mul_one];split<;>omega
 have hsl:=hs.1;rw[e0];refine Qe (λi=>[(4,AV.iv (.ptr [Qs m.zd,.int .i64 m.zr,.int .i64 m.zu,.int .i64 m.zw,Zk m.zk,.int .i64 m.zh])),(5,AV.iv (.ptr [Qq s.zy,.int .i64 s.zx])),(8,AV.iv (.int .i64 (Jw m s.zx w mn*QH (·.long) (m.zd.take i)))),(9,AV.iv (.int .i64 (QH id (s.zy.take i)))),(10,AV.iv (.int .i64 (i:Nat)))]) (λ_=>[]) m.zd.length (λi=>True) trivial ?_ ?_
 .intro _;rw[Qa Qli.eq_1];have e2:s.zy.take m.zd.length=s.zy:=by grind
  rw[QN5,e2];simp[num,den,VQ]
 .intro i hi _ ih;have hi':i<s.zy.length:=by omega
  have l1:=hm.longs i;have l2:=hm.longs (i+1);have k1:=hm.zy hs i;have k2:=hm.zy hs (i+1);have b1:=QOY hp.2.2 l2.2 (by omega) (by omega);have b2:=QOQ hp.2.1 (QPE (by omega) l2.1);rw[Qab _ _ _ hi] at ih b1 b2;rw[Qab _ _ _ hi'] at ih k2;rw[<- Int.mul_assoc] at ih b1 b2;rw[Qa Qli.eq_1];generalize Jw m s.zx w mn*QH (λx=>x.long) (m.zd.take i)=A at *
  generalize QH id (s.zy.take i)=B at *;simp[hi,hi'] at ih b1 b2 k2 |-
  grind
def QyM(m:Machine)(s:Qn)(b:ZD)(hm:OkM m)(hs:okS m s)(hb:b∈m.zk):Gd K 370 [maV m,.agg (seC s),.agg (baC b)] (.bool (WY m s b)):=by apply Qb hK QBz (by simp);have h:=hm.bal hb;simp;apply cK (QcW hK m s b.zm b.zn hm hs h.1 h.2.1);have h1:=hm.numB hs h.1 h.2.1;have h2:=hm.denB hs;have h3:=h.2.2;simp only[inR] at h3;have h4:=QOY h3.1.2 h2.2 (by omega) (by omega);have h5:=QOQ h3.1.1 (QPE (by omega) h2.1);have h6:=QOY h3.2.2 h2.2 (by omega) (by omega);have h7:=QOQ h3.2.1 (QPE (by omega) h2.1);simp;unfold WY;grind
def QjD(m:Machine)(s:Qn)(hm:OkM m)(hs:okS m s):Gd K 324 [maV m,.agg (seC s)] (.int .i64 (ZS m m.zk s)):=by
 apply Qb hK QBZ (by simp);have hl:=hm.blen;simp;refine Qe (λi=>[(2,AV.iv (.ptr [Qs m.zd,.int .i64 m.zr,.int .i64 m.zu,.int .i64 m.zw,Zk m.zk,.int .i64 m.zh])),(3,AV.iv (.ptr [Qq s.zy,.int .i64 s.zx])),(5,AV.iv (.int .i64 (ZS m (m.zk.take i) s:Nat))),(6,AV.iv (.int .i64 (i:Nat)))]) (λ_=>[]) m.zk.length (λi=>True) trivial ?_ ?_
 .intro _;rw[Qa QkN.eq_1];simp
 .intro i hi _ ih;have hle:=qQ m (m.zk.take i) s;simp at hle;rw[Qa QkN.eq_1];rw[QaH _ _ _ _ hi] at ih;simp[hi] at ih |-;intros;apply cK (QyM hK m s m.zk[i] hm hs (QN0 hi));cases hr:WY m s m.zk[i]
  .simp[hr] at ih |-
   grind
  .simp[hr] at ih |-
   grind
def QyK(m:Machine)(s:Qn)(hm:OkM m):Gd K 372 [maV m,.agg (seC s)] (.bool (decide (Yi m s))):=by
 apply Qb hK QBx (by simp);have no:∀q:Prop,(okS m s->q)->¬q->¬Yi m s:=λq h1 h2 h=>h2 (h1 h.1);by_cases h1:s.zy.length=m.zd.length;rotate_left
 .have h1':¬(s.zy.length:Int)=m.zd.length:=by omega
  have:=no _ (λhh=>hh.1) h1;simp[h1',this]
 .simp[h1];intros;apply cK (Jm hK _ _ _);by_cases h2:inR s.zx m.zu m.zw;rotate_left
  .have:=no _ (λhh=>hh.2.1) h2;simp[h2,this]
  .simp[h2];refine Qe (λi=>[(2,AV.iv (.ptr [Qs m.zd,.int .i64 m.zr,.int .i64 m.zu,.int .i64 m.zw,Zk m.zk,.int .i64 m.zh])),(3,AV.iv (.ptr [Qq s.zy,.int .i64 s.zx])),(5,AV.iv (.int .i64 (i:Nat)))]) (λ_=>[]) s.zy.length (λi=>∀k(h:k<m.zd.length)(h':k<s.zy.length),k<i->inR s.zy[k] m.zd[k].lo m.zd[k].hi) (by simp) ?_ ?_
   .intro h;have hs:okS m s:=⟨h1,h2,λk hk hk'=>h k hk hk' hk'⟩;rw[Qa Qkm.eq_1];simp;intros;apply cK (QjD hK m s hm hs);simp[Yi,hs]
   .intro i hi h ih;have hi':i<m.zd.length:=by omega
    rw[Qa Qkm.eq_1];simp[hi,hi'] at ih |-;intros;apply cK (Jm hK _ _ _);by_cases k1:inR s.zy[i] m.zd[i].lo m.zd[i].hi
    .have ih:=ih λk hk hk' y9=>by
      grind
     simp[k1];grind
    .have:=no _ (λhh=>hh.2.2 i hi' hi) k1;simp[k1,this]
omit hK
def t0:WM:=⟨0,0,0⟩
def tr(p:Qf)(i:Nat):WM:=p.zf.getD i t0
def Ja{p:Qf}{i:Nat}(h:i<p.zf.length):p.zf[i]=tr p i:=by simp[tr,List.getD_eq_getElem?_getD,h]
def Zr(p:Qf)(i:Nat)(e:Nat->Int):List Nat:=cab p.zc.za e ((pv p.zc.za).getD i 0)
def QJ(p:Qf)(i:Nat)(e:Nat->Int):Int:=if 0<=(tr p i).z5 then((Zr p i e).getD (tr p i).z5.toNat 0:Nat) else -1
def XT(p:Qf)(i:Nat)(s:Qn):Int:=num p.zb s (tr p i).zm (tr p i).zn
def Z9(p:Qf)(i:Nat)(t:QR):Bool:=decide (0<=(tr p i).z5)&&decide (XT p i t.set<=p.zo*den t.set)
def ZO(p:Qf)(t:QR):Nat:=(List.range p.zf.length).countP λi=>Z9 p i t
def inN(l:List Nat)(n:Int):Bool:=decide (n∈l.map λk:Nat=>(k:Int))
def Xi(p:Qf)(link:Int)(t:QR)(i:Nat):Bool:=decide (p.zo*den t.set<=XT p i t.set)&&inN (Zr p i (Qt t.ends)) link&&!decide (QJ p i (Qt t.ends)=link)
def QD(p:Qf)(link:Int)(t:QR):Bool:=(List.range p.zf.length).any (Xi p link t)
def XO(p:Qf)(e:Nat->Int):List Nat:=cab p.zc.za e p.zc.za.length
def Jx(p:Qf)(t:QR):Bool:=((XO p (Qt t.ends)).all λ(k:Nat)=>QD p k t)&&decide ((ZO p t:Int)<p.z6)
def Xu(some many:Int):Int:=if some=many then 1 else if some=0 then 2 else 3
def Ya(l:List Int)(lo:Int)(i:Nat):List Int:=((List.range i).map λj:Nat=>lo+j).filter λn=>decide (n∈l)
def Z7(l:List Int)(lo hi:Int):List Int:=Ya l lo (hi+1-lo).toNat
def QaO(l:List Int)(lo:Int)(i:Nat):Ya l lo (i+1)=if(lo+i)∈l then Ya l lo i++[lo+i] else Ya l lo i:=by unfold Ya;rw[QOv,QOd,QOT];grind
def Wn(l:List Int)(lo:Int)(i:Nat):(Ya l lo i).length<=i:=QOz (QOp _ _) (by simp)
def Qek(p:Qf)(t:QR)(k:Nat)(m:Int)(i:Nat):Int:=if inN (Zr p i (Qt t.ends)) k=true/\¬QJ p i (Qt t.ends)=k then max m ((XT p i t.set).tdiv (den t.set)) else m
def QdA(p:Qf)(t:QR)(k:Nat)(n:Nat):Int:=(List.range n).foldl (Qek p t k) (-1)
def Qgl(p:Qf)(t:QR)(now:List Nat):Int:=now.foldl (λb k=>min b (QdA p t k p.zf.length)) 999999999
def JH(p:Qf)(t:QR)(i n:Nat):Nat:=(List.range n).countP λk=>decide (0<=(tr p k).z5)&&decide (XT p k t.set<=XT p i t.set)
def Qba(p:Qf)(t:QR)(b:Int)(i:Nat):Int:=if 0<=(tr p i).z5/\p.z6<=(JH p t i p.zf.length:Int) then min b ((XT p i t.set+den t.set-1).tdiv (den t.set)-1) else b
def U2(p:Qf)(t:QR):Int:=(List.range p.zf.length).foldl (Qba p t) (Qgl p t (XO p (Qt t.ends)))
def Qej(p:Qf)(t:QR)(k n:Nat):QdA p t k (n+1)=Qek p t k (QdA p t k n) n:=by simp[QdA,QOv]
def Qka(p:Qf)(t:QR)(i n:Nat):JH p t i (n+1)=JH p t i n+if 0<=(tr p n).z5/\XT p n t.set<=XT p i t.set then 1 else 0:=by unfold JH;rw[QOv,QOH];grind
def Qrg(p:Qf)(t:QR)(i n:Nat):JH p t i n<=n:=by have:=QOw (p:=λk=>decide (0<=(tr p k).z5)&&decide (XT p k t.set<=XT p i t.set)) (l:=List.range n);simpa[JH] using this
def VY(a b:Int):(if b<a then b else a)=min a b:=by split<;>omega
def U5(a b:Int):(if a<b then b else a)=max a b:=by split<;>omega
def JO{a b:Int}(h1:0<=a)(h2:1<=b):0<=a.tdiv b/\a.tdiv b<=a:=by rw[QOB h1];exact⟨Int.ediv_nonneg h1 (by omega),Int.ediv_le_self _ h1⟩
structure Fit(p:Qf)(t:QR):Prop where
 ends:p.zc.za.length<=t.ends.length
 set:okS p.zb t.set
def OkP.deedsLen{p:Qf}(h:OkP p):p.zc.za.length<=12:=h.zc.len
def OkP.trialsLen{p:Qf}(h:OkP p):p.zf.length<=12:=by have:=Qee p.zc.za;have:=h.many;have:=h.deedsLen;omega
def OkP.trial{p:Qf}(h:OkP p){i:Nat}(hi:i<p.zf.length):Vv (tr p i) (cnt p.zc.za ((pv p.zc.za).getD i 0)):=by
 have h1:i<(pv p.zc.za).length:=by rw[<- h.many];exact hi
 have:=h.zf i h1 hi;rw[Ja hi] at this;grind
def OkP.pvGet{p:Qf}(h:OkP p){i:Nat}(hi:i<p.zf.length):(pv p.zc.za).getD i 0<p.zc.za.length:=by
 have h1:i<(pv p.zc.za).length:=by rw[<- h.many];exact hi
 have:=Qef h1;grind
def OkP.thenLen{p:Qf}(h:OkP p)(e:Nat->Int){i:Nat}(hi:i<p.zf.length):((Zr p i e).length:Int)=cnt p.zc.za ((pv p.zc.za).getD i 0):=by have:=h.pvGet hi;exact ZW e h.zc.za _ (by omega) (by omega)
def OkP.brokeIn{p:Qf}(h:OkP p)(e:Nat->Int){i:Nat}(hi:i<p.zf.length)(hb:0<=(tr p i).z5):∃y9:(tr p i).z5.toNat<(Zr p i e).length,QJ p i e=((Zr p i e)[(tr p i).z5.toNat]:Nat):=by
 have h1:=(h.trial hi).2.2;have h2:=h.thenLen e hi;simp only[inR] at h1;have y9:(tr p i).z5.toNat<(Zr p i e).length:=by omega
 exact⟨y9,by simp[QJ,hb,List.getD_eq_getElem?_getD,y9]⟩
def OkP.thenLt{p:Qf}(e:Nat->Int)(i:Nat){k:Nat}(hk:k∈Zr p i e):k<(JN p.zc.za).length:=QOM (Wf _ _ _ k hk) (QeZ _ _)
def OkP.needB{p:Qf}(h:OkP p){t:QR}(ht:Fit p t):0<=p.zo*den t.set/\p.zo*den t.set<=999999999000000000:=by have h1:=h.zo;simp only[inR] at h1;have h2:=h.zb.denB ht.set;have h3:=QOY h1.2 h2.2 (by omega) (by omega);have h4:=QOQ h1.1 (QPE (by omega) h2.1);omega
def QfZ(p:Qf)(t:QR):ZO p t<=p.zf.length:=by have:=QOw (p:=λi=>Z9 p i t) (l:=List.range p.zf.length);simpa[ZO] using this
def QdO(n:Nat)(f:Nat->Bool):(List.range (n+1)).any f=((List.range n).any f||f n):=by grind
def QdQ{n:Nat}{f:Nat->Bool}(h:∀i,i<n->f i=false):(List.range n).any f=false:=by grind
def QdP{n:Nat}{f:Nat->Bool}(i:Nat)(hi:i<n)(h:f i=true):(List.range n).any f=true:=QOO.2 ⟨i,QOr.2 hi,h⟩
include hK
def QcX(c:Ql)(ends:List Int)(hc:OkD c.za c.za.length)(hl:c.za.length<=1000)(he:c.za.length<=ends.length):Gd K 248 [chV c,Qq ends] (ZM (cab c.za (Qt ends) c.za.length)):=by apply Qb hK QCQ (by simp);have hcg:=VO c.za (Qt ends) c.za.length c.za.length (by omega);simp;apply cK (QmV hK c ends hc hl he);simp[hcg]
def QjC(p:Qf)(i:Nat)(ends:List Int)(hp:OkP p)(hi:i<p.zf.length)(he:p.zc.za.length<=ends.length):Gd K 327 [prV p,.int .i64 i,Qq ends] (ZM (Zr p i (Qt ends))):=by
 apply Qb hK QBY (by simp);have hl:=hp.deedsLen;simp;apply cK (QmV hK p.zc ends hp.zc.za (by omega) he);simp;apply cK (QwT hK p.zc (by omega));have h1:i<(pv p.zc.za).length:=by rw[<- hp.many];exact hi
 have h2:(pv p.zc.za)[i]<p.zc.za.length+1:=by have:=Qef h1;omega
 have hcg:=VO p.zc.za (Qt ends) p.zc.za.length (pv p.zc.za)[i] h2;have hpv:Xv XI p.zc.za 0=pv p.zc.za:=rfl;have ht:Zr p i (Qt ends)=cab p.zc.za (Qt ends) (pv p.zc.za)[i]:=by simp[Zr,List.getD_eq_getElem?_getD,h1]
 rw[hpv,ht];simp[h1,h2,hcg]
def QjK(p:Qf)(i:Nat)(ends:List Int)(hp:OkP p)(hi:i<p.zf.length)(he:p.zc.za.length<=ends.length):Gd K 258 [prV p,.int .i64 i,Qq ends] (.int .i64 (QJ p i (Qt ends))):=by
 apply Qb hK QCH (by simp);by_cases hb:0<=(tr p i).z5
 .obtain⟨h1,h2⟩:=hp.brokeIn (Qt ends) hi hb;have hb':(((tr p i).z5.toNat:Nat):Int)=(tr p i).z5:=by omega
  rw[h2];simp[hi,Ja hi,hb];apply cK (QjC hK p i ends hp hi he);simp[h1];omega
 .have hb':(tr p i).z5<0:=by omega
  simp[hi,Ja hi,hb',hb,QJ]
def QqI(p:Qf)(n:Int)(hs:p.zf.length<=1000):Gd K 257 [prV p,.int .i64 n] (.bool (decide (inR n 0 (p.zf.length-1)))):=by
 apply Qb hK QCI (by simp);simp
 (repeat' first|omega|apply And.intro|intro)
 exact cK (QhT hK _ _ _) (by simp)
def QqP(p:Qf)(n:Int)(hs:p.zf.length<=1000):Gd K 212 [prV p,.int .i64 n] (.bool (decide (inR n 0 (p.zf.length-1)))):=by
 apply Qb hK QDg (by simp);simp
 (repeat' first|omega|apply And.intro|intro)
 exact cK (JS hK _ _ _) (by simp)
def QcV(p:Qf)(i:Nat)(t:QR)(hp:OkP p)(hi:i<p.zf.length)(ht:Fit p t):Gd K 329 [prV p,.int .i64 i,.agg (tuC t)] (.xf [.int .i64 (XT p i t.set),.int .i64 (den t.set)]):=by apply Qb hK QBW (by simp);have h1:=hp.trial hi;simp[hi,Ja hi];apply cK (QcW hK p.zb t.set (tr p i).zm (tr p i).zn hp.zb ht.set h1.1 h1.2.1);simp[XT]
def Qy5(p:Qf)(i:Nat)(t:QR)(hp:OkP p)(hi:i<p.zf.length)(ht:Fit p t):Gd K 328 [prV p,.int .i64 i,.agg (tuC t)] (.bool (Z9 p i t)):=by
 apply Qb hK QBX (by simp);have hn:=hp.needB ht;simp;apply cK (QcV hK p i t hp hi ht);by_cases hb:0<=(tr p i).z5
 .simp[hi,Ja hi,hb,Z9];omega
 .have hb':(tr p i).z5<0:=by omega
  simp[hi,Ja hi,hb',hb,Z9]
def QfM(p:Qf)(t:QR)(hp:OkP p)(ht:Fit p t):Gd K 259 [prV p,.agg (tuC t)] (.int .i64 (ZO p t)):=by
 apply Qb hK QCG (by simp);have hl:=hp.trialsLen;simp;refine Qe (λi=>[(2,AV.iv (.ptr [Qr p.zc.za,Qj p.zc.zg,.int .i64 p.zc.zh,Qs p.zb.zd,.int .i64 p.zb.zr,.int .i64 p.zb.zu,.int .i64 p.zb.zw,Zk p.zb.zk,.int .i64 p.zb.zh,Q4 p.zf,.int .i64 p.zo,.int .i64 p.z6])),(3,AV.iv (.ptr [Qq t.ends,Qq t.set.zy,.int .i64 t.set.zx])),(5,AV.iv (.int .i64 ((List.range i).countP λi=>Z9 p i t:Nat))),(6,AV.iv (.int .i64 (i:Nat)))]) (λ_=>[]) p.zf.length (λi=>True) trivial ?_ ?_
 .intro _;rw[Qa Qlf.eq_1];simp[ZO]
 .intro i hi _ ih;have hle:=QOw (p:=λi=>Z9 p i t) (l:=List.range i);simp at hle;rw[QOv,QOH] at ih;rw[Qa Qlf.eq_1];simp[hi] at ih |-;intros;apply cK (Qy5 hK p i t hp hi ht);cases hr:Z9 p i t
  .simp[hr] at ih |-
   grind
  .simp[hr] at ih |-
   grind
def QmZ(l:List Nat)(n:Int):Gd K 321 [ZM l,.int .i64 n] (.bool (inN l n)):=by have:=QfK hK (l.map λk:Nat=>(k:Int)) n;simpa only[Qq,ZM,List.map_map,inN,Function.comp_def] using this
def QjI(p:Qf)(link:Int)(t:QR)(hp:OkP p)(ht:Fit p t):Gd K 261 [prV p,.int .i64 link,.agg (tuC t)] (.bool (QD p link t)):=by
 apply Qb hK QCE (by simp);have hl:=hp.trialsLen;have hn:=hp.needB ht;simp;refine Qe (λi=>[(1,AV.iv (.int .i64 link)),(3,AV.iv (.ptr [Qr p.zc.za,Qj p.zc.zg,.int .i64 p.zc.zh,Qs p.zb.zd,.int .i64 p.zb.zr,.int .i64 p.zb.zu,.int .i64 p.zb.zw,Zk p.zb.zk,.int .i64 p.zb.zh,Q4 p.zf,.int .i64 p.zo,.int .i64 p.z6])),(5,AV.iv (.ptr [Qq t.ends,Qq t.set.zy,.int .i64 t.set.zx])),(7,AV.iv (.int .i64 (i:Nat)))]) (λ_=>[]) p.zf.length (λi=>∀k,k<i->Xi p link t k=false) (by simp) ?_ ?_
 .intro h;rw[Qa Qle.eq_1];have:QD p link t=false:=QdQ h;simp[this]
 .intro i hi h ih;have hno:∀(hh:Xi p link t i=false),∀k,k<i+1->Xi p link t k=false:=λhh k hk=>by
   grind
  have hyes:Xi p link t i=true->QD p link t=true:=λhh=>QdP i hi hh;rw[Qa Qle.eq_1];simp[hi] at ih |-;intros;apply cK (QcV hK p i t hp hi ht);by_cases k1:p.zo*den t.set<=XT p i t.set;rotate_left
  .have:=ih (hno (by simp[Xi,k1]));simp[k1];grind
  .simp[k1]
   (repeat' first|omega|apply And.intro|intro)
   apply cK (QjC hK p i t.ends hp hi ht.ends);simp;apply cK (QmZ hK (Zr p i (Qt t.ends)) link);cases k2:inN (Zr p i (Qt t.ends)) link
   .have:=ih (hno (by simp[Xi,k2]));simp;grind
   .simp;apply cK (QjK hK p i t.ends hp hi ht.ends);by_cases k3:QJ p i (Qt t.ends)=link
    .have:=ih (hno (by simp[Xi,k3]));simp[k3];grind
    .have:=hyes (by simp[Xi,k1,k2,k3]);simp[k3,this]
def Qy4(p:Qf)(t:QR)(hp:OkP p)(ht:Fit p t):Gd K 330 [prV p,.agg (tuC t)] (.bool (Jx p t)):=by
 apply Qb hK QBV (by simp);have hl:=hp.deedsLen;simp;apply cK (QcX hK p.zc t.ends hp.zc.za (by omega) ht.ends);simp;have hnow:XO p (Qt t.ends)=cab p.zc.za (Qt t.ends) p.zc.za.length:=rfl;rw[<- hnow];unfold Jx;generalize XO p (Qt t.ends)=now;refine Qe (λi=>[(2,AV.iv (.ptr [Qr p.zc.za,Qj p.zc.zg,.int .i64 p.zc.zh,Qs p.zb.zd,.int .i64 p.zb.zr,.int .i64 p.zb.zu,.int .i64 p.zb.zw,Zk p.zb.zk,.int .i64 p.zb.zh,Q4 p.zf,.int .i64 p.zo,.int .i64 p.z6])),(3,AV.iv (.ptr [Qq t.ends,Qq t.set.zy,.int .i64 t.set.zx])),(5,AV.iv (ZM now)),(6,AV.iv (.int .i64 (i:Nat)))]) (λ_=>[]) now.length (λi=>∀k∈now.take i,QD p (k:Nat) t=true) (by simp) ?_ ?_
 .intro h;rw[QN5] at h;rw[Qa QkJ.eq_1];have:(now.all λ(k:Nat)=>QD p k t)=true:=QOt.2 h;simp;intros;apply cK (QfM hK p t hp ht);simp[this]
 .intro i hi h ih;rw[Qa QkJ.eq_1];simp[hi] at ih |-;intros;apply cK (QjI hK p now[i] t hp ht);cases hr:QD p now[i] t
  .have:(now.all λ(k:Nat)=>QD p k t)=false:=List.all_eq_false.2 ⟨now[i],QN0 hi,by simp[hr]⟩;simp[this]
  .have:=ih (by
    rw[QNW hi]
    grind)
   simp;grind
def QjJ(a b:Int):Gd K 260 [.int .i64 a,.int .i64 b] (.int .i64 (Xu a b)):=by
 apply Qb hK QCF (by simp);by_cases h1:a=b
 .simp[h1,Xu]
 .by_cases h2:a=0
  .have:¬0=b:=by omega
   simp[h2,Xu,this]
  .simp[h1,h2,Xu]
def QjM(l:List Int)(lo hi:Int)(h1: -1000<=lo)(h2:lo<=hi)(h3:hi<=1000):Gd K 249 [Qq l,.int .i64 lo,.int .i64 hi] (Qq (Z7 l lo hi)):=by
 apply Qb hK QsN (by simp);simp;have e0:lo=lo+((0:Nat):Int):=by simp
 conv=>arg 8;rw[e0]
 refine Qe (λi=>[(0,AV.iv (Qq l)),(2,AV.iv (.int .i64 hi)),(7,AV.yl 7 (Ya l lo i).length),(8,AV.iv (.int .i64 (lo+(i:Nat))))])
  (λi=>[(7,AO.arr 3 1 (emb ((Ya l lo i).map λn=>[.int .i64 n])) 0)]) (hi+1-lo).toNat (λi=>True) trivial ?_ ?_
 .intro _;have e1:lo+((hi+1-lo).toNat:Int)=hi+1:=by omega
  have e2:¬hi+1<=hi:=by omega
  rw[e1,Qa Qdm.eq_1];simp[e2,Z7]
 .intro i hi' _ ih;have hln:=Wn l lo i;have e1:lo+(i:Int)<=hi:=by omega
  rw[QaO] at ih;rw[Qa Qdm.eq_1];simp[e1];apply cK (QfK hK l (lo+i));have e3:lo+((i:Int)+1)=lo+i+1:=by omega
  by_cases hm:(lo+(i:Int))∈l
  .simp[hm,e3] at ih |-
   grind
  .simp[hm,e3] at ih |-
   grind
def Qzt(p:Qf)(t:QR)(hp:OkP p)(ht:Fit p t):Gd K 263 [prV p,.agg (tuC t)] (.int .i64 (U2 p t)):=by
 apply Qb hK QCC (by simp);have hl:=hp.trialsLen;have hdl:=hp.deedsLen;have hd:=hp.zb.denB ht.set;have hload:∀i,i<p.zf.length->0<=XT p i t.set/\XT p i t.set<=19998000000000:=λi hi=>hp.zb.numB ht.set (hp.trial hi).1 (hp.trial hi).2.1;simp;apply cK (QcX hK p.zc t.ends hp.zc.za (by omega) ht.ends);simp;have hnow:XO p (Qt t.ends)=cab p.zc.za (Qt t.ends) p.zc.za.length:=rfl;rw[<- hnow];unfold U2;generalize XO p (Qt t.ends)=now;refine Qe (λi=>[(2,AV.iv (.ptr [Qr p.zc.za,Qj p.zc.zg,.int .i64 p.zc.zh,Qs p.zb.zd,.int .i64 p.zb.zr,.int .i64 p.zb.zu,.int .i64 p.zb.zw,Zk p.zb.zk,.int .i64 p.zb.zh,Q4 p.zf,.int .i64 p.zo,.int .i64 p.z6])),(3,AV.iv (.ptr [Qq t.ends,Qq t.set.zy,.int .i64 t.set.zx])),(5,AV.iv (.int .i64 (Qgl p t (now.take i)))),(6,AV.iv (ZM now)),(7,AV.iv (.int .i64 (i:Nat)))]) (λ_=>[]) now.length (λi=>True) trivial ?_ ?_
 .intro _;rw[Qa Qlb.eq_1];rw[QN5];simp;intros;refine Qe (λi=>[(2,AV.iv (.ptr [Qr p.zc.za,Qj p.zc.zg,.int .i64 p.zc.zh,Qs p.zb.zd,.int .i64 p.zb.zr,.int .i64 p.zb.zu,.int .i64 p.zb.zw,Zk p.zb.zk,.int .i64 p.zb.zh,Q4 p.zf,.int .i64 p.zo,.int .i64 p.z6])),(3,AV.iv (.ptr [Qq t.ends,Qq t.set.zy,.int .i64 t.set.zx])),(5,AV.iv (.int .i64 ((List.range i).foldl (Qba p t) (Qgl p t now)))),(12,AV.iv (.int .i64 (i:Nat)))]) (λ_=>[]) p.zf.length (λi=>True) trivial ?_ ?_
  .intro _;rw[Qa Qk9.eq_1];simp
  intro i hi _ ih;rw[QOv,QOZ] at ih;rw[Qa Qk9.eq_1];have hli:=hload i hi;have htd:=JO (a:=XT p i t.set+den t.set-1) (b:=den t.set) (by omega) (by omega);generalize(List.range i).foldl (Qba p t) (Qgl p t now)=B at *;simp[hi] at ih |-;intros;apply cK (QcV hK p i t hp hi ht);simp;refine Qe (λk=>[(2,AV.iv (.ptr [Qr p.zc.za,Qj p.zc.zg,.int .i64 p.zc.zh,Qs p.zb.zd,.int .i64 p.zb.zr,.int .i64 p.zb.zu,.int .i64 p.zb.zw,Zk p.zb.zk,.int .i64 p.zb.zh,Q4 p.zf,.int .i64 p.zo,.int .i64 p.z6])),(3,AV.iv (.ptr [Qq t.ends,Qq t.set.zy,.int .i64 t.set.zx])),(5,AV.iv (.int .i64 B)),(12,AV.iv (.int .i64 (i:Nat))),(13,AV.iv (.int .i64 (XT p i t.set))),(14,AV.iv (.int .i64 (den t.set))),(15,AV.iv (.int .i64 (JH p t i k:Nat))),(16,AV.iv (.int .i64 (k:Nat)))]) (λ_=>[]) p.zf.length (λi=>True) trivial ?_ ?_
  .intro _;rw[Qa Qla.eq_1];simp[hi];intros;by_cases k1:0<=(tr p i).z5
   .by_cases k2:p.z6<=(JH p t i p.zf.length:Int)
    .simp[hi,Ja hi,Qba,k1,k2,VY] at ih |-
     grind
    simp[hi,Ja hi,Qba,k1,k2] at ih |-
    grind
   have k1':(tr p i).z5<0:=by omega
   simp[hi,Ja hi,Qba,k1,k1'] at ih |-
   grind
  intro k hk _ ih;have hle:=Qrg p t i k;rw[Qka] at ih;rw[Qa Qla.eq_1];simp[hk] at ih |-;intros;apply cK (QcV hK p k t hp hk ht);by_cases k1:0<=(tr p k).z5
  .by_cases k2:XT p k t.set<=XT p i t.set
   .simp[hk,Ja hk,k1,k2] at ih |-
    grind
   simp[hk,Ja hk,k1,k2] at ih |-
   grind
  have k1':(tr p k).z5<0:=by omega
  simp[hk,Ja hk,k1,k1'] at ih |-
  grind
 .intro i hi _ ih;rw[Qa Qlb.eq_1]
  have hs:Qgl p t (now.take (i+1))=min (Qgl p t (now.take i)) (QdA p t now[i] p.zf.length):=by unfold Qgl;rw[QNW hi,QOZ];rfl
  rw[hs] at ih;generalize Qgl p t (now.take i)=B at *;simp[hi] at ih |-;intros;refine Qe (λk=>[(2,AV.iv (.ptr [Qr p.zc.za,Qj p.zc.zg,.int .i64 p.zc.zh,Qs p.zb.zd,.int .i64 p.zb.zr,.int .i64 p.zb.zu,.int .i64 p.zb.zw,Zk p.zb.zk,.int .i64 p.zb.zh,Q4 p.zf,.int .i64 p.zo,.int .i64 p.z6])),(3,AV.iv (.ptr [Qq t.ends,Qq t.set.zy,.int .i64 t.set.zx])),(5,AV.iv (.int .i64 B)),(6,AV.iv (ZM now)),(7,AV.iv (.int .i64 (i:Nat))),(8,AV.iv (.int .i64 (QdA p t now[i] k))),(9,AV.iv (.int .i64 (k:Nat)))]) (λ_=>[]) p.zf.length (λi=>True) trivial ?_ ?_
  .intro _;rw[Qa Qlc.eq_1];simp[VY];grind
  .intro k hk _ ih;rw[Qej] at ih;rw[Qa Qlc.eq_1];have hlk:=hload k hk;have htd:=JO hlk.1 hd.1;generalize QdA p t now[i] k=M at *;simp[hk] at ih |-;intros;apply cK (QcV hK p k t hp hk ht);simp;apply cK (QjC hK p k t.ends hp hk ht.ends);simp[hi];apply cK (QmZ hK (Zr p k (Qt t.ends)) now[i]);cases k2:inN (Zr p k (Qt t.ends)) now[i]
   .simp[Qek,k2] at ih |-
    grind
   .simp;apply cK (QjK hK p k t.ends hp hk ht.ends);by_cases k3:QJ p k (Qt t.ends)=now[i]
    .simp[hi,Qek,k2,k3] at ih |-
     grind
    .simp[hi,Qek,k2,k3,U5] at ih |-
     grind
def Qzu(p:Qf)(l:List QR)(hp:OkP p)(hl:∀t∈l,Fit p t)(hn:l.length<=100000):Gd K 262 [prV p,.sl 3 (l.map tuC)] (.int .i64 (Xu (l.countP (Jx p)) l.length)):=by
 apply Qb hK QCD (by simp);simp
 refine Qe (λi=>[(1,AV.iv (.sl 3 (l.map tuC))),(2,AV.iv (.ptr [Qr p.zc.za,Qj p.zc.zg,.int .i64 p.zc.zh,Qs p.zb.zd,.int .i64 p.zb.zr,.int .i64 p.zb.zu,.int .i64 p.zb.zw,Zk p.zb.zk,.int .i64 p.zb.zh,Q4 p.zf,.int .i64 p.zo,.int .i64 p.z6])),(5,AV.iv (.int .i64 ((l.take i).countP (Jx p):Nat))),(6,AV.iv (.int .i64 (i:Nat)))])
  (λ_=>[]) l.length (λi=>True) trivial ?_ ?_
 .intro _;rw[Qa Qld.eq_1];simp;intros;apply cK (QjJ hK _ _);simp
 .intro i hi _ ih;have hle:=QOw (p:=Jx p) (l:=l.take i);simp at hle;rw[QNW hi,QOH] at ih;rw[Qa Qld.eq_1];simp[hi] at ih |-;intros;apply cK (Qy4 hK p l[i] hp (hl _ (QN0 hi)));cases hr:Jx p l[i]
  .simp[hr] at ih |-
   grind
  .simp[hr] at ih |-
   grind
omit hK
def VH(d:QB):List Int:=(if d.z2=0\/d.z2=2 then [0] else [])++(if d.z2=1\/d.z2=2 then [1] else [])
def Qp:List QB->List (List Int)
 |[]=>[[]]
 |d::r=>(VH d).flatMap λe=>(Qp r).map (e::·)
noncomputable def Zq(c:Ql)(first:List Int)(rest:List QB):List (List Int):=((Qp rest).map (first++·)).filter λe=>decide (Qoh c e)
def QeI(c:Ql)(first:List Int)(d:QB)(r:List QB):Zq c first (d::r)=(VH d).flatMap λe=>Zq c (first++[e]) r:=by simp only[Zq,Qp,QPO,List.filter_flatMap,List.map_map];congr 1;funext e;congr 2;grind
def acc{α:Type}(pc:Nat->List α)(i:Nat):List α:=(List.range i).flatMap pc
def Qwl{α:Type}(pc:Nat->List α):acc pc 0=[]:=rfl
def ZR{α:Type}(pc:Nat->List α)(i:Nat):acc pc (i+1)=acc pc i++pc i:=by simp[acc,QOv]
noncomputable def W6(c:Ql)(first:List Int)(d:QB)(r:List QB)(i:Nat):List (List Int):=if d.z2=i\/d.z2=2 then Zq c (first++[(i:Int)]) r else []
def Qh8(c:Ql)(first:List Int)(d:QB)(r:List QB):Zq c first (d::r)=acc (W6 c first d r) 2:=by
 rw[QeI];unfold acc;have:List.range 2=[0,1]:=rfl;rw[this];unfold VH W6;by_cases h0:d.z2=0
 all_goals grind
def QrD(d:QB):(VH d).length<=2:=by unfold VH;grind
theorem Yl{α β:Type}(f:α->List β)(n:Nat):∀l:List α,(∀a∈l,(f a).length<=n)->(l.flatMap f).length<=l.length*n
 |[],_=>by simp
 |a::l,h=>by have h1:=h a (by simp);have h2:=Yl f n l λb hb=>h b (by simp[hb]);simp only[QPb,QOf,QOi,Nat.succ_mul];omega
def YO{α:Type}(pc:Nat->List α)(n:Nat)(h:∀i,(pc i).length<=n)(i:Nat):(acc pc i).length<=i*n:=by have:=Yl pc n (List.range i) λa _=>h a;simpa[acc] using this
theorem Qc8(c:Ql):∀(rest:List QB)(first:List Int),(Zq c first rest).length<=2 ^ rest.length
 |[],first=>by have:=QOp (λe=>decide (Qoh c e)) ([[]].map (first++·));simpa[Zq,Qp] using this
 |d::r,first=>by rw[QeI];have h1:=Yl (λe=>Zq c (first++[e]) r) (2 ^ r.length) (VH d) λe _=>Qc8 c r (first++[e]);have h2:=QOI (2 ^ r.length) (QrD d);grind
def UL{n:Nat}(h:n<=12):2 ^ n<=4096:=QOV (by omega) h
include hK
theorem Qqy(c:Ql)(hc:OkC c):∀(n:Nat)(first:List Int),first.length+n=c.za.length->Gd K 325 [chV c,Qq first] (.sl 1 ((Zq c first (c.za.drop first.length)).map λe=>[Qq e]))
 |0,first,hn=>by
  apply Qb hK QsA (by simp);have e1:c.za.drop first.length=[]:=QOA (by omega)
  have e2:first.length=c.za.length:=by omega
  rw[e1];simp[e2];intros;apply cK (QyL hK c first hc);by_cases h:Qoh c first
  .simp[h,Zq,Qp]
  simp[h,Zq,Qp]
 |n+1,first,hn=>by
  have ih:=Qqy c hc n;apply Qb hK QsA (by simp);have y9:first.length<c.za.length:=by omega
  have hne:¬(first.length:Int)=c.za.length:=by omega
  have hne':¬first.length=c.za.length:=by omega
  have hl:=hc.len;have e1:c.za.drop first.length=c.za[first.length]::c.za.drop (first.length+1):=QOq y9
  rw[e1,Qh8]
  have hb:∀i,(W6 c first c.za[first.length] (c.za.drop (first.length+1)) i).length<=4096:=λi=>by
   unfold W6;split
   .exact QOz (Qc8 c _ _) (UL (by simp;omega))
   simp
  have ih1:∀i:Nat,c.za[first.length].z2=i\/c.za[first.length].z2=2->Gd K 325 [chV c,Qq (first++[(i:Int)])] (.sl 1 ((W6 c first c.za[first.length] (c.za.drop (first.length+1)) i).map λe=>[Qq e])):=λi hi=>by
   have:=ih (first++[(i:Int)]) (by simp;omega);simp only[QOf,QOi,QOE,QOn] at this
   rwa [W6,if_pos hi]
  have hno:∀i:Nat,¬(c.za[first.length].z2=i\/c.za[first.length].z2=2)->W6 c first c.za[first.length] (c.za.drop (first.length+1)) i=[]:=λi hi=>by rw[W6,if_neg hi]
  generalize W6 c first c.za[first.length] (c.za.drop (first.length+1))=pc at *
  simp[hne,hne']
  (repeat' first|omega|apply And.intro|intro)
  refine Qe (λi=>[(1,AV.iv (Qq first)),(2,AV.iv (.ptr [Qr c.za,Qj c.zg,.int .i64 c.zh])),(5,AV.yl 5 (acc pc i).length),(6,AV.iv (.int .i64 (i:Nat)))])
   (λi=>[(5,AO.arr 45 1 (emb ((acc pc i).map λe=>[Qq e])) 0)]) 2 (λi=>True) trivial ?_ ?_
  .intro _;rw[Qa QkM.eq_1];simp
  .intro i hi _ hh;have hlen:=YO pc 4096 hb i;have hbi:=hb i;rw[ZR pc i] at hh;rw[Qa QkM.eq_1];have hi2:(i:Int)<2:=by omega
   by_cases hq:c.za[first.length].z2=i\/c.za[first.length].z2=2;rotate_left
   .have hq1:¬c.za[first.length].z2=i:=λh=>hq (.inl h);have hq2:¬c.za[first.length].z2=2:=λh=>hq (.inr h);simp[hno i hq,hi2,y9,hq1,hq2] at hh |-
    grind
   .have hg:=ih1 i hq;by_cases q1:c.za[first.length].z2=i
    .have q2:∀A:Prop,(¬c.za[first.length].z2=i->A):=λA h=>absurd q1 h;simp[hi2,y9] at hh |-;simp[q1]
     (repeat' first|omega|apply And.intro|intro)
     refine VN [some (chV c),none] (by simp) (rows:=(first++[(i:Int)]).map λn=>[.int .i64 n]) (n:=first.length+1) (sz:=1) (et:=3) (mv:=0) (r:=.sl 1 ((pc i).map λe=>[Qq e])) ?_ (by simp) (by simp[Qc]) (by simp) (by simp) ?_
     .have:((first++[(i:Int)]).map λn=>[IV.int IntKind.i64 n]).take (first.length+1)=(first++[(i:Int)]).map λn=>[IV.int IntKind.i64 n]:=QN1 (by simp);rw[this];exact hg
     simp[-List.map_map,Qw,QE,QC,Qm]
     (repeat' first|omega|apply And.intro|intro)
    .have q2:c.za[first.length].z2=2:=by omega
     simp[hi2,y9,q1,q2] at hh |-
     (repeat' first|omega|apply And.intro|intro)
     refine VN [some (chV c),none] (by simp) (rows:=(first++[(i:Int)]).map λn=>[.int .i64 n]) (n:=first.length+1) (sz:=1) (et:=3) (mv:=0) (r:=.sl 1 ((pc i).map λe=>[Qq e])) ?_ (by simp) (by simp[Qc]) (by simp) (by simp) ?_
     .have:((first++[(i:Int)]).map λn=>[IV.int IntKind.i64 n]).take (first.length+1)=(first++[(i:Int)]).map λn=>[IV.int IntKind.i64 n]:=QN1 (by simp);rw[this];exact hg
     .simp[-List.map_map,Qw,QE,QC,Qm]
      (repeat' first|omega|apply And.intro|intro)
def Quz(c:Ql)(hc:OkC c):Gd K 325 [chV c,.sl 1 []] (.sl 1 ((Zq c [] c.za).map λe=>[Qq e])):=by have:=Qqy hK c hc c.za.length [] (by simp);simpa using this
omit hK
def Q1:List ZL->List (List Int)
 |[]=>[[]]
 |l::r=>acc (λi=>(Q1 r).map ((l.lo+(i:Nat))::·)) (l.hi+1-l.lo).toNat
def QO(m:Machine)(first:List Int)(rest:List ZL):List Qn:=(Q1 rest).flatMap λs=>(List.range (m.zw+1-m.zu).toNat).map λk:Nat=>⟨first++s,m.zu+k⟩
noncomputable def QS(m:Machine)(first:List Int)(rest:List ZL):List Qn:=(QO m first rest).filter λs=>decide (Yi m s)
def qV(m:Machine)(first:List Int)(l:ZL)(r:List ZL):QS m first (l::r)=acc (λi=>QS m (first++[l.lo+(i:Nat)]) r) (l.hi+1-l.lo).toNat:=by simp only[QS,QO,Q1,acc,List.flatMap_assoc,List.filter_flatMap];congr 1;funext i;simp[List.flatMap_map]
theorem Qb5(m:Machine):∀(rest:List ZL)(first:List Int),(∀l∈rest,1<=Zs l)->1<=m.zw-m.zu+1->((QS m first rest).length:Int)<=(m.zw-m.zu+1)*QH Zs rest
 |[],first,_,h=>by
  have:=QOp (λs=>decide (Yi m s)) (QO m first []);simp[QO,Q1] at this;simp only[QS,QH];simp only[QO,Q1] at this |-
  grind
 |l::r,first,hs,h=>by
  rw[qV];have ih:=λe:Int=>Qb5 m r (first++[e]) (λl hl=>hs l (by simp[hl])) h;have hl:=hs l (by simp);have hp:=Yy Zs r λl hl=>hs l (by simp[hl]);have hpp:=QOQ (a:=m.zw-m.zu+1) (b:=QH Zs r) (by omega) (by omega);have h1:=YO (λi=>QS m (first++[l.lo+(i:Nat)]) r) ((m.zw-m.zu+1)*QH Zs r).toNat (λi=>by grind) (l.hi+1-l.lo).toNat;have e1:((l.hi+1-l.lo).toNat:Int)=Zs l:=by unfold Zs at *;omega
  have e2:(((m.zw-m.zu+1)*QH Zs r).toNat:Int)=(m.zw-m.zu+1)*QH Zs r:=by omega
  have h2:=Int.ofNat_le.2 h1;rw[Int.natCast_mul,e1,e2] at h2;simp only[QH];grind
theorem QaZ{α:Type}(f:α->Int):∀l r:List α,QH f (l++r)=QH f l*QH f r
 |[],r=>by simp[QH]
 |a::l,r=>by simp[QH,QaZ f l r,Int.mul_assoc]
def QgL{m:Machine}(h:OkM m)(k:Nat):(m.zw-m.zu+1)*QH Zs (m.zd.drop k)<=sets m m.zd.length:=by
 have h1:=h.zx;simp only[inR] at h1;have e:QH Zs m.zd=QH Zs (m.zd.take k)*QH Zs (m.zd.drop k):=by rw[<- QaZ,QO5]
 have h2:=Yy Zs (m.zd.take k) λa ha=>(h.span (QOJ ha)).1;have h3:=Yy Zs (m.zd.drop k) λa ha=>(h.span (QOW ha)).1;have h4:=QOj h2 (show 0<=QH Zs (m.zd.drop k) by omega);rw[Int.one_mul] at h4;unfold sets;rw[QN5,e];exact QOX h4 (by omega)
noncomputable def U4(m:Machine)(first:List Int)(k:Nat):List Qn:=if Yi m ⟨first,m.zu+k⟩ then [⟨first,m.zu+k⟩] else []
def Qpg(m:Machine)(first:List Int):QS m first []=acc (U4 m first) (m.zw+1-m.zu).toNat:=by
 simp only[QS,QO,Q1,acc,QPb,List.flatMap_nil,QOl];generalize(m.zw+1-m.zu).toNat=n;induction n with
 |zero=>rfl
 |succ n ih=>
  rw[QOv,QOd,QOT,ih,QPP]
  congr 1;by_cases h:Yi m ⟨first,m.zu+n⟩<;>simp[U4,h]
include hK
theorem Qqx(m:Machine)(hm:OkM m)(hs:sets m m.zd.length<=1000000):∀(n:Nat)(first:List Int),first.length+n=m.zd.length->Gd K 326 [maV m,Qq first] (.sl 2 ((QS m first (m.zd.drop first.length)).map seC))
 |0,first,hn=>by
  apply Qb hK Qsz (by simp);have e1:m.zd.drop first.length=[]:=QOA (by omega)
  have e2:first.length=m.zd.length:=by omega
  have hlk:=hm.zx;have hlh:=hm.zw;simp only[inR] at hlk;rw[e1,Qpg];simp[e2]
  (repeat' first|omega|apply And.intro|intro)
  have e0:AV.iv (IV.int .i64 m.zu)=AV.iv (.int .i64 (m.zu+((0:Nat):Int))):=by simp
  rw[e0]
  refine Qe (λi=>[(1,AV.iv (Qq first)),(2,AV.iv (.ptr [Qs m.zd,.int .i64 m.zr,.int .i64 m.zu,.int .i64 m.zw,Zk m.zk,.int .i64 m.zh])),(5,AV.yl 5 (acc (U4 m first) i).length),(6,AV.iv (.int .i64 (m.zu+(i:Nat))))])
   (λi=>[(5,AO.arr 291 2 (emb ((acc (U4 m first) i).map seC)) 0)]) (m.zw+1-m.zu).toNat (λi=>True) trivial ?_ ?_
  .intro _;have q1:m.zu+((m.zw+1-m.zu).toNat:Int)=m.zw+1:=by omega
   have q2:¬m.zw+1<=m.zw:=by omega
   rw[q1,Qa QkL.eq_1];simp[q2]
  intro i hi _ hh;have q1:m.zu+(i:Int)<=m.zw:=by omega
  have q3:m.zu+((i:Int)+1)=m.zu+i+1:=by omega
  have hlen:=YO (U4 m first) 1 (λk=>by unfold U4;split<;>simp) i;rw[ZR _ i] at hh;rw[Qa QkL.eq_1];simp[q1];apply cK (QyK hK m ⟨first,m.zu+i⟩ hm);by_cases k:Yi m ⟨first,m.zu+i⟩
  .have hp:U4 m first i=[⟨first,m.zu+i⟩]:=by simp[U4,k]
   rw[hp] at hh;simp[k,q3] at hh |-
   grind
  have hp:U4 m first i=[]:=by simp[U4,k]
  rw[hp] at hh;simp[k,q3] at hh |-
  grind
 |n+1,first,hn=>by
  have ih:=Qqx m hm hs n;apply Qb hK Qsz (by simp);have y9:first.length<m.zd.length:=by omega
  have hne:¬(first.length:Int)=m.zd.length:=by omega
  have hl:=hm.len;have e1:m.zd.drop first.length=m.zd[first.length]::m.zd.drop (first.length+1):=QOq y9
  have hlv:=hm.lever (QN0 y9);have hspan:=(hm.span (QN0 y9));rw[e1,qV];have hbI:=QgL hm (first.length+1);have hlk:=hm.zx;simp only[inR] at hlk;have hb:∀i:Nat,(QS m (first++[m.zd[first.length].lo+(i:Nat)]) (m.zd.drop (first.length+1))).length<=1000000:=λi=>by have:=Qb5 m (m.zd.drop (first.length+1)) (first++[m.zd[first.length].lo+(i:Nat)]) (λl hl=>(hm.span (QOW hl)).1) (by omega);omega
  have ih1:∀i:Nat,Gd K 326 [maV m,Qq (first++[m.zd[first.length].lo+(i:Int)])] (.sl 2 ((QS m (first++[m.zd[first.length].lo+(i:Nat)]) (m.zd.drop (first.length+1))).map seC)):=λi=>by grind
  have hbs:∀i,((λi:Nat=>QS m (first++[m.zd[first.length].lo+(i:Nat)]) (m.zd.drop (first.length+1))) i).length<=1000000:=hb;have ih2:∀i:Nat,Gd K 326 [maV m,Qq (first++[m.zd[first.length].lo+(i:Int)])] (.sl 2 (((λi:Nat=>QS m (first++[m.zd[first.length].lo+(i:Nat)]) (m.zd.drop (first.length+1))) i).map seC)):=ih1;clear hb ih1;generalize(λi:Nat=>QS m (first++[m.zd[first.length].lo+(i:Nat)]) (m.zd.drop (first.length+1)))=pc at *
  simp[hne,y9]
  (repeat' first|omega|apply And.intro|intro)
  have e0:AV.iv (IV.int .i64 m.zd[first.length].lo)=AV.iv (.int .i64 (m.zd[first.length].lo+((0:Nat):Int))):=by simp
  rw[e0]
  refine Qe (λi=>[(1,AV.iv (Qq first)),(2,AV.iv (.ptr [Qs m.zd,.int .i64 m.zr,.int .i64 m.zu,.int .i64 m.zw,Zk m.zk,.int .i64 m.zh])),(5,AV.yl 5 (acc pc i).length),(8,AV.loc 8 0),(9,AV.iv (.int .i64 (m.zd[first.length].lo+(i:Nat))))])
   (λi=>[(5,AO.arr 291 2 (emb ((acc pc i).map seC)) 0),(8,AO.box [.iv (.int .i64 (m.zd[first.length].lo+((0:Nat):Int))),.iv (.int .i64 m.zd[first.length].hi)])]) (m.zd[first.length].hi+1-m.zd[first.length].lo).toNat (λi=>True) trivial ?_ ?_
  .intro _;have q1:m.zd[first.length].lo+((m.zd[first.length].hi+1-m.zd[first.length].lo).toNat:Int)=m.zd[first.length].hi+1:=by omega
   have q2:¬m.zd[first.length].hi+1<=m.zd[first.length].hi:=by omega
   rw[q1,Qa QkK.eq_1];simp[q2]
  .intro i hi _ hh;have q1:m.zd[first.length].lo+(i:Int)<=m.zd[first.length].hi:=by omega
   have q3:m.zd[first.length].lo+((i:Int)+1)=m.zd[first.length].lo+i+1:=by omega
   have hlen:=YO pc 1000000 hbs i;have hbi:=hbs i;have hg:=ih2 i;rw[ZR pc i] at hh;rw[Qa QkK.eq_1];simp[q1,q3] at hh |-
   (repeat' first|omega|apply And.intro|intro)
   refine VN [some (maV m),none] (by simp) (rows:=(first++[m.zd[first.length].lo+(i:Int)]).map λn=>[.int .i64 n]) (n:=first.length+1) (sz:=1) (et:=3) (mv:=0) (r:=.sl 2 ((pc i).map seC)) ?_ (by simp) (by simp[Qc]) (by simp) (by simp) ?_
   .have:((first++[m.zd[first.length].lo+(i:Int)]).map λn=>[IV.int IntKind.i64 n]).take (first.length+1)=(first++[m.zd[first.length].lo+(i:Int)]).map λn=>[IV.int IntKind.i64 n]:=QN1 (by simp);rw[this];exact hg
   .simp[-List.map_map,Qw,QE,QC,Qm];grind
omit hK
def Qwm{α β:Type}(f:α->List β)(d:α)(l:List α):acc (λa=>f (l.getD a d)) l.length=l.flatMap f:=by
 have:∀n,n<=l.length->acc (λa=>f (l.getD a d)) n=(l.take n).flatMap f:=by
  intro n;induction n with
  |zero=>intro _;simp[acc]
  |succ n ih=>
   intro h;have hn:n<l.length:=by omega
   rw[ZR,ih (by omega),QNW hn,QPP]
   grind
 grind
def Qfo{α β:Type}(f:α->β)(l:List α):∃P:Nat->List β,P 0=[]/\(∀k(h:k<l.length),P (k+1)=P k++[f l[k]])/\P l.length=l.map f/\∀k,k<=l.length->(P k).length=k:=⟨λk=>(l.take k).map f,by simp,λk h=>by show(l.take (k+1)).map f=_;rw[QNW h,QOd];rfl,by simp,λk h=>by simp;omega⟩
noncomputable def QN(p:Qf):List QR:=(Zq p.zc [] p.zc.za).flatMap λe=>(QS p.zb [] p.zb.zd).map λs=>⟨e,s⟩
noncomputable def kL(p:Qf)(is:Bool):List QR:=if OkP p/\is=true then QN p else []
noncomputable def kE(p:Qf)(is:Bool):Int:=if OkP p then(if is=true then(if QN p=[] then 3 else 0) else 1) else 60
def Qc7{c:Ql}{e:List Int}(h:e∈Zq c [] c.za):Qoh c e:=by simp only[Zq,QOx,decide_eq_true_eq] at h;exact h.2
def Vn{m:Machine}{s:Qn}(h:s∈QS m [] m.zd):Yi m s:=by simp only[QS,QOx,decide_eq_true_eq] at h;exact h.2
def Qji{p:Qf}{t:QR}(h:t∈QN p):QfC p t:=by simp only[QN,QOK,QOb] at h;obtain⟨e,he,s,hs,rfl⟩:=h;exact⟨Qc7 he,Vn hs⟩
def QfC.fit{p:Qf}{t:QR}(h:QfC p t):Fit p t:=⟨by rw[h.1.1.1];omega,h.2.1⟩
def Qhu{p:Qf}{t:QR}(h:t∈QN p):Fit p t:=(Qji h).fit
def QcL{p:Qf}{is:Bool}:∀t∈kL p is,Fit p t:=λt h=>by
 unfold kL at h;split at h
 .exact Qhu h
 cases h
def Yh{p:Qf}{is:Bool}(h:kE p is=0):OkP p/\is=true/\kL p is=QN p/\QN p≠[]:=by
 unfold kE at h;split at h
 .rename_i h1;split at h
  .rename_i h2;split at h
   .cases h
   rename_i h3;exact⟨h1,h2,by simp[kL,h1,h2],h3⟩
  cases h
 cases h
def Qf2{c:Ql}(h:OkC c):(Zq c [] c.za).length<=4096:=QOz (Qc8 c _ _) (UL h.len)
def Vo{m:Machine}(h:OkM m):((QS m [] m.zd).length:Int)<=sets m m.zd.length:=by
 have h1:=h.zx;simp only[inR] at h1;have:=Qb5 m m.zd [] (λl hl=>(h.span hl).1) (by omega)
 rwa [sets,QN5]
include hK
def Quy(m:Machine)(hm:OkM m)(hs:sets m m.zd.length<=1000000):Gd K 326 [maV m,.sl 1 []] (.sl 2 ((QS m [] m.zd).map seC)):=by have:=Qqx hK m hm hs m.zd.length [] (by simp);simpa using this
def VF(p:Qf)(is:Bool)(hsm:Ql3 p)(hs:OkP p->sets p.zb p.zb.zd.length<=1000000):Gd K 256 [prV p,.bool is] (.xf [.sl 3 ((kL p is).map tuC),.int .i64 (kE p is)]):=by
 apply Qb hK QCJ (by simp);simp;apply cK (Qqs hK p hsm);by_cases h1:OkP p;rotate_left
 .simp[h1,kL,kE]
 .cases is
  .simp[h1,kL,kE]
  .simp[h1];apply cK (Quz hK p.zc h1.zc);simp;apply cK (Quy hK p.zb h1.zb (hs h1));simp;have hE:=Qf2 h1.zc;have hS:=Vo h1.zb;have hS2:=hs h1;have hkE:kE p true=if QN p=[] then 3 else 0:=by simp[kE,h1]
   have hkL:kL p true=QN p:=by simp[kL,h1]
   have hk:=Qwm (λe=>(QS p.zb [] p.zb.zd).map λs=>(⟨e,s⟩:QR)) [] (Zq p.zc [] p.zc.za);have hk2:QN p=acc (λa=>(QS p.zb [] p.zb.zd).map λs=>(⟨(Zq p.zc [] p.zc.za).getD a [],s⟩:QR)) (Zq p.zc [] p.zc.za).length:=hk.symm;rw[hkE,hkL,hk2];clear hk hk2 hkE hkL;generalize Zq p.zc [] p.zc.za=E at *;generalize QS p.zb [] p.zb.zd=S at *;have hpl:∀i,((λa:Nat=>S.map λs=>(⟨E.getD a [],s⟩:QR)) i).length<=S.length:=λi=>by simp
   refine Qe (λi=>[(7,AV.yl 7 (acc (λa=>S.map λs=>(⟨E.getD a [],s⟩:QR)) i).length),(8,AV.iv (.sl 1 (E.map λe=>[Qq e]))),(9,AV.iv (.sl 2 (S.map seC))),(10,AV.iv (.int .i64 (i:Nat)))])
    (λi=>[(7,AO.arr 298 3 (emb ((acc (λa=>S.map λs=>(⟨E.getD a [],s⟩:QR)) i).map tuC)) 0)]) E.length (λi=>True) trivial ?_ ?_
   .intro _;rw[Qa Qlg.eq_1];generalize acc (λa:Nat=>S.map λs=>(⟨E.getD a [],s⟩:QR)) E.length=T;by_cases hT:T=[]
    .simp[hT]
    have hT':¬T.length=0:=by simpa using hT
    simp[hT,hT']
   .intro i hi _ ih;have hlen:=YO (λa:Nat=>S.map λs=>(⟨E.getD a [],s⟩:QR)) S.length hpl i;have hlen2:i*S.length<=4096*1000000:=Nat.mul_le_mul (by omega) (by omega);have hgi:E.getD i []=E[i]:=by grind
    rw[ZR _ i] at ih;rw[Qa Qlg.eq_1];simp only[hgi] at ih;generalize acc (λa:Nat=>S.map λs=>(⟨E.getD a [],s⟩:QR)) i=T at *
    simp[hi] at ih |-
    (repeat' first|omega|apply And.intro|intro)
    have⟨Pf,hP0,hPs,hPn,hPl⟩:=Qfo (λs=>(⟨E[i],s⟩:QR)) S;have hPm:(Pf S.length).map tuC=S.map (tuC∘λs=>(⟨E[i],s⟩:QR)):=by grind
    have e0:T=T++Pf 0:=by grind
    rw[e0]
    refine Qe (λk=>[(7,AV.yl 7 (T++Pf k).length),(8,AV.iv (.sl 1 (E.map λe=>[Qq e]))),(9,AV.iv (.sl 2 (S.map seC))),(10,AV.iv (.int .i64 (i:Nat))),(11,AV.iv (.int .i64 (k:Nat)))])
     (λk=>[(7,AO.arr 298 3 (emb ((T++Pf k).map tuC)) 0)]) S.length (λi=>True) trivial ?_ ?_
    .intro _;have hl:=hPl S.length (QN3 _);rw[Qa Qlh.eq_1];simp[hl,hPm];grind
    .intro k hk _ ih;have hl:=hPl k (by omega);rw[hPs k hk] at ih;rw[Qa Qlh.eq_1];simp[hi,hk,hl] at ih |-
     grind
omit hK
structure QoS(p:Qf):Prop where
 small:Ql3 p
 sets:OkP p->sets p.zb p.zb.zd.length<=1000000
def Qeq{p:Qf}(hf:QoS p)(is:Bool):(kL p is).length<=4096000000:=by
 unfold kL;split
 .rename_i h;have h1:=Yl (λe=>(QS p.zb [] p.zb.zd).map λs=>(⟨e,s⟩:QR)) 1000000 (Zq p.zc [] p.zc.za) λe _=>by
   have:=Vo h.1.zb;have:=hf.sets h.1;simp;omega
  have h2:=Qf2 h.1.zc;have:(QN p).length<=(Zq p.zc [] p.zc.za).length*1000000:=h1;omega
 .simp
def JR(p:Qf)(link:Int):Bool:=decide (inR link 0 ((JN p.zc.za).length-1))
def Q0(p:Qf)(n:Int):Bool:=decide (inR n 0 (p.zf.length-1))
noncomputable def rProved(p:Qf)(link:Int):Int:=if kE p (JR p link)=0 then Xu ((kL p (JR p link)).countP (QD p link)) (kL p (JR p link)).length else 0
noncomputable def rCond(p:Qf):Int:=if kE p true=0 then Xu ((kL p true).countP λt=>decide (p.z6<=(ZO p t:Int))) (kL p true).length else 0
noncomputable def rGood(p:Qf):Int:=if kE p true=0 then Xu ((kL p true).countP (Jx p)) (kL p true).length else 0
noncomputable def JA(p:Qf):Int:=(kL p true).foldl (λb t=>min b (U2 p t)) 999999999
noncomputable def Yw(p:Qf):Int×Int:=if kE p true=0 then(if JA p<0 then(0,3) else(JA p,0)) else(0,kE p true)
def span(l:List Int):Int×Int:=match l with
 |[]=>(0,0)
 |a::r=>(r.foldl min a,r.foldl max a)
def J2(l:List Int)(a:Int):span (l++[a])=if l=[] then(a,a) else(min (span l).1 a,max (span l).2 a):=by
 cases l with
 |nil=>rfl
 |cons b r=>simp[span]
noncomputable def rFail(p:Qf):Int×Int:=span ((kL p true).map λt=>(ZO p t:Int))
noncomputable def Qbf(p:Qf):List Int:=if kE p true=0 then acc (λat_:Nat=>if(kL p true).all (λt=>QD p ((XO p (Qt t.ends)).getD at_ 0) t) then [] else [(at_:Int)]) (ZV p.zc.za).toNat else []
noncomputable def Uh(p:Qf)(n:Int):List Int:=Z7 ((kL p (Q0 p n)).map λt=>QJ p n.toNat (Qt t.ends)) 0 12
def QFA{p:Qf}{is:Bool}{t:QR}(h:t∈kL p is):OkP p/\is=true:=by unfold kL at h;grind
include hK
def QAb(p:Qf)(link:Int)(hf:QoS p):Gd K 169 [prV p,.int .i64 link] (.xf [.int .i64 (rProved p link),.int .i64 (kE p (JR p link))]):=by
 apply Qb hK QDQ (by simp);simp;apply cK (QqK hK p.zc link hf.small.za);have hl:decide (inR link 0 ((Xv Q8 p.zc.za 0).length-1))=JR p link:=rfl;rw[hl];simp;apply cK (VF hK p (JR p link) hf.small hf.sets);have hn:=Qeq hf (JR p link);unfold rProved;by_cases he:kE p (JR p link)=0;rotate_left
 .simp[he]
 .have hp:=(Yh he).1;have hft:∀t∈kL p (JR p link),Fit p t:=QcL;generalize kL p (JR p link)=l at *;simp[he]
  refine Qe (λi=>[(1,AV.iv (.int .i64 link)),(2,AV.iv (.ptr [Qr p.zc.za,Qj p.zc.zg,.int .i64 p.zc.zh,Qs p.zb.zd,.int .i64 p.zb.zr,.int .i64 p.zb.zu,.int .i64 p.zb.zw,Zk p.zb.zk,.int .i64 p.zb.zh,Q4 p.zf,.int .i64 p.zo,.int .i64 p.z6])),(6,AV.iv (.sl 3 (l.map tuC))),(8,AV.iv (.int .i64 ((l.take i).countP (QD p link):Nat))),(9,AV.iv (.int .i64 (i:Nat)))])
   (λ_=>[]) l.length (λi=>True) trivial ?_ ?_
  .intro _;rw[Qa QlJ.eq_1];simp;intros;apply cK (QjJ hK _ _);simp
  .intro i hi _ ih;have hle:=QOw (p:=QD p link) (l:=l.take i);simp at hle;rw[QNW hi,QOH] at ih;rw[Qa QlJ.eq_1];simp[hi] at ih |-;intros;apply cK (QjI hK p link l[i] hp (hft _ (QN0 hi)));cases hr:QD p link l[i]
   .simp[hr] at ih |-
    grind
   .simp[hr] at ih |-
    grind
def QAc(p:Qf)(hf:QoS p):Gd K 168 [prV p] (.xf [.int .i64 (rCond p),.int .i64 (kE p true)]):=by
 apply Qb hK QDR (by simp);simp;apply cK (VF hK p true hf.small hf.sets);have hn:=Qeq hf true;unfold rCond;by_cases he:kE p true=0;rotate_left
 .simp[he]
 .have hp:=(Yh he).1;have hft:∀t∈kL p true,Fit p t:=QcL;generalize kL p true=l at *;simp[he]
  refine Qe (λi=>[(1,AV.iv (.ptr [Qr p.zc.za,Qj p.zc.zg,.int .i64 p.zc.zh,Qs p.zb.zd,.int .i64 p.zb.zr,.int .i64 p.zb.zu,.int .i64 p.zb.zw,Zk p.zb.zk,.int .i64 p.zb.zh,Q4 p.zf,.int .i64 p.zo,.int .i64 p.z6])),(4,AV.iv (.sl 3 (l.map tuC))),(6,AV.iv (.int .i64 ((l.take i).countP (λt=>decide (p.z6<=(ZO p t:Int))):Nat))),(7,AV.iv (.int .i64 (i:Nat)))])
   (λ_=>[]) l.length (λi=>True) trivial ?_ ?_
  .intro _;rw[Qa QlK.eq_1];simp;intros;apply cK (QjJ hK _ _);simp
  .intro i hi _ ih;have hle:=QOw (p:=λt=>decide (p.z6<=(ZO p t:Int))) (l:=l.take i);simp at hle;rw[QNW hi,QOH] at ih;rw[Qa QlK.eq_1];simp[hi] at ih |-;intros;apply cK (QfM hK p l[i] hp (hft _ (QN0 hi)));by_cases hr:p.z6<=(ZO p l[i]:Int)
   .simp[hr] at ih |-
    grind
   .simp[hr] at ih |-
    grind
def Qz9(p:Qf)(hf:QoS p)(hn:(kL p true).length<=100000):Gd K 171 [prV p] (.xf [.int .i64 (rGood p),.int .i64 (kE p true)]):=by
 apply Qb hK QDO (by simp);simp;apply cK (VF hK p true hf.small hf.sets);unfold rGood;by_cases he:kE p true=0
 .have hp:=(Yh he).1;simp[he];apply cK (Qzu hK p (kL p true) hp QcL hn);simp
 .simp[he]
def Qz8(p:Qf)(hf:QoS p):Gd K 172 [prV p] (.xf [.int .i64 (Yw p).1,.int .i64 (Yw p).2]):=by
 apply Qb hK QDN (by simp);simp;apply cK (VF hK p true hf.small hf.sets);have hn:=Qeq hf true;unfold Yw JA;by_cases he:kE p true=0;rotate_left
 .simp[he]
 .have hp:=(Yh he).1;have hft:∀t∈kL p true,Fit p t:=QcL;generalize kL p true=l at *;simp[he]
  refine Qe (λi=>[(1,AV.iv (.ptr [Qr p.zc.za,Qj p.zc.zg,.int .i64 p.zc.zh,Qs p.zb.zd,.int .i64 p.zb.zr,.int .i64 p.zb.zu,.int .i64 p.zb.zw,Zk p.zb.zk,.int .i64 p.zb.zh,Q4 p.zf,.int .i64 p.zo,.int .i64 p.z6])),(4,AV.iv (.sl 3 (l.map tuC))),(6,AV.iv (.int .i64 ((l.take i).foldl (λb t=>min b (U2 p t)) 999999999))),(7,AV.iv (.int .i64 (i:Nat)))])
   (λ_=>[]) l.length (λi=>True) trivial ?_ ?_
  .intro _;rw[Qa QlG.eq_1];rw[QN5];generalize l.foldl (λb t=>min b (U2 p t)) 999999999=W;by_cases hw:W<0
   .simp[hw]
   simp[hw]
  .intro i hi _ ih;rw[QNW hi,QOZ] at ih;rw[Qa QlG.eq_1];generalize(l.take i).foldl (λb t=>min b (U2 p t)) 999999999=W at *
   simp[hi] at ih |-;intros;apply cK (Qzt hK p l[i] hp (hft _ (QN0 hi)));simp[VY];grind
def QAd(p:Qf)(hf:QoS p):Gd K 166 [prV p] (.xf [.agg [.int .i64 (rFail p).1,.int .i64 (rFail p).2],.int .i64 (kE p true)]):=by
 apply Qb hK QDT (by simp);simp;apply cK (VF hK p true hf.small hf.sets);have hn:=Qeq hf true;have hft:∀t∈kL p true,Fit p t:=QcL;have hok:∀t∈kL p true,OkP p:=λt h=>(QFA h).1;unfold rFail;generalize kL p true=l at *;simp
 refine Qe (λi=>[(1,AV.iv (.ptr [Qr p.zc.za,Qj p.zc.zg,.int .i64 p.zc.zh,Qs p.zb.zd,.int .i64 p.zb.zr,.int .i64 p.zb.zu,.int .i64 p.zb.zw,Zk p.zb.zk,.int .i64 p.zb.zh,Q4 p.zf,.int .i64 p.zo,.int .i64 p.z6])),(2,AV.loc 2 0),(4,AV.iv (.sl 3 (l.map tuC))),(5,AV.iv (.int .i64 (kE p true))),(6,AV.loc 6 0),(7,AV.iv (.int .i64 (i:Nat)))])
  (λi=>[(2,AO.box [.iv (.int .i64 0),.iv (.int .i64 0)]),(6,AO.box [.iv (.int .i64 (span ((l.take i).map λt=>(ZO p t:Int))).1),.iv (.int .i64 (span ((l.take i).map λt=>(ZO p t:Int))).2)])]) l.length (λi=>True) trivial ?_ ?_
 .intro _;rw[Qa QlL.eq_1];simp
 .intro i hi _ ih;have hp:=hok _ (QN0 hi);have hle:=QfZ p l[i];have hle2:=hp.trialsLen;rw[QNW hi,QOd,QO3,J2] at ih;rw[Qa QlL.eq_1];by_cases h0:i=0
  .subst h0;simp[hi] at ih |-
   (repeat' first|omega|apply And.intro|intro)
   apply cK (QfM hK p l[0] hp (hft _ (QN0 hi)));simp;omega
  .have hne:¬(l.take i).map (λt=>(ZO p t:Int))=[]:=by
    intro c;have hli:((l.take i).map λt=>(ZO p t:Int)).length=i:=by simp;omega
    grind
   have h0':¬(i:Int)=0:=by omega
   rw[if_neg hne] at ih;generalize span ((l.take i).map λt=>(ZO p t:Int))=S at *
   simp[hi] at ih |-
   (repeat' first|omega|apply And.intro|intro)
   apply cK (QfM hK p l[i] hp (hft _ (QN0 hi)));simp[h0,h0',VY,U5];grind
def QAa(p:Qf)(hf:QoS p):Gd K 170 [prV p] (.xf [Qq (Qbf p),.int .i64 (kE p true)]):=by
 apply Qb hK QDP (by simp);simp;apply cK (VF hK p true hf.small hf.sets);have hn:=Qeq hf true;unfold Qbf;by_cases he:kE p true=0;rotate_left
 .simp[he]
 .have hp:=(Yh he).1;have hdl:=hp.deedsLen;have hft:∀t∈kL p true,Fit p t:=QcL;generalize kL p true=l at *;have hpl:∀s:Nat,((λat_:Nat=>if l.all (λt=>QD p ((XO p (Qt t.ends)).getD at_ 0) t) then [] else [(at_:Int)]) s).length<=1:=λs=>by grind
  have hcn:=hp.zc.za.cnt p.zc.za.length (QN3 _) (QN3 _);have hleft:ZV p.zc.za=cnt p.zc.za p.zc.za.length:=rfl;have y9:ZV p.zc.za<=12/\0<=ZV p.zc.za:=by omega
  have hnl:∀e,((XO p e).length:Int)=ZV p.zc.za:=λe=>ZW e hp.zc.za _ (QN3 _) (QN3 _);obtain⟨pc,hpc⟩:∃pc:Nat->List Int,pc=λat_:Nat=>if l.all (λt=>QD p ((XO p (Qt t.ends)).getD at_ 0) t) then [] else [(at_:Int)]:=⟨_,rfl⟩
  rw[<- hpc] at hpl |-;simp[he]
  refine Qe (λi=>[(1,AV.iv (.ptr [Qr p.zc.za,Qj p.zc.zg,.int .i64 p.zc.zh,Qs p.zb.zd,.int .i64 p.zb.zr,.int .i64 p.zb.zu,.int .i64 p.zb.zw,Zk p.zb.zk,.int .i64 p.zb.zh,Q4 p.zf,.int .i64 p.zo,.int .i64 p.z6])),(4,AV.iv (.sl 3 (l.map tuC))),(6,AV.yl 6 (acc pc i).length),(7,AV.iv (.int .i64 (i:Nat)))])
   (λi=>[(6,AO.arr 3 1 (emb ((acc pc i).map λn=>[.int .i64 n])) 0)]) (ZV p.zc.za).toNat (λi=>True) trivial ?_ ?_
  .intro _;rw[Qa QlH.eq_1];simp;apply cK (QjN hK p.zc _ hp.zc.za (by omega));have:¬inR (max (ZV p.zc.za) 0) 0 (ZV p.zc.za-1):=by simp only[inR];omega
   simp[this]
  .intro i hi _ ih;have hlen:=YO pc 1 hpl i;have hi':inR (i:Int) 0 (ZV p.zc.za-1):=by simp only[inR];omega
   rw[ZR pc i] at ih;rw[Qa QlH.eq_1];generalize acc pc i=T at *;simp;apply cK (QjN hK p.zc i hp.zc.za (by omega));simp[hi']
   refine Qe (λk=>[(1,AV.iv (.ptr [Qr p.zc.za,Qj p.zc.zg,.int .i64 p.zc.zh,Qs p.zb.zd,.int .i64 p.zb.zr,.int .i64 p.zb.zu,.int .i64 p.zb.zw,Zk p.zb.zk,.int .i64 p.zb.zh,Q4 p.zf,.int .i64 p.zo,.int .i64 p.z6])),(4,AV.iv (.sl 3 (l.map tuC))),(6,AV.yl 6 T.length),(7,AV.iv (.int .i64 (i:Nat))),(8,AV.iv (.bool ((l.take k).all λt=>QD p ((XO p (Qt t.ends)).getD i 0) t))),(9,AV.iv (.int .i64 (k:Nat)))])
    (λk=>[(6,AO.arr 3 1 (emb (T.map λn=>[.int .i64 n])) 0)]) l.length (λi=>True) trivial ?_ ?_
   .intro _;rw[Qa QlI.eq_1];rw[QN5];have hpi:pc i=if l.all (λt=>QD p ((XO p (Qt t.ends)).getD i 0) t) then [] else [(i:Int)]:=by rw[hpc]
    rw[hpi] at ih;generalize l.all (λt=>QD p ((XO p (Qt t.ends)).getD i 0) t)=hal at *
    cases hal
    .simp at ih |-
     grind
    simp at ih |-
    grind
   .intro k hk _ ih;have hs:((l.take (k+1)).all λt=>QD p ((XO p (Qt t.ends)).getD i 0) t)=(((l.take k).all λt=>QD p ((XO p (Qt t.ends)).getD i 0) t)&&QD p ((XO p (Qt l[k].ends)).getD i 0) l[k]):=by
     rw[QNW hk,List.all_append];simp
    rw[hs] at ih;rw[Qa QlI.eq_1];generalize((l.take k).all λt=>QD p ((XO p (Qt t.ends)).getD i 0) t)=hal at *
    have hnk:=hnl (Qt l[k].ends);have hik:i<(XO p (Qt l[k].ends)).length:=by omega
    have hgk:(XO p (Qt l[k].ends)).getD i 0=(XO p (Qt l[k].ends))[i]:=by grind
    rw[hgk] at ih;have hnow:XO p (Qt l[k].ends)=cab p.zc.za (Qt l[k].ends) p.zc.za.length:=rfl;cases hal
    .simp[hk] at ih |-
     grind
    .simp[hk] at ih |-
     (repeat' first|omega|apply And.intro|intro)
     apply cK (QcX hK p.zc l[k].ends hp.zc.za (by omega) (hft _ (QN0 hk)).ends);rw[<- hnow];simp[hik,hk];apply cK (QjI hK p (XO p (Qt l[k].ends))[i] l[k] hp (hft _ (QN0 hk)));simp;grind
def QAf(p:Qf)(n:Int)(hf:QoS p):Gd K 164 [prV p,.int .i64 n] (.xf [Qq (Uh p n),.int .i64 (kE p (Q0 p n))]):=by
 apply Qb hK QDV (by simp);simp;apply cK (QqI hK p n hf.small.zf);have htb:decide (inR n 0 (p.zf.length-1))=Q0 p n:=rfl;rw[htb];simp;apply cK (VF hK p (Q0 p n) hf.small hf.sets);have hn:=Qeq hf (Q0 p n);have hft:∀t∈kL p (Q0 p n),Fit p t:=QcL;have hok:∀t∈kL p (Q0 p n),OkP p/\Q0 p n=true:=λt h=>QFA h;unfold Uh;generalize kL p (Q0 p n)=l at *;generalize kE p (Q0 p n)=er at *;have⟨Pf,hP0,hPs,hPn,hPl⟩:=Qfo (λt=>QJ p n.toNat (Qt t.ends)) l;rw[<- hPn];simp;have e0:AO.arr 3 1 [] 0=AO.arr 3 1 (emb ((Pf 0).map λn=>[.int .i64 n])) 0:=by rw[hP0];rfl
 rw[e0]
 refine Qe (λi=>[(1,AV.iv (.int .i64 n)),(2,AV.iv (.ptr [Qr p.zc.za,Qj p.zc.zg,.int .i64 p.zc.zh,Qs p.zb.zd,.int .i64 p.zb.zr,.int .i64 p.zb.zu,.int .i64 p.zb.zw,Zk p.zb.zk,.int .i64 p.zb.zh,Q4 p.zf,.int .i64 p.zo,.int .i64 p.z6])),(6,AV.iv (.sl 3 (l.map tuC))),(7,AV.iv (.int .i64 er)),(8,AV.yl 8 i),(9,AV.iv (.int .i64 (i:Nat)))])
  (λi=>[(8,AO.arr 3 1 (emb ((Pf i).map λn=>[.int .i64 n])) 0)]) l.length (λi=>True) trivial ?_ ?_
 .intro _;have hl:=hPl l.length (QN3 _);rw[Qa QlM.eq_1];have htk:((Pf l.length).map λn=>[IV.int IntKind.i64 n]).take l.length=(Pf l.length).map λn=>[IV.int IntKind.i64 n]:=QN1 (by simp[hl]);simp[hl,htk]
  (repeat' first|omega|apply And.intro|intro)
  apply cK (QjM hK (Pf l.length) 0 12 (by omega) (by omega) (by omega));simp
 .intro i hi _ ih;have hok1:=hok _ (QN0 hi);have hl:=hPl i (by omega);have hnr:=of_decide_eq_true hok1.2;simp only[inR] at hnr;have hnt:((n.toNat:Nat):Int)=n:=by omega
  rw[hPs i hi] at ih;rw[Qa QlM.eq_1];simp[hi,hl] at ih |-
  (repeat' first|omega|apply And.intro|intro)
  have hg:=QjK hK p n.toNat l[i].ends hok1.1 (by omega) (hft _ (QN0 hi)).ends;rw[hnt] at hg;apply cK hg;simp[hl];grind
end Go.Pf
namespace Go.Ev
def QpW{P:Program}{K:World->Prop}{F:Way->Env->Qz->Prop}{c:AC}{ks ids:List Nat}{k:List AI}{S:Type}(st:S->Env)(so:S->Qz)(I:S->Prop)(μ:S->Nat)
  (h:∀s,I s->(∀s',I s'->μ s'<μ s->XJ P K F c ks ids k (st s') (so s'))->XJ P K F c ks ids k (st s) (so s)):∀s,I s->XJ P K F c ks ids k (st s) (so s):=by
 have:∀n s,μ s<n->I s->XJ P K F c ks ids k (st s) (so s):=by
  intro n;induction n with
  |_=>grind
 grind
end Go.Ev
namespace Go.Pf
open Go Go.Ev Go.Proofs Go.RowKit Go.Proofs.Tryz
variable{K:World->Prop}(hK:∀w w',K w->Below w.heap.size w w'->K w')
theorem WV:∀(r:List ZL)(s:List Int),s∈Q1 r->s.length=r.length
 |[],s,h=>by simp[Q1] at h;simp[h]
 |l::r,s,h=>by simp only[Q1,acc,QOK,QOb] at h;obtain⟨i,_,x,hx,rfl⟩:=h;simp[WV r x hx]
theorem QaR:∀(r:List ZL)(s:List Int),s∈Q1 r->∀i(h:i<r.length)(h':i<s.length),inR s[i] r[i].lo r[i].hi
 |[],s,h,i,hi,_=>by simp at hi
 |l::r,s,h,i,hi,hi'=>by
  simp only[Q1,acc,QOK,QOb,QOr] at h;obtain⟨j,hj,x,hx,rfl⟩:=h;cases i with
  |zero=>simp only[QPw,inR];omega
  |succ i=>simp only[List.getElem_cons_succ];exact QaR r x hx i (by simpa using hi) (by simpa using hi')
def Qd7{m:Machine}{s:Qn}(h:s∈QO m [] m.zd):okS m s:=by simp only[QO,QOK,QOb,QOr,QOg] at h;obtain⟨x,hx,k,hk,rfl⟩:=h;exact⟨WV _ _ hx,by simp only[inR];omega,QaR _ _ hx⟩
def V9(m:Machine)(first:List Int)(l:ZL)(r:List ZL):QO m first (l::r)=acc (λi=>QO m (first++[l.lo+(i:Nat)]) r) (l.hi+1-l.lo).toNat:=by simp only[QO,Q1,acc,List.flatMap_assoc];congr 1;funext i;simp[List.flatMap_map]
def Qa2(m:Machine)(first:List Int)(k:Nat):List Qn:=[⟨first,m.zu+k⟩]
def Qb6(m:Machine)(first:List Int):QO m first []=acc (Qa2 m first) (m.zw+1-m.zu).toNat:=by
 simp only[QO,Q1,acc,QPb,List.flatMap_nil,QOl];generalize(m.zw+1-m.zu).toNat=n;induction n with
 |zero=>rfl
 |succ n ih=>rw[QOv,QOd,ih,QPP];rfl
theorem Wp(m:Machine):∀(rest:List ZL)(first:List Int),(∀l∈rest,1<=Zs l)->1<=m.zw-m.zu+1->((QO m first rest).length:Int)<=(m.zw-m.zu+1)*QH Zs rest
 |[],first,_,h=>by simp[QO,Q1,QH];omega
 |l::r,first,hs,h=>by
  rw[V9];have ih:=λe:Int=>Wp m r (first++[e]) (λl hl=>hs l (by simp[hl])) h;have hl:=hs l (by simp);have hp:=Yy Zs r λl hl=>hs l (by simp[hl]);have hpp:=QOQ (a:=m.zw-m.zu+1) (b:=QH Zs r) (by omega) (by omega);have h1:=YO (λi=>QO m (first++[l.lo+(i:Nat)]) r) ((m.zw-m.zu+1)*QH Zs r).toNat (λi=>by grind) (l.hi+1-l.lo).toNat;have e1:((l.hi+1-l.lo).toNat:Int)=Zs l:=by unfold Zs at *;omega
  have e2:(((m.zw-m.zu+1)*QH Zs r).toNat:Int)=(m.zw-m.zu+1)*QH Zs r:=by omega
  have h2:=Int.ofNat_le.2 h1;rw[Int.natCast_mul,e1,e2] at h2;simp only[QH];grind
noncomputable def tL(m:Machine)(is:Bool):List Qn:=if OkM m/\is=true then QS m [] m.zd else []
noncomputable def tE(m:Machine)(is:Bool):Int:=if OkM m then(if is=true then(if QS m [] m.zd=[] then 3 else 0) else 1) else 30
def QxA{m:Machine}{is:Bool}{s:Qn}(h:s∈tL m is):OkM m/\is=true/\okS m s:=by
 unfold tL at h;split at h
 .rename_i h1;exact⟨h1.1,h1.2,(Vn h).1⟩
 cases h
def Vh(w mn load:Int):Bool:=decide (inR w 0 9999/\inR mn 0 99/\inR load 0 999999999)
def qc(m:Machine)(w mn:Int)(s:Qn):Int:=(num m s w mn).tdiv (den s)
def upS(m:Machine)(w mn:Int)(s:Qn):Int:=(num m s w mn+den s-1).tdiv (den s)
noncomputable def XY(m:Machine)(w mn:Int):Int×Int:=((span ((tL m (Vh w mn 0)).map (qc m w mn))).1,(span ((tL m (Vh w mn 0)).map (upS m w mn))).2)
include hK
theorem Qqz(m:Machine)(hm:OkM m)(hs:sets m m.zd.length<=1000000):∀(n:Nat)(first:List Int),first.length+n=m.zd.length->Gd K 323 [maV m,Qq first] (.sl 2 ((QO m first (m.zd.drop first.length)).map seC))
 |0,first,hn=>by
  apply Qb hK QsB (by simp);have e1:m.zd.drop first.length=[]:=QOA (by omega)
  have e2:first.length=m.zd.length:=by omega
  have hlk:=hm.zx;have hlh:=hm.zw;simp only[inR] at hlk;rw[e1,Qb6];simp[e2]
  (repeat' first|omega|apply And.intro|intro)
  have e0:AV.iv (IV.int .i64 m.zu)=AV.iv (.int .i64 (m.zu+((0:Nat):Int))):=by simp
  rw[e0]
  refine Qe (λi=>[(1,AV.iv (Qq first)),(2,AV.iv (.ptr [Qs m.zd,.int .i64 m.zr,.int .i64 m.zu,.int .i64 m.zw,Zk m.zk,.int .i64 m.zh])),(5,AV.yl 5 (acc (Qa2 m first) i).length),(6,AV.iv (.int .i64 (m.zu+(i:Nat))))])
   (λi=>[(5,AO.arr 291 2 (emb ((acc (Qa2 m first) i).map seC)) 0)]) (m.zw+1-m.zu).toNat (λi=>True) trivial ?_ ?_
  .intro _;have q1:m.zu+((m.zw+1-m.zu).toNat:Int)=m.zw+1:=by omega
   have q2:¬m.zw+1<=m.zw:=by omega
   rw[q1,Qa QkP.eq_1];simp[q2]
  intro i hi _ hh;have q1:m.zu+(i:Int)<=m.zw:=by omega
  have q3:m.zu+((i:Int)+1)=m.zu+i+1:=by omega
  have hlen:=YO (Qa2 m first) 1 (λk=>by simp[Qa2]) i;rw[ZR _ i] at hh;rw[Qa QkP.eq_1];have hp:Qa2 m first i=[⟨first,m.zu+i⟩]:=rfl
  rw[hp] at hh;simp[q1,q3] at hh |-
  grind
 |n+1,first,hn=>by
  have ih:=Qqz m hm hs n;apply Qb hK QsB (by simp);have y9:first.length<m.zd.length:=by omega
  have hne:¬(first.length:Int)=m.zd.length:=by omega
  have hl:=hm.len;have e1:m.zd.drop first.length=m.zd[first.length]::m.zd.drop (first.length+1):=QOq y9
  have hlv:=hm.lever (QN0 y9);rw[e1,V9];have hbI:=QgL hm (first.length+1);have hlk:=hm.zx;simp only[inR] at hlk;have hbs:∀i:Nat,((λi:Nat=>QO m (first++[m.zd[first.length].lo+(i:Nat)]) (m.zd.drop (first.length+1))) i).length<=1000000:=λi=>by have:=Wp m (m.zd.drop (first.length+1)) (first++[m.zd[first.length].lo+(i:Nat)]) (λl hl=>(hm.span (QOW hl)).1) (by omega);grind
  have ih2:∀i:Nat,Gd K 323 [maV m,Qq (first++[m.zd[first.length].lo+(i:Int)])] (.sl 2 (((λi:Nat=>QO m (first++[m.zd[first.length].lo+(i:Nat)]) (m.zd.drop (first.length+1))) i).map seC)):=λi=>by grind
  generalize(λi:Nat=>QO m (first++[m.zd[first.length].lo+(i:Nat)]) (m.zd.drop (first.length+1)))=pc at *
  simp[hne,y9]
  (repeat' first|omega|apply And.intro|intro)
  have e0:AV.iv (IV.int .i64 m.zd[first.length].lo)=AV.iv (.int .i64 (m.zd[first.length].lo+((0:Nat):Int))):=by simp
  rw[e0]
  refine Qe (λi=>[(1,AV.iv (Qq first)),(2,AV.iv (.ptr [Qs m.zd,.int .i64 m.zr,.int .i64 m.zu,.int .i64 m.zw,Zk m.zk,.int .i64 m.zh])),(5,AV.yl 5 (acc pc i).length),(7,AV.loc 7 0),(8,AV.iv (.int .i64 (m.zd[first.length].lo+(i:Nat))))])
   (λi=>[(5,AO.arr 291 2 (emb ((acc pc i).map seC)) 0),(7,AO.box [.iv (.int .i64 (m.zd[first.length].lo+((0:Nat):Int))),.iv (.int .i64 m.zd[first.length].hi)])]) (m.zd[first.length].hi+1-m.zd[first.length].lo).toNat (λi=>True) trivial ?_ ?_
  .intro _;have q1:m.zd[first.length].lo+((m.zd[first.length].hi+1-m.zd[first.length].lo).toNat:Int)=m.zd[first.length].hi+1:=by omega
   have q2:¬m.zd[first.length].hi+1<=m.zd[first.length].hi:=by omega
   rw[q1,Qa QkO.eq_1];simp[q2]
  .intro i hi _ hh;have q1:m.zd[first.length].lo+(i:Int)<=m.zd[first.length].hi:=by omega
   have q3:m.zd[first.length].lo+((i:Int)+1)=m.zd[first.length].lo+i+1:=by omega
   have hlen:=YO pc 1000000 hbs i;have hbi:=hbs i;have hg:=ih2 i;rw[ZR pc i] at hh;rw[Qa QkO.eq_1];simp[q1,q3] at hh |-
   (repeat' first|omega|apply And.intro|intro)
   refine VN [some (maV m),none] (by simp) (rows:=(first++[m.zd[first.length].lo+(i:Int)]).map λn=>[.int .i64 n]) (n:=first.length+1) (sz:=1) (et:=3) (mv:=0) (r:=.sl 2 ((pc i).map seC)) ?_ (by simp) (by simp[Qc]) (by simp) (by simp) ?_
   .have:((first++[m.zd[first.length].lo+(i:Int)]).map λn=>[IV.int IntKind.i64 n]).take (first.length+1)=(first++[m.zd[first.length].lo+(i:Int)]).map λn=>[IV.int IntKind.i64 n]:=QN1 (by simp);rw[this];exact hg
   .simp[-List.map_map,Qw,QE,QC,Qm];grind
def QuA(m:Machine)(hm:OkM m)(hs:sets m m.zd.length<=1000000):Gd K 323 [maV m,.sl 1 []] (.sl 2 ((QO m [] m.zd).map seC)):=by have:=Qqz hK m hm hs m.zd.length [] (by simp);simpa using this
def QqJ(m:Machine)(is:Bool)(hl:m.zd.length<=1000)(hb:m.zk.length<=1000)(hs:OkM m->sets m m.zd.length<=1000000):Gd K 253 [maV m,.bool is] (.xf [.sl 2 ((tL m is).map seC),.int .i64 (tE m is)]):=by
 apply Qb hK QCM (by simp);simp;apply cK (Qqq hK m hl hb);by_cases h1:OkM m;rotate_left
 .simp[h1,tL,tE]
 .cases is
  .simp[h1,tL,tE]
  .simp[h1];apply cK (QuA hK m h1 (hs h1));simp;have hok:∀s∈QO m [] m.zd,okS m s:=λs h=>Qd7 h;have hlk:=h1.zx;simp only[inR] at hlk;have hn:=Wp m m.zd [] (λl hl=>(h1.span hl).1) (by omega);have hn2:=hs h1;unfold sets at hn2;rw[QN5] at hn2;have hsl:QS m [] m.zd=(QO m [] m.zd).filter λs=>decide (Yi m s):=rfl;have htE:tE m true=if QS m [] m.zd=[] then 3 else 0:=by simp[tE,h1]
   have htL:tL m true=QS m [] m.zd:=by simp[tL,h1]
   rw[htE,htL,hsl];generalize QO m [] m.zd=A at *
   refine Qe (λi=>[(2,AV.iv (.ptr [Qs m.zd,.int .i64 m.zr,.int .i64 m.zu,.int .i64 m.zw,Zk m.zk,.int .i64 m.zh])),(7,AV.yl 7 ((A.take i).filter λs=>decide (Yi m s)).length),(8,AV.iv (.sl 2 (A.map seC))),(9,AV.iv (.int .i64 (i:Nat)))])
    (λi=>[(7,AO.arr 291 2 (emb (((A.take i).filter λs=>decide (Yi m s)).map seC)) 0)]) A.length (λi=>True) trivial ?_ ?_
   .intro _;rw[Qa Qlj.eq_1];rw[QN5];generalize(A.filter λs=>decide (Yi m s))=T;by_cases hT:T=[]
    .simp[hT]
    have hT':¬T.length=0:=by simpa using hT
    simp[hT,hT']
   .intro i hi _ ih;have hle:=QOp (λs=>decide (Yi m s)) (A.take i);have hwl:=qQ m m.zk A[i];simp at hle;rw[QNW hi,QOT] at ih;rw[Qa Qlj.eq_1];have hoki:=hok _ (QN0 hi);generalize((A.take i).filter λs=>decide (Yi m s))=T at *
    by_cases hr:(ZS m m.zk A[i]:Int)<=m.zh
    .have hi2:Yi m A[i]:=⟨hoki,hr⟩;simp[hi,hi2] at ih |-;intros;apply cK (QjD hK m A[i] h1 hoki);simp[hr,hi];grind
    .have hi2:¬Yi m A[i]:=λh=>hr h.2;simp[hi,hi2] at ih |-;intros;apply cK (QjD hK m A[i] h1 hoki);simp[hr,hi];grind
def QjL(a b:Int)(h1:0<=a/\a<=19998000000000)(h2:1<=b/\b<=1000000000):Gd K 255 [.int .i64 a,.int .i64 b] (.int .i64 ((a+b-1).tdiv b)):=by
 apply Qb hK QCK (by simp);have htd:=JO (a:=a+b-1) (b:=b) (by omega) (by omega);have hb:¬b=0:=by omega
 simp[hb];omega
def QqV(m:Machine)(w mn:Int)(hl:m.zd.length<=1000)(hb:m.zk.length<=1000)(hs:OkM m->sets m m.zd.length<=1000000):Gd K 163 [maV m,.int .i64 w,.int .i64 mn] (.xf [.agg [.int .i64 (XY m w mn).1,.int .i64 (XY m w mn).2],.int .i64 (tE m (Vh w mn 0))]):=by
 apply Qb hK QDW (by simp);simp;apply cK (QhS hK w mn 0);have hask:decide (inR w 0 9999/\inR mn 0 99/\inR 0 0 999999999)=Vh w mn 0:=rfl;rw[hask];simp;apply cK (QqJ hK m (Vh w mn 0) hl hb hs);have hok:∀s∈tL m (Vh w mn 0),OkM m/\Vh w mn 0=true/\okS m s:=λs h=>QxA h;unfold XY;generalize tL m (Vh w mn 0)=l at *;generalize tE m (Vh w mn 0)=er at *;simp
 refine Qe (λi=>[(1,AV.iv (.int .i64 w)),(2,AV.iv (.int .i64 mn)),(3,AV.iv (.ptr [Qs m.zd,.int .i64 m.zr,.int .i64 m.zu,.int .i64 m.zw,Zk m.zk,.int .i64 m.zh])),(6,AV.loc 6 0),(8,AV.iv (.sl 2 (l.map seC))),(9,AV.iv (.int .i64 er)),(10,AV.loc 10 0),(11,AV.iv (.int .i64 (i:Nat)))])
  (λi=>[(6,AO.box [.iv (.int .i64 0),.iv (.int .i64 0)]),(10,AO.box [.iv (.int .i64 (span ((l.take i).map (qc m w mn))).1),.iv (.int .i64 (span ((l.take i).map (upS m w mn))).2)])]) l.length (λi=>True) trivial ?_ ?_
 .intro _;rw[Qa QlN.eq_1];rw[QN5];generalize span (l.map (qc m w mn))=A;generalize span (l.map (upS m w mn))=B;simp
 .intro i hi _ ih;have⟨hm,ha,hsi⟩:=hok _ (QN0 hi);have ha:=of_decide_eq_true ha;have hn:=hm.numB hsi ha.1 ha.2.1;have hd:=hm.denB hsi;have td1:=JO hn.1 hd.1;have td2:=JO (a:=num m l[i] w mn+den l[i]-1) (b:=den l[i]) (by omega) (by omega);have hd0:¬den l[i]=0:=by omega
  rw[QNW hi,QOd,QO3,J2,QOd,QO3,J2] at ih;rw[Qa QlN.eq_1];have hlow:qc m w mn l[i]=(num m l[i] w mn).tdiv (den l[i]):=rfl;have hup:upS m w mn l[i]=(num m l[i] w mn+den l[i]-1).tdiv (den l[i]):=rfl;by_cases h0:i=0
  .subst h0;simp[hi,hlow,hup] at ih |-
   (repeat' first|omega|apply And.intro|intro)
   apply cK (QcW hK m l[0] w mn hm hsi ha.1 ha.2.1);simp[hd0]
   (repeat' first|omega|apply And.intro|intro)
   apply cK (QjL hK (num m l[0] w mn) (den l[0]) hn hd);simp[hd0]
   (repeat' first|omega|apply And.intro|intro)
   apply cK (QjL hK (num m l[0] w mn) (den l[0]) hn hd);simp;omega
  .have hne1:¬(l.take i).map (qc m w mn)=[]:=by
    intro c;have hli:((l.take i).map (qc m w mn)).length=i:=by simp;omega
    grind
   have hne2:¬(l.take i).map (upS m w mn)=[]:=by
    intro c;have hli:((l.take i).map (upS m w mn)).length=i:=by simp;omega
    grind
   have h0':¬(i:Int)=0:=by omega
   rw[if_neg hne1,if_neg hne2] at ih;generalize span ((l.take i).map (qc m w mn))=A at *;generalize span ((l.take i).map (upS m w mn))=B at *;simp[hi,hlow,hup] at ih |-
   (repeat' first|omega|apply And.intro|intro)
   apply cK (QcW hK m l[i] w mn hm hsi ha.1 ha.2.1);simp[hd0,h0,h0']
   (repeat' first|omega|apply And.intro|intro)
   apply cK (QjL hK (num m l[i] w mn) (den l[i]) hn hd);simp[VY,U5];grind
def QAe(p:Qf)(n:Int)(hf:QoS p):Gd K 165 [prV p,.int .i64 n] (.xf [.agg [.int .i64 (if kE p (Q0 p n)=0 then(XY p.zb (tr p n.toNat).zm (tr p n.toNat).zn).1 else 0),.int .i64 (if kE p (Q0 p n)=0 then(XY p.zb (tr p n.toNat).zm (tr p n.toNat).zn).2 else 0)],
   .int .i64 (if kE p (Q0 p n)=0 then tE p.zb (Vh (tr p n.toNat).zm (tr p n.toNat).zn 0) else kE p (Q0 p n))]):=by
 apply Qb hK QDU (by simp);simp;apply cK (QqI hK p n hf.small.zf);have htb:decide (inR n 0 (p.zf.length-1))=Q0 p n:=rfl;rw[htb];simp;apply cK (VF hK p (Q0 p n) hf.small hf.sets);by_cases he:kE p (Q0 p n)=0
 .obtain⟨hp,hb,_⟩:=Yh he;have hnr:=of_decide_eq_true hb;simp only[inR] at hnr;have y9:n.toNat<p.zf.length:=by omega
  have hn0:((n.toNat:Nat):Int)=n:=by omega
  have hn1:0<=n:=by omega
  simp[he,y9,Ja y9,hn1];apply cK (QqV hK p.zb (tr p n.toNat).zm (tr p n.toNat).zn hf.small.zd hf.small.zk (λ_=>hf.sets hp));simp
 .simp[he]
def QyJ(m:Machine)(s:Qn)(w mn load:Int)(hm:OkM m)(hs:okS m s)(hw:inR w 0 9999)(hmn:inR mn 0 99)(hld:inR load 0 999999999):Gd K 373 [maV m,.agg (seC s),.int .i64 w,.int .i64 mn,.int .i64 load] (.bool (decide (load*den s<=num m s w mn))):=by apply Qb hK QBw (by simp);simp;apply cK (QcW hK m s w mn hm hs hw hmn);have h2:=hm.denB hs;simp only[inR] at hld;have h4:=QOY hld.2 h2.2 (by omega) (by omega);have h5:=QOQ hld.1 (QPE (by omega) h2.1);simp;omega
def ZK(m:Machine)(l:List Qn)(w mn load:Int):Prop:=∀s∈l,load*den s<=num m s w mn
def Qy3(m:Machine)(l:List Qn)(w mn load:Int)(hm:OkM m)(hs:∀s∈l,okS m s)(hw:inR w 0 9999)(hmn:inR mn 0 99)(hld:inR load 0 999999999)(hn:l.length<=1000000):Gd K 331 [maV m,.sl 2 (l.map seC),.int .i64 w,.int .i64 mn,.int .i64 load] (.int .i64 (l.countP λs=>decide (load*den s<=num m s w mn))):=by
 apply Qb hK QBU (by simp);simp
 refine Qe (λi=>[(1,AV.iv (.sl 2 (l.map seC))),(2,AV.iv (.int .i64 w)),(3,AV.iv (.int .i64 mn)),(4,AV.iv (.int .i64 load)),(5,AV.iv (.ptr [Qs m.zd,.int .i64 m.zr,.int .i64 m.zu,.int .i64 m.zw,Zk m.zk,.int .i64 m.zh])),(11,AV.iv (.int .i64 ((l.take i).countP (λs=>decide (load*den s<=num m s w mn)):Nat))),(12,AV.iv (.int .i64 (i:Nat)))])
  (λ_=>[]) l.length (λi=>True) trivial ?_ ?_
 .intro _;rw[Qa QkI.eq_1];simp
 .intro i hi _ ih;have hle:=QOw (p:=λs=>decide (load*den s<=num m s w mn)) (l:=l.take i);simp at hle;rw[QNW hi,QOH] at ih;rw[Qa QkI.eq_1];simp[hi] at ih |-;intros;apply cK (QyJ hK m l[i] w mn load hm (hs _ (QN0 hi)) hw hmn hld);by_cases hr:load*den l[i]<=num m l[i] w mn
  .simp[hr] at ih |-
   grind
  .simp[hr] at ih |-
   grind
omit hK
def Qn8(m:Machine)(zx w w' mn:Int)(h:w<=w'):Jw m zx w mn<=Jw m zx w' mn:=by unfold Jw;omega
def QtP(m:Machine)(s:Qn)(w w' mn:Int)(hm:OkM m)(h:w<=w'):num m s w mn<=num m s w' mn:=by have h1:=hm.aboveB;exact QOj (Qn8 m s.zx w w' mn h) (by omega)
def Qim{m:Machine}{l:List Qn}{w w' mn load:Int}(hm:OkM m)(h:w<=w')(ha:ZK m l w mn load):ZK m l w' mn load:=λs hs=>QPE (ha s hs) (QtP m s w w' mn hm h)
noncomputable def qg(m:Machine)(l:List Qn)(mn load:Int):Int:=open Classical in((List.range 10000).findIdx λ(n:Nat)=>decide (ZK m l n mn load):Nat)
def Qhs{m:Machine}{l:List Qn}{mn load r:Int}(h0:0<=r/\r<=10000)(h1:r<=9999->ZK m l r mn load)(h2:∀w,0<=w->w<r->¬ZK m l w mn load):qg m l mn load=r:=by
 classical
 unfold qg;have hp:∀n:Nat,n<10000->((List.range 10000).findIdx λ(n:Nat)=>decide (ZK m l n mn load))<=n\/¬ZK m l n mn load:=by
  intro n hn;by_cases h:ZK m l n mn load
  .left;apply QO9.1;intro y9;have:=List.not_of_lt_findIdx y9;simp[h] at this
  exact .inr h
 have hl:((List.range 10000).findIdx λ(n:Nat)=>decide (ZK m l n mn load))<=10000:=by have:=List.findIdx_le_length (p:=λ(n:Nat)=>decide (ZK m l n mn load)) (xs:=List.range 10000);simpa using this
 have hg:((List.range 10000).findIdx λ(n:Nat)=>decide (ZK m l n mn load))<10000->ZK m l (((List.range 10000).findIdx λ(n:Nat)=>decide (ZK m l n mn load)):Nat) mn load:=by intro y9;have:=List.findIdx_getElem (p:=λ(n:Nat)=>decide (ZK m l n mn load)) (xs:=List.range 10000) (w:=by simpa using y9);simpa using this
 generalize((List.range 10000).findIdx λ(n:Nat)=>decide (ZK m l n mn load))=q at *
 rcases Int.lt_trichotomy (q:Int) r with h|h|h
 .grind
 .exact h
 .have hr:=h1 (by omega);rcases hp r.toNat (by omega) with h3|h3
  all_goals grind
noncomputable def Xq(m:Machine)(mn load:Int):Int×Int:=if tE m (Vh 0 mn load)=0 then(if 9999<qg m (tL m (Vh 0 mn load)) mn load then(0,3) else(qg m (tL m (Vh 0 mn load)) mn load,0)) else(0,tE m (Vh 0 mn load))
def Qtw{m:Machine}{is:Bool}(h:tE m is=0):OkM m/\is=true/\tL m is=QS m [] m.zd/\QS m [] m.zd≠[]:=by
 unfold tE at h;split at h
 .rename_i h1;split at h
  .rename_i h2;split at h
   .cases h
   rename_i h3;exact⟨h1,h2,by simp[tL,h1,h2],h3⟩
  cases h
 cases h
def QeJ{α:Type}(p:α->Bool)(l:List α):(l.countP p=l.length)↔∀a∈l,p a=true:=QPz
include hK
def Qzs(m:Machine)(mn load:Int)(hl:m.zd.length<=1000)(hb:m.zk.length<=1000)(hs:OkM m->sets m m.zd.length<=1000000):Gd K 264 [maV m,.int .i64 mn,.int .i64 load] (.xf [.int .i64 (Xq m mn load).1,.int .i64 (Xq m mn load).2]):=by
 apply Qb hK QCB (by simp);simp;apply cK (QhS hK 0 mn load);have hask:decide (inR 0 0 9999/\inR mn 0 99/\inR load 0 999999999)=Vh 0 mn load:=rfl;rw[hask];simp;apply cK (QqJ hK m (Vh 0 mn load) hl hb hs);unfold Xq;by_cases he:tE m (Vh 0 mn load)=0;rotate_left
 .simp[he]
 .obtain⟨hm,ha,htl,hne⟩:=Qtw he;have ha:=of_decide_eq_true ha;have hok:∀s∈tL m (Vh 0 mn load),okS m s:=λs h=>(QxA h).2.2;have hln:(tL m (Vh 0 mn load)).length<=1000000:=by
   rw[htl];have:=Vo hm;grind
  rw[he];generalize tL m (Vh 0 mn load)=l at *;simp
  refine QpW (S:=Int×Int) (λs=>[(1,AV.iv (.int .i64 mn)),(2,AV.iv (.int .i64 load)),(3,AV.iv (.ptr [Qs m.zd,.int .i64 m.zr,.int .i64 m.zu,.int .i64 m.zw,Zk m.zk,.int .i64 m.zh])),(8,AV.iv (.sl 2 (l.map seC))),(10,AV.iv (.int .i64 s.1)),(11,AV.iv (.int .i64 s.2))])
   (λ_=>[]) (λs=>0<=s.1/\s.1<=s.2/\s.2<=10000/\(s.2<=9999->ZK m l s.2 mn load)/\∀w,0<=w->w<s.1->¬ZK m l w mn load) (λs=>(s.2-s.1).toNat) ?_ (0,10000) ⟨by simp,by simp,by simp,by simp,λw h1 h2=>by simp at h2;omega⟩
  rintro⟨lo,hi⟩ ⟨i1,i2,i3,i4,i5⟩ ih;simp only at i1 i2 i3 i4 i5 ih;rw[Qa QsL.eq_1];by_cases y9:lo<hi
  .have htd:(lo+hi).tdiv 2=(lo+hi) / 2:=QOB (by omega);have hmid:lo<=(lo+hi) / 2/\(lo+hi) / 2<hi:=by omega
   simp[y9,htd]
   (repeat' first|omega|apply And.intro|intro)
   apply cK (Qy3 hK m l ((lo+hi) / 2) mn load hm hok (by simp only[inR];omega) ha.2.1 ha.2.2 hln);by_cases xd:ZK m l ((lo+hi) / 2) mn load
   .have hc:(l.countP λs=>decide (load*den s<=num m s ((lo+hi) / 2) mn))=l.length:=(QeJ _ _).2 λs hs=>by simpa using xd s hs
    have:=ih (lo,(lo+hi) / 2) ⟨i1,hmid.1,by simp only;omega,λ_=>xd,i5⟩ (by simp only;omega);simp[hc] at this |-
    grind
   have hc:¬(l.countP λs=>decide (load*den s<=num m s ((lo+hi) / 2) mn))=l.length:=λc=>xd λs hs=>by simpa using(QeJ _ _).1 c s hs
   have hc':¬((l.countP λs=>decide (load*den s<=num m s ((lo+hi) / 2) mn):Nat):Int)=l.length:=by omega
   have:=ih ((lo+hi) / 2+1,hi) ⟨by simp only;omega,by simp only;omega,i3,i4,λw h1 h2 hw=>xd (Qim hm (by omega) hw)⟩ (by simp only;omega);simp[hc,hc'] at this |-
   (repeat' first|omega|apply And.intro|intro)
   done
  .have:lo=hi:=by omega
   subst this;have hr:=Qhs ⟨i1,i3⟩ i4 i5;rw[hr];by_cases h9:9999<lo
   .simp[h9]
   .simp[h9]
def Qz7(p:Qf)(hf:QoS p):Gd K 173 [prV p] (.xf [.int .i64 (if kE p true=0 then(Xq p.zb 0 p.zo).1 else 0),.int .i64 (if kE p true=0 then(Xq p.zb 0 p.zo).2 else kE p true)]):=by
 apply Qb hK QDM (by simp);simp;apply cK (VF hK p true hf.small hf.sets);by_cases he:kE p true=0
 .obtain⟨hp,_⟩:=Yh he;simp[he];apply cK (Qzs hK p.zb 0 p.zo hf.small.zd hf.small.zk (λ_=>hf.sets hp));simp
 .simp[he]
omit hK
@[simp] def stC(s:List Int)(zx below:Int):List IV:=[.int .i64 (s.getD 0 0),.int .i64 (s.getD 1 0),.int .i64 (s.getD 2 0),.int .i64 zx,.int .i64 below]
@[simp] def wkC(m:Machine):List IV:=[Qs m.zd,.int .i64 m.zr,.int .i64 m.zu,.int .i64 m.zw,Zk m.zk,.int .i64 m.zh,.int .i64 (VQ m)]
def X6{α:Type}(pc:Nat->List α):Nat->Nat->List α
 |_,0=>[]
 |i,k+1=>pc i++X6 pc (i+1) k
theorem Qds{α:Type}(pc:Nat->List α):∀k i,acc pc i++X6 pc i k=acc pc (i+k)
 |0,i=>by simp[X6]
 |k+1,i=>by
  have:=Qds pc k (i+1);rw[ZR] at this;have e:i+(k+1)=i+1+k:=by omega
  rw[X6,<- QPc,this,e]
def QbS{α:Type}(pc:Nat->List α)(n:Nat):acc pc n=X6 pc 0 n:=by have:=Qds pc n 0;simp only[Qwl,QOg,QOn] at this;exact this.symm
def Qap(m:Machine)(s:Qn):List IV:=[.agg (stC s.zy s.zx (den s)),.int .i64 (ZS m m.zk s)]
include hK
def QjV(m:Machine)(s:Qn)(w mn:Int)(hm:OkM m)(hl:inR s.zx m.zu m.zw)(hw:inR w 0 9999)(hmn:inR mn 0 99):Gd K 210 [.ptr (wkC m),.agg (stC s.zy s.zx (den s)),.int .i64 w,.int .i64 mn] (.int .i64 (Jw m s.zx w mn)):=by
 apply Qb hK QDi (by simp);have hp:=hm.zq hl hw hmn;have h3:=hm.zr;simp only[inR] at h3 hw;have e0:(w+if mn*s.zx<m.zr then m.zr-mn*s.zx else 0)=Jw m s.zx w mn:=by simp only[Jw];split<;>omega
 simp[e0];omega
def Qzd(m:Machine)(hm:OkM m):Gd K 293 [maV m] (.ptr (wkC m)):=by
 apply Qb hK QCb (by simp);have hl:=hm.len;simp
 (repeat' first|omega|apply And.intro|intro)
 refine Qe (λi=>[(3,AV.loc 8 0),(10,AV.iv (Qs m.zd)),(11,AV.iv (.int .i64 m.zd.length)),(12,AV.iv (.int .i64 (i:Nat)))])
  (λi=>[(8,AO.box [.iv (Qs m.zd),.iv (.int .i64 m.zr),.iv (.int .i64 m.zu),.iv (.int .i64 m.zw),.iv (Zk m.zk),.iv (.int .i64 m.zh),.iv (.int .i64 (QH (·.long) (m.zd.take i)))])]) m.zd.length (λi=>True) trivial ?_ ?_
 .intro _;rw[Qa QkZ.eq_1];rw[QN5];simp[VQ]
 .intro i hi _ ih;have l1:=hm.longs (i+1);rw[Qab _ _ _ hi] at ih l1;rw[Qa QkZ.eq_1];simp[hi] at ih l1 |-
  grind
def QyH(m:Machine)(s:Qn)(b:ZD)(hm:OkM m)(hs:okS m s)(hb:b∈m.zk):Gd K 382 [.ptr (wkC m),.agg (stC s.zy s.zx (den s)),.agg (baC b)] (.bool (WY m s b)):=by
 apply Qb hK QBt (by simp);have h:=hm.bal hb;simp;apply cK (QjV hK m s b.zm b.zn hm hs.2.1 h.1 h.2.1);have h1:=hm.numB hs h.1 h.2.1;have h2:=hm.denB hs;have h3:=h.2.2;simp only[inR] at h3;have h4:=QOY h3.1.2 h2.2 (by omega) (by omega);have h5:=QOQ h3.1.1 (QPE (by omega) h2.1);have hr:WY m s b=decide (num m s b.zm b.zn-b.load*den s<=b.off*den s /\ -(num m s b.zm b.zn-b.load*den s)<=b.off*den s):=rfl;have hnum:Jw m s.zx b.zm b.zn*VQ m=num m s b.zm b.zn:=rfl;rw[hr];simp[hnum];have key:∀d:Int,0<=d->(d<=b.off*den s↔(d.tdiv (den s)<b.off\/(d.tdiv (den s)=b.off/\d.tmod (den s)=0))):=λd hd=>by
  rw[QOB hd,QOy hd];have e1:=Int.emod_def d (den s);have e2:=Int.emod_nonneg d (b:=den s) (by omega);have e3:=Int.emod_lt_of_pos d (b:=den s) (by omega);constructor
  .intro hle;have h6:d / den s<=b.off:=by
    have:=Int.ediv_le_ediv (c:=den s) (by omega) hle
    rwa [Int.mul_ediv_cancel _ (by omega)] at this
   grind
  rintro (h7|⟨h7,h8⟩)
  .have h9:(d / den s+1)*den s<=b.off*den s:=QOj (by omega) (by omega);grind
  grind
 have hd0:¬den s=0:=by omega
 generalize num m s b.zm b.zn=N at *;generalize b.load*den s=L at *;have hD: -1000000000000000000<=N-L/\N-L<=1000000000000000000:=by omega
 generalize hDe:N-L=D at *;have hO:=QOQ h3.2.1 (show 0<=den s by omega);by_cases hneg:D<0
 .have hk:=key (-D) (by omega);have htd:=JO (a:=-D) (b:=den s) (by omega) h2.1;have ht2:=Int.tmod_nonneg (den s) (a:=-D) (by omega);generalize b.off*den s=O at *;rw[Int.neg_tdiv] at htd hk;rw[Int.neg_tmod] at ht2 hk;grind
 .have hk:=key D (by omega);have htd:=JO (a:=D) (b:=den s) (by omega) h2.1;grind
def Qhy(m:Machine)(hm:OkM m)(first:List Int)(leak0:Int)(hlen:first.length=m.zd.length)(hr:∀i(h:i<m.zd.length)(h':i<first.length),inR first[i] m.zd[i].lo m.zd[i].hi):
  Qbr prog K 345 [.ptr (wkC m),.agg (stC first leak0 (QH id first)),.int .i64 first.length] [] ((QO m first []).map (Qap m)) (λb=>.bool b):=by
 intro s b s' hf;apply QW Qsy (by simp) hf.v rfl;rw[Qb6,QbS] at hf;have hlk:=hm.zx;have hlh:=hm.zw;simp only[inR] at hlk;simp[hlen]
 (repeat' first|omega|apply And.intro|intro)
 have e0:AV.iv (IV.int .i64 m.zu)=AV.iv (.int .i64 (m.zu+((0:Nat):Int))):=by simp
 refine YU (m.zw+1-m.zu).toNat (λi e o=>∃si,e=[(0,AV.iv (.ptr (wkC m))),(3,AV.cb 0),(5,AV.loc 5 0)]/\o=[(0,.ext si),(5,.box [.iv (.int .i64 (first.getD 0 0)),.iv (.int .i64 (first.getD 1 0)),.iv (.int .i64 (first.getD 2 0)),.iv (.int .i64 (m.zu+(i:Nat))),.iv (.int .i64 (QH id first))])] /\
  Z2 prog K ((X6 (Qa2 m first) i ((m.zw+1-m.zu).toNat-i)).map (Qap m)) si b s') ?_ ?_ _ _ ⟨s,rfl,by simp,by simpa using hf⟩
 .rintro e o ⟨si,rfl,rfl,hfd⟩;have q1:m.zu+((m.zw+1-m.zu).toNat:Int)=m.zw+1:=by omega
  have q2:¬m.zw+1<=m.zw:=by omega
  rw[Nat.sub_self] at hfd;cases hfd;rw[q1,Qa Qkv.eq_1];simp[q2]
 .rintro i e o hi ⟨si,rfl,rfl,hfd⟩ ih;have q1:m.zu+(i:Int)<=m.zw:=by omega
  have q3:m.zu+((i:Int)+1)=m.zu+i+1:=by omega
  have hos:okS m ⟨first,m.zu+i⟩:=⟨hlen,by simp only[inR];omega,hr⟩;have e1:(m.zw+1-m.zu).toNat-i=((m.zw+1-m.zu).toNat-(i+1))+1:=by omega
  rw[e1] at hfd;simp only[X6,Qa2,QOd,QOk,List.map_nil,List.singleton_append] at hfd;have hbl:=hm.blen;rw[Qa Qkv.eq_1];simp[q1]
  (repeat' first|omega|apply And.intro|intro)
  refine Qe (λk=>[(0,AV.iv (.ptr (wkC m))),(3,AV.cb 0),(5,AV.loc 5 0),(11,AV.iv (.int .i64 (ZS m (m.zk.take k) ⟨first,m.zu+i⟩:Nat))),(87,AV.iv (Zk m.zk)),(88,AV.iv (.int .i64 m.zk.length)),(89,AV.iv (.int .i64 (k:Nat)))])
   (λk=>[(0,.ext si),(5,.box [.iv (.int .i64 (first.getD 0 0)),.iv (.int .i64 (first.getD 1 0)),.iv (.int .i64 (first.getD 2 0)),.iv (.int .i64 (m.zu+(i:Nat))),.iv (.int .i64 (QH id first))])]) m.zk.length (λi=>True) trivial ?_ ?_
  .intro _;rw[Qa Qkw.eq_1];simp;have hit:Qap m ⟨first,m.zu+i⟩=[.agg (stC first (m.zu+i) (QH id first)),.int .i64 (ZS m m.zk ⟨first,m.zu+i⟩)]:=rfl;rw[hit] at hfd;cases hfd with
   |stop _ _ _ _ hg=>apply Zd (by simpa using hg) rfl;simp
   |next _ _ _ s1 _ _ hg hr2=>
    apply Zd (by simpa using hg) rfl;simp
    (repeat' first|omega|apply And.intro|intro)
    exact ih _ _ ⟨s1,rfl,by simp[q3],hr2⟩
  .intro k hk _ ih2;have hle:=qQ m (m.zk.take k) ⟨first,m.zu+i⟩;simp at hle;rw[Qa Qkw.eq_1];rw[QaH _ _ _ _ hk] at ih2;simp[hk] at ih2 |-;have hg:=QyH hK m ⟨first,m.zu+i⟩ m.zk[k] hm hos (QN0 hk);apply cK (by simpa[den] using hg);cases hrr:WY m ⟨first,m.zu+i⟩ m.zk[k]
   .simp[hrr] at ih2 |-
    grind
   .simp[hrr] at ih2 |-
    grind
theorem Qqc(m:Machine)(hm:OkM m):∀(n:Nat)(first:List Int),first.length+n=m.zd.length->(∀i(h:i<m.zd.length)(h':i<first.length),inR first[i] m.zd[i].lo m.zd[i].hi) ->
  Qbr prog K 345 [.ptr (wkC m),.agg (stC first 0 (QH id first)),.int .i64 first.length] [] ((QO m first (m.zd.drop first.length)).map (Qap m)) (λb=>.bool b)
 |0,first,hn,hr=>by
  have e1:m.zd.drop first.length=[]:=QOA (by omega)
  rw[e1];exact Qhy hK m hm first 0 (by omega) hr
 |n+1,first,hn,hr=>by
  have ihn:=Qqc m hm n;have y9:first.length<m.zd.length:=by omega
  have hl3:=hm.len;have e1:m.zd.drop first.length=m.zd[first.length]::m.zd.drop (first.length+1):=QOq y9
  have hlv:=hm.lever (QN0 y9);rw[e1,V9];have hpb:∀x:Int,inR x m.zd[first.length].lo m.zd[first.length].hi->1<=QH id (first++[x])/\QH id (first++[x])<=1000000000:=λx hx=>by
   refine Qcp _ _ (λa ha=>?_) (by simp;omega);simp only[inR] at hx;rcases QOc.1 ha with ha|ha
   .obtain⟨k,hk,rfl⟩:=QON ha;have h1:=hr k (by omega) hk;have h2:=hm.lever (QN0 (show k<m.zd.length by omega));simp only[inR,id] at *;omega
   grind
  have ih2:∀i:Nat,m.zd[first.length].lo+(i:Int)<=m.zd[first.length].hi->Qbr prog K 345 [.ptr (wkC m),.agg (stC (first++[m.zd[first.length].lo+(i:Int)]) 0 (QH id (first++[m.zd[first.length].lo+(i:Int)]))),.int .i64 (first.length+1:Nat)] []
    (((λi:Nat=>QO m (first++[m.zd[first.length].lo+(i:Nat)]) (m.zd.drop (first.length+1))) i).map (Qap m)) (λb=>.bool b):=λi hi=>by
   have:=ihn (first++[m.zd[first.length].lo+(i:Int)]) (by simp;omega) (λk h h'=>by
    rcases QPi k first.length with hk|hk
    .grind
    have:k=first.length:=by simp at h';omega
    subst this;simp only[List.getElem_append_right (QN3 _),Nat.sub_self,QPw,inR];omega)
   grind
  generalize(λi:Nat=>QO m (first++[m.zd[first.length].lo+(i:Nat)]) (m.zd.drop (first.length+1)))=pc at *
  intro s b s' hf;apply QW Qsy (by simp) hf.v rfl;rw[QbS] at hf;have hlt':(first.length:Int)<m.zd.length:=by omega
  simp[y9]
  (repeat' first|omega|apply And.intro|intro)
  refine YU (m.zd[first.length].hi+1-m.zd[first.length].lo).toNat (λi e o=>∃si,e=[(0,AV.iv (.ptr (wkC m))),(2,AV.iv (.int .i64 (first.length:Nat))),(3,AV.cb 0),(5,AV.loc 5 0),(9,AV.iv (.int .i64 (m.zd[first.length].lo+(i:Nat))))] /\
   o=[(0,.ext si),(5,.box [.iv (.int .i64 (first.getD 0 0)),.iv (.int .i64 (first.getD 1 0)),.iv (.int .i64 (first.getD 2 0)),.iv (.int .i64 0),.iv (.int .i64 (QH id first))])] /\
   Z2 prog K ((X6 pc i ((m.zd[first.length].hi+1-m.zd[first.length].lo).toNat-i)).map (Qap m)) si b s') ?_ ?_ _ _ ⟨s,by simp,by simp,by simpa using hf⟩
  .rintro e o ⟨si,rfl,rfl,hfd⟩;have q1:m.zd[first.length].lo+((m.zd[first.length].hi+1-m.zd[first.length].lo).toNat:Int)=m.zd[first.length].hi+1:=by omega
   have q2:¬m.zd[first.length].hi+1<=m.zd[first.length].hi:=by omega
   rw[Nat.sub_self] at hfd;cases hfd;rw[q1,Qa Qkx.eq_1];simp[y9,q2]
  .rintro i e o hi ⟨si,rfl,rfl,hfd⟩ ih;have q1:m.zd[first.length].lo+(i:Int)<=m.zd[first.length].hi:=by omega
   have q3:m.zd[first.length].lo+((i:Int)+1)=m.zd[first.length].lo+i+1:=by omega
   have e1:(m.zd[first.length].hi+1-m.zd[first.length].lo).toNat-i=((m.zd[first.length].hi+1-m.zd[first.length].lo).toNat-(i+1))+1:=by omega
   rw[e1] at hfd;simp only[X6,QOd] at hfd;have hg:=ih2 i q1;have hb:=hpb (m.zd[first.length].lo+(i:Int)) (by simp only[inR];omega);have hpr:QH id (first++[m.zd[first.length].lo+(i:Int)])=QH id first*(m.zd[first.length].lo+(i:Int)):=Qcq _ _ _
   rw[hpr] at hg hb;rw[Qa Qkx.eq_1];have hcase:(∃s1 b1,Z2 prog K ((pc i).map (Qap m)) si b1 s1/\(b1=true->Z2 prog K ((X6 pc (i+1) ((m.zd[first.length].hi+1-m.zd[first.length].lo).toNat-(i+1))).map (Qap m)) s1 b s')/\(b1=false->b=false/\s1=s')):=by
    rcases Z2.append hfd with ⟨s1,h1,h2⟩|⟨h1,h2⟩
    all_goals grind
   obtain⟨s1,b1,f1,f2,f3⟩:=hcase;have hgx:=hg _ _ _ f1;have hfl:first=[]\/(∃a,first=[a])\/∃a c,first=[a,c]:=by
    match first,y9,hl3 with
    |[],_,_=>exact .inl rfl
    |[a],_,_=>grind
    |[a,c],_,_=>grind
    |_::_::_::_,h,h'=>simp at h;omega
   rcases hfl with rfl|⟨a,rfl⟩|⟨a,c,rfl⟩
   all_goals
    try simp only[QOE,QOi,QOn,Nat.reduceAdd] at y9
    try simp only[QOE,QOi,QOn,Nat.reduceAdd] at q1
    try simp only[QOE,QOi,QOn,Nat.reduceAdd] at q3
    try simp only[QOE,QOi,QOn,Nat.reduceAdd] at hb
    try simp only[QOE,QOi,QOn,Nat.reduceAdd] at hgx
    try simp only[QOE,QOi,QOn,Nat.reduceAdd] at ih
    try simp only[QOE,QOi,QOn,Nat.reduceAdd] at f2
    try simp only[QOE,QOi,QOn,Nat.reduceAdd] at hlt'
    try simp only[QOE,QOi,QOn,Nat.reduceAdd] at hlv
    try simp only[QOE,QOi,QOn,Nat.reduceAdd]
    simp[q1,y9]
    (repeat' first|omega|apply And.intro|intro)
    apply ZQ (by simpa using hgx) rfl;cases b1
    .obtain⟨rfl,rfl⟩:=f3 rfl;simp
    .simp
     (repeat' first|omega|apply And.intro|intro)
     exact ih _ _ ⟨s1,by simp[q3],by simp,f2 rfl⟩
omit hK
section
variable{K:World->Prop}
def stI(s:Qn):List IV:=[.agg (stC s.zy s.zx (den s))]
theorem Qce{m:Machine}{ks:Env}(hks:ZN [2,3] [0,3] ks=[(2,.iv (.ptr [.ptr (wkC m)])),(3,.loc 3 0)]):∀(Ls:List Qn)(s:Ext)(b:Bool)(s':Ext),Z2 prog K ((Ls.filter λt=>decide ((ZS m m.zk t:Int)<=m.zh)).map stI) s b s' ->
   ∃wy,(wy=.fall\/wy=.ret)/\Wh prog K [8,9] qJ Qdn [2,3] [0,3] (ZN [2,3] [0,3] ks) (Ls.map (Qap m)) [(0,.ext s),(3,.box [.cb 0])] wy [(0,.ext s'),(3,.box [.cb 0])]
 |[],s,b,s',h=>by cases h;exact⟨.fall,.inl rfl,.nil _⟩
 |t::Ls,s,b,s',h=>by
  by_cases ht:(ZS m m.zk t:Int)<=m.zh
  .rw[QPp (by simpa using ht)] at h;cases h with
   |stop _ _ _ _ hg=>refine⟨.ret,.inr rfl,.stop _ _ _ _ _ (by simp) ?_⟩;rw[hks];refine⟨rfl,?_⟩;simp[Qap,qJ,Qdn,ht];apply Zd (by simpa[stI] using hg) rfl;simp
   |next _ _ _ s1 _ _ hg hr=>have⟨wy,h1,h2⟩:=Qce hks Ls s1 b s' hr;refine⟨wy,h1,.next _ _ _ _ _ _ ?_ h2⟩;rw[hks];refine⟨rfl,?_⟩;simp[Qap,qJ,Qdn,ht];apply Zd (by simpa[stI] using hg) rfl;simp
  .rw[QPq (by simpa using ht)] at h;have⟨wy,h1,h2⟩:=Qce hks Ls s b s' h;refine⟨wy,h1,.next _ _ _ _ _ _ ?_ h2⟩;rw[hks];refine⟨rfl,?_⟩;simp[Qap,qJ,Qdn,ht]
def QgM(m:Machine):QS m [] m.zd=(QO m [] m.zd).filter λt=>decide ((ZS m m.zk t:Int)<=m.zh):=by unfold QS;refine QPC λs hs=>?_;have:=Qd7 hs;simp[Yi,this]
end
include hK
def Qyh(m:Machine)(hm:OkM m):Qbs prog K 294 [.ptr (wkC m)] [] ((QO m [] m.zd).map (Qap m)):=by intro s b s' hf;have h:=Qqc hK m hm m.zd.length [] (by simp) (λi h h'=>by simp at h');simp only[QOE,List.drop_zero] at h;have hgx:=h _ _ _ hf;apply QW QCa (by simp) hf.v rfl;simp;apply ZQ (by simpa[QH] using hgx) rfl;simp
def QcM(m:Machine)(hm:OkM m):Qbs prog K 209 [.ptr (wkC m)] [] ((QS m [] m.zd).map stI):=by intro s b s' hfd;apply QW QDj (by simp) hfd.v rfl;rw[QgM] at hfd;have⟨wy,h1,h2⟩:=Qce (m:=m) (ks:=[(2,.iv (.ptr [.ptr (wkC m)])),(3,.loc 3 0)]) rfl (QO m [] m.zd) s b s' hfd;simp;apply Zf (wy:=wy) (o':=[(0,.ext s'),(3,.box [.cb 0])]) rfl (by kernel_rfl) (Qyh hK m hm) (by simpa using h2);rcases h1 with rfl|rfl<;>simp
def QjX(m:Machine)(is:Bool)(hl:m.zd.length<=1000)(hb:m.zk.length<=1000):Gd K 207 [maV m,.bool is] (.xf [if tE m is=0 then .ptr (wkC m) else .nilp,.int .i64 (tE m is)]):=by
 apply Qb hK QDl (by simp);simp;apply cK (QqU hK m hl hb);by_cases h1:OkM m
 .cases is
  .simp[h1,tE]
  simp[h1];apply cK (Qzd hK m h1);simp;cases hL:QS m [] m.zd with
  |nil=>apply Zf (wy:=.fall) (o':=[(4,.box [.iv .nilp]),(5,.box [.iv (.int .i64 0)]),(7,.box [.iv (.ptr (wkC m))])]) rfl (by kernel_rfl) (QcM hK m h1) (by rw[hL];simpa using Wh.nil _);simp[tE,h1,hL]
  |cons a r=>
   refine Zf (wy:=.ret) (o':=[(4,.box [.iv (.ptr (wkC m))]),(5,.box [.iv (.int .i64 0)]),(7,.box [.iv (.ptr (wkC m))])]) rfl (by kernel_rfl) (QcM hK m h1) (by rw[hL];refine .stop _ _ _ _ _ (by simp) ?_;refine⟨rfl,?_⟩;simp[stI,Qnr,QsQ]) ?_
   simp[tE,h1,hL]
 .simp[h1,tE]
def QyQ(m:Machine)(hl:m.zd.length<=1000)(hb:m.zk.length<=1000)(hs:OkM m->sets m m.zd.length<=1000000):Gd K 350 [maV m] (.xf [.int .i64 (tL m true).length,.int .i64 (tE m true)]):=by
 apply Qb hK QBF (by simp);simp;apply cK (QjX hK m true hl hb);by_cases he:tE m true=0
 .obtain⟨hm,_,htl,hne⟩:=Qtw he;have hln:=Vo hm;have hln2:=hs hm;simp[he,htl];refine Zf (wy:=.fall) (o':=[(2,.box [.iv (.int .i64 ((QS m [] m.zd).length:Nat))])]) rfl (by kernel_rfl) (QcM hK m hm) ?_ ?_
  .have:=Wh.all (P:=prog) (K:=K) (ps:=[15]) (asn:=Qga) (body:=Qkr) (ks:=[2]) (ids:=[2]) (eK:=[(2,.loc 2 0)]) ((QS m [] m.zd).map stI) (λi=>[(2,.box [.iv (.int .i64 (i:Int))])]) λi x hi=>by
    simp only[QN6,QN2] at hi;obtain⟨y,hy,rfl⟩:=hi;have y9:=(QNY.1 hy).1;refine⟨rfl,?_⟩;simp[stI,Qga,Qkr];omega
   simpa using this
  simp
 .have:tL m true=[]:=by
   unfold tE at he;unfold tL;grind
  simp[he,this]
omit hK
@[simp] theorem QHw:span []=(0,0):=rfl
def QEY{m:Machine}{is:Bool}(h:¬tE m is=0):tL m is=[]:=by unfold tE at h;unfold tL;grind
def Qjh(m:Machine)(mn load:Int)(s:Qn):Int:=(load*den s+VQ m-1).tdiv (VQ m)-Jw m s.zx 0 mn
def UY(m:Machine)(mn load:Int)(l:List Qn):Int:=l.foldl (λb s=>max b (Qjh m mn load s)) 0
def QtR(m:Machine)(mn load:Int)(l:List Qn)(w:Int)(hw:0<=w):UY m mn load l<=w↔∀s∈l,Qjh m mn load s<=w:=by
 have:∀(l:List Qn)(b:Int),(l.foldl (λb s=>max b (Qjh m mn load s)) b<=w↔b<=w/\∀s∈l,Qjh m mn load s<=w):=by
  intro l;induction l with
  |_=>grind
 have h:=this l 0;simpa[UY,hw] using h
def Qa5(m:Machine)(mn load:Int)(l:List Qn):0<=UY m mn load l:=by
 have:∀(l:List Qn)(b:Int),b<=l.foldl (λb s=>max b (Qjh m mn load s)) b:=by
  intro l;induction l with
  |_=>grind
 exact this l 0
def QmO{m:Machine}(hm:OkM m){s:Qn}(hs:okS m s){mn load w:Int}(hmn:inR mn 0 99)(hld:inR load 0 999999999):Qjh m mn load s<=w↔load*den s<=num m s w mn:=by
 have ha:=hm.aboveB;have hd:=hm.denB hs;simp only[inR] at hld;have hn:=QOQ hld.1 (QPE (by omega) hd.1);have e1:num m s w mn=(w+Jw m s.zx 0 mn)*VQ m:=by unfold num Jw;congr 1;omega
 unfold Qjh;rw[e1,QOB (by omega)];generalize Jw m s.zx 0 mn=r;generalize load*den s=N at *;generalize VQ m=A at *;have e2:=Int.emod_def (N+A-1) A;have e3:=Int.emod_nonneg (N+A-1) (b:=A) (by omega);have e4:=Int.emod_lt_of_pos (N+A-1) (b:=A) (by omega);generalize(N+A-1) / A=Q at *;constructor
 .intro h;have h1:Q*A<=(w+r)*A:=QOj (by omega) (by omega);grind
 .intro h;apply Int.not_lt.1;intro y9;have h1:(w+r+1)*A<=Q*A:=QOj (by omega) (by omega);grind
def Qi8{m:Machine}(hm:OkM m){l:List Qn}(hs:∀s∈l,okS m s){mn load:Int}(hmn:inR mn 0 99)(hld:inR load 0 999999999):qg m l mn load=min (UY m mn load l) 10000:=by
 have h0:=Qa5 m mn load l;have xd:∀w,0<=w->(ZK m l w mn load↔UY m mn load l<=w):=λw hw=>by rw[QtR m mn load l w hw];exact⟨λh s hsl=>(QmO hm (hs s hsl) hmn hld).2 (h s hsl),λh s hsl=>(QmO hm (hs s hsl) hmn hld).1 (h s hsl)⟩
 refine Qhs (by omega) (λh=>(xd _ (by omega)).2 (by omega)) (λw h1 h2=>λc=>?_);grind
include hK
def Qq5(m:Machine)(w mn:Int)(hl:m.zd.length<=1000)(hb:m.zk.length<=1000):Gd K 111 [maV m,.int .i64 w,.int .i64 mn] (.xf [.agg [.int .i64 (XY m w mn).1,.int .i64 (XY m w mn).2],.int .i64 (tE m (Vh w mn 0))]):=by
 apply Qb hK QEm (by simp);simp;apply cK (QjW hK w mn 0);have hask:decide (inR w 0 9999/\inR mn 0 99/\inR 0 0 999999999)=Vh w mn 0:=rfl;rw[hask];simp;apply cK (QjX hK m (Vh w mn 0) hl hb);unfold XY;by_cases he:tE m (Vh w mn 0)=0;rotate_left
 .have:=QEY he;simp[he,this]
 .obtain⟨hm,ha,htl,hne⟩:=Qtw he;have ha:=of_decide_eq_true ha;rw[htl];simp[he];refine Zf (wy:=.fall) (o':=[(6,.box [.iv (.int .i64 0),.iv (.int .i64 0)]),(8,.box [.iv (.ptr (wkC m))]),(10,.box [.iv (.int .i64 (span ((QS m [] m.zd).map (qc m w mn))).1),.iv (.int .i64 (span ((QS m [] m.zd).map (upS m w mn))).2)]),(11,.box [.iv (.bool (decide ((QS m [] m.zd).length=0)))])]) rfl (by kernel_rfl) (QcM hK m hm) ?_ ?_
  .have hok:∀s∈QS m [] m.zd,okS m s:=λs h=>(Vn h).1;generalize QS m [] m.zd=l at *
   have:=Wh.all (P:=prog) (K:=K) (ps:=[30]) (asn:=QbQ) (body:=Qgk) (ks:=[4,5,6,8,10,11]) (ids:=[6,8,10,11]) (eK:=[(4,.iv (.ptr [.int .i64 w])),(5,.iv (.ptr [.int .i64 mn])),(6,.loc 6 0),(8,.loc 8 0),(10,.loc 10 0),(11,.loc 11 0)]) (l.map stI)
    (λi=>[(6,.box [.iv (.int .i64 0),.iv (.int .i64 0)]),(8,.box [.iv (.ptr (wkC m))]),(10,.box [.iv (.int .i64 (span ((l.take i).map (qc m w mn))).1),.iv (.int .i64 (span ((l.take i).map (upS m w mn))).2)]),(11,.box [.iv (.bool (decide (i=0)))])]) λi x hi=>by
    simp only[QN6,QN2] at hi;obtain⟨y,hy,rfl⟩:=hi;obtain⟨y9,rfl⟩:=QNY.1 hy;have hsi:=hok _ (QN0 y9);have hn:=hm.numB hsi ha.1 ha.2.1;have hd:=hm.denB hsi;have td1:=JO hn.1 hd.1;have td2:=JO (a:=num m l[i] w mn+den l[i]-1) (b:=den l[i]) (by omega) (by omega);have hd0:¬den l[i]=0:=by omega
    have hlow:qc m w mn l[i]=(num m l[i] w mn).tdiv (den l[i]):=rfl;have hup:upS m w mn l[i]=(num m l[i] w mn+den l[i]-1).tdiv (den l[i]):=rfl;have hnum:Jw m l[i].zx w mn*VQ m=num m l[i] w mn:=rfl;rw[QNW y9,QOd,QO3,J2,QOd,QO3,J2];refine⟨rfl,?_⟩;have hg:=QjV hK m l[i] w mn hm hsi.2.1 ha.1 ha.2.1;by_cases h0:i=0
    .subst h0;simp[stI,QbQ,Qgk];apply cK (by simpa using hg);simp[hnum,hd0,hlow,hup];omega
    have hne1:¬(l.take i).map (qc m w mn)=[]:=by
     intro c;have hli:((l.take i).map (qc m w mn)).length=i:=by simp;omega
     grind
    have hne2:¬(l.take i).map (upS m w mn)=[]:=by
     intro c;have hli:((l.take i).map (upS m w mn)).length=i:=by simp;omega
     grind
    rw[if_neg hne1,if_neg hne2];generalize span ((l.take i).map (qc m w mn))=A at *;generalize span ((l.take i).map (upS m w mn))=B at *;simp[stI,QbQ,Qgk,h0];apply cK (by simpa using hg);simp[hnum,hd0,hlow,hup,VY,U5];omega
   simpa using this
  .simp
def QzJ(m:Machine)(mn load:Int)(hl:m.zd.length<=1000)(hb:m.zk.length<=1000):Gd K 229 [maV m,.int .i64 mn,.int .i64 load] (.xf [.int .i64 (Xq m mn load).1,.int .i64 (Xq m mn load).2]):=by
 apply Qb hK QC0 (by simp);simp;apply cK (QjW hK 0 mn load);have hask:decide (inR 0 0 9999/\inR mn 0 99/\inR load 0 999999999)=Vh 0 mn load:=rfl;rw[hask];simp;apply cK (QjX hK m (Vh 0 mn load) hl hb);unfold Xq;by_cases he:tE m (Vh 0 mn load)=0;rotate_left
 .simp[he]
 .obtain⟨hm,ha,htl,hne⟩:=Qtw he;have ha:=of_decide_eq_true ha;have hok:∀s∈QS m [] m.zd,okS m s:=λs h=>(Vn h).1;have hml:=Qi8 hm hok ha.2.1 ha.2.2;have hmn:=Qa5 m mn load (QS m [] m.zd);rw[htl,hml];simp[he];refine Zf (wy:=.fall) (o':=[(8,.box [.iv (.ptr (wkC m))]),(10,.box [.iv (.int .i64 (UY m mn load (QS m [] m.zd)))])]) rfl (by kernel_rfl) (QcM hK m hm) ?_ ?_
  .clear hml hmn hne htl;generalize QS m [] m.zd=l at *
   have:=Wh.all (P:=prog) (K:=K) (ps:=[26]) (asn:=Qge) (body:=Qlr) (ks:=[4,5,8,10]) (ids:=[8,10]) (eK:=[(4,.iv (.ptr [.int .i64 mn])),(5,.iv (.ptr [.int .i64 load])),(8,.loc 8 0),(10,.loc 10 0)]) (l.map stI)
    (λi=>[(8,.box [.iv (.ptr (wkC m))]),(10,.box [.iv (.int .i64 (UY m mn load (l.take i)))])]) λi x hi=>by
    simp only[QN6,QN2] at hi;obtain⟨y,hy,rfl⟩:=hi;obtain⟨y9,rfl⟩:=QNY.1 hy;have hsi:=hok _ (QN0 y9);have hd:=hm.denB hsi;have hab:=hm.aboveB;have hld:=ha.2.2;simp only[inR] at hld;have h4:=QOY hld.2 hd.2 (by omega) (by omega);have h5:=QOQ hld.1 (QPE (by omega) hd.1);have td:=JO (a:=load*den l[i]+VQ m-1) (b:=VQ m) (by omega) (by omega);have ha0:¬VQ m=0:=by omega
    have hp:=(hm.zq (w:=0) hsi.2.1 (by simp[inR]) ha.2.1).2;have hst:UY m mn load (l.take (i+1))=max (UY m mn load (l.take i)) ((load*den l[i]+VQ m-1).tdiv (VQ m)-Jw m l[i].zx 0 mn):=by unfold UY;rw[QNW y9,QOZ];rfl
    rw[hst];refine⟨rfl,?_⟩;have hg:=QjV hK m l[i] 0 mn hm hsi.2.1 (by simp[inR]) ha.2.1;generalize UY m mn load (l.take i)=A at *;simp[stI,Qge,Qlr,ha0]
    (repeat' first|omega|apply And.intro|intro)
    apply cK (by simpa using hg);simp[U5];omega
   simpa[UY] using this
  .by_cases h9:9999<UY m mn load (QS m [] m.zd)
   .have:9999<min (UY m mn load (QS m [] m.zd)) 10000:=by omega
    simp[h9,this]
   .have:min (UY m mn load (QS m [] m.zd)) 10000=UY m mn load (QS m [] m.zd):=by omega
    simp[h9,this]
omit hK
def X8(ds:List QB):List QB:=ds.filter Q8
@[simp] def lkC(d:QB):List IV:=[.int .i64 d.bar,.int .i64 d.z1]
@[simp] def VW(ds:List QB)(e:Nat->Int)(pm:IV):List IV:=[QA9 (Qke ds e ds.length),.sl 2 ((X8 ds).map lkC),pm]
theorem QcP(p:QB->Bool):∀(l:List QB)(i k:Nat),(l.filter p)[k]?=((Xv p l i)[k]?).bind λj=>l[j-i]?
 |[],i,k=>by simp[Xv]
 |d::l,i,k=>by
  have ih:=QcP p l (i+1);have hge:∀j∈Xv p l (i+1),i+1<=j:=λj hj=>(Qar p l (i+1) j hj).1;have sh:∀k:Nat,((Xv p l (i+1))[k]?).bind (λj=>l[j-(i+1)]?)=((Xv p l (i+1))[k]?).bind (λj=>(d::l)[j-i]?):=λk=>by
   cases hk:(Xv p l (i+1))[k]? with
   |none=>rfl
   |some j=>have:=hge j (QOh hk);grind
  by_cases hp:p d=true
  .simp only[QPp hp,Xv,hp,if_true];grind
  simp only[QPq hp,Xv,hp];grind
def Y5(ds:List QB):(X8 ds).length=(JN ds).length:=by
 have:∀(l:List QB)(i:Nat),(l.filter Q8).length=(Xv Q8 l i).length:=by
  intro l;induction l with
  |nil=>intro i;rfl
  |cons d l ih=>
   intro i;by_cases hp:Q8 d=true
   .simp only[QPp hp,Xv,hp,if_true,QOi,ih (i+1)]
   simp only[QPq hp,Xv,hp,ih (i+1)];simp
 exact this ds 0
def Qof(ds:List QB)(k:Nat)(h:k<(X8 ds).length):(X8 ds)[k]=QdB ds k:=by
 have h':k<(JN ds).length:=by rw[<- Y5];exact h
 have h1:=QcP Q8 ds 0 k;have h2:(JN ds)[k]<ds.length:=Qmc (QN0 h');have e:(Xv Q8 ds 0)[k]?=some (JN ds)[k]:=QNX h';rw[e] at h1;simp only[Option.bind_some,Nat.sub_zero,QNX h2] at h1;have h3:(X8 ds)[k]?=some ds[(JN ds)[k]]:=h1;rw[QNX h] at h3;injection h3 with h3;rw[h3];simp[QdB,List.getD_eq_getElem?_getD,h',h2]
include hK
def QyT(ds:List QB)(e:Nat->Int)(pm:IV)(s:XC)(hc:OkD ds ds.length)(hl:ds.length<=1000)(hs:Z0 s ds):Gd K 344 [.agg (VW ds e pm),.agg (sC s)] (.bool (U3 ds e s)):=by
 apply Qb hK QBK (by simp);have⟨s1,s2,s3,s4,s5⟩:=hs;simp only[inR] at s1 s2 s3;have y9:s.after.toNat<ds.length+1:=by omega
 have hcl:=ZW e hc s.after.toNat (by omega) (by omega);have hcg:=VO ds e ds.length s.after.toNat (by omega);have hcb:=hc.cnt s.after.toNat (by omega) (by omega);have hclt:=Wf ds e s.after.toNat;have hww:=QeZ ds s.after.toNat;have hp:(if s.z2=1 then((cab ds e s.after.toNat).length:Int)-1-s.pos else s.pos)=(plc s.pos s.z2 (cab ds e s.after.toNat).length:Nat):=by unfold plc;split<;>omega
 have hpl:plc s.pos s.z2 (cab ds e s.after.toNat).length<(cab ds e s.after.toNat).length:=Qhc (by omega);simp[y9,hcg]
 (repeat' first|omega|apply And.intro|intro)
 apply cK (QjB hK s.pos s.z2 (cab ds e s.after.toNat).length (by omega) (by omega));rw[hp];have hr:U3 ds e s=Qeb ds s (cab ds e s.after.toNat):=rfl;rw[hr];unfold Qeb;generalize plc s.pos s.z2 (cab ds e s.after.toNat).length=at_ at *;generalize cab ds e s.after.toNat=now at *
 have h1:now[at_]<(X8 ds).length:=by have:=hclt now[at_] (QN0 hpl);rw[Y5];omega
 have hm:QdB ds (now.getD at_ 0)=(X8 ds)[now[at_]]:=by
  rw[Qof ds _ h1]
  grind
 rw[hm];simp[hpl,h1];grind
def QqF(ds:List QB)(e:Nat->Int)(pm:IV)(ss:List XC)(hc:OkD ds ds.length)(hl:ds.length<=1000)(hs:∀s∈ss,Z0 s ds)(hsl:ss.length<=1000):Gd K 292 [.agg (VW ds e pm),Qj ss] (.int .i64 (QM ds ss e)):=by
 apply Qb hK QCc (by simp);simp;intro _;refine Qe (λi=>[(2,AV.iv (.ptr (VW ds e pm))),(5,AV.iv (.int .i64 (QM ds (ss.take i) e:Nat))),(8,AV.iv (Qj ss)),(9,AV.iv (.int .i64 ss.length)),(10,AV.iv (.int .i64 (i:Nat)))]) (λ_=>[]) ss.length (λi=>True) trivial ?_ ?_
 .intro _;rw[Qa Qk0.eq_1];simp
 .intro i hi _ ih;have hle:=qR ds (ss.take i) e;simp at hle;rw[Qa Qk0.eq_1];rw[QaI _ _ _ _ hi] at ih;simp[hi] at ih |-;have hg:=QyT hK ds e pm ss[i] hc hl (hs _ (QN0 hi));apply cK (by simpa using hg);cases hr:U3 ds e ss[i]
  .simp[hr] at ih |-
   grind
  .simp[hr] at ih |-
   grind
def QqR(ds:List QB)(e:Nat->Int)(pm:IV)(hl:ds.length<=1000):Gd K 201 [.agg (VW ds e pm)] (ZM (cab ds e ds.length)):=by apply Qb hK QDr (by simp);have hcg:=VO ds e ds.length ds.length (by omega);simp[hcg];omega
def Qzf(left all n:Int)(h: -1000000<=left/\left<=1000000):Gd K 289 [.int .i64 left,.int .i64 all,.ptr [.int .i64 n]] (.bool (decide (inR n 0 (left-1)))):=by
 apply Qb hK QCf (by simp);simp
 (repeat' first|omega|apply And.intro|intro)
 exact cK (YN hK _ _ _) (by simp)
def QzX(n:Int):Gd K 199 [.int .i64 n] (.clo 289 [] [.ptr [.int .i64 n]]):=by apply Qb hK QDt (by simp);simp
def QyG(a b:Int):Gd K 383 [.int .i64 a,.int .i64 b] (.bool true):=by apply Qb hK QBs (by simp);simp
def QzW(ds:List QB)(e:Nat->Int)(pm:IV)(hl:ds.length<=1000)(n:Nat)(hn:n<(cab ds e ds.length).length):Gd K 200 [.agg (VW ds e pm),.ptr [.int .i64 n]] (.int .i64 ((cab ds e ds.length)[n]:Nat)):=by apply Qb hK QDs (by simp);simp;have hg:=QqR hK ds e pm hl;apply cK (by simpa using hg);simp[hn]
omit hK
def Xa(d:QB):Bool:=decide (d.z2=2)
def Qdo:List Nat->Nat->List (MK×IV)
 |[],_=>[]
 |j::t,r=>(.int .i64 (j:Nat),.int .i64 (r:Nat))::Qdo t (r+1)
theorem Qnw(j:Nat):∀(l:List Nat)(r:Nat),Qdo (l++[j]) r=Qdo l r++[(.int .i64 (j:Nat),.int .i64 ((r+l.length:Nat):Int))]
 |[],r=>by simp[Qdo]
 |a::l,r=>by
  have e:r+1+l.length=r+(l.length+1):=by omega
  simp only[QOa,Qdo,Qnw j l (r+1),QOi,e]
@[simp] theorem Qnv:∀(l:List Nat)(r:Nat),(Qdo l r).length=l.length
 |[],_=>rfl
 |_::l,r=>by simp[Qdo,Qnv l (r+1)]
theorem QeP(j:Nat):∀(l:List Nat)(r:Nat),j∉l->∀y:IV,zn (.int .i64 (j:Nat)) y (Qdo l r)=Qdo l r++[(.int .i64 (j:Nat),y)]
 |[],_,_,y=>rfl
 |a::l,r,h,y=>by
  have h1:¬a=j:=λc=>h (by simp[c]);have h2:=QeP j l (r+1) (λc=>h (by simp[c])) y;have h3:¬(MK.int .i64 (a:Nat)=MK.int .i64 (j:Nat)):=by simp;omega
  simp only[Qdo,zn,h3,if_false,h2,QOa]
theorem Qik(j:Nat):∀(l:List Nat)(r:Nat),j∈l->Qv (.int .i64 (j:Nat)) (Qdo l r)=some (.int .i64 ((r+l.idxOf j:Nat):Int))
 |a::l,r,h=>by
  by_cases h1:a=j
  .subst h1;simp[Qdo,Qv]
  have h2:j∈l:=by grind
  have h3:¬(MK.int .i64 (a:Nat)=MK.int .i64 (j:Nat)):=by simp;omega
  have e:r+1+l.idxOf j=r+(l.idxOf j+1):=by omega
  have hi:(a::l).idxOf j=l.idxOf j+1:=by grind
  simp only[Qdo,Qv,h3,if_false,Qik j l (r+1) h2,hi,e]
theorem QaD:∀(l:List Nat)(r:Nat),ZC (some .i64) (Qdo l r)
 |[],_=>trivial
 |_::l,r=>⟨rfl,QaD l (r+1)⟩
def VJ(ds:List QB):List Nat:=Xv Xa ds 0
def Qaz(ds:List QB):(VJ ds).length=ZF ds:=by
 have:∀(l:List QB)(i:Nat),(Xv Xa l i).length=ZF l:=by
  intro l;induction l with
  |nil=>intro i;rfl
  |cons d l ih=>
   intro i;by_cases h:d.z2=2
   .simp[Xv,Xa,h,ih,ZF,QPn]
   simp[Xv,Xa,h,ih,ZF,QPn]
 exact this ds 0
@[simp] def Uy(c:Ql):List IV:=[Qr c.za,Qj c.zg,.int .i64 c.zh,.map (Qdo (VJ c.za) 0)]
include hK
def QjY(c:Ql)(hl:c.za.length<=1000):Gd K 205 [chV c] (.agg (Uy c)):=by
 apply Qb hK QDn (by simp);simp;intro _
 refine Qe (λi=>[(2,AV.loc 2 0),(3,AV.loc 3 0),(10,AV.iv (Qr c.za)),(11,AV.iv (.int .i64 c.za.length)),(12,AV.iv (.int .i64 (i:Nat)))])
  (λi=>[(2,.box [.iv (.sl 5 []),.iv (.sl 5 []),.iv (.int .i64 0),.iv (.map [])]),(3,.box [.iv (Qr c.za),.iv (Qj c.zg),.iv (.int .i64 c.zh),.yk 7]),(7,.xh (Qdo (Xv Xa (c.za.take i) 0) 0))]) c.za.length (λi=>True) trivial ?_ ?_
 .intro _;rw[Qa Qlz.eq_1];simp[VJ]
 .intro i hi _ ih;rw[qo _ _ _ hi] at ih;rw[Qa Qlz.eq_1];have hnm:i∉Xv Xa (c.za.take i) 0:=λh=>by
   have:=Qar Xa (c.za.take i) 0 i h;grind
  have hfr:=QeP i (Xv Xa (c.za.take i) 0) 0 hnm;by_cases hw:c.za[i].z2=2
  .rw[if_pos (by simp[Xa,hw]),Qnw] at ih;simp[hi,hw] at ih |-;rw[hfr];have hkd:=QaD (Xv Xa (c.za.take i) 0) 0;grind
  .simp[hi,Xa,hw] at ih |-
   grind
end Go.Pf
namespace Go.Ev
open Go Go.RowKit
section
variable{P:Program}{K:World->Prop}
def WJ{f:FuncId}{e:TypeId}{sz bytes:Nat}
  (hcl:∀(b off n c:Nat)(news:List Value)(w:World),news.length=n*sz->n<=maxLen->n*bytes<=140737488355328->(∀(j:Nat)(u:Value),news[j]?=some u->w.cell? ⟨b,off+j,none⟩=some u)->(∀u∈news,u.oneCell'=true) ->Calls P f #[.slice (some ⟨b,off,none⟩) n c] w λx w'=>∃v',x=.returned v'/\w'.ownsRow w.heap.size e sz v' n news/\v'≠.slice none 0 0/\Below w.heap.size w w')
  (rows:List (List IV))(hb:rows.length*bytes<=140737488355328)(hsz:∀c∈rows,c.length=sz)(hne:rows≠[]):QdU P K f [.sl sz rows] (.yl 0 rows.length) e sz rows 0:=by
 intro w ok vs hk hnew hl hvs;obtain⟨v0,rfl⟩:∃v0,vs=[v0]:=by
  match vs,hl with
  |[v],_=>exact⟨v,rfl⟩
 have hrep:=hvs 0 _ v0 rfl rfl
 have fin:∀(v':Value)(w':World)(news:List Value),w'.ownsRow w.heap.size e sz v' rows.length news->Below w.heap.size w w'->(∀u∈news,u.oneCell'=true) ->(∀(i j:Nat)c x u,rows[i]?=some c->c[j]?=some x->news[i*sz+j]?=some u->QZ ok w x u) ->∃v l,Ending.returned v'=.returned v/\QK (λb=>b<w.heap.size) (okL ok (one (ZG e sz rows 0)) (λ_=>l)) w' (one (ZG e sz rows 0)) (λ_=>l) (ZG e sz rows 0) l /\
    QG (okL ok (one (ZG e sz rows 0)) (λ_=>l)) w' (one (ZG e sz rows 0)) (λ_=>l) (ren 0 (.yl 0 rows.length)) v/\Below w.heap.size w w':=by
  intro v' w' news hown hbel hone hcx;have hsl:=Yz hown;have hge:∀b,v'.ownBlock=some b->w.heap.size<=b:=λb h=>(hown.lt b h).1;have hown0:w'.ownsRow 0 e sz v' rows.length news:=by have⟨h1,h2⟩:=hown;refine⟨h1,?_⟩;grind
  refine⟨v',.arr v' news,rfl,⟨⟨by grind,λb h1 h2=>by grind⟩,QPk _,λc hc=>?_,hone,λi j c x u hi hj hu=>?_⟩,?_,hbel⟩
  .grind
  .rw[QN6,QN2] at hi;obtain⟨d,hd,rfl⟩:=hi;rw[QN6,QN2] at hj;obtain⟨y,hy,rfl⟩:=hj;refine .iv _ _ ((hcx i j d y u hd hy hu).mono λb hb y9=>⟨⟨hb,λid o _ hh=>?_⟩,hbel.block b y9⟩);grind
  have:=QG.yl (ok:=okL ok (one (ZG e sz rows 0)) (λ_=>.arr v' news)) (w:=w') (lo:=one (ZG e sz rows 0)) (L:=λ_=>.arr v' news) 0 e sz (rows.map (List.map AV.iv)) 0 v' news (by simp[one,ZG]) rfl hsl;rw[QN9] at this;exact this
 cases hrep with
 |sl _ _ b off cap u hlc hc hs hu hx=>
  refine(hcl b off rows.length cap ((List.range (rows.length*sz)).map u) w (by simp) (by omega) hb (λj v hj=>?_) (λv hv=>?_)).mono λx w' ⟨v',hx',hown,_,hbel⟩=>?_
  all_goals grind
 |_=>grind
end
end Go.Ev
namespace Go.Pf
open Go Go.Ev Go.Proofs Go.RowKit Go.Shelf Go.Proofs.Tryz
noncomputable def QJf:TypeInfo:=(prog.info? 136).get (by kernel_rfl)
noncomputable def QwN:TypeInfo:=(prog.info? 134).get (by kernel_rfl)
noncomputable def QFy:Value:=QwN.zero.get (by kernel_rfl)
section
variable{K:World->Prop}
theorem clone86(l:List QB)(hl:l.length<=1000)(hne:l≠[]):Gp K 86 [Qr l] (.yl 0 l.length) 136 5 (l.map dC) 0:=by have h:=WJ (P:=prog) (K:=K) (f:=86) (e:=136) (sz:=5) (bytes:=40) (AnyE.slices_Clone Tryz.clone86 QJf (.agg #[.int .i64 0,.int .i64 0,.int .i64 0,.int .i64 0,.int .i64 0]) 5 40 (by kernel_rfl) (by kernel_rfl) (by kernel_rfl) (by kernel_rfl) rfl (by decide) sizeOf136) (l.map dC) (by simp;omega) (by simp) (by simpa using hne);simpa using h
theorem clone88(l:List ZL)(hl:l.length<=1000)(hne:l≠[]):Gp K 88 [Qs l] (.yl 0 l.length) 134 3 (l.map leC) 0:=by have h:=WJ (P:=prog) (K:=K) (f:=88) (e:=134) (sz:=3) (bytes:=24) (AnyE.slices_Clone Tryz.clone88 QwN QFy 3 24 (by kernel_rfl) (by kernel_rfl) (by kernel_rfl) (by kernel_rfl) (by kernel_rfl) (by decide) sizeOf134) (l.map leC) (by simp;omega) (by simp) (by simpa using hne);simpa using h
end
end Go.Pf
namespace Go.Pf
open Go Go.Ev Go.Proofs Go.RowKit Go.Proofs.Tryz
variable{K:World->Prop}(hK:∀w w',K w->Below w.heap.size w w'->K w')
def Zx(ds:List QB)(n:Nat)(i:Nat):Int:=match ds[i]? with
 |some d=>if d.z2=2 then((n.testBit ((VJ ds).idxOf i)).toNat:Int) else d.z2
 |none=>0
def QbN(ds:List QB)(n i:Nat)(h:i<ds.length):Zx ds n i=if ds[i].z2=2 then((n.testBit ((VJ ds).idxOf i)).toNat:Int) else ds[i].z2:=by simp[Zx,h]
def Qia(ds:List QB)(i:Nat)(h:i<ds.length)(h2:ds[i].z2=2):i∈VJ ds:=by
 have:∀(l:List QB)(k i:Nat)(h:i<l.length),l[i].z2=2->k+i∈Xv Xa l k:=by
  intro l;induction l with
  |cons d l ih=>
   intro k i h h2;cases i with
   |zero=>have h3:d.z2=2:=h2;simp[Xv,Xa,h3]
   |succ i=>
    have:=ih (k+1) i (by simpa using h) (by simpa using h2);have e:k+1+i=k+(i+1):=by omega
    rw[e] at this;simp only[Xv];grind
  |_=>grind
 simpa[VJ] using this ds 0 i h h2
include hK
def QyU(c:Ql)(n i:Nat)(hn:n<2 ^ 63)(hi:i<c.za.length)(h2:c.za[i].z2=2):Gd K 343 [.int .i64 i,.ptr [.int .i64 n],.ptr (Uy c)] (.int .i64 (Zx c.za n i)):=by apply Qb hK QBL (by simp);have hf:=Qik i (VJ c.za) 0 (Qia c.za i hi h2);have hkk:=QaD (VJ c.za) 0;rw[QbN _ _ _ hi,if_pos h2];simp only[QOn] at hf;simp[hkk,hf];exact QEt n _ hn
omit hK
def XW(ds:List QB)(pm:Nat->IV)(n:Nat):List IV:=[.agg (VW ds (Zx ds n) (pm n))]
def QxO{n:Nat}(h:n<=12):QxP IntKind.i64 1 (n:Int)=((2 ^ n:Nat):Int):=by
 have:n=0\/n=1\/n=2\/n=3\/n=4\/n=5\/n=6\/n=7\/n=8\/n=9\/n=10\/n=11\/n=12:=by omega
 rcases this with rfl|rfl|rfl|rfl|rfl|rfl|rfl|rfl|rfl|rfl|rfl|rfl|rfl<;>decide
include hK
theorem Qqe(c:Ql)(pm:Nat->IV)(ht:ZF c.za<=12)(h201:∀n:Nat,n<2 ^ ZF c.za->Gd K 342 [Qr c.za,.clo 343 [] [.ptr [.int .i64 n],.ptr (Uy c)]] (.agg (VW c.za (Zx c.za n) (pm n)))):Qbs prog K 291 [.agg (Uy c)] [] ((List.range (2 ^ ZF c.za)).map (XW c.za pm)):=by
 intro s b s' hf;have hp:=UL ht;apply QW QCd (by simp) hf.v rfl;have hlen:(Qdo (VJ c.za) 0).length=ZF c.za:=by rw[Qnv,Qaz]
 simp[Qaz,QxO ht];have hN:0<2 ^ ZF c.za:=Nat.pos_of_ne_zero (by simp);have hcast:((2:Int) ^ ZF c.za)=((2 ^ ZF c.za:Nat):Int):=by push_cast;rfl
 rw[hcast];generalize 2 ^ ZF c.za=N at *
 refine YU N (λi e o=>∃si,e=[(1,AV.cb 0),(2,AV.iv (.ptr (Uy c))),(8,AV.iv (.int .i64 (N:Nat))),(9,AV.iv (.int .i64 (i:Nat)))]/\o=[(0,.ext si)] /\
  Z2 prog K (((List.range N).drop i).map (XW c.za pm)) si b s') ?_ ?_ _ _ ⟨s,rfl,rfl,by simpa using hf⟩
 .rintro e o ⟨si,rfl,rfl,hfd⟩;rw[QOA (by simp)] at hfd;cases hfd;rw[Qa Qk1.eq_1];simp
 .rintro i e o hi ⟨si,rfl,rfl,hfd⟩ ih;rw[QOq (by simpa using hi)] at hfd;simp only[List.getElem_range,QOk] at hfd;have hg:=h201 i hi;rw[Qa Qk1.eq_1];simp[hi];apply Qiq _ _ _ _ _ _ _ _;simp;apply cK (by simpa using hg);have hst:XW c.za pm i=[.agg (VW c.za (Zx c.za i) (pm i))]:=rfl;rw[hst] at hfd;simp;cases hfd with
  |stop _ _ _ _ hg=>apply Zd (by simpa using hg) rfl;simp
  |next _ _ _ s1 _ _ hg hr=>
   apply Zd (by simpa using hg) rfl;simp
   (repeat' first|omega|apply And.intro|intro)
   exact ih _ _ ⟨s1,by simp,rfl,hr⟩
omit hK
section
variable{K:World->Prop}
def QI(c:Ql):List Nat:=(List.range (2 ^ ZF c.za)).filter λn=>decide ((QM c.za c.zg (Zx c.za n):Int)<=c.zh)
theorem Qcd(hK:∀w w',K w->Below w.heap.size w w'->K w'){c:Ql}(hc:OkC c){pm:Nat->IV}{ks:Env}(hks:ZN [2,3] [0,3] ks=[(2,.iv (.ptr (Uy c))),(3,.loc 3 0)]):∀(Ls:List Nat)(s:Ext)(b:Bool)(s':Ext),Z2 prog K ((Ls.filter λn=>decide ((QM c.za c.zg (Zx c.za n):Int)<=c.zh)).map (XW c.za pm)) s b s' ->
   ∃wy,(wy=.fall\/wy=.ret)/\Wh prog K [7] qI Qdl [2,3] [0,3] (ZN [2,3] [0,3] ks) (Ls.map (XW c.za pm)) [(0,.ext s),(3,.box [.cb 0])] wy [(0,.ext s'),(3,.box [.cb 0])]
 |[],s,b,s',h=>by cases h;exact⟨.fall,.inl rfl,.nil _⟩
 |t::Ls,s,b,s',h=>by
  have hl:=hc.len;have hsl:=hc.slen;have hw:=QqF hK c.za (Zx c.za t) (pm t) c.zg hc.za (by omega) hc.zg (by omega);by_cases ht:(QM c.za c.zg (Zx c.za t):Int)<=c.zh
  .rw[QPp (by simpa using ht)] at h;cases h with
   |stop _ _ _ _ hg=>refine⟨.ret,.inr rfl,.stop _ _ _ _ _ (by simp) ?_⟩;rw[hks];refine⟨rfl,?_⟩;simp[XW,qI,Qdl];apply cK (by simpa using hw);simp[ht];apply Zd (by simpa[XW] using hg) rfl;simp
   |next _ _ _ s1 _ _ hg hr=>have⟨wy,h1,h2⟩:=Qcd hK hc hks Ls s1 b s' hr;refine⟨wy,h1,.next _ _ _ _ _ _ ?_ h2⟩;rw[hks];refine⟨rfl,?_⟩;simp[XW,qI,Qdl];apply cK (by simpa using hw);simp[ht];apply Zd (by simpa[XW] using hg) rfl;simp
  .rw[QPq (by simpa using ht)] at h;have⟨wy,h1,h2⟩:=Qcd hK hc hks Ls s b s' h;refine⟨wy,h1,.next _ _ _ _ _ _ ?_ h2⟩;rw[hks];refine⟨rfl,?_⟩;simp[XW,qI,Qdl];apply cK (by simpa using hw);simp[ht]
end
def Qir(K:World->Prop)(c:Ql)(pm:Nat->IV):Prop:=∀n:Nat,n<2 ^ ZF c.za->Gd K 342 [Qr c.za,.clo 343 [] [.ptr [.int .i64 n],.ptr (Uy c)]] (.agg (VW c.za (Zx c.za n) (pm n)))
def Wk(ds:List QB):ZF ds<=ds.length:=QOw
include hK
def Qao(c:Ql)(hc:OkC c)(pm:Nat->IV)(ht:Qir K c pm):Qbs prog K 288 [.agg (Uy c)] [] ((QI c).map (XW c.za pm)):=by intro s b s' hfd;have h12:=hc.len;have htw:=Wk c.za;apply QW QCg (by simp) hfd.v rfl;have⟨wy,h1,h2⟩:=Qcd (pm:=pm) hK hc (ks:=[(2,.iv (.ptr (Uy c))),(3,.loc 3 0)]) rfl (List.range (2 ^ ZF c.za)) s b s' hfd;simp;apply Zf (wy:=wy) (o':=[(0,.ext s'),(3,.box [.cb 0])]) rfl (by kernel_rfl) (Qqe hK c pm (by omega) ht) (by simpa using h2);rcases h1 with rfl|rfl<;>simp
noncomputable def Xb(c:Ql)(is:Bool):Int:=if OkC c then(if is=true then(if QI c=[] then 3 else 0) else 1) else 20
def Qzg(c:Ql)(pm:Nat->IV)(ht:OkC c->Qir K c pm)(g:FuncId)(fs cs:List IV)(is:Bool)(hg:OkC c->Gd K g (fs++[.int .i64 (ZV c.za),.int .i64 (Ql2 c.za)]++cs) (.bool is))(hcg:callee prog g=true)(hl:c.za.length<=1000)(hs:c.zg.length<=1000):
  Gd K 287 [chV c,.clo g fs cs] (.xf [if OkC c/\is=true then .agg (Uy c) else .agg [.sl 5 [],.sl 5 [],.int .i64 0,.map []],.int .i64 (Xb c is)]):=by
 apply Qb hK QsI (by simp);simp;apply cK (QcY hK c hl hs);by_cases h1:OkC c
 .simp[h1];apply cK (QjF hK c hl);simp;refine⟨hcg,cK (by simpa using hg h1) ?_⟩;cases is
  .simp[Xb,h1]
  simp;apply cK (by simpa using QjY hK c hl);simp;cases hR:QI c with
  |nil=>apply Zf (wy:=.fall) (o':=[(4,.box [.iv (.sl 5 []),.iv (.sl 5 []),.iv (.int .i64 0),.iv (.map [])]),(5,.box [.iv (.int .i64 0)]),(7,.box [.iv (Qr c.za),.iv (Qj c.zg),.iv (.int .i64 c.zh),.iv (.map (Qdo (VJ c.za) 0))])]) rfl (by kernel_rfl) (Qao hK c h1 pm (ht h1)) (by rw[hR];simpa using Wh.nil _);simp[Xb,h1,hR]
  |cons a r=>
   refine Zf (wy:=.ret) (o':=[(4,.box [.iv (Qr c.za),.iv (Qj c.zg),.iv (.int .i64 c.zh),.iv (.map (Qdo (VJ c.za) 0))]),(5,.box [.iv (.int .i64 0)]),(7,.box [.iv (Qr c.za),.iv (Qj c.zg),.iv (.int .i64 c.zh),.iv (.map (Qdo (VJ c.za) 0))])]) rfl (by kernel_rfl) (Qao hK c h1 pm (ht h1)) (by rw[hR];refine .stop _ _ _ _ _ (by simp) ?_;refine⟨rfl,?_⟩;simp[XW,Qgd,Qk2]) ?_
   simp[Xb,h1,hR]
 .simp[h1,Xb]
def QuB(c:Ql)(pm:Nat->IV)(ht:OkC c->Qir K c pm)(g:FuncId)(is:Bool)(hg:OkC c->Gd K g [.int .i64 (ZV c.za),.int .i64 (Ql2 c.za)] (.bool is))(hcg:callee prog g=true)(hl:c.za.length<=1000)(hs:c.zg.length<=1000):
  Gd K 287 [chV c,.fn g] (.xf [if OkC c/\is=true then .agg (Uy c) else .agg [.sl 5 [],.sl 5 [],.int .i64 0,.map []],.int .i64 (Xb c is)]):=by
 apply Qb hK QsI (by simp);simp;apply cK (QcY hK c hl hs);by_cases h1:OkC c
 .simp[h1];apply cK (QjF hK c hl);simp;refine⟨hcg,cK (by simpa using hg h1) ?_⟩;cases is
  .simp[Xb,h1]
  simp;apply cK (by simpa using QjY hK c hl);simp;cases hR:QI c with
  |nil=>apply Zf (wy:=.fall) (o':=[(4,.box [.iv (.sl 5 []),.iv (.sl 5 []),.iv (.int .i64 0),.iv (.map [])]),(5,.box [.iv (.int .i64 0)]),(7,.box [.iv (Qr c.za),.iv (Qj c.zg),.iv (.int .i64 c.zh),.iv (.map (Qdo (VJ c.za) 0))])]) rfl (by kernel_rfl) (Qao hK c h1 pm (ht h1)) (by rw[hR];simpa using Wh.nil _);simp[Xb,h1,hR]
  |cons a r=>
   refine Zf (wy:=.ret) (o':=[(4,.box [.iv (Qr c.za),.iv (Qj c.zg),.iv (.int .i64 c.zh),.iv (.map (Qdo (VJ c.za) 0))]),(5,.box [.iv (.int .i64 0)]),(7,.box [.iv (Qr c.za),.iv (Qj c.zg),.iv (.int .i64 c.zh),.iv (.map (Qdo (VJ c.za) 0))])]) rfl (by kernel_rfl) (Qao hK c h1 pm (ht h1)) (by rw[hR];refine .stop _ _ _ _ _ (by simp) ?_;refine⟨rfl,?_⟩;simp[XW,Qgd,Qk2]) ?_
   simp[Xb,h1,hR]
 .simp[h1,Xb]
def QyS(c:Ql)(pm:Nat->IV)(ht:OkC c->Qir K c pm)(hl:c.za.length<=1000)(hs:c.zg.length<=1000):Gd K 348 [chV c] (.xf [.int .i64 (if Xb c true=0 then(QI c).length else 0),.int .i64 (Xb c true)]):=by
 apply Qb hK QBH (by simp);simp;apply cK (QuB hK c pm ht 383 true (λ_=>QyG hK _ _) (by kernel_rfl) hl hs);by_cases he:Xb c true=0;rotate_left
 .by_cases h1:OkC c<;>simp[he,h1]
 .have h1:OkC c:=by
   unfold Xb at he;grind
  have hlen:(QI c).length<=4096:=by have h1':=QOp (λn=>decide ((QM c.za c.zg (Zx c.za n):Int)<=c.zh)) (List.range (2 ^ ZF c.za));have h2':=UL (n:=ZF c.za) (by have:=Wk c.za;have:=h1.len;omega);simp at h1';unfold QI;omega
  simp[he,h1];refine Zf (wy:=.fall) (o':=[(6,.box [.iv (.int .i64 ((QI c).length:Nat))])]) rfl (by kernel_rfl) (Qao hK c h1 pm (ht h1)) ?_ ?_
  .have:=Wh.all (P:=prog) (K:=K) (ps:=[17]) (asn:=Qgb) (body:=Qkt) (ks:=[6]) (ids:=[6]) (eK:=[(6,.loc 6 0)]) ((QI c).map (XW c.za pm)) (λi=>[(6,.box [.iv (.int .i64 (i:Int))])]) λi x hi=>by
    simp only[QN6,QN2] at hi;obtain⟨y,hy,rfl⟩:=hi;have y9:=(QNY.1 hy).1;refine⟨rfl,?_⟩;simp[XW,Qgb,Qkt];omega
   simpa using this
  .simp
def Qqv(d:QB):Gd K 347 [.agg (dC d)] (.bool (Xa d)):=by apply Qb hK QBI (by simp);simp[Xa]
omit hK
def X3(m:Machine)(n:Int):Machine:={ m with zu:=n,zw:=n }
noncomputable def Qa0(m:Machine)(k:Nat):List Machine:=if tE (X3 m (m.zu+k)) true=0 then [X3 m (m.zu+k)] else []
def QhB(m:Machine):List IV:=[maV m]
include hK
def Qhz(m:Machine)(hl:m.zd.length<=1000)(hb:m.zk.length<=1000)(hr:inR m.zu 0 m.zw)(hr2:m.zw<=20)(hs:∀n,OkM (X3 m n)->sets (X3 m n) m.zd.length<=1000000):Qbr prog K 298 [maV m,.int .i64 m.zd.length] [] ((acc (Qa0 m) (m.zw+1-m.zu).toNat).map QhB) (λb=>.bool b):=by
 intro s b s' hf;apply QW QsE (by simp) hf.v rfl;rw[QbS] at hf;simp only[inR] at hr;simp;intro _
 refine YU (m.zw+1-m.zu).toNat (λi e o=>∃si x y,e=[(2,AV.cb 0),(3,AV.iv (.ptr [Qs m.zd,.int .i64 m.zr,.int .i64 m.zu,.int .i64 m.zw,Zk m.zk,.int .i64 m.zh])),(7,AV.loc 7 0),(8,AV.iv (.int .i64 (m.zu+(i:Nat))))] /\
  o=[(0,.ext si),(7,.box [.iv (Qs m.zd),.iv (.int .i64 m.zr),.iv (.int .i64 x),.iv (.int .i64 y),.iv (Zk m.zk),.iv (.int .i64 m.zh)])] /\
  Z2 prog K ((X6 (Qa0 m) i ((m.zw+1-m.zu).toNat-i)).map QhB) si b s') ?_ ?_ _ _ ⟨s,m.zu,m.zw,by simp,by simp,by simpa using hf⟩
 .rintro e o ⟨si,x,y,rfl,rfl,hfd⟩;have q1:m.zu+((m.zw+1-m.zu).toNat:Int)=m.zw+1:=by omega
  have q2:¬m.zw+1<=m.zw:=by omega
  rw[Nat.sub_self] at hfd;cases hfd;rw[q1,Qa QkV.eq_1];simp[q2]
 .rintro i e o hi ⟨si,x,y,rfl,rfl,hfd⟩ ih;have q1:m.zu+(i:Int)<=m.zw:=by omega
  have q3:m.zu+((i:Int)+1)=m.zu+i+1:=by omega
  have e1:(m.zw+1-m.zu).toNat-i=((m.zw+1-m.zu).toNat-(i+1))+1:=by omega
  rw[e1] at hfd;simp only[X6,QOd] at hfd;have hg:=QyQ hK (X3 m (m.zu+i)) hl hb (hs _);rw[Qa QkV.eq_1];simp[q1];apply Qd (by simpa[X3] using hg) (.inr rfl);by_cases he:tE (X3 m (m.zu+i)) true=0
  .have hp:Qa0 m i=[X3 m (m.zu+i)]:=by simp[Qa0,he]
   rw[hp] at hfd;simp only[QOk,List.map_nil,List.singleton_append] at hfd;have he':=he;simp only[X3] at he';simp[he'];cases hfd with
   |stop _ _ _ _ hg=>apply Zd (by simpa[QhB,X3] using hg) rfl;simp
   |next _ _ _ s1 _ _ hg hr2=>
    apply Zd (by simpa[QhB,X3] using hg) rfl;simp
    (repeat' first|omega|apply And.intro|intro)
    exact ih _ _ ⟨s1,m.zu+i,m.zu+i,by simp[q3],by simp,hr2⟩
  .have hp:Qa0 m i=[]:=by simp[Qa0,he]
   rw[hp] at hfd;simp only[List.map_nil,QOg] at hfd;have he':=he;simp only[X3] at he';simp[he']
   (repeat' first|omega|apply And.intro|intro)
   exact ih _ _ ⟨si,m.zu+i,m.zu+i,by simp[q3],by simp,hfd⟩
end Go.Pf
namespace Go.Ev
open Go Go.RowKit Go.Sort
section
variable{P:Program}{K:World->Prop}
@[reducible] def Xt(zs:List Int)(mv:Nat):AO:=.arr 3 1 (zs.map λz=>[AV.iv (.int .i64 z)]) mv
@[reducible] def Qth(zs:List Int):IV:=.sl 1 (zs.map λz=>[IV.int .i64 z])
def Qjd{w:World}{g:Nat}{f:Array Value->Array Value}{c:Array Value}{e:TypeId}{fr:Nat×Nat}(h:w.heap[g]?=some (.cells c e fr)):(mapBlock w g f).heap[g]?=some (.cells (f c) e fr):=by simp only[mapBlock,Array.getElem?_modify,if_true,h,QPf,onCells]
def Qjc{w:World}{g k:Nat}{f:Array Value->Array Value}(h:k≠g):(mapBlock w g f).heap[k]?=w.heap[k]?:=by simp only[mapBlock,Array.getElem?_modify,if_neg (Ne.symm h)]
def Qfw{w:World}{g:Nat}{f:Array Value->Array Value}:(mapBlock w g f).heap.size=w.heap.size:=by simp only[mapBlock,Array.size_modify]
def Vx{Fr:Nat->Prop}{w:World}{g:Nat}{f:Array Value->Array Value}(h:¬Fr g):Zv Fr w (mapBlock w g f):=⟨rfl,rfl,rfl,by rw[Qfw];omega,λk hk=>Qjc λe=>h (e▸hk)⟩
theorem Xg{Fr:Nat->Prop}{g:Nat}(h:¬Fr g):∀(vs:List Value)(o:Nat)(w:World),Zv Fr w (w.setCells g o vs)
 |[],_,w=>Zv.refl _ _
 |v::r,o,w=>by
  rw[World.setCells];have h1:Zv Fr w (w.setCell ⟨g,o,none⟩ v):=by rw[setCell_eq];exact Vx h
  have h2:=Xg h r (o+1) (w.setCell ⟨g,o,none⟩ v);exact⟨h2.os.trans h1.os,h2.tape.trans h1.tape,h2.output.trans h1.output,QOz h1.size h2.size,λk hk=>(h2.block k hk).trans (h1.block k hk)⟩
def QeS(w:World)(o:Obj):Zv (λb=>b<w.heap.size) w (w.alloc o):=
 ⟨rfl,rfl,rfl,by show _<=(w.heap.push o).size;grind,λk hk=>by show(w.heap.push o)[k]?=_;grind⟩
structure QdS(w:World)(v:Value)(zs:List Int)(g cap:Nat)(cur:Array Value):Prop where
 v:v=.slice (some ⟨g,0,none⟩) zs.length cap
 at_:w.heap[g]?=some (.cells cur 3 (0,0))
 le:zs.length<=cap
 max:cap<=maxLen
 size:cur.size=cap
 take:cur.toList.take zs.length=zs.map (.int .i64)
theorem QdS.cell{w:World}{v:Value}{zs:List Int}{g cap:Nat}{cur:Array Value}(h:QdS w v zs g cap cur)(j:Nat):w.cell? ⟨g,j,none⟩=cur[j]?:=by simp[World.cell?,h.at_]
theorem QdS.frozen{w:World}{v:Value}{zs:List Int}{g cap:Nat}{cur:Array Value}(h:QdS w v zs g cap cur)(j:Nat):w.frozen? ⟨g,j,none⟩=false:=by simp[World.frozen?,h.at_]
def QdS.get{w:World}{v:Value}{zs:List Int}{g cap:Nat}{cur:Array Value}(h:QdS w v zs g cap cur)(j:Nat)(hj:j<zs.length):cur[j]?=some (.int .i64 zs[j]):=by
 have h1:(cur.toList.take zs.length)[j]?=some (.int .i64 zs[j]):=by rw[h.take];simp[hj]
 grind
def QdS.holds{w:World}{v:Value}{zs:List Int}{g cap:Nat}{cur:Array Value}(h:QdS w v zs g cap cur):Holds (Value.int .i64) w g 0 zs.toArray:=by
 intro j hj;have hj':j<zs.length:=by simpa using hj
 refine⟨?_,by rw[QOn];exact h.frozen j⟩;rw[QOn,h.cell,h.get j hj',getElem!_pos _ j hj];simp
def Qmr{Fr ok:Nat->Prop}{w:World}{lo:Nat->Option AO}{L:Nat->Lay}{zs:List Int}{mv:Nat}{l:Lay}(h:QK Fr ok w lo L (Xt zs mv) l):∃v xs,l=.arr v xs/\((v=.slice none 0 0/\zs=[])\/∃g cap cur,QdS w v zs g cap cur/\¬Fr g):=by
 cases l with
 |arr v xs=>
  have⟨⟨⟨h1,h2⟩,h3⟩,h4,h5,h6,h7⟩:=h;refine⟨v,xs,rfl,?_⟩;simp only[QN9] at h1 h2;rcases h2 with ⟨h2,h8⟩|⟨g,cap,cur,h8,h9,h10,h11,h12,h13,h14⟩
  .grind
  refine .inr ⟨g,cap,cur,⟨h8,h10,h11,h12,by omega,?_⟩,h3 g (by simp[h8,Value.ownBlock])⟩;rw[QPF] at h14;rw[h14];refine List.ext_getElem? λi=>?_;by_cases hi:i<zs.length
  .have hx:i<xs.length:=by omega
   rw[QNX hx];have:=h7 i 0 [AV.iv (.int .i64 zs[i])] (.iv (.int .i64 zs[i])) xs[i] (by simp[hi]) (by simp) (by simp[hx]);cases this with
   |iv _ _ r=>generalize hz:xs[i]=z at r;cases r;simp[hi,hz]
  grind
 |_=>exact absurd h (by simp[QK])
def QnC{ok:Nat->Prop}{w:World}{lo:Nat->Option AO}{L:Nat->Lay}{zs:List Int}{mv id n:Nat}{v u:Value}{xs:List Value}(hid:lo id=some (Xt zs mv))(hL:L id=.arr v xs)(hn:n=zs.length)(h:QG ok w lo L (.yl id n) u):u=v:=by grind
def W0{ok:Nat->Prop}{w:World}(zs:List Int)(b cap:Nat)(hcap:zs.length<=cap)(hmax:cap<=maxLen)(hb:ok b)(hc:∀j z,zs[j]?=some z->w.cell? ⟨b,j,none⟩=some (.int .i64 z)):QZ ok w (Qth zs) (.slice (some ⟨b,0,none⟩) zs.length cap):=by
 have h:=QZ.sl (ok:=ok) (w:=w) 1 (zs.map λz=>[IV.int .i64 z]) b 0 cap (λk=>.int .i64 (zs.getD k 0)) (by simpa using hcap) hmax (by simp) (λk hk=>?_) (λi j c x hi hj=>?_)
 .simpa using h
 .simp only[QN9,QPF] at hk;refine⟨hb,?_,rfl⟩;grind
 .rw[QN6,QN2] at hi;obtain⟨z,hz,rfl⟩:=hi;cases j with
  |zero=>simp at hj;subst hj;rw[QPF,QPd,List.getD_eq_getElem?_getD,hz];exact .int _ _
  |succ j=>simp at hj
def QcH{Fr ok:Nat->Prop}{w:World}{L:Nat->Lay}:QoR Fr ok w (Qc []) L:=⟨by simp[Qc],by simp[Qc]⟩
def Qfi{f:FuncId}
  (he:∀(a:Option Addr)(cap:Nat)(w:World),Calls P f #[.slice a 0 cap] w λe w'=>e=.returned (.tuple #[])/\w'=w)
  (hr:∀(blk off cap:Nat)(zs:List Int)(w:World),Holds (Value.int .i64) w blk off zs.toArray->zs.length<=9223372036854775807 ->Calls P f #[.slice (some ⟨blk,off,none⟩) zs.length cap] w λe w'=>e=.returned (.tuple #[])/\∃n,w'=putRow (Value.int .i64) (Sort.ahead w n) blk off zs.reverse.toArray)
  (zs:List Int)(mv:Nat):Y0 P K f [.yl 0 zs.length] [(0,Xt zs mv)] [0] (.iv (.xf [])) [(0,Xt zs.reverse zs.length)]:=by
 intro w ok L vs hK hnew hown hlaid hvl hvs;obtain⟨v0,rfl⟩:∃v0,vs=[v0]:=by
  match vs,hvl with
  |[v],_=>exact⟨v,rfl⟩
 have hob:=hlaid.y8 0 (Xt zs mv) rfl;have⟨v,xs,hL,hrow⟩:=Qmr hob;have hv:v0=v:=QnC (id:=0) (zs:=zs) (mv:=mv) rfl hL rfl (hvs 0 _ v0 rfl rfl);subst hv
 have fin:∀(w':World)(xs':List Value),Zv (FrO w (Qc [(0,Xt zs mv)]) L) w w'->YK (FrO w (Qc [(0,Xt zs mv)]) L) w' 3 1 v0 zs.length xs'->xs'=zs.reverse.map (.int .i64) ->∃v1 L',(Ending.returned (.tuple #[]):Ending)=.returned v1/\QoR (FrO w (Qc [(0,Xt zs mv)]) L) ok w' (Qc [(0,Xt zs.reverse zs.length)]) L'/\QG (okL ok (Qc [(0,Xt zs.reverse zs.length)]) L') w' (Qc [(0,Xt zs.reverse zs.length)]) L' (.iv (.xf [])) v1/\Zv (FrO w (Qc [(0,Xt zs mv)]) L) w w' /\
    ∀i∈[0],∀o,Qc [(0,Xt zs mv)] i=some o->∃o',Qc [(0,Xt zs.reverse zs.length)] i=some o'/\VR o o' (L i) (L' i):=by
  intro w' xs' hk ho hx;refine⟨.tuple #[],λ_=>.arr v0 xs',rfl,⟨λid o hid=>?_,λi j oi oj b hij hi hj=>?_⟩,.iv _ _ (.xf [] [] rfl (by simp)),hk,λi hi o h=>?_⟩
  .simp only[Qc] at hid;split at hid
   .injection hid with hid;subst hid;refine⟨by simpa using ho,by simp,by simp,λu hu=>?_,λi j c x u hi hj hu=>?_⟩
    .rw[hx] at hu;obtain⟨z,_,rfl⟩:=QOb.1 hu;rfl
    rw[QN6,QN2] at hi;obtain⟨z,hz,rfl⟩:=hi;cases j with
    |zero=>simp at hj;subst hj;rw[hx,QPF,QPd,QN6,hz] at hu;simp at hu;subst hu;exact .iv _ _ (.int _ _)
    |succ j=>simp at hj
   cases hid
  .simp only[Qc] at hi hj;grind
  simp at hi;subst hi;simp only[Qc,if_true] at h;injection h with h;subst h;refine⟨Xt zs.reverse zs.length,by simp[Qc],?_⟩;rw[hL];simp[VR]
 rcases hrow with ⟨rfl,rfl⟩|⟨g,cap,cur,hr1,hfr⟩
 .refine(he none 0 w).mono λe w' ⟨h1,h2⟩=>?_;subst h1 h2;exact fin w' [] (Zv.refl _ _) ⟨⟨by simp,.inl ⟨rfl,rfl⟩⟩,by simp[Value.ownBlock]⟩ (by simp)
 .have hv:=hr1.v;subst hv;refine(hr g 0 cap zs w hr1.holds (by have:=hr1.max;have:=hr1.le;unfold maxLen at *;omega)).mono λe w' ⟨h1,n,h2⟩=>?_;subst h1;have hk:Zv (FrO w (Qc [(0,Xt zs mv)]) L) w w':=by
   have h3:Zv (FrO w (Qc [(0,Xt zs mv)]) L) (Sort.ahead w n) w':=by rw[h2];exact Vx hfr
   exact⟨h3.os,h3.tape,h3.output,h3.size,h3.block⟩
  have hh:w'.heap[g]?=some (.cells (putCells (Value.int .i64) 0 zs.reverse.toArray cur) 3 (0,0)):=by rw[h2];exact Qjd (w:=Sort.ahead w n) hr1.at_
  refine fin w' _ hk ⟨⟨?_,.inr ⟨g,cap,_,rfl,QPk _,hh,hr1.le,hr1.max,?_,rfl⟩⟩,λb hb=>?_⟩ ?_
  .simp[putCells,hr1.size,hr1.le]
  .simp[putCells,hr1.size]
  .simp[Value.ownBlock] at hb;grind
  .refine List.ext_getElem? λi=>?_;rw[QOS];by_cases hi:i<zs.length
   .have h1:=hr1.size;have h2:=hr1.le;have h3:i<cur.size:=by omega
    rw[QPF,if_pos hi];simp only[putCells,Array.getElem?_toList,Array.getElem?_mapIdx,QOR h3,QPf,QN6];grind
   grind
def Qic{f:FuncId}
  (hd:∀(blk off cap i j:Nat)(d:Array Int)(w:World),Holds (Value.int .i64) w blk off d->d.size<=cap->cap<=9223372036854775807->i<=j->j<=d.size ->Calls P f #[.slice (some ⟨blk,off,none⟩) d.size cap,.int .i64 i,.int .i64 j] w λe w'=>e=.returned (.slice (some ⟨blk,off,none⟩) (d.size-(j-i)) cap)/\∃q,w'=putRow (Value.int .i64) (Sort.ahead w q) blk off (d.toList.take i++d.toList.drop j++List.replicate (j-i) 0).toArray)
  (zs:List Int)(mv:Nat)(i:Nat)(hi:i<zs.length):Y0 P K f [.yl 0 zs.length,.iv (.int .i64 (i:Nat)),.iv (.int .i64 ((i+1:Nat):Int))] [(0,Xt zs mv)] [] (.iv (Qth (zs.eraseIdx i))) []:=by
 intro w ok L vs hK hnew hown hlaid hvl hvs;obtain⟨v0,v1,v2,rfl⟩:∃v0 v1 v2,vs=[v0,v1,v2]:=by
  match vs,hvl with
  |[v,u,z],_=>grind
 have hob:=hlaid.y8 0 (Xt zs mv) rfl;have⟨v,xs,hL,hrow⟩:=Qmr hob;have hv:v0=v:=QnC (id:=0) (zs:=zs) (mv:=mv) rfl hL rfl (hvs 0 _ v0 rfl rfl);subst hv;have e1:v1=.int .i64 (i:Nat):=by
  have:=hvs 1 _ v1 rfl rfl;cases this with
  |iv _ _ r=>cases r;rfl
 have e2:v2=.int .i64 ((i+1:Nat):Int):=by
  have:=hvs 2 _ v2 rfl rfl;cases this with
  |iv _ _ r=>cases r;rfl
 subst e1 e2;rcases hrow with ⟨rfl,rfl⟩|⟨g,cap,cur,hr1,hfr⟩
 .simp at hi
 .have hv:=hr1.v;subst hv;have hm:=hr1.max;have hle:=hr1.le;have:=hd g 0 cap i (i+1) zs.toArray w hr1.holds (by simpa using hle) (by unfold maxLen at *;omega) (by omega) (by simp;omega);have es:zs.toArray.size=zs.length:=by simp
  rw[es] at this;refine this.mono λe w' ⟨h1,q,h2⟩=>?_;have hgo:ok g:=hown g ⟨0,Xt zs mv,rfl,by rw[hL];simp[Lay.has,Value.ownBlock]⟩;have hk:Zv (FrO w (Qc [(0,Xt zs mv)]) L) w w':=by
   have h3:Zv (FrO w (Qc [(0,Xt zs mv)]) L) (Sort.ahead w q) w':=by rw[h2];exact Vx hfr
   exact⟨h3.os,h3.tape,h3.output,h3.size,h3.block⟩
  have hnew:Holds (Value.int .i64) w' g 0 (zs.take i++zs.drop (i+1)++List.replicate (i+1-i) 0).toArray:=by have h3:=holds_putRow (Value.int .i64) (Sort.ahead w q) g 0 zs.toArray (zs.take i++zs.drop (i+1)++List.replicate (i+1-i) 0).toArray (holds_ahead _ w q g 0 _ hr1.holds) (by simp;omega);grind
  have hlen:(zs.eraseIdx i).length=zs.length-(i+1-i):=by grind
  subst h1;refine⟨_,λ_=>.one 0,rfl,QcH,.iv _ _ ?_,hk,by simp⟩;rw[<- hlen];refine W0 _ _ _ (by omega) hm ⟨hgo,by simp[Qc]⟩ λj z hj=>?_;rw[List.eraseIdx_eq_take_drop_succ] at hj;have hjl:=(QNY.1 hj).1;have h3:=(hnew j (by grind)).1;grind
def QhF{f:FuncId}
  (hshift:∀(b n c i vb vc:Nat)(cs:List Value)(x:Value)(w:World),i<n->n+1<=c->c<=9223372036854775807->vb≠b->cs.length=n ->(∀j v,cs[j]?=some v->w.cell? ⟨b,0+j,none⟩=some v)->(∀j,j<n+1->(w.cell? ⟨b,0+j,none⟩).isSome=true)->(∀j,j<n+1->w.frozen? ⟨b,0+j,none⟩=false) ->(∀j v,[x][j]?=some v->w.cell? ⟨vb,0+j,none⟩=some v)->(∀v∈cs,v.oneCell'=true)->(∀v∈[x],v.oneCell'=true) ->∀(tA tB:TypeId)(kA kB:Nat),w.shape? vb=some (tA,kA)->w.shape? b=some (tB,kB)->kB≠0->w.frozen? ⟨vb,0,none⟩=false->w.frozen? ⟨vb,kA,none⟩=false ->
    Calls P f #[.slice (some ⟨b,0,none⟩) n c,.int .i64 i,.slice (some ⟨vb,0,none⟩) 1 vc] w λe w'=>e=.returned (.slice (some ⟨b,0,none⟩) (n+1) c)/\w'=(w.drew.setCells b (0+(i+1)) (cs.drop i)).setCells b (0+i) [x])
  (hroom:∀(b n c vb vc:Nat)(x:Value)(w:World),n+1<=c->c<=9223372036854775807->(∀j,j<1->(w.cell? ⟨b,0+n+j,none⟩).isSome=true)->(∀j,j<1->w.frozen? ⟨b,0+n+j,none⟩=false) ->(∀j v,[x][j]?=some v->w.cell? ⟨vb,0+j,none⟩=some v)->(∀v∈[x],v.oneCell'=true) ->
    Calls P f #[.slice (some ⟨b,0,none⟩) n c,.int .i64 n,.slice (some ⟨vb,0,none⟩) 1 vc] w λe w'=>e=.returned (.slice (some ⟨b,0,none⟩) (n+1) c)/\w'=w.setCells b (0+n) [x])
  (hend:∀(base:Option Addr)(n c vb vc:Nat)(cs:List Value)(x:Value)(w:World),n<=c->c<n+1->(n+1)*8<=140737488355328->cs.length=n->(base=none->n=0) ->(∀a,base=some a->∀j v,cs[j]?=some v->w.cell? (a.add j)=some v)->(∀j v,[x][j]?=some v->w.cell? ⟨vb,0+j,none⟩=some v)->(∀v∈[x],v.oneCell'=true) ->
    Calls P f #[.slice base n c,.int .i64 n,.slice (some ⟨vb,0,none⟩) 1 vc] w λe w'=>
     e=.returned (.slice (some ⟨w.heap.size,0,none⟩) (n+1) (grownCap w (n+1) c 3)) /\
     w'=w.drew.alloc (.cells ((cs++[x]).toArray++Builtin.zeroCells (Value.int .i64 0).cells (grownCap w (n+1) c 3-(n+1))) 3))
  (hgrow:∀(b n c i vb vc:Nat)(cs:List Value)(x:Value)(w:World),i<n->n<=c->c<n+1->(n+1)*8<=140737488355328->cs.length=n ->(∀j v,cs[j]?=some v->w.cell? ⟨b,0+j,none⟩=some v)->(∀j v,[x][j]?=some v->w.cell? ⟨vb,0+j,none⟩=some v)->(∀v∈cs,v.oneCell'=true)->(∀v∈[x],v.oneCell'=true) ->
    Calls P f #[.slice (some ⟨b,0,none⟩) n c,.int .i64 i,.slice (some ⟨vb,0,none⟩) 1 vc] w λe w'=>
     e=.returned (.slice (some ⟨w.heap.size,0,none⟩) (n+1) (grownCap w (n+1) c 3)) /\
     w'=(((w.alloc (.cells ((cs.take i).toArray++Builtin.zeroCells (Value.int .i64 0).cells (n+1-i)++Builtin.zeroCells (Value.int .i64 0).cells (grownCap w (n+1) c 3-(n+1))) 3)).drew.setCells w.heap.size i [x]).drew).setCells w.heap.size (i+1) (cs.drop i))
  (zs:List Int)(mv:Nat)(i:Nat)(hi:i<=zs.length)(x:Int)(mv':Nat)(hlen:zs.length<=1000000):Y0 P K f [.yl 0 zs.length,.iv (.int .i64 (i:Nat)),.yl 1 1] [(0,Xt zs mv),(1,Xt [x] mv')] [] (.iv (Qth (zs.take i++x::zs.drop i))) []:=by
 intro w ok L vs hK hnew hown hlaid hvl hvs;obtain⟨v0,v1,v2,rfl⟩:∃v0 v1 v2,vs=[v0,v1,v2]:=by
  match vs,hvl with
  |[v,u,z],_=>grind
 have⟨v,xs,hL,hrow⟩:=Qmr (hlaid.y8 0 (Xt zs mv) rfl);have⟨v',xs',hL',hrow'⟩:=Qmr (zs:=[x]) (hlaid.y8 1 (Xt [x] mv') rfl);have hv:v0=v:=QnC (id:=0) (zs:=zs) (mv:=mv) rfl hL rfl (hvs 0 _ v0 rfl rfl);have hv':v2=v':=QnC (id:=1) (zs:=[x]) (mv:=mv') rfl hL' rfl (hvs 2 _ v2 rfl rfl);have e1:v1=.int .i64 (i:Nat):=by
  have:=hvs 1 _ v1 rfl rfl;cases this with
  |iv _ _ r=>cases r;rfl
 subst hv hv' e1;have hmax:maxLen=1099511627775\/2000000<=maxLen/\maxLen<=9223372036854775807:=by unfold maxLen;omega
 rcases hrow' with ⟨_,h⟩|⟨vb,vc,cur',hr2,hfr2⟩
 .cases h
 have hv2:=hr2.v;subst hv2;have hx:∀j v,[Value.int .i64 x][j]?=some v->w.cell? ⟨vb,0+j,none⟩=some v:=λj v hj=>by
  cases j with
  |zero=>simp at hj;subst hj;rw[hr2.cell,hr2.get 0 (by simp)];simp
  |succ j=>simp at hj
 have hone:∀v∈[Value.int .i64 x],v.oneCell'=true:=by simp[Value.oneCell']
 have hvw:vb<w.heap.size:=(QN8.1 hr2.at_).1;have hlen':(zs.take i++x::zs.drop i).length=zs.length+1:=by simp;omega
 have fresh:∀(w':World)(cap:Nat),Zv (λb=>b<w.heap.size) w w'->zs.length+1<=cap->cap<=maxLen->(∀j z,(zs.take i++x::zs.drop i)[j]?=some z->w'.cell? ⟨w.heap.size,j,none⟩=some (.int .i64 z)) ->
   ∃v1 L',(Ending.returned (.slice (some ⟨w.heap.size,0,none⟩) (zs.length+1) cap):Ending)=.returned v1/\QoR (FrO w (Qc [(0,Xt zs mv),(1,Xt [x] mv')]) L) ok w' (Qc []) L'/\QG (okL ok (Qc []) L') w' (Qc []) L' (.iv (Qth (zs.take i++x::zs.drop i))) v1/\Zv (FrO w (Qc [(0,Xt zs mv),(1,Xt [x] mv')]) L) w w' /\∀i∈([]:List Nat),∀o,Qc [(0,Xt zs mv),(1,Xt [x] mv')] i=some o->∃o',Qc [] i=some o'/\VR o o' (L i) (L' i):=λw' cap hk h1 h2 h3=>by
  refine⟨_,λ_=>.one 0,rfl,QcH,.iv _ _ ?_,⟨hk.os,hk.tape,hk.output,hk.size,λk hkk=>hk.block k hkk.1⟩,by simp⟩;rw[<- hlen'] at h1 |-;exact W0 _ _ _ h1 h2 ⟨hnew _ (QN3 _),by simp[Qc]⟩ h3
 have inplace:∀(g cap:Nat)(cur:Array Value)(w':World),QdS w v0 zs g cap cur->¬FrO w (Qc [(0,Xt zs mv),(1,Xt [x] mv')]) L g->Zv (FrO w (Qc [(0,Xt zs mv),(1,Xt [x] mv')]) L) w w'->zs.length+1<=cap->(∀j z,(zs.take i++x::zs.drop i)[j]?=some z->w'.cell? ⟨g,j,none⟩=some (.int .i64 z)) ->∃v1 L',(Ending.returned (.slice (some ⟨g,0,none⟩) (zs.length+1) cap):Ending)=.returned v1/\QoR (FrO w (Qc [(0,Xt zs mv),(1,Xt [x] mv')]) L) ok w' (Qc []) L'/\QG (okL ok (Qc []) L') w' (Qc []) L' (.iv (Qth (zs.take i++x::zs.drop i))) v1/\Zv (FrO w (Qc [(0,Xt zs mv),(1,Xt [x] mv')]) L) w w' /\
    ∀i∈([]:List Nat),∀o,Qc [(0,Xt zs mv),(1,Xt [x] mv')] i=some o->∃o',Qc [] i=some o'/\VR o o' (L i) (L' i):=λg cap cur w' hr1 _ hk h1 h3=>by
  have hgo:ok g:=hown g ⟨0,Xt zs mv,rfl,by rw[hL,hr1.v];simp[Lay.has,Value.ownBlock]⟩;refine⟨_,λ_=>.one 0,rfl,QcH,.iv _ _ ?_,hk,by simp⟩;have h2:=hr1.max;rw[<- hlen'] at h1 |-;exact W0 _ _ _ h1 h2 ⟨hgo,by simp[Qc]⟩ h3
 have hcs:∀j,j<zs.length->(zs.map (Value.int .i64))[j]?=some (.int .i64 zs[j]!):=λj hj=>by simp[hj]
 have onev:∀v∈zs.map (Value.int .i64),v.oneCell'=true:=λv hv=>by obtain⟨z,_,rfl⟩:=QOb.1 hv;rfl
 rcases QPi i zs.length with y9|hge;rotate_left
 ·
  have hie:i=zs.length:=by omega
  subst hie;have hsame:zs.take zs.length++x::zs.drop zs.length=zs++[x]:=by simp
  have grow:∀(base:Option Addr)(c:Nat),v0=.slice base zs.length c->zs.length<=c->c<zs.length+1->(base=none->zs.length=0)->(∀a,base=some a->∀j v,(zs.map (Value.int .i64))[j]?=some v->w.cell? (a.add j)=some v) ->Calls P f [v0,Value.int .i64 (zs.length:Nat),Value.slice (some ⟨vb,0,none⟩) [x].length vc].toArray w (λe w'=>∃v1 L',e=.returned v1/\QoR (FrO w (Qc [(0,Xt zs mv),(1,Xt [x] mv')]) L) ok w' (Qc []) L'/\QG (okL ok (Qc []) L') w' (Qc []) L' (.iv (Qth (zs.take zs.length++x::zs.drop zs.length))) v1/\Zv (FrO w (Qc [(0,Xt zs mv),(1,Xt [x] mv')]) L) w w' /\
     ∀i∈([]:List Nat),∀o,Qc [(0,Xt zs mv),(1,Xt [x] mv')] i=some o->∃o',Qc [] i=some o'/\VR o o' (L i) (L' i)):=λbase c hv h1 h2 h3 h4=>by
   have h0:=hend base zs.length c vb vc (zs.map (.int .i64)) (.int .i64 x) w h1 h2 (by omega) (by simp) h3 h4 hx hone;rw[<- hv] at h0;have hgc1:=grownCap_ge w (zs.length+1) c 3;have hgc2:=grownCap_le_maxLen w (zs.length+1) c 3 (by omega);generalize grownCap w (zs.length+1) c 3=G at *;refine h0.mono λe w' ⟨h5,h6⟩=>?_;subst h5;obtain⟨ROW,hROW⟩:∃ROW:Array Value,ROW=(zs.map (Value.int .i64)++[Value.int .i64 x]).toArray++Builtin.zeroCells (Value.int .i64 0).cells (G-(zs.length+1)):=⟨_,rfl⟩;rw[<- hROW] at h6;refine fresh w' G ?_ hgc1 hgc2 λj z hj=>?_
   .rw[h6]
    have:=QeS w.drew (.cells ROW 3);exact⟨this.os,this.tape,this.output,this.size,this.block⟩
   rw[h6,World.cell?_alloc_at (w:=w.drew) ROW _ w.heap.size j rfl,hROW];rw[hsame] at hj;have hjl:=(QNY.1 hj).1;simp at hjl;rw[Array.getElem?_append_left (by simp;omega)];have:(zs.map (Value.int .i64)++[Value.int .i64 x])=(zs++[x]).map (.int .i64):=by simp
   rw[this,List.getElem?_toArray,QN6,hj];rfl
  rcases hrow with ⟨h1,h2⟩|⟨g,cap,cur,hr1,hfr⟩
  .subst h2;grind
  have hv:=hr1.v;have hm:=hr1.max;have hle:=hr1.le;rcases QPi zs.length cap with hcap|hcap;rotate_left
  .refine grow (some ⟨g,0,none⟩) cap hv hle (by omega) (by simp) (λa ha j v hj=>?_);injection ha with ha;subst ha;rw[QN6,QN2] at hj;obtain⟨z,hz,rfl⟩:=hj;have⟨h1,h2⟩:=QNY.1 hz;rw[Addr.add_lit,QOn,hr1.cell,hr1.get j h1,h2]
  have h0:=hroom g zs.length cap vb vc (.int .i64 x) w (by omega) (by omega) (λj hj=>by rw[hr1.cell,QOR (by have:=hr1.size;omega)];rfl) (λj _=>hr1.frozen _) hx hone
  rw[<- hv] at h0;refine h0.mono λe w' ⟨h1,h2⟩=>?_;subst h1;have hk:Zv (FrO w (Qc [(0,Xt zs mv),(1,Xt [x] mv')]) L) w w':=by rw[h2];exact Xg hfr _ _ _
  refine inplace g cap cur w' hr1 hfr hk (by omega) λj z hj=>?_;rw[hsame] at hj;rw[h2];rcases QPi j zs.length with h|h
  .rw[QOs h] at hj;rw[World.cell?_setCells_out g [_] (0+zs.length) _ ⟨g,j,none⟩ (λ_ _=>by grind),hr1.cell,hr1.get j h]
   have⟨h3,h4⟩:=QNY.1 hj;rw[h4]
  have hj':j=zs.length:=by have:=(QNY.1 hj).1;grind
  subst hj';simp at hj;subst hj
  have:=World.cell?_setCells_in g [Value.int .i64 x] (0+zs.length) w (λk hk=>by simp at hk;subst hk;rw[hr1.cell,QOR (by have:=hr1.size;omega)];rfl) 0 (by simp)
  simpa using this
 rcases hrow with ⟨_,h⟩|⟨g,cap,cur,hr1,hfr⟩
 .grind
 have hv:=hr1.v;have hm:=hr1.max;have hle:=hr1.le;have hgw:g<w.heap.size:=(QN8.1 hr1.at_).1;have hne:vb≠g:=λe=>hlaid.apart 0 1 (Xt zs mv) (Xt [x] mv') g (by simp) rfl rfl (by rw[hL,hv];simp[Lay.has,Value.ownBlock]) (by rw[hL',e];simp[Lay.has,Value.ownBlock]);have hc:∀j v,(zs.map (Value.int .i64))[j]?=some v->w.cell? ⟨g,0+j,none⟩=some v:=λj v hj=>by rw[QN6,QN2] at hj;obtain⟨z,hz,rfl⟩:=hj;have⟨h1,h2⟩:=QNY.1 hz;rw[QOn,hr1.cell,hr1.get j h1,h2]
 have hmid:∀j z,(zs.take i++x::zs.drop i)[j]?=some z->(j<i/\zs[j]?=some z)\/(j=i/\z=x)\/(i+1<=j/\(zs.drop i)[j-(i+1)]?=some z):=λj z hj=>by
  rcases Nat.lt_trichotomy j i with h|h|h
  .rw[QOs (by simp;omega),QOS,if_pos h] at hj;grind
  .subst h;rw[QOm (by simp;omega),QPj,QPK (by omega),Nat.sub_self] at hj;grind
  rw[QOm (by simp;omega),QPj,QPK (by omega)] at hj;obtain⟨k,rfl⟩:∃k,j=i+1+k:=⟨j-(i+1),by omega⟩;rw[show i+1+k-i=k+1 by omega,List.getElem?_cons_succ] at hj;exact .inr (.inr ⟨by omega,by rw[show i+1+k-(i+1)=k by omega];exact hj⟩)
 rcases QPi zs.length cap with hcap|hcap
 ·
  have hsome:∀j,j<zs.length+1->(w.cell? ⟨g,0+j,none⟩).isSome=true:=λj hj=>by rw[QOn,hr1.cell,QOR (by have:=hr1.size;omega)];rfl
  have h0:=hshift g zs.length cap i vb vc (zs.map (.int .i64)) (.int .i64 x) w y9 (by omega) (by omega) hne (by simp) hc hsome (λj _=>hr1.frozen _) hx onev hone 3 3 cur'.size cur.size
   (by simp[World.shape?,hr2.at_]) (by simp[World.shape?,hr1.at_]) (by have:=hr1.size;omega) (hr2.frozen _) (hr2.frozen _)
  rw[<- hv] at h0;refine h0.mono λe w' ⟨h1,h2⟩=>?_;subst h1;have hk:Zv (FrO w (Qc [(0,Xt zs mv),(1,Xt [x] mv')]) L) w w':=by have k1:=Xg (Fr:=FrO w (Qc [(0,Xt zs mv),(1,Xt [x] mv')]) L) hfr ((zs.map (Value.int .i64)).drop i) (0+(i+1)) w.drew;have k2:=Xg (Fr:=FrO w (Qc [(0,Xt zs mv),(1,Xt [x] mv')]) L) hfr [Value.int .i64 x] (0+i) (w.drew.setCells g (0+(i+1)) ((zs.map (Value.int .i64)).drop i));rw[h2];exact⟨k2.os.trans k1.os,k2.tape.trans k1.tape,k2.output.trans k1.output,QOz k1.size k2.size,λk hk=>(k2.block k hk).trans (k1.block k hk)⟩
  refine inplace g cap cur w' hr1 hfr hk (by omega) λj z hj=>?_;have in1:∀k,k<((zs.map (Value.int .i64)).drop i).length->(w.drew.cell? ⟨g,0+(i+1)+k,none⟩).isSome=true:=λk hk=>by
   have:=hsome (i+1+k) (by simp at hk;omega);rw[show 0+(i+1)+k=0+(i+1+k) by omega]
   exact this
  have sm1:∀k,(w.cell? ⟨g,k,none⟩).isSome=true->((w.drew.setCells g (0+(i+1)) ((zs.map (Value.int .i64)).drop i)).cell? ⟨g,k,none⟩).isSome=true:=λk hk=>by
   by_cases hin:0+(i+1)<=k/\k<0+(i+1)+((zs.map (Value.int .i64)).drop i).length
   .have:=World.cell?_setCells_in g _ (0+(i+1)) w.drew in1 (k-(0+(i+1))) (by omega);rw[show 0+(i+1)+(k-(0+(i+1)))=k by omega] at this;rw[this];rfl
   rw[World.cell?_setCells_out g _ (0+(i+1)) w.drew ⟨g,k,none⟩ (λ_ _=>by grind)]
   exact hk
  rw[h2];rcases hmid j z hj with ⟨h3,h4⟩|⟨h3,h4⟩|⟨h3,h4⟩
  .rw[World.cell?_setCells_out g [_] (0+i) _ ⟨g,j,none⟩ (λ_ _=>by grind),World.cell?_setCells_out g _ (0+(i+1)) w.drew ⟨g,j,none⟩ (λ_ _=>by grind)]
   have:=hc j (.int .i64 z) (by simp[h4]);rw[QOn] at this;exact this
  .subst h3 h4
   have:=World.cell?_setCells_in g [Value.int .i64 z] (0+j) (w.drew.setCells g (0+(j+1)) ((zs.map (Value.int .i64)).drop j)) (λk hk=>sm1 _ (by have:=hsome j (by omega);simp at hk;subst hk;simpa using this)) 0 (by simp)
   simpa using this
  obtain⟨k,rfl⟩:∃k,j=i+1+k:=⟨j-(i+1),by omega⟩;rw[show i+1+k-(i+1)=k by omega] at h4;have hkl:=(QNY.1 h4).1;rw[World.cell?_setCells_out g [_] (0+i) _ ⟨g,i+1+k,none⟩ (λ_ _=>by show i+1+k<_\/_<=i+1+k;simp)];have:=World.cell?_setCells_in g ((zs.map (Value.int .i64)).drop i) (0+(i+1)) w.drew in1 k (by simpa using hkl);rw[QOn] at this;rw[QOn,this];have h5:(List.drop i (zs.map (Value.int .i64)))[k]?=some (.int .i64 z):=by rw[<- List.map_drop,QN6,h4];rfl
  rw[QNX (by simpa using hkl)] at h5;exact h5
 have hcap':cap=zs.length:=by omega
 have h0:=hgrow g zs.length cap i vb vc (zs.map (.int .i64)) (.int .i64 x) w y9 (by omega) (by omega) (by omega) (by simp) hc hx onev hone;rw[<- hv] at h0;have hgc1:=grownCap_ge w (zs.length+1) cap 3;have hgc2:=grownCap_le_maxLen w (zs.length+1) cap 3 (by omega);generalize grownCap w (zs.length+1) cap 3=G at *;refine h0.mono λe w' ⟨h1,h2⟩=>?_;subst h1;obtain⟨ROW,hROW⟩:∃ROW:Array Value,ROW=((zs.map (Value.int .i64)).take i).toArray++Builtin.zeroCells (Value.int .i64 0).cells (zs.length+1-i)++Builtin.zeroCells (Value.int .i64 0).cells (G-(zs.length+1)):=⟨_,rfl⟩;rw[<- hROW] at h2;have hRs:zs.length+1<=ROW.size:=by rw[hROW];simp[Builtin.zeroCells,Value.cells];omega
 have hRt:∀j z,j<i->zs[j]?=some z->ROW[j]?=some (.int .i64 z):=λj z hj hz=>by
  rw[hROW,Array.append_assoc,Array.getElem?_append_left (by simp;omega)]
  simp[QOS,hj,hz]
 have hN:∀j,j<zs.length+1->((w.alloc (.cells ROW 3)).cell? ⟨w.heap.size,j,none⟩).isSome=true:=λj hj=>by rw[World.cell?_alloc_at (w:=w) ROW _ w.heap.size j rfl,QOR (by omega)];rfl
 obtain⟨W1,hW1⟩:∃W1,W1=(w.alloc (.cells ROW 3)).drew.setCells w.heap.size i [Value.int .i64 x]:=⟨_,rfl⟩;rw[<- hW1] at h2;have hkA:Zv (λb=>b<w.heap.size) w (w.alloc (.cells ROW 3)):=QeS w _;have hk1:Zv (λb=>b<w.heap.size) w W1:=by have k2:=Xg (Fr:=λb=>b<w.heap.size) (g:=w.heap.size) (by simp) [Value.int .i64 x] i (w.alloc (.cells ROW 3)).drew;rw[hW1];exact⟨k2.os.trans hkA.os,k2.tape.trans hkA.tape,k2.output.trans hkA.output,QOz hkA.size k2.size,λk hk=>(k2.block k hk).trans (hkA.block k hk)⟩
 have hk2:Zv (λb=>b<w.heap.size) w w':=by have k2:=Xg (Fr:=λb=>b<w.heap.size) (g:=w.heap.size) (by simp) ((zs.map (Value.int .i64)).drop i) (i+1) W1.drew;rw[h2];exact⟨k2.os.trans hk1.os,k2.tape.trans hk1.tape,k2.output.trans hk1.output,QOz hk1.size k2.size,λk hk=>(k2.block k hk).trans (hk1.block k hk)⟩
 have sm1:∀k,k<zs.length+1->(W1.cell? ⟨w.heap.size,k,none⟩).isSome=true:=λk hk=>by
  rw[hW1];by_cases hin:k=i
  .subst hin;have:=World.cell?_setCells_in w.heap.size [Value.int .i64 x] k (w.alloc (.cells ROW 3)).drew (λt ht=>by simp at ht;subst ht;exact hN k hk) 0 (by simp);rw[QPd] at this;rw[this];rfl
  rw[World.cell?_setCells_out w.heap.size [_] i _ ⟨w.heap.size,k,none⟩ (λ_ _=>by show k<_\/_<=k;simp;omega)]
  exact hN k hk
 refine fresh w' G hk2 hgc1 hgc2 λj z hj=>?_;have in2:∀k,k<((zs.map (Value.int .i64)).drop i).length->(W1.drew.cell? ⟨w.heap.size,i+1+k,none⟩).isSome=true:=λk hk=>sm1 _ (by simp at hk;omega);rw[h2];rcases hmid j z hj with ⟨h3,h4⟩|⟨h3,h4⟩|⟨h3,h4⟩
 .rw[World.cell?_setCells_out w.heap.size _ (i+1) W1.drew ⟨w.heap.size,j,none⟩ (λ_ _=>by grind)]
  show W1.cell? _=_;rw[hW1,World.cell?_setCells_out w.heap.size [_] i _ ⟨w.heap.size,j,none⟩ (λ_ _=>by grind)]
  show(w.alloc (.cells ROW 3)).cell? _=_;rw[World.cell?_alloc_at (w:=w) ROW _ w.heap.size j rfl];exact hRt j z h3 h4
 .subst h3 h4;rw[World.cell?_setCells_out w.heap.size _ (j+1) W1.drew ⟨w.heap.size,j,none⟩ (λ_ _=>by grind)]
  show W1.cell? _=_;rw[hW1];have:=World.cell?_setCells_in w.heap.size [Value.int .i64 z] j (w.alloc (.cells ROW 3)).drew (λt ht=>by simp at ht;subst ht;exact hN j (by omega)) 0 (by simp);simpa using this
 obtain⟨k,rfl⟩:∃k,j=i+1+k:=⟨j-(i+1),by omega⟩;rw[show i+1+k-(i+1)=k by omega] at h4;have hkl:=(QNY.1 h4).1;have:=World.cell?_setCells_in w.heap.size ((zs.map (Value.int .i64)).drop i) (i+1) W1.drew in2 k (by simpa using hkl);rw[this]
 have h5:(List.drop i (zs.map (Value.int .i64)))[k]?=some (.int .i64 z):=by rw[<- List.map_drop,QN6,h4];rfl
 rw[QNX (by simpa using hkl)] at h5;exact h5
end
end Go.Ev
namespace Go.Pf
open Go Go.Proofs Go.Shelf Go.RowKit Go.Lib Go.Proofs.Tryz
set_option linter.unusedVariables false
set_option linter.unusedSimpArgs false
def i3z:(prog.info? 3).map (λi=>(i.zero,i.size,i.bytes))=some (some (Value.int IntKind.i64 0),1,8):=by kernel_rfl
def QmH:prog.follows .mixedOrders=true:=by kernel_rfl
set_option maxHeartbeats 4000000 in
theorem QcN(b off n c i vb voff m vc:Nat)(cs vs:List Value)(w:World)(hi:i<n)(hm:0<m)(hroom:n+m<=c)(hc63:c<=9223372036854775807)(hvb:vb≠b)
  (hcl:cs.length=n)(hvl:vs.length=m)
  (hcs:∀j v,cs[j]?=some v->w.cell? ⟨b,off+j,none⟩=some v)(hsp:∀j,j<n+m->(w.cell? ⟨b,off+j,none⟩).isSome=true)(hfz:∀j,j<n+m->w.frozen? ⟨b,off+j,none⟩=false)
  (hvs:∀j v,vs[j]?=some v->w.cell? ⟨vb,voff+j,none⟩=some v)(h1c:∀v∈cs,v.oneCell'=true)(h1v:∀v∈vs,v.oneCell'=true)
  (tA tB:TypeId)(kA kB:Nat)(hsa:w.shape? vb=some (tA,kA))(hsb:w.shape? b=some (tB,kB))(hkB:kB≠0)(hfa:w.frozen? ⟨vb,voff,none⟩=false)(hfe:w.frozen? ⟨vb,kA,none⟩=false):
  Calls prog 378 #[.slice (some ⟨b,off,none⟩) n c,.int .i64 i,.slice (some ⟨vb,voff,none⟩) m vc] w λe w'=>e=.returned (.slice (some ⟨b,off,none⟩) (n+m) c)/\w'=(w.drew.setCells b (off+(i+m)) (cs.drop i)).setCells b (off+i) vs:=by
 have t0:=underlying0;have a0:=isAgg0;have z0:=sizeOf0;have v0:=zeroValue0;have t3:=underlying3;have a3:=isAgg3;have z3:=sizeOf3;have v3:=zeroValue3;have t4:=underlying4;have a4:=isAgg4;have z4:=sizeOf4;have v4:=zeroValue4;have t186:=underlying218;have a186:=isAgg218;have z186:=sizeOf218;have v186:=zeroValue218;have t74:=underlying45;have a74:=isAgg45;have z74:=sizeOf45;have v74:=zeroValue45;have u0:=run_underlying t0;have u3:=run_underlying t3;have u4:=run_underlying t4;have u186:=run_underlying t186;have u74:=run_underlying t74;have hz1:¬((m:Int)=0):=by omega
 have hz2:¬((i:Int)=(n:Int)):=by omega
 have hsz:(prog.info? 3).map (·.size)=some 1:=by have⟨i0,hi0,h0,h1,h2⟩:=info_parts i3z;grind
 have hov:∀lb cb,(callFunc 413 #[.slice (some ⟨vb,voff,none⟩) m vc,.slice (some ⟨b,off+(i+m),none⟩) lb cb]).run prog w=.ok (.value (.bool false)) w:=λlb cb=>by
  rw[run_callFunc_extern func413 (by kernel_rfl) (by kernel_rfl) (by kernel_rfl) (e:=Extern.SlicesOverlaps.overlaps #[45,45] #[4]) (by kernel_rfl),
   Lib.run_overlaps_apart w 45 4 3 t74 1 z3 ⟨vb,voff,none⟩ ⟨b,off+(i+m),none⟩ m vc lb cb hvb tA tB kA kB hsa hsb hkB hfa hfe]
  rfl
 have hdl:(cs.drop i).length=n-i:=by grind
 have mixed:=QmH;have hw1:IntKind.i64.wrap ((i:Int)+(m:Int))=(i:Int)+(m:Int):=by rw[IntKind.wrap_i64];omega
 have hb1:(0:Int)<=(i:Int)+(m:Int):=by omega
 have hin:i<=n:=by omega
 have htn:((i:Int)+(m:Int)).toNat=i+m:=by omega
 have hb2:¬(c=i+m):=by omega
 have hb3:(i:Int)<=(n:Int)+(m:Int):=by omega
 have hb4:¬(c=i):=by omega
 have hcp1:∀ty dc sc,(Builtin.copy_ #[218,218] ty #[.slice (some ⟨b,off+(i+m),none⟩) (n+m-(i+m)) dc,.slice (some ⟨b,off+i,none⟩) (n+m-i) sc]).run prog w.drew=.ok (goInt (cs.drop i).length) (w.drew.setCells b (off+(i+m)) (cs.drop i)):=λty dc sc=>
  run_copy_cells w.drew _ _ ty 3 b (off+(i+m)) (n+m-(i+m)) dc ⟨b,off+i,none⟩ (n+m-i) sc (cs.drop i) t186 hsz (by grind)
   (λj v hj=>by rw[Addr.add_lit,QPa];exact hcs (i+j) v (by grind))
   (λj hj=>by rw[QPa];exact hsp _ (by omega)) (λj hj=>by rw[QPa];exact hfz _ (by omega)) (λv hv=>h1c v (QOW hv))
 obtain⟨W1,hW1⟩:∃W1,W1=w.drew.setCells b (off+(i+m)) (cs.drop i):=⟨_,rfl⟩;have hsp1:∀k,k<n+m->(W1.cell? ⟨b,off+k,none⟩).isSome=true:=λk hk=>by rw[hW1];exact isSome_setCells b _ _ _ (λj hj=>by rw[QPa];exact hsp _ (by omega)) _ (hsp k hk)
 have hcp2:∀(W:World),(∀x,W.cell? x=W1.cell? x)->(∀x,W.frozen? x=W1.frozen? x)->∀ty dc,(Builtin.copy_ #[218,45] ty #[.slice (some ⟨b,off+i,none⟩) (n+m-i) dc,.slice (some ⟨vb,voff,none⟩) m vc]).run prog W=.ok (goInt vs.length) (W.setCells b (off+i) vs):=λW hWc hWf ty dc=>
  run_copy_cells W _ _ ty 3 b (off+i) (n+m-i) dc ⟨vb,voff,none⟩ m vc vs t186 hsz (by grind)
   (λj v hj=>by
     rw[Addr.add_lit,hWc,hW1,World.cell?_setCells_out b _ _ _ _ (λh _=>absurd h hvb)]
     exact hvs j v hj)
   (λj hj=>by rw[hWc,QPa];exact hsp1 _ (by omega)) (λj hj=>by rw[hWf,hW1,World.frozen?_setCells,QPa];exact hfz _ (by omega)) h1v
 rw[<- hW1] at hcp1
 go_enter func378,ntmps378
 go_wp2_with (simp only[hov])
 go_region_law_o (refine step_copy_runI rfl _ _ 218 218 rfl _ _ (by simp[Act.eval,Act.put]) (by simp[Act.eval,Act.put]) (hcp1 _ _ _) ?_)
 go_wp2_with (at_builtin;refine wpList_copy_runI _ rfl _ _ 218 45 rfl _ _ rfl rfl (hcp2 _ (λ_=>rfl) (λ_=>rfl) _ _) ?_)
 go_ret
 first|exact⟨rfl,rfl⟩|exact⟨rfl,by rw[hW1]⟩
set_option maxHeartbeats 4000000 in
theorem qm(b off n c vb voff m vc:Nat)(vs:List Value)(w:World)(hm:0<m)(hroom:n+m<=c)(hc63:c<=9223372036854775807)
  (hvl:vs.length=m)(hsp:∀j,j<m->(w.cell? ⟨b,off+n+j,none⟩).isSome=true)(hfz:∀j,j<m->w.frozen? ⟨b,off+n+j,none⟩=false)
  (hvs:∀j v,vs[j]?=some v->w.cell? ⟨vb,voff+j,none⟩=some v)(h1v:∀v∈vs,v.oneCell'=true):
  Calls prog 378 #[.slice (some ⟨b,off,none⟩) n c,.int .i64 n,.slice (some ⟨vb,voff,none⟩) m vc] w λe w'=>e=.returned (.slice (some ⟨b,off,none⟩) (n+m) c)/\w'=w.setCells b (off+n) vs:=by
 have t0:=underlying0;have a0:=isAgg0;have z0:=sizeOf0;have v0:=zeroValue0;have t3:=underlying3;have a3:=isAgg3;have z3:=sizeOf3;have v3:=zeroValue3;have t4:=underlying4;have a4:=isAgg4;have z4:=sizeOf4;have v4:=zeroValue4;have t186:=underlying218;have a186:=isAgg218;have z186:=sizeOf218;have v186:=zeroValue218;have t74:=underlying45;have a74:=isAgg45;have z74:=sizeOf45;have v74:=zeroValue45;have u0:=run_underlying t0;have u3:=run_underlying t3;have u4:=run_underlying t4;have u186:=run_underlying t186;have u74:=run_underlying t74;have mixed:=QmH;have hz1:¬((m:Int)=0):=by omega
 have hsrc:Src prog 1 45 (.slice (some ⟨vb,voff,none⟩) m vc) m vs w:=Src.ofSlice w t74 ⟨vb,voff,none⟩ m vc vs (by omega) (λj u hj=>by rw[Addr.add_lit];exact hvs j u hj) h1v
 go_enter func378,ntmps378
 go_wp2_with (at_builtin;refine wpList_append_room1 _ rfl _ _ 218 45 rfl 3 _ _ t186 i3z b off n c rfl _ rfl m vs hsrc hroom (by grind) (by grind) ?_)
 go_ret
 exact⟨rfl,rfl⟩
set_option maxHeartbeats 4000000 in
theorem qn(base:Option Addr)(n c vb voff m vc:Nat)(cs vs:List Value)(w:World)(hm:0<m)(hnc:n<=c)(hroom:c<n+m)(hbig:(n+m)*8<=140737488355328)
  (hcl:cs.length=n)(hvl:vs.length=m)(hnil:base=none->n=0)
  (hcs:∀a,base=some a->∀j v,cs[j]?=some v->w.cell? (a.add j)=some v)
  (hvs:∀j v,vs[j]?=some v->w.cell? ⟨vb,voff+j,none⟩=some v)(h1v:∀v∈vs,v.oneCell'=true):
  Calls prog 378 #[.slice base n c,.int .i64 n,.slice (some ⟨vb,voff,none⟩) m vc] w λe w'=>
   e=.returned (.slice (some ⟨w.heap.size,0,none⟩) (n+m) (grownCap w (n+m) c 3)) /\
   w'=w.drew.alloc (.cells ((cs++vs).toArray++Builtin.zeroCells (Value.int .i64 0).cells (grownCap w (n+m) c 3-(n+m))) 3):=by
 have t0:=underlying0;have a0:=isAgg0;have z0:=sizeOf0;have v0:=zeroValue0;have t3:=underlying3;have a3:=isAgg3;have z3:=sizeOf3;have v3:=zeroValue3;have t4:=underlying4;have a4:=isAgg4;have z4:=sizeOf4;have v4:=zeroValue4;have t186:=underlying218;have a186:=isAgg218;have z186:=sizeOf218;have v186:=zeroValue218;have t74:=underlying45;have a74:=isAgg45;have z74:=sizeOf45;have v74:=zeroValue45;have u0:=run_underlying t0;have u3:=run_underlying t3;have u4:=run_underlying t4;have u186:=run_underlying t186;have u74:=run_underlying t74;have mixed:=QmH;have⟨i0,hi0,hz0,hzs,hzb⟩:=info_parts i3z;have hz1:¬((m:Int)=0):=by omega
 have hsrc:Src prog i0.size 45 (.slice (some ⟨vb,voff,none⟩) m vc) m vs w:=by rw[hzs];exact Src.ofSlice w t74 ⟨vb,voff,none⟩ m vc vs (by omega) (λj u hj=>by rw[Addr.add_lit];exact hvs j u hj) h1v
 have hold:(Builtin.firstCells i0.size n (.slice base n c)).run prog w.drew=.ok cs.toArray w.drew:=by
  rw[hzs];cases base with
  |none=>have h0:=hnil rfl;subst h0;rw[List.length_eq_zero_iff.1 hcl];exact run_firstCells_none w.drew 1 0 0 c
  |some a=>exact run_firstCells_some w.drew 1 n a n c cs (by omega) (λj v hj=>hcs a rfl j v hj)
 have hrun:∀ty,(Builtin.append_ #[218,45] ty #[.slice base n c,.slice (some ⟨vb,voff,none⟩) m vc]).run prog w=_:=λty=>run_append_grow_src w 218 45 ty 3 i0 _ t186 hi0 hz0 base n c cs hold _ m vs hsrc hroom (by omega) (by rw[hzb];exact growslice_fits hroom hbig)
 go_enter func378,ntmps378
 cases base with
 |none=>
  have h0:=hnil rfl;subst h0
  go_wp2_with (at_builtin;refine Lib.wpList_append_run _ rfl _ _ _ _ rfl _ _ rfl rfl _ _ (hrun _) ?_)
  go_ret
  exact⟨rfl,rfl⟩
 |some a=>
  have⟨ab,ao,asp⟩:=a
  go_wp2_with (at_builtin;refine Lib.wpList_append_run _ rfl _ _ _ _ rfl _ _ rfl rfl _ _ (hrun _) ?_)
  all_goals (go_ret;exact⟨rfl,rfl⟩)
set_option maxHeartbeats 4000000 in
theorem QdF(b off n c i vb voff m vc:Nat)(cs vs:List Value)(w:World)(hi:i<n)(hm:0<m)(hnc:n<=c)(hroom:c<n+m)(hbig:(n+m)*8<=140737488355328)
  (hcl:cs.length=n)(hvl:vs.length=m)
  (hcs:∀j v,cs[j]?=some v->w.cell? ⟨b,off+j,none⟩=some v)
  (hvs:∀j v,vs[j]?=some v->w.cell? ⟨vb,voff+j,none⟩=some v)(h1c:∀v∈cs,v.oneCell'=true)(h1v:∀v∈vs,v.oneCell'=true):
  Calls prog 378 #[.slice (some ⟨b,off,none⟩) n c,.int .i64 i,.slice (some ⟨vb,voff,none⟩) m vc] w λe w'=>
   e=.returned (.slice (some ⟨w.heap.size,0,none⟩) (n+m) (grownCap w (n+m) c 3)) /\
   w'=(((w.alloc (.cells ((cs.take i).toArray++Builtin.zeroCells (Value.int .i64 0).cells (n+m-i)++Builtin.zeroCells (Value.int .i64 0).cells (grownCap w (n+m) c 3-(n+m))) 3)).drew.setCells w.heap.size i vs).drew).setCells w.heap.size (i+m) (cs.drop i):=by
 have t0:=underlying0;have a0:=isAgg0;have z0:=sizeOf0;have v0:=zeroValue0;have t3:=underlying3;have a3:=isAgg3;have z3:=sizeOf3;have v3:=zeroValue3;have t4:=underlying4;have a4:=isAgg4;have z4:=sizeOf4;have v4:=zeroValue4;have t186:=underlying218;have a186:=isAgg218;have z186:=sizeOf218;have v186:=zeroValue218;have t74:=underlying45;have a74:=isAgg45;have z74:=sizeOf45;have v74:=zeroValue45;have u0:=run_underlying t0;have u3:=run_underlying t3;have u4:=run_underlying t4;have u186:=run_underlying t186;have u74:=run_underlying t74;have mixed:=QmH;have⟨i0,hi0,hz0,hzs,hzb⟩:=info_parts i3z;have hz1:¬((m:Int)=0):=by omega
 have hz2:¬((i:Int)=(n:Int)):=by omega
 have hz3:(c:Int)<(n:Int)+(m:Int):=by omega
 have hsz:(prog.info? 3).map (·.size)=some 1:=by grind
 have hbw:b<w.heap.size:=block_lt_of_cell (hcs 0 _ (QNX (by omega)));have hvw:vb<w.heap.size:=block_lt_of_cell (hvs 0 _ (QNX (by omega)));have hkk:(n:Int)+(m:Int)-(i:Int)=((n+m-i:Nat):Int):=by omega
 have hik:i+(n+m-i)=n+m:=by omega
 have hold:(Builtin.firstCells i0.size i (.slice (some ⟨b,off,none⟩) i c)).run prog w.drew=.ok (cs.take i).toArray w.drew:=by
  rw[hzs]
  exact run_firstCells_some w.drew 1 i ⟨b,off,none⟩ i c (cs.take i) (by grind) (λj v hj=>by
   rw[Addr.add_lit];rw[QOS] at hj;split at hj
   .exact hcs j v hj
   cases hj)
 have hrz:∀ty,(Builtin.append_ #[218,3] ty #[.slice (some ⟨b,off,none⟩) i c,.int .i64 ((n:Int)+(m:Int)-(i:Int))]).run prog w =
   .ok (.slice (some ⟨w.heap.size,0,none⟩) (n+m) (grownCap w (n+m) c 3)) (w.drew.alloc (.cells ((cs.take i).toArray++Builtin.zeroCells (Value.int .i64 0).cells (n+m-i)++Builtin.zeroCells (Value.int .i64 0).cells (grownCap w (n+m) c 3-(n+m))) 3)):=λty=>by
  have h:=Lib.run_append_grow_zeros w 218 3 ty 3 i0 _ .i64 .i64 t186 t3 hi0 hz0 (some ⟨b,off,none⟩) i c (cs.take i) hold (n+m-i) (by omega) (by omega) (by omega) (by omega) (by rw[hzb];omega) (by rw[hzb,hik];exact growslice_fits hroom hbig);grind
 obtain⟨G,hG⟩:∃G,G=grownCap w (n+m) c 3:=⟨_,rfl⟩;obtain⟨ROW,hROW⟩:∃ROW:Array Value,ROW=(cs.take i).toArray++Builtin.zeroCells (Value.int .i64 0).cells (n+m-i)++Builtin.zeroCells (Value.int .i64 0).cells (G-(n+m)):=⟨_,rfl⟩;rw[<- hG] at hrz |-;rw[<- hROW] at hrz |-
 have hRl:n+m<=ROW.size:=by rw[hROW];simp[Builtin.zeroCells,Value.cells];omega
 obtain⟨W1,hW1⟩:∃W1,W1=w.drew.alloc (.cells ROW 3):=⟨_,rfl⟩;rw[<- hW1] at hrz;have hN:∀j,j<n+m->(W1.cell? ⟨w.heap.size,j,none⟩).isSome=true:=λj hj=>by rw[hW1,World.cell?_alloc_at (w:=w.drew) ROW _ w.heap.size j rfl,QOR (by omega)];rfl
 have hNf:∀j,W1.frozen? ⟨w.heap.size,j,none⟩=false:=λj=>by rw[hW1];exact World.frozen?_alloc_at (w:=w.drew) ROW _ w.heap.size j rfl
 have hOb:∀j v,w.cell? ⟨b,j,none⟩=some v->W1.cell? ⟨b,j,none⟩=some v:=λj v h=>by rw[hW1,World.cell?_alloc_past (w:=w.drew) _ b j hbw];exact h
 have hOv:∀j v,w.cell? ⟨vb,j,none⟩=some v->W1.cell? ⟨vb,j,none⟩=some v:=λj v h=>by rw[hW1,World.cell?_alloc_past (w:=w.drew) _ vb j hvw];exact h
 have hcpA:∀(W:World),(∀x,W.cell? x=W1.cell? x)->(∀x,W.frozen? x=W1.frozen? x)->∀ty dc,(Builtin.copy_ #[218,45] ty #[.slice (some ⟨w.heap.size,i,none⟩) (n+m-i) dc,.slice (some ⟨vb,voff,none⟩) m vc]).run prog W=.ok (goInt vs.length) (W.setCells w.heap.size i vs):=λW hWc hWf ty dc=>
  run_copy_cells W _ _ ty 3 w.heap.size i (n+m-i) dc ⟨vb,voff,none⟩ m vc vs t186 hsz (by grind)
   (λj v hj=>by rw[Addr.add_lit,hWc];grind)
   (λj hj=>by grind) (λj hj=>by grind) h1v
 have hGn:n+m<=G:=by rw[hG];exact grownCap_ge w _ _ _
 have hG63:G<=9223372036854775807:=by have:=grownCap_le_maxLen w (n+m) c 3 (by unfold maxLen;omega);rw[<- hG] at this;unfold maxLen at this;omega
 have hGi:¬(G=i):=by omega
 have hGim:¬(G=i+m):=by omega
 have hci:¬(c=i):=by omega
 have hbN:b≠w.heap.size:=by omega
 have hdl:(cs.drop i).length=n-i:=by grind
 have hcpB:∀(W:World),(∀x,W.cell? x=(W1.setCells w.heap.size i vs).cell? x)->(∀x,W.frozen? x=(W1.setCells w.heap.size i vs).frozen? x)->∀ty dc sc,(Builtin.copy_ #[218,218] ty #[.slice (some ⟨w.heap.size,i+m,none⟩) (n+m-(i+m)) dc,.slice (some ⟨b,off+i,none⟩) (n-i) sc]).run prog W=.ok (goInt (cs.drop i).length) (W.setCells w.heap.size (i+m) (cs.drop i)):=λW hWc hWf ty dc sc=>
  run_copy_cells W _ _ ty 3 w.heap.size (i+m) (n+m-(i+m)) dc ⟨b,off+i,none⟩ (n-i) sc (cs.drop i) t186 hsz (by grind)
   (λj v hj=>by
     rw[Addr.add_lit,hWc,World.cell?_setCells_out _ _ _ _ _ (λh _=>absurd h hbN),QPa]
     grind)
   (λj hj=>by rw[hWc];exact isSome_setCells _ _ _ _ (λt ht=>hN _ (by omega)) _ (hN _ (by omega)))
   (λj hj=>by rw[hWf,World.frozen?_setCells];exact hNf _) (λv hv=>h1c v (QOW hv))
 subst hW1;have hE1:∀x,((w.alloc (.cells ROW 3)).drew).cell? x=(w.drew.alloc (.cells ROW 3)).cell? x:=λx=>rfl;have hE2:∀x,((w.alloc (.cells ROW 3)).drew).frozen? x=(w.drew.alloc (.cells ROW 3)).frozen? x:=λx=>rfl;have hF1:∀x,(((w.alloc (.cells ROW 3)).drew.setCells w.heap.size i vs).drew).cell? x=((w.drew.alloc (.cells ROW 3)).setCells w.heap.size i vs).cell? x:=λx=>rfl;have hF2:∀x,(((w.alloc (.cells ROW 3)).drew.setCells w.heap.size i vs).drew).frozen? x=((w.drew.alloc (.cells ROW 3)).setCells w.heap.size i vs).frozen? x:=λx=>rfl;have hw1:IntKind.i64.wrap ((i:Int)+(m:Int))=(i:Int)+(m:Int):=by rw[IntKind.wrap_i64];omega
 have hb1:(0:Int)<=(i:Int)+(m:Int):=by omega
 have hin:i<=n:=by omega
 have htn:((i:Int)+(m:Int)).toNat=i+m:=by omega
 have hb3:(i:Int)<=(n:Int):=by omega
 clear hkk hik hold hROW hG hRl
 go_enter func378,ntmps378
 go_wp2_with (first
  |(at_builtin;refine Lib.wpList_append_run _ rfl _ _ _ _ rfl _ _ rfl rfl _ _ (hrz _) ?_)
  |(at_builtin;refine wpList_copy_runI _ rfl _ _ 218 45 rfl _ _ rfl rfl (hcpA _ hE1 hE2 _ _) ?_)
  |(at_builtin;refine wpList_copy_runI _ rfl _ _ 218 218 rfl _ _ rfl rfl (hcpB _ (λ_=>rfl) (λ_=>rfl) _ _ _) ?_))
 go_region_law_o (refine step_copy_runI rfl _ _ 218 218 rfl (.slice (some ⟨w.heap.size,i+m,none⟩) (n+m-(i+m)) (G-(i+m))) (.slice (some ⟨b,off+i,none⟩) (n-i) (c-i)) (by simp[Act.eval,Act.put]) (by simp[Act.eval,Act.put]) (hcpB _ hF1 hF2 3 (G-(i+m)) (c-i)) ?_)
 go_wp2
 go_ret
 exact⟨rfl,rfl⟩
end Go.Pf
namespace Go.Pf
open Go Go.Ev Go.Proofs Go.RowKit Go.Shelf Go.Proofs.Tryz
noncomputable def QIG:TypeInfo:=(prog.info? 3).get (by kernel_rfl)
section
variable{K:World->Prop}
def Qt7(zs:List Int)(mv:Nat):Y0 prog K 381 [.yl 0 zs.length] [(0,Xt zs mv)] [0] (.iv (.xf [])) [(0,Xt zs.reverse zs.length)]:=Qfi (λa cap w=>AnyE.slices_Reverse_empty Tryz.rev381 a cap w) (λblk off cap zs w hh hl=>AnyE.slices_Reverse Tryz.rev381 (Value.int .i64) (λ_=>rfl) blk off cap zs w hh hl) zs mv
def Qt8(zs:List Int)(mv i:Nat)(hi:i<zs.length):Y0 prog K 380 [.yl 0 zs.length,.iv (.int .i64 (i:Nat)),.iv (.int .i64 ((i+1:Nat):Int))] [(0,Xt zs mv)] [] (.iv (Qth (zs.eraseIdx i))) []:=Qic (λblk off cap i j d w hh h1 h2 h3 h4=>AnyE.slices_Delete Tryz.del380 (Value.int .i64) (λ_=>rfl) 0 zeroValue3 QIG (by kernel_rfl) (by kernel_rfl) blk off cap i j d w hh h1 h2 h3 h4) zs mv i hi
def Qt9(zs:List Int)(mv i:Nat)(hi:i<=zs.length)(x:Int)(mv':Nat)(hlen:zs.length<=1000000):Y0 prog K 378 [.yl 0 zs.length,.iv (.int .i64 (i:Nat)),.yl 1 1] [(0,Xt zs mv),(1,Xt [x] mv')] [] (.iv (Qth (zs.take i++x::zs.drop i))) []:=
 QhF
  (λb n c i vb vc cs x w h1 h2 h3 h4 h5 h6 h7 h8 h9 h10 h11 tA tB kA kB h12 h13 h14 h15 h16=>QcN b 0 n c i vb 0 1 vc cs [x] w h1 (by omega) h2 h3 h4 h5 rfl h6 h7 h8 h9 h10 h11 tA tB kA kB h12 h13 h14 h15 h16)
  (λb n c vb vc x w h1 h2 h3 h4 h5 h6=>qm b 0 n c vb 0 1 vc [x] w (by omega) h1 h2 rfl h3 h4 h5 h6)
  (λbase n c vb vc cs x w h1 h2 h3 h4 h5 h6 h7 h8=>qn base n c vb 0 1 vc cs [x] w (by omega) h1 h2 h3 h4 rfl h5 h6 h7 h8)
  (λb n c i vb vc cs x w h1 h2 h3 h4 h5 h6 h7 h8 h9=>QdF b 0 n c i vb 0 1 vc cs [x] w h1 (by omega) h2 h3 h4 h5 rfl h6 h7 h8 h9)
  zs mv i hi x mv' hlen
end
end Go.Pf
namespace Go.Pf
open Go Go.Ev Go.Proofs Go.RowKit Go.Proofs.Tryz
def Qwk(i:Nat)(kvs:List (MK×List (List IV)))(n:Nat):List (MK×List (List IV)):=zn (.int .i64 (n:Int)) (((Qv (.int .i64 (n:Int)) kvs).getD [])++[[.int .i64 (i:Nat)]]) kvs
def prf(ds:List QB)(e:Nat->Int):Nat->List (MK×List (List IV))
 |0=>[]
 |i+1=>match ds[i]? with
  |some d=>if d.zp=4 then(cab ds e i).foldl (Qwk i) (prf ds e i) else prf ds e i
  |none=>prf ds e i
def Qmy(ds:List QB)(e:Nat->Int)(i:Nat)(h:i<ds.length):prf ds e (i+1)=if ds[i].zp=4 then(cab ds e i).foldl (Qwk i) (prf ds e i) else prf ds e i:=by simp only[prf,QNX h]
theorem Vb(n:Int)(y:List (List IV)):∀kvs:List (MK×List (List IV)),ZC (some .i64) kvs->ZC (some .i64) (zn (.int .i64 n) y kvs)
 |[],_=>⟨rfl,trivial⟩
 |p::r,h=>by
  unfold zn;split
  .exact⟨rfl,h.2⟩
  exact⟨h.1,Vb n y r h.2⟩
theorem Us(k j:MK)(y:List (List IV)):∀kvs:List (MK×List (List IV)),Qv j (zn k y kvs)=if k=j then some y else Qv j kvs
 |[]=>by simp[zn,Qv]
 |p::r=>by
  unfold zn;split
  .rename_i h;simp only[Qv];grind
  rename_i h;simp only[Qv,Us k j y r];grind
def Low(m:Nat)(kvs:List (MK×List (List IV))):Prop:=ZC (some .i64) kvs/\∀k rows,Qv k kvs=some rows->rows.length<=m
def Low.add{m i:Nat}{kvs:List (MK×List (List IV))}(h:Low m kvs)(n:Nat):Low (m+1) (Qwk i kvs n):=by
 refine⟨Vb _ _ _ h.1,λk rows hk=>?_⟩;unfold Qwk at hk;rw[Us] at hk;split at hk
 .injection hk with hk;subst hk;cases hf:Qv (.int .i64 (n:Int)) kvs with
  |none=>simp
  |some r=>have:=h.2 _ _ hf;simp;omega
 have:=h.2 _ _ hk;omega
theorem Low.fold{i:Nat}:∀(l:List Nat){m:Nat}{kvs:List (MK×List (List IV))},Low m kvs->Low (m+l.length) (l.foldl (Qwk i) kvs)
 |[],m,kvs,h=>h
 |n::l,m,kvs,h=>by have:=Low.fold (i:=i) l (h.add (i:=i) n);grind
def Low.mono{m m':Nat}{kvs:List (MK×List (List IV))}(h:Low m kvs)(hm:m<=m'):Low m' kvs:=⟨h.1,λk rows hk=>QOz (h.2 k rows hk) hm⟩
theorem QpB(ds:List QB)(e:Nat->Int)(hc:OkD ds ds.length):∀i,i<=ds.length->Low (i*ds.length) (prf ds e i)
 |0,_=>⟨trivial,λk rows h=>by simp[prf,Qv] at h⟩
 |i+1,h=>by
  have ih:=QpB ds e hc i (by omega);rw[Qmy ds e i (by omega)]
  have e1:(i+1)*ds.length=i*ds.length+ds.length:=by grind
  rw[e1];split
  .have hcl:=ZW e hc i (by omega) (by omega);have hcb:=hc.cnt i (by omega) (by omega);exact(ih.fold _).mono (by omega)
  exact ih.mono (by omega)
def Low.len{m:Nat}{kvs:List (MK×List (List IV))}(h:Low m kvs)(k:MK):((Qv k kvs).getD []).length<=m:=by
 cases hf:Qv k kvs with
 |none=>simp
 |some r=>exact h.2 _ _ hf
def Qjg(ds:List QB)(i:Nat)(h:i<ds.length):X8 (ds.take (i+1))=if ds[i].zp=1 then X8 (ds.take i)++[ds[i]] else X8 (ds.take i):=by rw[QNW h];unfold X8;rw[QOT];generalize List.filter Q8 (List.take i ds)=l;by_cases hw:ds[i].zp=1<;>simp[Q8,hw]
def Qp1(ds:List QB)(i:Nat):(X8 (ds.take i)).length=wn ds i:=by rw[Y5];rfl
@[simp] def QJy(kvs:List (MK×List (List IV))):IV:=.map (kvs.map λp=>(p.1,.sl 1 p.2))
def Qt1(n:Nat)(z:IV):Qhx (List.replicate n [AV.iv z])=some (List.replicate n [z]):=by have:=Qm (List.replicate n [z]);simpa[emb] using this
def QbG(l:List Nat)(mv:Nat):Xt (l.map λ(n:Nat)=>(n:Int)) mv=AO.arr 3 1 (emb (l.map λ(n:Nat)=>[IV.int .i64 (n:Int)])) mv:=by simp[Xt,emb]
def QhE(l:List Nat):Qth (l.map λ(n:Nat)=>(n:Int))=ZM l:=by simp[Qth]
section
variable{K:World->Prop}{C:Env->Qz->Prop}
def JP(m:Nat->Nat)(e:TypeId)(sz:Nat)(xs:List (List IV))(mv:Nat):rnO m (.arr e sz (emb xs) mv)=.arr e sz (emb xs) mv:=Qpv m e sz xs mv
def X5(dom:List Nat)(e:TypeId)(sz:Nat)(xs:List (List IV))(mv:Nat):clO dom (.arr e sz (emb xs) mv)=true:=Qr0 dom e sz xs mv
def QoG{id n mv:Nat}{d:Option Nat}{e:Env}{o:Qz}(l:List Nat)(hid:Qc o id=some (.arr 3 1 (emb (l.map λ(n:Nat)=>[IV.int .i64 (n:Int)])) mv))(hn:n=l.length)
  (h:C (bnd d (.iv (.xf [])) (Qpi (X2 [id] [0] o) e)) (QtQ [id] (X2 [id] [0] o) o [(0,.arr 3 1 (emb (l.reverse.map λ(n:Nat)=>[IV.int .i64 (n:Int)])) n)])):HK prog K 381 [id] d C e o [.yl id n]:=by
 have hg:=Qt7 (K:=K) (l.map λ(n:Nat)=>(n:Int)) mv;rw[<- List.map_reverse,QbG,QbG,QN9] at hg;subst hn;refine Qo hg (by simp[rn,nth]) ?_ ?_
 .refine⟨by simp,by simp[clA],?_,?_,by simp[Zt]⟩
  .intro p hp;simp only[QOu] at hp;subst hp;exact⟨by simp,by rw[JP];simpa[nth] using hid,X5 _ _ _ _ _,rfl⟩
  intro i hi h;simp at hi;subst hi;simp[Qc] at h
 .simpa[rn] using h
def QeL{id n mv:Nat}{d:Option Nat}{e:Env}{o:Qz}(l:List Nat)(i:Nat)(hi:i<l.length)(hid:Qc o id=some (.arr 3 1 (emb (l.map λ(n:Nat)=>[IV.int .i64 (n:Int)])) mv))(hn:n=l.length){avs:List AV}(ha:avs=[.yl id n,.iv (.int .i64 (i:Nat)),.iv (.int .i64 ((i+1:Nat):Int))])
  (h:C (bnd d (.iv (ZM (l.eraseIdx i))) (Qpi (X2 [id] [] o) e)) (QtQ [id] (X2 [id] [] o) o [])):HK prog K 380 [id] d C e o avs:=by
 have hg:=Qt8 (K:=K) (l.map λ(n:Nat)=>(n:Int)) mv i (by simpa using hi);have e1:(l.map λ(n:Nat)=>(n:Int)).eraseIdx i=(l.eraseIdx i).map λ(n:Nat)=>(n:Int):=by simp[List.eraseIdx_eq_take_drop_succ]
 rw[e1,QbG,QhE,QN9] at hg;subst hn;refine Qo hg (by rw[ha];simp[rn,nth]) ?_ ?_
 .refine⟨by simp,by simp[clA],?_,?_,by simp⟩
  .intro p hp;simp only[QOu] at hp;subst hp;exact⟨by simp,by rw[JP];simpa[nth] using hid,X5 _ _ _ _ _,rfl⟩
  intro i hi h;simp at hi;subst hi;simp[Qc] at h
 .simpa[rn] using h
def QeK{id id' n mv mv':Nat}{d:Option Nat}{e:Env}{o:Qz}(l:List Nat)(i:Nat)(hi:i<=l.length)(x:Nat)(hlen:l.length<=1000000)(hne:id≠id')(hid:Qc o id=some (.arr 3 1 (emb (l.map λ(n:Nat)=>[IV.int .i64 (n:Int)])) mv))(hid':Qc o id'=some (.arr 3 1 [[.iv (.int .i64 (x:Nat))]] mv'))(hn:n=l.length)
  (h:C (bnd d (.iv (ZM (l.take i++x::l.drop i))) (Qpi (X2 [id,id'] [] o) e)) (QtQ [id,id'] (X2 [id,id'] [] o) o [])):HK prog K 378 [id,id'] d C e o [.yl id n,.iv (.int .i64 (i:Nat)),.yl id' 1]:=by
 have hg:=Qt9 (K:=K) (l.map λ(n:Nat)=>(n:Int)) mv i (by simpa using hi) x mv' (by simpa using hlen);have e1:(l.map λ(n:Nat)=>(n:Int)).take i++(x:Int)::(l.map λ(n:Nat)=>(n:Int)).drop i=(l.take i++x::l.drop i).map λ(n:Nat)=>(n:Int):=by simp
 rw[e1,QbG,QhE,QN9] at hg;subst hn;refine Qo hg (by simp[rn,nth]) ?_ ?_
 .refine⟨by simpa using hne,by simp[clA],?_,?_,by simp⟩
  .intro p hp;simp only[QN7,QOe,or_false] at hp;rcases hp with rfl|rfl
   .exact⟨by simp,by rw[JP];simpa[nth] using hid,X5 _ _ _ _ _,rfl⟩
   exact⟨by simp,by simpa[nth,rnO,rnL,rn] using hid',by simp[clO,clAL,clA],rfl⟩
  intro i hi h;simp at hi;have:i=0\/i=1:=by omega
  rcases this with rfl|rfl<;>simp[Qc] at h
 simpa[rn] using h
end
section
variable{K:World->Prop}(hK:∀w w',K w->Below w.heap.size w w'->K w')
include hK
def QyV(c:Ql)(n:Nat)(hn:n<2 ^ 63)(hc:OkD c.za c.za.length)(hl:c.za.length<=100):Gd K 342 [Qr c.za,.clo 343 [] [.ptr [.int .i64 n],.ptr (Uy c)]] (.agg (VW c.za (Zx c.za n) (QJy (prf c.za (Zx c.za n) c.za.length)))):=by
 apply Qb hK QBM (by simp);simp;intros
 refine Qe (λi=>[(1,AV.iv (.clo 343 [] [.ptr [.int .i64 n],.ptr (Uy c)])),(4,.loc 4 0),(5,.loc 5 0),(16,AV.iv (Qr c.za)),(17,AV.iv (.int .i64 c.za.length)),(18,AV.iv (.int .i64 (i:Nat)))])
  (λi=>[(4,AO.box [.iv (.sl 1 []),.iv (.sl 2 []),.iv (.map [])]),(5,AO.box [.yl 13 (i+1),.yl 6001 (X8 (c.za.take i)).length,.yk 14]),(13,AO.arr 218 1 (emb ((Qke c.za (Zx c.za n) i).map λc=>[ZM c])) 0),
    (14,.yo 3 1 (prf c.za (Zx c.za n) i) none),(6001,.arr 392 2 (emb ((X8 (c.za.take i)).map lkC)) 0)]) c.za.length (λi=>True) trivial ?_ ?_
 .intro _;rw[Qa Qky.eq_1];simp[-List.map_map,Qw,QE,QC,Qm,QN1]
 .intro i hi _ ih;have hcl:=ZW (Zx c.za n) hc i (by omega) (by omega);have hcb:=hc.cnt i (by omega) (by omega);have hd:=hc i hi hi;have hw:=QgC c.za i;have hlw:=Qp1 c.za i;have xc:=QpB c.za (Zx c.za n) hc i (by omega);have hg202:=QyU hK c n i hn hi;have hei:=QbN c.za n i hi;have hii:i*c.za.length<=100*100:=Nat.mul_le_mul (by omega) (by omega);rw[Qig,Qjg _ _ hi,UV _ _ _ hi,Qmy _ _ _ hi] at ih;rw[Qa Qky.eq_1];have hcg:(Qke c.za (Zx c.za n) i)[i]?=some (cab c.za (Zx c.za n) i):=by
   rw[QNX (by simp),VO _ _ _ _ (by omega)]
  have hcl2:=QvJ c.za (Zx c.za n) i;generalize Zx c.za n i=ei at *;generalize Qke c.za (Zx c.za n) i=cs at *;generalize prf c.za (Zx c.za n) i=kvs at *;generalize X8 (c.za.take i)=lk at *;generalize cab c.za (Zx c.za n) i=now at *
  have hcg2:cs[i]'(by omega)=now:=by grind
  have hnl:now.length<=100:=by omega
  simp[hi,hcl2,hcg2,-List.map_map,Qw,QE,QC,Qm];intro _;refine⟨by omega,?_⟩;apply QAX (rows:=List.replicate now.length [IV.int .i64 0]) (Qt1 _ _) (by simp) (by simp);rcases hd with ⟨h1,h2,h3,h4⟩|⟨h1,h2,h3,h4⟩|⟨h1,h4⟩
  .simp only[inR] at h3 h2;have hp:(if ei=1 then(now.length:Int)+1-1-c.za[i].pos else c.za[i].pos)=(plc c.za[i].pos ei (now.length+1):Nat):=by
    unfold plc;omega
   have hpl:plc c.za[i].pos ei (now.length+1)<=now.length:=QpD (by omega);have hg214:=QjB hK c.za[i].pos ei (now.length+1) (by omega) (by omega);rw[hp] at hg214;simp[JZ,h1,<- hlw] at ih;generalize plc c.za[i].pos ei (now.length+1)=at_ at *;by_cases hf:c.za[i].z2=2
   .have hg:=hg202 hf;simp[hi,hf,h1,-List.map_map,Qw,QE,QC,Qm];refine⟨by kernel_rfl,cK (by simpa using hg) ?_⟩;simp[hi,hf,h1,-List.map_map,Qw,QE,QC,Qm];intro _;refine⟨by omega,cK hg214 ?_⟩;simp[hi,hf,h1,-List.map_map,Qw,QE,QC,Qm];intro _;apply QeK (mv:=now.length) (mv':=0) now at_ hpl lk.length (by omega) (by simp) (by simp[emb,-List.map_map]) (by simp) rfl;simp[hi,hf,h1,-List.map_map,Qw,QE,QC,Qm];grind
   rw[if_neg hf] at hei;simp[hi,hf,h1,-List.map_map,Qw,QE,QC,Qm];rw[<- hei];intro _;refine⟨by omega,cK hg214 ?_⟩;simp[hi,hf,h1,-List.map_map,Qw,QE,QC,Qm];intro _;apply QeK (mv:=now.length) (mv':=0) now at_ hpl lk.length (by omega) (by simp) (by simp[emb,-List.map_map]) (by simp) rfl;simp[hi,hf,h1,-List.map_map,Qw,QE,QC,Qm];grind
  .have h11:¬c.za[i].zp=1:=by omega
   simp only[inR] at h3 h2;have hp:(if ei=1 then(now.length:Int)-1-c.za[i].pos else c.za[i].pos)=(plc c.za[i].pos ei now.length:Nat):=by unfold plc;split<;>omega
   have hpl:plc c.za[i].pos ei now.length<now.length:=Qhc (by omega);have hg214:=QjB hK c.za[i].pos ei now.length (by omega) (by omega);rw[hp] at hg214;simp[JZ,h1] at ih;generalize plc c.za[i].pos ei now.length=at_ at *;have he:now.take at_++now.drop (at_+1)=now.eraseIdx at_:=by grind
   rw[<- QPQ,<- List.map_drop,<- QOd,he] at ih;by_cases hf:c.za[i].z2=2
   .have hg:=hg202 hf;simp[hi,hf,h1,-List.map_map,Qw,QE,QC,Qm];refine⟨by kernel_rfl,cK (by simpa using hg) ?_⟩;simp[hi,hf,h1,-List.map_map,Qw,QE,QC,Qm];intro _;apply cK hg214;simp[hi,hf,h1,-List.map_map,Qw,QE,QC,Qm];refine⟨by omega,?_⟩;apply QeL (mv:=now.length) now at_ hpl (by simp[emb,-List.map_map]) rfl (by simp);simp[hi,hf,h1,-List.map_map,Qw,QE,QC,Qm];grind
   rw[if_neg hf] at hei;simp[hi,hf,h1,-List.map_map,Qw,QE,QC,Qm];rw[<- hei];intro _;apply cK hg214;simp[hi,hf,h1,-List.map_map,Qw,QE,QC,Qm];refine⟨by omega,?_⟩;apply QeL (mv:=now.length) now at_ hpl (by simp[emb,-List.map_map]) rfl (by simp);simp[hi,hf,h1,-List.map_map,Qw,QE,QC,Qm];grind
  .have hf:¬c.za[i].z2=2:=by omega
   rcases h1 with h1|h1
   .simp[JZ,h1] at ih;simp[hi,hf,h1,-List.map_map,Qw,QE,QC,Qm];apply QoG (mv:=now.length) now (by simp[emb,-List.map_map]) rfl;simp[hi,hf,h1,-List.map_map,Qw,QE,QC,Qm,QN1];grind
   .simp[JZ,h1] at ih;simp[hi,hf,h1,-List.map_map,Qw,QE,QC,Qm];intro _
    refine Qe (λk=>[(1,AV.iv (.clo 343 [] [.ptr [.int .i64 n],.ptr (Uy c)])),(4,.loc 4 0),(5,.loc 5 0),(6,AV.iv (.int .i64 (i:Nat))),(8,AV.yl 29 now.length),(16,AV.iv (Qr c.za)),(17,AV.iv (.int .i64 c.za.length)),(18,AV.iv (.int .i64 (i:Nat))),(90,AV.yl 29 now.length),(91,AV.iv (.int .i64 now.length)),(92,AV.iv (.int .i64 (k:Nat)))])
     (λk=>[(4,AO.box [.iv (.sl 1 []),.iv (.sl 2 []),.iv (.map [])]),(5,AO.box [.yl 13 (i+1),.yl 6001 lk.length,.yk 14]),(13,AO.arr 218 1 (emb (cs.map λc=>[ZM c])) 0),
       (14,.yo 3 1 ((now.take k).foldl (Qwk i) kvs) none),(29,AO.arr 3 1 (emb (now.map λ(n:Nat)=>[.int .i64 (n:Int)])) now.length),(6001,AO.arr 392 2 (emb (lk.map lkC)) 0)]) now.length (λ_=>True) trivial ?_ ?_
    .intro _;rw[Qa Qkz.eq_1];simp[-List.map_map,Qw,QE,QC,Qm,QN1];grind
    .intro k hk _ ih2;rw[Qa Qkz.eq_1];have hlk:Low (i*c.za.length+(now.take k).length) ((now.take k).foldl (Qwk i) kvs):=xc.fold _;rw[QNW hk,QOZ] at ih2;generalize(now.take k).foldl (Qwk i) kvs=kv at *;have hkl:(List.take k now).length<=100:=by simp;omega
     have hle:=hlk.len (.int .i64 (now[k]:Nat));have hkk:=hlk.1;have hkk2:=Vb (now[k]:Nat) (((Qv (.int .i64 ((now[k]:Nat):Int)) kv).getD [])++[[.int .i64 (i:Nat)]]) kv hkk;have hfm:=Us (.int .i64 ((now[k]:Nat):Int)) (.int .i64 ((now[k]:Nat):Int)) (((Qv (.int .i64 ((now[k]:Nat):Int)) kv).getD [])++[[.int .i64 (i:Nat)]]) kv;rw[if_pos rfl] at hfm;simp[Qwk] at ih2;simp[hk,hkk,hkk2,hfm,-List.map_map,Qw,QE,QC,Qm];grind
def pmC(c:Ql)(n:Nat):IV:=QJy (prf c.za (Zx c.za n) c.za.length)
def Qmj(c:Ql)(hc:OkC c):Qir K c (pmC c):=λn hn=>by have h:=hc.len;have h2:=Wk c.za;have h3:=UL (show ZF c.za<=12 by omega);exact QyV hK c n (by omega) hc.za (by omega)
end
end Go.Pf
namespace Go.Pf
open Go Go.Proofs Go.RowKit Go.Maps Go.Sort Go.Shelf
variable{P:Program}{ρ:Ren}
set_option maxHeartbeats 1000000 in
theorem Qgp(L:SlLaysZI.n10 P ρ){H:Type}(F:Fence)(n:Nat)(h10:F.fn (ρ.f 10))(hro:F.round=none)(hn:1<=n)(l Bm om b nn:Nat)(D0:DataW H){R:Value->Option (DataW H×List MemPlace)}(J:List Int->World->Prop)
  (hY:∀pre x W,J pre W->pre.length<Maps.size D0->YieldAt F (n-1) P l #[encZ x] W λe W'=>e=.returned (.bool true)/\J (pre++[x]) W'/\KeepsWalks W W')
  (W:World)(hJ:AbidesFrom W.heap.size J)(hm:W.cell? ⟨Bm,om,none⟩=some (.map (some b)))(hown:W.ownsMap P (ρ.t 26) R b nn D0)(h0:J [] W):
  CallsIn F n P (ρ.f 10) #[.func (.yield l) #[] #[],.pointer (some ⟨Bm,om,none⟩)] W λe W'=>(∃v,e=.returned v)/\∃ss:List Int,ss.Perm (intKeys D0)/\J ss W':=by
 have mixed:=L.mixed;have t0:=L.t0;have a0:=L.a0;have z0:=L.z0;have v0:=L.v0;have t4:=L.t4;have a4:=L.a4;have z4:=L.z4;have v4:=L.v4;have t23:=L.t23;have a23:=L.a23;have z23:=L.z23;have v23:=L.v23;have t26:=L.t26;have a26:=L.a26;have z26:=L.z26;have v26:=L.v26;have t33:=L.t33;have a33:=L.a33;have z33:=L.z33;have v33:=L.v33;have u0:=run_underlying L.t0;have u4:=run_underlying L.t4;have u23:=run_underlying L.t23;have u26:=run_underlying L.t26;have u33:=run_underlying L.t33;have⟨_,_,FG⟩:=L.f10;refine callsIn_of_wp FG rfl h10 ?_ hro;simp only[SlBodyZ.n10_ntmps ρ,QPs,QOi,QOE,Nat.reduceAdd,Nat.reduceSub,Array.replicate_succ,Array.replicate_zero,List.push_toArray,List.append_toArray,QOg,QOa]
 gi_wp2_with (first
  |(gi_at_range;refine wpListIn_range_own _ rfl _ (ρ.t 23) rfl (ρ.t 26) (ρ.t 3) (int_keyed L.t26) L.t23 _ b nn _ rfl hown ?_;intro w0 hrg0 hg0 hs0)
  |gi_in)
 go_frame
 gi_loopw [3] (λ_ wr=>∃(left:Lit->Bool)(cnt:Nat)(ss:List Int),wr.ranges P (ρ.t 26) R b W.heap.size nn D0 left cnt/\ss.length+cnt<=Maps.size D0/\CollectedI D0 left ss/\J ss wr)
  (λ_ wr=>wr.rangeLeft b W.heap.size)
 case atStart=>exact⟨_,_,[],hrg0,by simp,CollectedI.start D0,hJ [] W w0 none h0 hg0 (λr e=>by cases e)⟩
 case round=>
  have⟨left,cnt,ss,hrg,hcs,hC,hJs⟩:=hrel
  gi_wp2_with (first
   |(gi_at_next;refine wpListIn_next_ranges _ rfl _ rfl (ρ.t 26) (int_keyed L.t26) R encZ id (λkey kl hk=>by have⟨x,hx,_⟩:=Maps.keyOf_i64 L.t26 hk;exact⟨x,hx⟩) (λv _ _=>⟨v,rfl⟩) b W.heap.size nn _ _ _ rfl hrg ?_ ?_)
   |gi_in)
  ·
   intro hc0 hl0
   gi_wp2
   go_end0
   exact⟨⟨_,rfl⟩,ss,hC.perm hown (int_keyed L.t26) L.t26 hl0,hJs⟩
  ·
   intro x c kl yd yp w2 cnt2 hkey hlk hv hat hrg2 y9 hg2 hs2 hen;obtain⟨x',ex,rfl,_⟩:=Maps.keyOf_i64 L.t26 hkey;obtain rfl:x=x':=encZ_inj ex;have hJ2:J ss w2:=hJ ss wr w2 (some W.heap.size) hJs hg2 (λr e=>by cases e;exact⟨QN3 _,hrg.iter_walk⟩);obtain⟨fn,tmps,assign,body,hy,hR⟩:=hY ss x w2 hJ2 (by omega);clear hs2
   gi_wp2
   refine hR.mono ?_;rintro e W3 ⟨rfl,hJ3,hk3⟩
   gi_wp2
   have hrg3:=hrg2.of_walks hk3
   go_roundw
   case rel=>exact⟨_,cnt2,ss++[x],hrg3,by simp;omega,hC.step hlk hat,hJ3⟩
   case measure=>rw[hrg3.left_eq,hrg.left_eq];exact y9
set_option maxHeartbeats 1000000 in
theorem Wg(L:SlLaysZI.n10 P ρ){H:Type}(F:Fence)(n:Nat)(h10:F.fn (ρ.f 10))(hro:F.round=none)(hn:1<=n)(Bm om b nn:Nat)(D0:DataW H){R:Value->Option (DataW H×List MemPlace)}(w:World)(hBm:Bm<w.heap.size)
  (hm:w.cell? ⟨Bm,om,none⟩=some (.map (some b)))(hown:w.ownsMap P (ρ.t 26) R b nn D0):
  SeqGives F n P (ρ.f 10) #[.pointer (some ⟨Bm,om,none⟩)] encZ (λss=>ss.Perm (intKeys D0)) (Maps.size D0) w:=λl J W hW hJ hY h0=>by
 have hown':W.ownsMap P (ρ.t 26) R b nn D0:=by have hbl:=hown.lt;have⟨es,clock,hb,Ft,hs,hD⟩:=hown;exact⟨es,clock,(hW.block b hbl).trans hb,Ft,hs,hD⟩
 exact Qgp { L with } F n h10 hro hn l Bm om b nn D0 J hY W hJ ((hW.cell (p:=⟨Bm,om,none⟩) hBm).trans hm) hown' h0
set_option maxHeartbeats 1000000 in
theorem Qbo(L:SlLaysZI.n10 P ρ)(F:Fence)(n:Nat)(h10:F.fn (ρ.f 10))(hro:F.round=none)(l Bm om:Nat)(J:List Int->World->Prop)(W:World)(hJ:AbidesFrom W.heap.size J)
  (hm:W.cell? ⟨Bm,om,none⟩=some (.map none))(h0:J [] W):
  CallsIn F n P (ρ.f 10) #[.func (.yield l) #[] #[],.pointer (some ⟨Bm,om,none⟩)] W λe W'=>(∃v,e=.returned v)/\∃ss:List Int,ss=[]/\J ss W':=by
 have mixed:=L.mixed;have t0:=L.t0;have a0:=L.a0;have z0:=L.z0;have v0:=L.v0;have t4:=L.t4;have a4:=L.a4;have z4:=L.z4;have v4:=L.v4;have t23:=L.t23;have a23:=L.a23;have z23:=L.z23;have v23:=L.v23;have t26:=L.t26;have a26:=L.a26;have z26:=L.z26;have v26:=L.v26;have t33:=L.t33;have a33:=L.a33;have z33:=L.z33;have v33:=L.v33;have u0:=run_underlying L.t0;have u4:=run_underlying L.t4;have u23:=run_underlying L.t23;have u26:=run_underlying L.t26;have u33:=run_underlying L.t33;have⟨_,_,FG⟩:=L.f10;refine callsIn_of_wp FG rfl h10 ?_ hro;simp only[SlBodyZ.n10_ntmps ρ,QPs,QOi,QOE,Nat.reduceAdd,Nat.reduceSub,Array.replicate_succ,Array.replicate_zero,List.push_toArray,List.append_toArray,QOg,QOa];have hrg:=run_range_nilMap (P:=P) W (ρ.t 23) (ρ.t 26) (ρ.t 3) L.t23;have hnx:∀ty,(Instr.next (.pointer (some ⟨W.heap.size,0,none⟩)) false ty).run P (W.alloc (.mapIter none 0 #[] 0))=_:=λty=>run_next_nilMap _ ty 0 0 #[]
 gi_wp2
 refine wpIn_loop_rounds 1 ?_;rw[roundsIn_succ]
 gi_wp2
 go_end0
 exact⟨⟨_,rfl⟩,[],rfl,hJ [] W _ none h0 (World.grownBy_alloc W _ none) (λr e=>by cases e)⟩
set_option maxHeartbeats 1000000 in
theorem JM(L:SlLaysZI.n10 P ρ)(F:Fence)(n:Nat)(h10:F.fn (ρ.f 10))(hro:F.round=none)(Bm om:Nat)(w:World)(hBm:Bm<w.heap.size)(hm:w.cell? ⟨Bm,om,none⟩=some (.map none)):SeqGives F n P (ρ.f 10) #[.pointer (some ⟨Bm,om,none⟩)] encZ (λss:List Int=>ss=[]) 0 w:=λl J W hW hJ _ h0=>Qbo { L with } F n h10 hro l Bm om J W hJ ((hW.cell (p:=⟨Bm,om,none⟩) hBm).trans hm) h0
end Go.Pf
namespace Go.Proofs
open Go.Proofs.Tryz
open Go.Shelf Go.RowKit Go.Maps Go.Sort
def Tryz.sorts301(m:Nat):AnyZI.SortsIn prog Tryz.sorted213_ren Fence.wide m:=⟨λblk off cap ss W hH hblk hsz=>callsIn_wide.2 (AnyM.slices_Sort_int Tryz.sort301 blk off cap ss W hH hblk hsz),
  λp cap W=>callsIn_wide.2 (AnyM.slices_Sort_int_none Tryz.sort301 p cap W)⟩
end Go.Proofs
namespace Go.Pf
open Go Go.Ev Go.Proofs Go.RowKit Go.Shelf Go.Proofs.Tryz
def QaN(lb:Array Value)(S:List Int->Prop)(N:Nat)(hN:N<=1000000)(w:World)(hseq:SeqGives Fence.wide 2 prog 302 lb encZ S N w):Calls prog 213 #[.func (.func 302) #[] lb] w λe w'=>∃(v:Value)(ss:List Int),e=.returned v/\S ss /\
   w'.ownsRow w.heap.size 3 1 v ss.length ((ss.mergeSort (λx y=>decide (x<=y))).map encZ)/\(v=.slice none 0 0↔ss=[])/\Below w.heap.size w w':=by
 refine(callsIn_wide (n:=5)).1 ?_;exact AnyZI.sorted_in Tryz.sorted213 Fence.wide 5 trivial trivial trivial trivial rfl (by omega) (Tryz.sorts301 _) (enters_of func301 (by kernel_rfl) rfl) 302 lb trivial (enters_of func302 (by kernel_rfl) rfl) S N (by unfold maxLen;omega) (by omega) w hseq
theorem insert_perm{H:Type}(x:Lit×DataW H):∀l:List (Lit×DataW H),(DataW.insert x l).Perm (x::l)
 |[]=>List.Perm.refl _
 |y::r=>by
  unfold DataW.insert;split
  .exact List.Perm.refl _
  exact((insert_perm x r).cons y).trans (List.Perm.swap x y r)
theorem sorted_perm{H:Type}:∀l:List (Lit×DataW H),(l.foldr DataW.insert []).Perm l
 |[]=>List.Perm.refl _
 |x::r=>by rw[List.foldr_cons];exact(insert_perm x _).trans ((sorted_perm r).cons x)
def Qiw:Value->Option (DataW Nat×List MemPlace):=λ_=>some (.nil,[])
def QwI{x:MapEntry}{n:Int}(h:x.key=.int .i64 n)(hn: -9223372036854775808<=n/\n<9223372036854775808):WideElems.rd prog 3 Qiw x=some (.int .i64 n,.nil):=by
 have hw:(Lit.int .i64 n).wf=true:=by have h1:=hn.1;have h2:=hn.2;simp[Lit.wf,IntKind.inR,IntKind.min,IntKind.max,IntKind.bits,IntKind.signed];omega
 simp[WideElems.rd,h,Qiw,keyOf,underlying3,mapKey,hw]
section
variable{K:World->Prop}
def QzR(kvs:List (MK×IV))(ks:List Int)(hk:kvs.map (·.1)=ks.map (λx=>MK.int .i64 x))(hwf:∀x∈ks,-9223372036854775808<=x/\x<9223372036854775808)(hlen:ks.length<=1000000):
  Gd K 213 [.clo 302 [] [.ptr [.map kvs]]] (Qq (ks.mergeSort λx y=>decide (x<=y))):=by
 intro w ok vs hK hnew hl hvs;obtain⟨v0,rfl⟩:∃v0,vs=[v0]:=by
  match vs,hl with
  |[v],_=>exact⟨v,rfl⟩
 have hrep:=hvs 0 _ v0 rfl rfl
 have fin:∀(v:Value)(w':World)(ss:List Int),ss.Perm ks->w'.ownsRow w.heap.size 3 1 v ss.length ((ss.mergeSort (λx y=>decide (x<=y))).map encZ)->Below w.heap.size w w' ->
   ∃v1,Ending.returned v=.returned v1/\QZ ok w' (Qq (ks.mergeSort λx y=>decide (x<=y))) v1/\Below w.heap.size w w':=λv w' ss hp ho hb=>by
  refine⟨v,rfl,?_,hb⟩;have e1:ss.mergeSort (λx y=>decide (x<=y))=ks.mergeSort λx y=>decide (x<=y):=mergeSort_of_perm_i hp;rw[e1] at ho;have hl2:ss.length=ks.length:=hp.length_eq;have e3:(ks.mergeSort λx y=>decide (x<=y)).length=ss.length:=by simp[hl2]
  generalize(ks.mergeSort λx y=>decide (x<=y))=zs at *
  obtain⟨h1,h2|⟨g,cap,cur,h2,h3,h4,h5,h6,h7,h8⟩⟩:=ho
  .obtain⟨rfl,h2⟩:=h2;have:zs=[]:=QN4 (by omega);subst this;exact .nils _
  subst h2;rw[<- e3];refine W0 zs g cap (by omega) h6 (hnew g h3) λj z hj=>?_;have hjl:=(QNY.1 hj).1;have:(cur.toList.take (ss.length*1))[j]?=some (.int .i64 z):=by grind
  rw[QOS,if_pos (by omega)] at this;simp only[World.cell?,h4];simpa using this
 cases hrep with
 |clo _ _ _ us vs' h1 h2 hf hc=>
  obtain rfl:us=[]:=QN4 h1;obtain⟨p,rfl⟩:∃p,vs'=[p]:=by
   match vs',h2 with
   |[v],_=>exact⟨v,rfl⟩
  have hp:=hc 0 _ p rfl rfl;cases hp with
  |ptr _ b off u hu hx=>
   have hcell:=(hu 0 (by simp)).2.1;rw[QPd] at hcell;have hbw:b<w.heap.size:=QO0 w ⟨b,off,none⟩ hcell;have hm:=hx 0 _ rfl;generalize u 0=u0 at hcell hm;cases hm with
   |mapn=>
    have hk0:ks=[]:=by simpa using hk.symm
    subst hk0;refine(QaN _ _ 0 (by omega) w (JM (ρ:=Tryz.keys214_ren) { Tryz.keys214 with } Fence.wide 2 trivial rfl b off w hbw hcell)).mono ?_;grind
   |map _ r es clock hok hr hmr hd hxx=>
    have hks:kvs.length=ks.length:=by simpa using congrArg List.length hk
    have hkey:∀(i:Nat)(x:MapEntry),es[i]?=some x->∃n:Int,ks[i]?=some n/\x.key=.int .i64 n:=λi x hx=>by have⟨k,h3,h4⟩:=hmr.keys i x hx;rw[<- QN6,hk,QN6,QN2] at h3;obtain⟨n,h5,rfl⟩:=h3;exact⟨n,h5,h4⟩
    have hrd:∀(i:Nat)(x:MapEntry),es[i]?=some x->∃n:Int,ks[i]?=some n/\x.key=.int .i64 n/\WideElems.rd prog 3 Qiw x=some (.int .i64 n,.nil):=λi x hx=>by have⟨n,h3,h4⟩:=hkey i x hx;exact⟨n,h3,h4,QwI h4 (hwf n (QOh h3))⟩
    have hlist:es.toList.map (λx=>intOf (WideElems.rg prog 3 Qiw x).1)=ks:=by
     refine List.ext_getElem? λi=>?_;rw[QN6];cases hx:es[i]? with
     |none=>
      have:es.size<=i:=by grind
      have hz:=hmr.size;grind
     |some x=>have⟨n,h3,h4,h5⟩:=hrd i x hx;rw[Array.getElem?_toList,hx,h3];simp[WideElems.rg,h5,intOf]
    have hown:w.ownsMap prog 3 Qiw r ks.length (DataW.map ((es.toList.map (WideElems.rg prog 3 Qiw)).foldr DataW.insert [])):=by
     refine⟨es,clock,hr,⟨by have:=hmr.size;unfold maxLen;omega,⟨λx hx=>?_,?_,?_⟩,λx hx=>?_⟩,by grind,rfl⟩
     .obtain⟨i,hi⟩:=QOF hx;exact hmr.born i x (by simpa using hi)
     .rw[List.nodup_iff_pairwise_ne] at *
      refine QPl.2 λi j hi hj hij heq=>?_;simp at hi hj heq;have:=hmr.apart i j es[i] es[j] (by simp[hi]) (by simp[hj]) heq;omega
     .refine QPl.2 λi j hi hj hij heq=>?_;simp at hi hj heq;obtain⟨k1,h3,h4⟩:=hmr.keys i es[i] (by simp[hi]);obtain⟨k2,h5,h6⟩:=hmr.keys j es[j] (by simp[hj]);rw[QN2] at h3 h5;obtain⟨p,h7,rfl⟩:=h3;obtain⟨q,h8,rfl⟩:=h5;rw[h4,h6] at heq;have:p.1=q.1:=by
       have e1:(kvs.map (·.1))[i]?=some p.1:=by simp[h7]
       have e2:(kvs.map (·.1))[j]?=some q.1:=by simp[h8]
       rw[hk,QN6,QN2] at e1 e2;obtain⟨n1,_,e1⟩:=e1;obtain⟨n2,_,e2⟩:=e2;rw[<- e1,<- e2] at heq |-;simpa[MK.val] using heq
      grind
     have⟨i,hi⟩:=QOF hx;grind
    have hperm:(intKeys (DataW.map ((es.toList.map (WideElems.rg prog 3 Qiw)).foldr DataW.insert []))).Perm ks:=by have:=(sorted_perm (es.toList.map (WideElems.rg prog 3 Qiw))).map λp=>intOf p.1;rw[List.map_map] at this;refine this.trans ?_;rw[show es.toList.map ((λp=>intOf p.1)∘WideElems.rg prog 3 Qiw)=ks from hlist]
    have hsz:=hown.size_le;refine(QaN _ _ _ (by omega) w (Wg (ρ:=Tryz.keys214_ren) { Tryz.keys214 with } Fence.wide 2 trivial rfl (by omega) b off r _ _ w hbw hcell hown)).mono ?_;grind
end
end Go.Pf
namespace Go.Pf
open Go Go.Ev Go.Proofs Go.RowKit Go.Proofs.Tryz
variable{K:World->Prop}(hK:∀w w',K w->Below w.heap.size w w'->K w')
def Yo{α:Type}{p:List α->Prop}(h0:p [])(h1:∀l x,p l->p (l++[x]))(l:List α):p l:=by
 have:∀r:List α,p r.reverse:=by
  intro r;induction r with
  |_=>grind
 have h:=this l.reverse;grind
def QcO:List (Int×Nat)->Int->List (Int×Nat)
 |[],x=>[(x,1)]
 |p::r,x=>if p.1=x then(x,p.2+1)::r else p::QcO r x
def Qc0:List (Int×Nat)->Int->Nat
 |[],_=>0
 |p::r,x=>if p.1=x then p.2 else Qc0 r x
def Qbl(l:List (Int×Nat)):List (MK×IV):=l.map λp=>(.int .i64 p.1,.int .i64 (p.2:Nat))
theorem Vc(x:Int):∀l,(Qv (.int .i64 x) (Qbl l)).getD (.int .i64 0)=.int .i64 (Qc0 l x:Nat)
 |[]=>rfl
 |p::r=>by
  by_cases h:p.1=x
  .simp[Qbl,Qv,Qc0,h]
  have:=Vc x r;simp[Qbl,Qv,Qc0,h] at this |-;exact this
theorem qw(x:Int):∀l,zn (.int .i64 x) (.int .i64 ((Qc0 l x:Nat)+1)) (Qbl l)=Qbl (QcO l x)
 |[]=>by simp[Qbl,zn,Qc0,QcO]
 |p::r=>by
  by_cases h:p.1=x
  .simp[Qbl,zn,Qc0,QcO,h]
  have:=qw x r;simp[Qbl,zn,Qc0,QcO,h] at this |-;exact this
theorem Y8:∀l,ZC (some .i64) (Qbl l)
 |[]=>trivial
 |_::r=>⟨rfl,Y8 r⟩
theorem Qm2(x y:Int):∀l,Qc0 (QcO l x) y<=Qc0 l y+1
 |[]=>by simp[QcO,Qc0];split<;>omega
 |p::r=>by
  unfold QcO;split
  .simp only[Qc0];grind
  simp only[Qc0];split
  .omega
  exact Qm2 x y r
def X9(l:List Int):List (Int×Nat):=l.foldl QcO []
def X4(l:List Int)(x:Int):X9 (l++[x])=QcO (X9 l) x:=by simp[X9]
def QfX(y:Int):∀l:List Int,Qc0 (X9 l) y<=l.length:=by refine Yo (by simp[X9,Qc0]) λl x ih=>?_;rw[X4];have:=Qm2 x y (X9 l);simp;omega
def Jv(l:List Int):List Int:=((X9 l).map (·.1)).mergeSort λx y=>decide (x<=y)
theorem QfD(x y:Int):∀l,y∈(QcO l x).map (·.1)↔y∈l.map (·.1)\/y=x
 |[]=>by simp[QcO]
 |p::r=>by
  unfold QcO;split
  .grind
  have:=QfD x y r;grind
theorem Qeu(x:Int):∀l,(l.map (·.1)).Nodup->((QcO l x).map (·.1)).Nodup
 |[],_=>by simp[QcO]
 |p::r,h=>by
  rw[QOk,QPL] at h;unfold QcO;split
  .grind
  rename_i hp;rw[QOk,QPL];refine⟨λhb=>?_,Qeu x r h.2⟩;rcases(QfD x p.1 r).1 hb with hb|hb
  all_goals grind
def Qnn(y:Int):∀l:List Int,y∈(X9 l).map (·.1)↔y∈l:=by refine Yo (by simp[X9]) λl x ih=>?_;rw[X4,QfD,ih];simp
def QoD:∀l:List Int,((X9 l).map (·.1)).Nodup:=by refine Yo (by simp[X9]) λl x ih=>?_;rw[X4];exact Qeu x _ ih
theorem QmQ(x:Int):∀k,(QcO k x).length<=k.length+1
 |[]=>by simp[QcO]
 |p::r=>by have:=QmQ x r;unfold QcO;grind
def Qno:∀l:List Int,(X9 l).length<=l.length:=by refine Yo (by simp[X9]) λl x ih=>?_;rw[X4];have:=QmQ x (X9 l);simp;omega
def J4(y:Int)(l:List Int):y∈Jv l↔y∈l:=by unfold Jv;rw[List.mem_mergeSort,Qnn]
def J3(l:List Int):(Jv l).Pairwise (·<·):=by have h1:=List.pairwise_mergeSort (le:=λx y:Int=>decide (x<=y)) (λa b c h1 h2=>by simp at *;omega) (λa b=>by simp;omega) ((X9 l).map (·.1));have h2:(((X9 l).map (·.1)).mergeSort (λx y:Int=>decide (x<=y))).Nodup:=(List.mergeSort_perm ((X9 l).map (·.1)) (λx y:Int=>decide (x<=y))).nodup_iff.2 (QoD l);have h3:=h1.and h2;refine h3.imp λ{a b}h=>?_;grind
theorem Qi4:∀{l l':List Int},l.Pairwise (·<·)->l'.Pairwise (·<·)->(∀x,x∈l↔x∈l')->l=l'
 |[],[],_,_,_=>rfl
 |[],b::l',_,_,h=>absurd ((h b).2 (by simp)) (by simp)
 |a::l,[],_,_,h=>absurd ((h a).1 (by simp)) (by simp)
 |a::l,b::l',h1,h2,h=>by
  rw[List.pairwise_cons] at h1 h2;have hab:a=b:=by have p1:=(h a).1 (by simp);have p2:=(h b).2 (by simp);grind
  subst hab;refine congrArg (a::·) (Qi4 h1.2 h2.2 λx=>?_);grind
include hK
def QjU(kvs:List (MK×IV)):Gd K 214 [.map kvs] (.clo 302 [] [.ptr [.map kvs]]):=by apply Qb hK QDf (by simp);simp
omit hK in
theorem Qat(l:List Int)(hw:∀x∈l,-1000000<=x/\x<=1000000)(hl:l.length<=1000000):Gd K 213 [.clo 302 [] [.ptr [.map (Qbl (X9 l))]]] (Qq (Jv l)):=by
 have hlen:(X9 l).length<=l.length:=by exact Qno l
 refine QzR (K:=K) (Qbl (X9 l)) ((X9 l).map (·.1)) (by simp[Qbl]) (λx hx=>?_) (by simp;omega);have:=hw x ((Qnn x l).1 hx);omega
def QqS(c:Ql)(hl:c.za.length<=1000)(hs:c.zg.length<=1000)(g1:FuncId)(cs1:List IV)(is:Bool)(hg1:OkC c->Gd K g1 ([.int .i64 (ZV c.za),.int .i64 (Ql2 c.za)]++cs1) (.bool is))(hc1:callee prog g1=true)
  (g2:FuncId)(cs2:List IV)(v:Nat->Int)(hg2:OkC c->is=true->∀n∈QI c,Gd K g2 ([.agg (VW c.za (Zx c.za n) (pmC c n))]++cs2) (.int .i64 (v n)))(hc2:callee prog g2=true)(hv:OkC c->is=true->∀n∈QI c,-1000000<=v n/\v n<=1000000):
  Gd K 198 [chV c,.clo g1 [] cs1,.clo g2 [] cs2] (.xf [Qq (if Xb c is=0 then Jv ((QI c).map v) else []),.int .i64 (Xb c is)]):=by
 apply Qb hK QDu (by simp);simp;apply cK (by simpa using Qzg hK c (pmC c) (Qmj hK c) g1 [] cs1 is (λh=>by simpa using hg1 h) hc1 hl hs);by_cases he:Xb c is=0;rotate_left
 .by_cases h1:OkC c<;>cases is<;>simp[he,h1]
 .have h1:OkC c:=by
   unfold Xb at he;grind
  have h2:is=true:=by unfold Xb at he;grind
  have hlen:(QI c).length<=4096:=by have h1':=QOp (λn=>decide ((QM c.za c.zg (Zx c.za n):Int)<=c.zh)) (List.range (2 ^ ZF c.za));have h2':=UL (n:=ZF c.za) (by have:=Wk c.za;have:=h1.len;omega);simp at h1';unfold QI;omega
  have hG:=hg2 h1 h2;have hV:=hv h1 h2;clear hg2 hv hg1;subst h2;simp[he,h1];refine Zf (wy:=.fall) (o':=[(10,.box [.yk 21]),(21,.xh (Qbl (X9 ((QI c).map v))))]) rfl (by kernel_rfl) (Qao hK c h1 (pmC c) (Qmj hK c h1)) ?_ ?_
  .have:=Wh.all (P:=prog) (K:=K) (ps:=[24]) (asn:=Qgh) (body:=QlB) (ks:=[5,10]) (ids:=[10,21]) (eK:=[(5,.iv (.ptr [.clo g2 [] cs2])),(10,.loc 10 0)]) ((QI c).map (XW c.za (pmC c)))
    (λi=>[(10,.box [.yk 21]),(21,.xh (Qbl (X9 (((QI c).map v).take i))))]) λi x hi=>by
    simp only[QN6,QN2] at hi;obtain⟨y,hy,rfl⟩:=hi;have y9:=(QNY.1 hy).1;have hyv:((QI c).map v)[i]'(by simpa using y9)=v y:=by grind
    have hg:=hG y (QOh hy);refine⟨rfl,?_⟩;rw[QNW (by simpa using y9),X4,hyv];have hle:=QfX (v y) (((QI c).map v).take i);have hkk:=Y8 (X9 (((QI c).map v).take i));have hf:=Vc (v y) (X9 (((QI c).map v).take i));have hi:=qw (v y) (X9 (((QI c).map v).take i));have hle2:(((QI c).map v).take i).length<=4096:=by simp;omega
    generalize X9 (((QI c).map v).take i)=kv at *;simp[XW,Qgh,QlB];refine⟨hc2,cK (by simpa using hg) ?_⟩;simp[hkk,hf,hi];omega
   simpa[X9,Qbl,QN1] using this
  .simp;apply cK (by simpa using QjU hK (Qbl (X9 ((QI c).map v))));simp;refine cK (Qat ((QI c).map v) (λx hx=>?_) (by simp;omega)) ?_
   .grind
   .simp
def Qtf(c:Ql)(pos:Int)(n:Nat):Int:=((cab c.za (Zx c.za n) c.za.length).getD pos.toNat 0:Nat)
def Qq6(c:Ql)(pos:Int)(hl:c.za.length<=1000)(hs:c.zg.length<=1000):
  Gd K 103 [chV c,.int .i64 pos] (.xf [Qq (if Xb c (decide (inR pos 0 (ZV c.za-1)))=0 then Jv ((QI c).map (Qtf c pos)) else []),.int .i64 (Xb c (decide (inR pos 0 (ZV c.za-1))))]):=by
 apply Qb hK QEr (by simp);simp;apply cK (by simpa using QzX hK pos);simp;have hcl:∀n,OkC c->((cab c.za (Zx c.za n) c.za.length).length:Int)=ZV c.za:=λn h=>by rw[ZW _ h.za _ (QN3 _) (QN3 _)];rfl
 have hg:=QqS hK c hl hs 289 [.ptr [.int .i64 pos]] (decide (inR pos 0 (ZV c.za-1))) (λh=>by
   have:=hcl 0 h;have h2:=h.za.cnt c.za.length (QN3 _) (QN3 _);have h3:=ZW (Zx c.za 0) h.za c.za.length (QN3 _) (QN3 _);simpa using Qzf hK (ZV c.za) (Ql2 c.za) pos (by omega)) (by kernel_rfl) 200 [.ptr [.int .i64 pos]] (Qtf c pos) (λh hi n _=>by
   have h3:=hcl n h;have hi:=of_decide_eq_true hi;simp only[inR] at hi;have h4:pos=((pos.toNat:Nat):Int):=by omega
   have h5:pos.toNat<(cab c.za (Zx c.za n) c.za.length).length:=by omega
   have h6:=QzW hK c.za (Zx c.za n) (pmC c n) hl pos.toNat h5;rw[<- h4] at h6;have h7:(cab c.za (Zx c.za n) c.za.length).getD pos.toNat 0=(cab c.za (Zx c.za n) c.za.length)[pos.toNat]:=by grind
   unfold Qtf;grind) (by kernel_rfl) (λh hi n _=>by
   have h3:=hcl n h;have hi:=of_decide_eq_true hi;simp only[inR] at hi;have h5:pos.toNat<(cab c.za (Zx c.za n) c.za.length).length:=by omega
   have h7:(cab c.za (Zx c.za n) c.za.length).getD pos.toNat 0=(cab c.za (Zx c.za n) c.za.length)[pos.toNat]:=by grind
   have h8:=Wf c.za (Zx c.za n) c.za.length _ (QN0 h5);have h9:=QgC c.za c.za.length;unfold Qtf;omega)
 apply cK (by simpa using hg);simp
omit hK in
theorem Qpd(x:Int):Jv [x]=[x]:=by simp[Jv,X9,QcO]
omit hK in
theorem Qn3(c:Ql)(hc:OkC c)(h2:ZF c.za=0)(hs:c.zg=[]):QI c=[0]:=by have:=hc.zh;simp only[inR] at this;simp[QI,h2,hs,QM,this]
def QyR(c:Ql)(hc:OkC c)(h2:ZF c.za=0)(hs:c.zg=[]):Gd K 349 [chV c] (ZM (cab c.za (Zx c.za 0) c.za.length)):=by
 have hl:=hc.len;have hr:=Qn3 c hc h2 hs;have hcl:=ZW (Zx c.za 0) hc.za c.za.length (QN3 _) (QN3 _);have hcb:=hc.za.cnt c.za.length (QN3 _) (QN3 _);have hcl2:ZV c.za=((cab c.za (Zx c.za 0) c.za.length).length:Int):=hcl.symm;have hw:∀i:Nat,i<(cab c.za (Zx c.za 0) c.za.length).length->Gd K 103 [chV c,.int .i64 i] (.xf [Qq [((cab c.za (Zx c.za 0) c.za.length).getD i 0:Nat)],.int .i64 0]):=λi hi=>by
  have:=Qq6 hK c i (by omega) (by simp[hs]);have h3:inR (i:Int) 0 (ZV c.za-1):=by simp only[inR];omega
  have h4:Xb c true=0:=by simp[Xb,hc,hr]
  rw[decide_eq_true h3,h4,hr] at this;simpa[Qpd,Qtf] using this
 apply Qb hK QBG (by simp);have hg83:=QjZ hK c (by omega) (by simp[hs]);simp[hc] at hg83;simp;apply cK hg83;rw[hcl2];generalize cab c.za (Zx c.za 0) c.za.length=now at *;simp
 refine Qe (λi=>[(1,AV.iv (.ptr [Qr c.za,Qj c.zg,.int .i64 c.zh])),(5,AV.yl 5 i),(14,AV.iv (.int .i64 now.length)),(15,AV.iv (.int .i64 (i:Nat)))])
  (λi=>[(5,AO.arr 3 1 (emb ((now.take i).map λ(n:Nat)=>[.int .i64 (n:Int)])) 0)]) now.length (λi=>True) trivial ?_ ?_
 .intro _;rw[Qa Qks.eq_1];simp[QN1]
 intro i hi _ ih;rw[Qa Qks.eq_1];rw[QNW hi,QOd] at ih;have hg:=hw i hi;have h7:now.getD i 0=now[i]:=by grind
 rw[h7] at hg;simp[hi] at ih |-;apply cK (by simpa using hg);simp;grind
omit hK
def Qbc(d:QB)(x:Int):QB:={ d with z2:=x }
def Wo:List QB->List (List QB)
 |[]=>[[]]
 |d::r=>if d.z2=2 then(Wo r).map (Qbc d 0::·)++(Wo r).map (Qbc d 1::·) else(Wo r).map (d::·)
def Qx4(ds:List QB)(h:ZF ds=0):∀x∈ds,Xa x=false:=by intro x hx;have:=QPG.1 h x hx;simpa[Xa] using this
theorem Qd6:∀ds:List QB,ZF ds=0->Wo ds=[ds]
 |[],_=>rfl
 |d::r,h=>by
  by_cases hd:d.z2=2
  .simp[ZF,QPn,hd] at h
  have:=Qd6 r (by simpa[ZF,QPn,hd] using h);simp[Wo,hd,this]
theorem Qrc:∀ds:List QB,ZF ds≠0->∃i:Nat,(∀x∈ds.take i,Xa x=false)/\∃h:i<ds.length,ds[i].z2=2/\Wo ds=Wo (ds.set i (Qbc ds[i] 0))++Wo (ds.set i (Qbc ds[i] 1))/\∀x:Int,x≠2->ZF (ds.set i (Qbc ds[i] x))+1=ZF ds
 |[],h=>absurd rfl h
 |d::r,h=>by
  by_cases hd:d.z2=2
  .refine⟨0,by simp,by simp,hd,?_,λx hx=>?_⟩
   .simp[Wo,hd,Qbc]
   simp[ZF,QPn,Qbc,hx,hd]
  .have h':ZF r≠0:=by simpa[ZF,QPn,hd] using h
   have⟨i,h1,h2,h3,h4,h5⟩:=Qrc r h';refine⟨i+1,?_,by simpa using h2,by simpa using h3,?_,λx hx=>?_⟩
   .intro x hx;rw[List.take_succ_cons,QN7] at hx;rcases hx with rfl|hx
    .simp[Xa,hd]
    exact h1 x hx
   .simp only[List.set_cons_succ,List.getElem_cons_succ,Wo,hd,if_false];grind
   .have:=h5 x hx;simp only[List.set_cons_succ,List.getElem_cons_succ];simp[ZF,hd] at this |-;omega
noncomputable def Jl(c:Ql):List Ql:=((Wo c.za).map λds=>{ c with za:=ds }).filter λc'=>decide (Xb c' true=0)
def Qjp(c:Ql):List IV:=[chV c]
def Qjj(c:Ql)(h:ZF c.za=0):Jl c=if Xb c true=0 then [c] else []:=by unfold Jl;rw[Qd6 _ h];by_cases h1:Xb c true=0<;>simp[h1]
include hK
theorem Qjn:∀(n:Nat)(c:Ql),ZF c.za=n->c.za.length<=1000->c.zg.length<=1000->Qbr prog K 295 [chV c] [] ((Jl c).map Qjp) (λb=>.bool b)
 |0,c,hn,hl,hs=>by
  intro s b s' hf;apply QW QsF (by simp) hf.v rfl;have hfi:=WF Xa c.za (Qx4 _ hn);have hg:=Qqw hK c.za 347 Xa (Qqv hK) (by kernel_rfl) hl;rw[hfi] at hg;rw[Qjj c hn] at hf;simp;apply cK (by simpa using hg);simp;apply cK (QyS hK c (pmC c) (Qmj hK c) hl hs);by_cases h1:Xb c true=0
  .simp[h1] at hf |-
   cases hf with
   |stop _ _ _ _ hg=>apply Zd (by simpa[Qjp] using hg) rfl;simp
   |next _ _ _ s1 _ _ hg hr=>cases hr;apply Zd (by simpa[Qjp] using hg) rfl;simp
  simp[h1] at hf |-;cases hf;grind
 |n+1,c,hn,hl,hs=>by
  intro s b s' hf;apply QW QsF (by simp) hf.v rfl;obtain⟨i,h1,h2,h3,h4,h5⟩:=Qrc c.za (by omega);have hg:=Qqw hK c.za 347 Xa (Qqv hK) (by kernel_rfl) hl;rw[Qj9 Xa c.za i h2 (by simp[Xa,h3]) h1] at hg;have hne:c.za≠[]:=λe=>by grind
  have hgc:=clone86 (K:=K) c.za hl hne;have ih0:=Qjn n { c with za:=c.za.set i (Qbc c.za[i] 0) } (by grind) (by simpa using hl) hs;have ih1:=Qjn n { c with za:=c.za.set i (Qbc c.za[i] 1) } (by grind) (by simpa using hl) hs;have hkn:Jl c=Jl { c with za:=c.za.set i (Qbc c.za[i] 0) }++Jl { c with za:=c.za.set i (Qbc c.za[i] 1) }:=by unfold Jl;grind
  rw[hkn,QOd] at hf;generalize hL0:Jl { c with za:=c.za.set i (Qbc c.za[i] 0) }=L0 at *
  generalize hL1:Jl { c with za:=c.za.set i (Qbc c.za[i] 1) }=L1 at *
  simp;apply cK hg;simp
  refine YU 2 (λk e o=>∃si,e=[(1,AV.cb 0),(2,AV.iv (.ptr [Qr c.za,Qj c.zg,.int .i64 c.zh])),(5,AV.iv (.int .i64 (i:Nat))),(25,AV.iv (.int .i64 (k:Nat)))]/\o=[(0,.ext si)] /\
   Z2 prog K (if k=0 then L0.map Qjp++L1.map Qjp else if k=1 then L1.map Qjp else []) si b s') ?_ ?_ _ _ ⟨s,by simp,by simp,by simpa using hf⟩
  .rintro e o ⟨si,rfl,rfl,hfd⟩;cases hfd;rw[Qa QkY.eq_1];simp
  rintro k e o hk ⟨si,rfl,rfl,hfd⟩ ih;have hk2:k=0\/k=1:=by omega
  rw[Qa QkY.eq_1]
  have hset:∀x:Int,(List.map (List.map AV.iv∘dC) c.za).set i [AV.iv (.int .i64 c.za[i].zp),AV.iv (.int .i64 c.za[i].pos),AV.iv (.int .i64 x),AV.iv (.int .i64 c.za[i].bar),AV.iv (.int .i64 c.za[i].z1)]=emb ((c.za.set i (Qbc c.za[i] x)).map dC):=λx=>by simp[emb,List.map_set,Qbc]
  rcases hk2 with rfl|rfl
  .simp only[if_true] at hfd;simp;apply Yt hgc (by simp);simp[h2,hset,QN1];rcases hfd.append with ⟨s1,hf1,hf2⟩|⟨rfl,hf1⟩
   .apply ZQ (by simpa[QN1] using ih0 _ _ _ hf1) rfl;simp;exact ih _ _ ⟨s1,by simp,by simp,by simpa using hf2⟩
   apply ZQ (by simpa[QN1] using ih0 _ _ _ hf1) rfl;simp
  simp only[if_true] at hfd;simp at hfd;simp;apply Yt hgc (by simp);simp[h2,hset,QN1];apply ZQ (by simpa[QN1] using ih1 _ _ _ hfd) rfl;cases b
  .simp
  simp;exact ih _ _ ⟨s',by simp,by simp,by simpa using Z2.nil _⟩
omit hK
theorem Qhb{α:Type}(f:α->Int):∀(l:List α)(k:Nat)(a:α),(∀x∈l,1<=f x)->(∀h:k<l.length,1<=f a/\f a<=f l[k])->QH f (l.set k a)<=QH f l
 |[],k,a,_,_=>by simp[QH]
 |b::l,0,a,h,ha=>by have h1:=ha (by simp);have h2:=Yy f l λx hx=>h x (by simp[hx]);simp only[List.set_cons_zero,QH];exact QOj h1.2 (by omega)
 |b::l,k+1,a,h,ha=>by have ih:=Qhb f l k a (λx hx=>h x (by simp[hx])) (λhk=>ha (by simpa using hk));have h1:=h b (by simp);simp only[List.set_cons_succ,QH];exact QOX ih (by omega)
def Qd8(l:ZL)(n:Int):ZL:={ l with lo:=n,hi:=n }
def Jn(m:Machine)(k:Nat)(l:ZL)(n:Int):Machine:={ m with zd:=m.zd.set k (Qd8 l n) }
noncomputable def Wc:Nat->Machine->Nat->List Machine
 |0,m,_=>acc (Qa0 m) (m.zw+1-m.zu).toNat
 |r+1,m,k=>match m.zd[k]? with
  |some l=>acc (λi=>Wc r (Jn m k l (l.lo+(i:Nat))) (k+1)) (l.hi+1-l.lo).toNat
  |none=>[]
structure QHs(m:Machine):Prop where
 len:m.zd.length<=3
 blen:m.zk.length<=6
 zx:inR m.zu 0 m.zw
 zw:m.zw<=20
 span:∀l∈m.zd,1<=Zs l
 lo:∀l∈m.zd,0<=l.lo/\l.hi<=100000
 sets:sets m m.zd.length<=1000000
def QHs.fix{m:Machine}(h:QHs m){k:Nat}(hk:k<m.zd.length){n:Int}(hn:m.zd[k].lo<=n/\n<=m.zd[k].hi):QHs (Jn m k m.zd[k] n):=by
 have hs:=h.span _ (QN0 hk);have hl:=h.lo _ (QN0 hk);refine⟨by simpa[Jn] using h.len,h.blen,h.zx,h.zw,λl hl=>?_,λl hl'=>?_,?_⟩
 .rcases List.mem_or_eq_of_mem_set hl with h1|h1
  .exact h.span l h1
  rw[h1];simp[Zs,Qd8]
 .rcases List.mem_or_eq_of_mem_set hl' with h1|h1
  .exact h.lo l h1
  rw[h1];simp only[Qd8];omega
 .refine QPE ?_ h.sets;have e1:(Jn m k m.zd[k] n).zd.length=m.zd.length:=by simp[Jn]
  have h2:=h.zx;simp only[inR] at h2;unfold Pf.sets;rw[e1,QN1 (QN3 _),QN1 (by omega)];refine QOX (Qhb Zs _ _ _ h.span λhk'=>?_) (by simp only[Jn];omega);have:Zs (Qd8 m.zd[k] n)=1:=by simp[Zs,Qd8]
  omega
include hK
theorem Qqd:∀(r:Nat)(m:Machine)(k:Nat),k+r=m.zd.length->QHs m->Qbr prog K 298 [maV m,.int .i64 k] [] ((Wc r m k).map QhB) (λb=>.bool b)
 |0,m,k,hk,ht=>by
  have:k=m.zd.length:=by omega
  subst this;have h1:=ht.len;have h2:=ht.blen;refine Qhz hK m (by omega) (by omega) ht.zx ht.zw (λn _=>?_);have h3:=ht.sets;have h4:=ht.zx;have h5:=Yy Zs m.zd ht.span;simp only[inR] at h4;unfold Pf.sets at h3 |-;simp only[X3] at h3 |-;rw[QN1 (QN3 _)] at h3 |-;have h6:(m.zw-m.zu+1)*QH Zs m.zd≥1*QH Zs m.zd:=QOj (by omega) (by omega);omega
 |r+1,m,k,hk,ht=>by
  have y9:k<m.zd.length:=by omega
  have ih:=Qqd r;intro s b s' hf;apply QW QsE (by simp) hf.v rfl;simp only[Wc,QNX y9] at hf;rw[QbS] at hf;have hne:¬(k:Int)=m.zd.length:=by omega
  have xc:=ht.lo _ (QN0 y9);have hln:=ht.len;have hnn:m.zd≠[]:=λe=>by grind
  have hgc:=clone88 (K:=K) m.zd (by omega) hnn;have hsp:=ht.span _ (QN0 y9);simp only[Zs] at hsp;have hit:∀i:Nat,i<(m.zd[k].hi+1-m.zd[k].lo).toNat->Qbr prog K 298 [maV (Jn m k m.zd[k] (m.zd[k].lo+i)),.int .i64 ((k+1:Nat):Int)] [] ((Wc r (Jn m k m.zd[k] (m.zd[k].lo+i)) (k+1)).map QhB) (λb=>.bool b):=λi hi=>ih _ _ (by simp[Jn];omega) (ht.fix y9 (by omega))
  generalize hpc:(λi:Nat=>Wc r (Jn m k m.zd[k] (m.zd[k].lo+i)) (k+1))=pc at hf;have hpc':∀i:Nat,Wc r (Jn m k m.zd[k] (m.zd[k].lo+i)) (k+1)=pc i:=λi=>by rw[<- hpc]
  simp only[hpc'] at hit;simp[hne,y9];intros
  refine YU (m.zd[k].hi+1-m.zd[k].lo).toNat (λi e o=>∃si ls,e=[(1,AV.iv (.int .i64 (k:Nat))),(2,AV.cb 0),(3,AV.iv (.ptr [Qs m.zd,.int .i64 m.zr,.int .i64 m.zu,.int .i64 m.zw,Zk m.zk,.int .i64 m.zh])),(7,AV.loc 7 0),(11,AV.iv (.int .i64 (m.zd[k].lo+(i:Nat))))] /\
   o=[(0,.ext si),(7,.box [.iv (Qs ls),.iv (.int .i64 m.zr),.iv (.int .i64 m.zu),.iv (.int .i64 m.zw),.iv (Zk m.zk),.iv (.int .i64 m.zh)])] /\
   Z2 prog K ((X6 pc i ((m.zd[k].hi+1-m.zd[k].lo).toNat-i)).map QhB) si b s') ?_ ?_ _ _ ⟨s,m.zd,by simp,by simp,by simpa using hf⟩
  .rintro e o ⟨si,ls,rfl,rfl,hfd⟩;rw[Nat.sub_self] at hfd;cases hfd;have q1:m.zd[k].lo+((m.zd[k].hi+1-m.zd[k].lo).toNat:Int)=m.zd[k].hi+1:=by omega
   have q2:¬m.zd[k].hi+1<=m.zd[k].hi:=by omega
   rw[q1,Qa QkU.eq_1];simp[q2,y9]
  rintro i e o hi ⟨si,ls,rfl,rfl,hfd⟩ ihl;have q1:m.zd[k].lo+(i:Int)<=m.zd[k].hi:=by omega
  have q3:m.zd[k].lo+((i:Int)+1)=m.zd[k].lo+i+1:=by omega
  have e1:(m.zd[k].hi+1-m.zd[k].lo).toNat-i=((m.zd[k].hi+1-m.zd[k].lo).toNat-(i+1))+1:=by omega
  rw[e1] at hfd;simp only[X6,QOd] at hfd;have hset:(List.map (List.map AV.iv∘leC) m.zd).set k [AV.iv (.int .i64 m.zd[k].long),AV.iv (.int .i64 (m.zd[k].lo+i)),AV.iv (.int .i64 (m.zd[k].lo+i))]=emb ((m.zd.set k (Qd8 m.zd[k] (m.zd[k].lo+i))).map leC):=by simp[emb,List.map_set,Qd8]
  rw[Qa QkU.eq_1];simp[q1,y9];apply Yt hgc (by simp);simp[y9,hset,QN1];refine⟨by omega,?_⟩;have hiti:=hit i hi;rcases hfd.append with ⟨s1,hf1,hf2⟩|⟨rfl,hf1⟩
  .apply ZQ (by simpa[Jn] using hiti _ _ _ hf1) rfl;simp
   (repeat' first|omega|apply And.intro|intro)
   exact ihl _ _ ⟨s1,m.zd.set k (Qd8 m.zd[k] (m.zd[k].lo+i)),by simp[q3],by simp,hf2⟩
  apply ZQ (by simpa[Jn] using hiti _ _ _ hf1) rfl;simp
omit hK
def JY(a:Nat)(h:a<2 ^ 64):(BitVec.ofInt 64 (a:Int)).toNat=a:=by grind
def WS(a:Nat)(h:a<2 ^ 64):IntKind.wrap .u64 (a:Int)=(a:Int):=by have h':a<18446744073709551616:=h;simp only[IntKind.wrap,IntKind.bits,IntKind.signed];simp;omega
def QmC(a b:Nat)(ha:a<2 ^ 64)(hb:b<2 ^ 64):QaC .or .u64 (a:Int) (b:Int)=((a ||| b:Nat):Int):=by show IntKind.wrap .u64 (((BitVec.ofInt 64 (a:Int)) ||| (BitVec.ofInt 64 (b:Int))).toNat:Int)=_;rw[BitVec.toNat_or,JY a ha,JY b hb,WS _ (QPB ha hb)]
def Qs3(a b:Nat)(ha:a<2 ^ 64)(hb:b<2 ^ 64):QaC .and .u64 (a:Int) (b:Int)=((a &&& b:Nat):Int):=by show IntKind.wrap .u64 (((BitVec.ofInt 64 (a:Int)) &&& (BitVec.ofInt 64 (b:Int))).toNat:Int)=_;rw[BitVec.toNat_and,JY a ha,JY b hb,WS _ (Nat.and_lt_two_pow _ hb)]
def Qxh(a b:Nat):Nat:=a &&& (2 ^ 64-1-b)
def Qs4{a b:Nat}(ha:a<2 ^ 64):Qxh a b<2 ^ 64:=QPH Nat.and_le_left ha
def QoL(a b:Nat)(ha:a<2 ^ 64)(hb:b<2 ^ 64):QaC .andNot .u64 (a:Int) (b:Int)=(Qxh a b:Int):=by show IntKind.wrap .u64 (((BitVec.ofInt 64 (a:Int)) &&& ~~~(BitVec.ofInt 64 (b:Int))).toNat:Int)=_;rw[BitVec.toNat_and,BitVec.toNat_not,JY a ha,JY b hb];exact WS _ (Qs4 ha)
def Qwj{a b i:Nat}(hb:b<2 ^ 64)(hi:i<64):(Qxh a b).testBit i=(a.testBit i&&!b.testBit i):=by unfold Qxh;rw[Nat.testBit_and,show 2 ^ 64-1-b=2 ^ 64-(b+1) by omega,Nat.testBit_two_pow_sub_succ hb];simp[hi]
def QiK{n:Nat}(h:n<64):QxP .u64 1 (n:Int)=((2 ^ n:Nat):Int):=by
 have h2:(2:Nat) ^ n<2 ^ 64:=QPN (by decide) h;unfold QxP;rw[show min ((n:Int)).toNat IntKind.u64.bits=n by simp[IntKind.bits];omega,Int.one_mul];have:((2:Int) ^ n)=((2 ^ n:Nat):Int):=by push_cast;rfl
 rw[this];exact WS _ h2
def QxM(a n:Nat)(h:n<64):QwA .u64 (a:Int) (n:Int)=((a >>> n:Nat):Int):=by unfold QwA;rw[show min ((n:Int)).toNat IntKind.u64.bits=n by simp[IntKind.bits];omega,Nat.shiftRight_eq_div_pow];grind
def Qyl(a n:Nat)(h:n<64)(ha:a<2 ^ 64):QaC .and .u64 (QwA .u64 (a:Int) (n:Int)) 1=if a.testBit n then 1 else 0:=by
 rw[QxM a n h];have h1:a >>> n<2 ^ 64:=QPH (Nat.shiftRight_le _ _) ha;have:=Qs3 (a >>> n) 1 h1 (by decide);rw[show((1:Nat):Int)=1 from rfl] at this;rw[this]
 have e:a.testBit n=(decide ((a >>> n) &&& 1=1)):=by
  rw[Nat.testBit,Nat.and_comm]
  grind
 grind
def XG(l:List Nat):Nat:=l.foldl (λm n=>m ||| 2 ^ n) 0
def Qaj(l:List Nat)(n:Nat):XG (l++[n])=XG l ||| 2 ^ n:=by simp[XG]
def Qhk(i:Nat):∀l:List Nat,(XG l).testBit i=decide (i∈l):=by
 refine Yo (by simp[XG]) λl n ih=>?_;rw[Qaj,Nat.testBit_or,ih,Nat.testBit_two_pow]
 grind
def QmK(k:Nat):∀l:List Nat,(∀n∈l,n<k)->XG l<2 ^ k:=by refine Yo (λ_=>by simp[XG];grind) λl n ih h=>?_;rw[Qaj];exact QPB (ih λm hm=>h m (by simp[hm])) (QPN (by decide) (h n (by simp)))
end Go.Pf
