/- Copies, comparisons, zp is far too much, the reference's checks. -/
import Derived.Test.YteihocdmbflkiaaGreatDoorPartThree
import Derived.Ground.SlgnProg
import Derived.Shelf.SlicesE.Clone
import Derived.Shelf.SlicesE.Reverse
import Derived.Shelf.SlicesE.Delete
import Derived.Lib.SliceRun
import Derived.Lib.JoinLaws
import Derived.Test.YteihocdmbflkiaaGreatDoorProg
import Derived.KernelRfl
import Derived.Shelf.Spec.SlicesInsertGrow
import Derived.Shelf.SlIterI.Nil
import Derived.Shelf.SortM.Plain
import Derived.Shelf.SortM.SortNone
import Derived.Ground.GgzProg
import Derived.Ground.SlgmProg
set_option linter.all false
namespace Go.Pf
open Go Go.Ev Go.Proofs Go.RowKit Go.Proofs.Tryz
variable {K:World->Prop} (hK:∀ w w',K w->Below w.heap.size w w'->K w')
set_option maxRecDepth 8000
@[simp] theorem QA6 {α:Type} (f:α->List IV) (l:List α):Qe6 (l.map (List.map AV.iv∘f))=some (l.map f):=by
 rw[<- List.map_map];exact QaI _
theorem Qx.ext {a b:Qx} (h0:a.zp=b.zp) (h1:a.pos=b.pos) (h2:a.z6=b.z6) (h3:a.bar=b.bar) (h4:a.z1=b.z1):a=b:=by
 cases a;cases b;simp_all
theorem Xp.ext {a b:Xp} (h0:a.after=b.after) (h1:a.pos=b.pos) (h2:a.z6=b.z6) (h3:a.bar=b.bar) (h4:a.z1=b.z1):a=b:=by
 cases a;cases b;simp_all
theorem ZI.ext {a b:ZI} (h0:a.long=b.long) (h1:a.lo=b.lo) (h2:a.hi=b.hi):a=b:=by
 cases a;cases b;simp_all
theorem QT.ext {a b:QT} (h0:a.zm=b.zm) (h1:a.zn=b.zn) (h2:a.load=b.load) (h3:a.off=b.off):a=b:=by
 cases a;cases b;simp_all
theorem VW.ext {a b:VW} (h0:a.zm=b.zm) (h1:a.zn=b.zn) (h2:a.z7=b.z7):a=b:=by
 cases a;cases b;simp_all
def Q4 {α:Type} (f:α->Int):List α->Int
 | []=>1
 | a::l=>f a*Q4 f l
theorem Qbw {α:Type} (f:α->Int) (l:List α) (a:α):Q4 f (l++[a])=Q4 f l*f a:=by
 induction l with
 | nil=>simp[Q4]
 | cons b l ih=>simp[Q4,ih,Int.mul_assoc]
theorem Vy {α:Type} (f:α->Int) (l:List α) (h:∀ a∈l,1<=f a):1<=Q4 f l:=by
 induction l with
 | nil=>simp[Q4]
 | cons b l ih =>
   have h1:=h b (by simp)
   have h2:=ih fun a ha=>h a (by simp[ha])
   have:=QL0 h1 h2 (by omega) (by omega)
   simp only[Q4];omega
def Z4 (l:ZI):Int:=l.hi-l.lo+1
def sets (m:Machine) (i:Nat):Int:=(m.zw-m.zu+1)*Q4 Z4 (m.zd.take i)
def ZA (ds:List Qx):Nat:=ds.countP fun d=>decide (d.z6=2)
theorem Qfq (m:Machine) (i:Nat) (h:i<m.zd.length):sets m (i+1)=sets m i*Z4 m.zd[i]:=by
 unfold sets;rw[QKL h,Qbw,Int.mul_assoc]
def QoG (m:Machine):Prop:=40<m.zd.length\/40<m.zk.length\/(OkM m/\∃ i,0<i/\i<=m.zd.length/\150<sets m i)
noncomputable instance (m:Machine):Decidable (QoG m):=Classical.propDecidable _
def Quv (c:Qs):Prop:=40<c.za.length\/40<c.zg.length\/(OkC c/\5<ZA c.za)
noncomputable instance (c:Qs):Decidable (Quv c):=Classical.propDecidable _
def ways (p:Qe):Int:=sets p.zb p.zb.zd.length*(2 ^ ZA p.zc.za:Nat)
def Qhe (p:Qe):Prop:=Quv p.zc\/QoG p.zb\/40<p.zf.length\/(OkP p/\48<ways p)
noncomputable instance (p:Qe):Decidable (Qhe p):=Classical.propDecidable _
theorem QmK (ds:List Qx) (i:Nat) (h:i<ds.length):ZA (ds.take (i+1))=ZA (ds.take i)+if ds[i].z6=2 then 1 else 0:=by
 unfold ZA;rw[QKL h,QL8]
 grind
theorem QmJ (ds:List Qx) (i:Nat):ZA (ds.take i)<=ZA ds:=by
 conv=>rhs;rw[<- QLX i ds]
 unfold ZA
 grind
theorem Qvm {n:Nat} (h:n<=5):2 ^ n<=32:=by
 have:n=0\/n=1\/n=2\/n=3\/n=4\/n=5:=by omega
 grind
theorem OkM.span {m:Machine} (h:OkM m) {l:ZI} (hl:l∈m.zd):1<=Z4 l/\Z4 l<=1000:=by
 have:=h.zd l hl;simp[Zg,inR] at this;have h1:=of_decide_eq_true this.1.2;unfold Z4;omega
theorem OkM.sets_pos {m:Machine} (h:OkM m) (i:Nat):1<=sets m i:=by
 have h1:=Vy Z4 (m.zd.take i) fun a ha=>(h.span (QLC ha)).1
 have h2:=h.zx;simp only[inR] at h2;have:=QL0 (show (1:Int)<=m.zw-m.zu+1 by omega) h1 (by omega) (by omega)
 unfold sets;omega
include hK
theorem Qxt (a b:Qs):Gd K 121 [chV a,chV b] (.bool (decide (a=b))):=by
 refine Qb hK (fk func121 QId (by kernel_rfl)) (by simp) ?_
 by_cases h1:a.zh=b.zh;rotate_left
 ·have:a≠b:=fun e=>h1 (by rw[e])
  simp[h1,this]
 ·by_cases h2:a.za.length=b.za.length
  ·by_cases h3:a.zg.length=b.zg.length
   ·simp[h1,h2,h3]
    intros;refine Ql (fun i=>[(2,AV.iv (.ptr [QC a.za,Qy a.zg,.int .i64 b.zh])),(3,AV.iv (.ptr [QC b.za,Qy b.zg,.int .i64 b.zh])),(5,AV.iv (IV.int IntKind.i64 (i:Nat)))]) (fun _=>[]) a.za.length (fun i=>a.za.take i=b.za.take i) (by simp) ?_ ?_
    ·intro h
     rw[h2,QKX,<- h2,QKX] at h;rw[Qa QjO.eq_1];simp;intros;refine Ql (fun i=>[(2,AV.iv (.ptr [QC a.za,Qy a.zg,.int .i64 b.zh])),(3,AV.iv (.ptr [QC b.za,Qy b.zg,.int .i64 b.zh])),(6,AV.iv (IV.int IntKind.i64 (i:Nat)))]) (fun _=>[]) a.zg.length (fun i=>a.zg.take i=b.zg.take i) (by simp) ?_ ?_
     ·intro h'
      rw[h3,QKX,<- h3,QKX] at h';rw[Qa QjN.eq_1];have:a=b:=by cases a;cases b;simp_all
      subst this;simp
     intro i hi h ih;have hi':i<b.zg.length:=by omega
     rw[Qa QjN.eq_1];by_cases e:a.zg[i]=b.zg[i]
     ·simp[hi,hi',e] at ih |-
      intros;refine ⟨by omega,ih ?_⟩
      rw[QKL hi,QKL hi',h,e]
     have hne:a≠b:=fun c=>by grind
     have e':=fun k1 k2 k3 k4 k5=>e (Xp.ext k1 k2 k3 k4 k5)
     simp[hi,hi',hne]
     grind
    intro i hi h ih;have hi':i<b.za.length:=by omega
    rw[Qa QjO.eq_1];by_cases e:a.za[i]=b.za[i]
    ·simp[hi,hi',e] at ih |-
     intros;refine ⟨by omega,ih ?_⟩
     rw[QKL hi,QKL hi',h,e]
    have hne:a≠b:=fun c=>by grind
    have e':=fun k1 k2 k3 k4 k5=>e (Qx.ext k1 k2 k3 k4 k5)
    simp[hi,hi',hne]
    grind
   have h3':¬ (a.zg.length:Int)=b.zg.length:=by omega
   have:a≠b:=fun e=>h3 (by rw[e])
   simp[h1,h2,h3',this]
  ·have h2':¬ (a.za.length:Int)=b.za.length:=by omega
   have:a≠b:=fun e=>h2 (by rw[e])
   simp[h1,h2',this]
theorem Qxs (a b:Machine):Gd K 122 [maV a,maV b] (.bool (decide (a=b))):=by
 refine Qb hK (fk func122 QIc (by kernel_rfl)) (by simp) ?_
 by_cases h1:a.zr=b.zr;rotate_left
 ·have:a≠b:=fun e=>h1 (by rw[e])
  simp[h1,this]
 ·by_cases h2:a.zu=b.zu/\a.zw=b.zw
  ·by_cases h3:a.zh=b.zh
   ·by_cases h4:a.zd.length=b.zd.length
    ·by_cases h5:a.zk.length=b.zk.length
     ·simp[h1,h2.1,h2.2,h3,h4,h5]
      intros;refine Ql (fun i=>[(2,AV.iv (.ptr [QV a.zd,.int .i64 b.zr,.int .i64 b.zu,.int .i64 b.zw,XR a.zk,.int .i64 b.zh])),(3,AV.iv (.ptr [QV b.zd,.int .i64 b.zr,.int .i64 b.zu,.int .i64 b.zw,XR b.zk,.int .i64 b.zh])),(5,AV.iv (IV.int IntKind.i64 (i:Nat)))]) (fun _=>[]) a.zd.length (fun i=>a.zd.take i=b.zd.take i) (by simp) ?_ ?_
      ·intro h
       rw[h4,QKX,<- h4,QKX] at h;rw[Qa QjM.eq_1];simp;intros;refine Ql (fun i=>[(2,AV.iv (.ptr [QV a.zd,.int .i64 b.zr,.int .i64 b.zu,.int .i64 b.zw,XR a.zk,.int .i64 b.zh])),(3,AV.iv (.ptr [QV b.zd,.int .i64 b.zr,.int .i64 b.zu,.int .i64 b.zw,XR b.zk,.int .i64 b.zh])),(6,AV.iv (IV.int IntKind.i64 (i:Nat)))]) (fun _=>[]) a.zk.length (fun i=>a.zk.take i=b.zk.take i) (by simp) ?_ ?_
       ·intro h'
        rw[h5,QKX,<- h5,QKX] at h';rw[Qa QjL.eq_1];have:a=b:=by cases a;cases b;simp_all
        subst this;simp
       intro i hi h ih;have hi':i<b.zk.length:=by omega
       rw[Qa QjL.eq_1];by_cases e:a.zk[i]=b.zk[i]
       ·simp[hi,hi',e] at ih |-
        intros;refine ⟨by omega,ih ?_⟩
        rw[QKL hi,QKL hi',h,e]
       have hne:a≠b:=fun c=>by grind
       have e':=fun k1 k2 k3 k4=>e (QT.ext k1 k2 k3 k4)
       simp[hi,hi',hne]
       grind
      intro i hi h ih;have hi':i<b.zd.length:=by omega
      rw[Qa QjM.eq_1];by_cases e:a.zd[i]=b.zd[i]
      ·simp[hi,hi',e] at ih |-
       intros;refine ⟨by omega,ih ?_⟩
       rw[QKL hi,QKL hi',h,e]
      have hne:a≠b:=fun c=>by grind
      have e':=fun k1 k2 k3=>e (ZI.ext k1 k2 k3)
      simp[hi,hi',hne]
      grind
     have h':¬ (a.zk.length:Int)=b.zk.length:=by omega
     have:a≠b:=fun e=>h5 (by rw[e])
     simp[h1,h2.1,h2.2,h3,h4,h',this]
    have h':¬ (a.zd.length:Int)=b.zd.length:=by omega
    have:a≠b:=fun e=>h4 (by rw[e])
    simp[h1,h2.1,h2.2,h3,h',this]
   have:a≠b:=fun e=>h3 (by rw[e])
   simp[h1,h2.1,h2.2,h3,this]
  ·have:a≠b:=fun e=>h2 (by grind)
   by_cases k1:a.zu=b.zu
   ·have k2:¬ a.zw=b.zw:=fun c=>h2 ⟨k1,c⟩
    simp[h1,k1,k2,this]
   ·simp[h1,k1,this]
theorem QBw (a b:Qe):Gd K 35 [prV a,prV b] (.bool (decide (a=b))):=by
 refine Qb hK (fk func35 c35 (by kernel_rfl)) (by simp) ?_
 simp;refine cK (Qxt hK a.zc b.zc) ?_;by_cases h1:a.zc=b.zc;rotate_left
 ·have:a≠b:=fun e=>h1 (by rw[e])
  simp[h1,this]
 ·simp[h1]
  refine cK (Qxs hK a.zb b.zb) ?_;by_cases h2:a.zb=b.zb;rotate_left
  ·have:a≠b:=fun e=>h2 (by rw[e])
   simp[h1,h2,this]
  ·by_cases h3:a.zf.length=b.zf.length
   ·by_cases h4:a.zo=b.zo
    ·by_cases h5:a.z8=b.z8
     ·simp[h1,h2,h3,h4,h5]
      intros;refine Ql (fun i=>[(2,AV.iv (.ptr [QC b.zc.za,Qy b.zc.zg,.int .i64 b.zc.zh,QV b.zb.zd,.int .i64 b.zb.zr,.int .i64 b.zb.zu,.int .i64 b.zb.zw,XR b.zb.zk,.int .i64 b.zb.zh,Xq a.zf,.int .i64 b.zo,.int .i64 b.z8])),(3,AV.iv (.ptr [QC b.zc.za,Qy b.zc.zg,.int .i64 b.zc.zh,QV b.zb.zd,.int .i64 b.zb.zr,.int .i64 b.zb.zu,.int .i64 b.zb.zw,XR b.zb.zk,.int .i64 b.zb.zh,Xq b.zf,.int .i64 b.zo,.int .i64 b.z8])),(5,AV.iv (IV.int IntKind.i64 (i:Nat)))]) (fun _=>[]) a.zf.length (fun i=>a.zf.take i=b.zf.take i) (by simp) ?_ ?_
      ·intro h
       rw[h3,QKX,<- h3,QKX] at h;rw[Qa QpT.eq_1];have:a=b:=by cases a;cases b;simp_all
       subst this;simp
      intro i hi h ih;have hi':i<b.zf.length:=by omega
      rw[Qa QpT.eq_1];by_cases e:a.zf[i]=b.zf[i]
      ·simp[hi,hi',e] at ih |-
       intros;refine ⟨by omega,ih ?_⟩
       rw[QKL hi,QKL hi',h,e]
      have hne:a≠b:=fun c=>by grind
      have e':=fun k1 k2 k3=>e (VW.ext k1 k2 k3)
      simp[hi,hi',hne]
      grind
     have:a≠b:=fun e=>h5 (by rw[e])
     simp[h1,h2,h3,h4,h5,this]
    have:a≠b:=fun e=>h4 (by rw[e])
    simp[h1,h2,h3,h4,this]
   ·have h':¬ (a.zf.length:Int)=b.zf.length:=by omega
    have:a≠b:=fun e=>h3 (by rw[e])
    simp[h1,h2,h',this]
theorem Quk (m:Machine) (hl:m.zd.length<=1000) (hb:m.zk.length<=1000):Gd K 43 [maV m] (.int .i64 (if OkM m then 0 else 30)):=by
 refine Qb hK (fk func43 c43 (by kernel_rfl)) (by simp) ?_
 have no:∀ q:Prop,(OkM m->q)->¬ q->¬ OkM m:=fun q h1 h2 h=>h2 (h1 h)
 by_cases h1:m.zd.length<=3;rotate_left
 ·have h1':(3:Int)<m.zd.length:=by omega
  have:=no _ OkM.len h1;simp[h1',this]
 ·have h1':¬ (3:Int)<m.zd.length:=by omega
  simp[h1'];intros;refine cK (J4 hK _ _ _) ?_;by_cases h3:inR m.zr 0 9999;rotate_left
  ·have:=no _ OkM.zr h3
   simp[h3,this]
  ·simp[h3]
   refine cK (J4 hK _ _ _) ?_;by_cases h4:inR m.zu 0 m.zw;rotate_left
   ·have:=no _ OkM.zx h4
    simp[h4,this]
   ·by_cases h5:m.zw<=20
    ·have h5':¬ 20<m.zw:=by omega
     by_cases h6:m.zk.length<=6;rotate_left
     ·have h6':(6:Int)<m.zk.length:=by omega
      have:=no _ OkM.blen h6;simp[h4,h5',h6',this]
     have h6':¬ (6:Int)<m.zk.length:=by omega
     simp[h4,h5',h6'];intros;refine cK (J4 hK _ _ _) ?_;by_cases h8:inR m.zh 0 6;rotate_left
     ·have:=no _ OkM.zh h8
      simp[h8,this]
     simp[h8];refine Ql (fun i=>[(1,AV.iv (.ptr [QV m.zd,.int .i64 m.zr,.int .i64 m.zu,.int .i64 m.zw,XR m.zk,.int .i64 m.zh])),(3,AV.iv (IV.int IntKind.i64 (i:Nat)))]) (fun _=>[]) m.zd.length (fun i=>∀ l∈m.zd.take i,Zg l=false) (by simp) ?_ ?_
     ·intro h2
      rw[QKX] at h2;rw[Qa QpJ.eq_1];simp;intros;refine Ql (fun i=>[(1,AV.iv (.ptr [QV m.zd,.int .i64 m.zr,.int .i64 m.zu,.int .i64 m.zw,XR m.zk,.int .i64 m.zh])),(4,AV.iv (IV.int IntKind.i64 (i:Nat)))]) (fun _=>[]) m.zk.length (fun i=>∀ l∈m.zk.take i,Yp l=false) (by simp) ?_ ?_
      ·intro h7
       rw[QKX] at h7;have:OkM m:=⟨h1,h2,h3,h4,h5,h6,h7,h8⟩;rw[Qa QpI.eq_1];simp[this]
      intro i hi h ih;rw[Qa QpI.eq_1];simp[hi] at ih |-;intros;refine cK (Qn8 hK _ _ _) ?_;by_cases k1:inR m.zk[i].zm 0 9999/\inR m.zk[i].zn 0 99/\inR m.zk[i].load 0 999999999
      ·simp[k1]
       refine cK (J4 hK _ _ _) ?_;by_cases k2:inR m.zk[i].off 0 999999999
       ·simp[k2]
        refine ⟨by omega,ih ?_⟩
        rw[QKL hi];intro l hl;rcases QK0.1 hl with hl | hl
        ·exact h l hl
        rw[QLe.1 hl];simp[Yp,k1,k2]
       have:=no _ (fun hh=>hh.zk _ (QKR hi)) (by simp[Yp,k2])
       simp[k2,this]
      have:=no _ (fun hh=>hh.zk _ (QKR hi)) (by simp only[Yp];grind)
      simp[k1,this]
     intro i hi h ih;rw[Qa QpJ.eq_1];simp[hi] at ih |-;intros;refine cK (J4 hK _ _ _) ?_;by_cases k1:inR m.zd[i].long 1 1000;rotate_left
     ·have:=no _ (fun hh=>hh.zd _ (QKR hi)) (by simp[Zg,k1])
      simp[k1,this]
     simp[k1,hi];refine cK (J4 hK _ _ _) ?_;by_cases k2:inR m.zd[i].lo 1 m.zd[i].hi
     ·by_cases k3:m.zd[i].hi<=1000
      ·have k3':¬ 1000<m.zd[i].hi:=by omega
       simp[k2,k3',hi];refine ⟨by omega,ih ?_⟩
       rw[QKL hi];intro l hl;rcases QK0.1 hl with hl | hl
       ·exact h l hl
       rw[QLe.1 hl];simp[Zg,k1,k2,k3]
      have k3':1000<m.zd[i].hi:=by omega
      have:=no _ (fun hh=>hh.zd _ (QKR hi)) (by simp[Zg,k3])
      simp[k2,k3',hi,this]
     have:=no _ (fun hh=>hh.zd _ (QKR hi)) (by simp[Zg,k2])
     simp[k2,this]
    ·have h5':20<m.zw:=by omega
     have:=no _ OkM.zw h5;simp[h4,h5',this]
theorem Qur (p:Qe) (hs:Qmw p):Gd K 17 [prV p] (.int .i64 (if OkP p then 0 else 60)):=by
 refine Qb hK (fk func17 c17 (by kernel_rfl)) (by simp) ?_
 have no:∀ q:Prop,(OkP p->q)->¬ q->¬ OkP p:=fun q h1 h2 h=>h2 (h1 h)
 simp;refine cK (Qul hK p.zc hs.za hs.zg) ?_;by_cases h1:OkC p.zc;rotate_left
 ·have:=no _ OkP.zc h1
  simp[h1,this]
 ·simp[h1]
  refine cK (Quk hK p.zb hs.zd hs.zk) ?_;by_cases h2:OkM p.zb;rotate_left
  ·have:=no _ OkP.zb h2
   simp[h2,this]
  ·simp[h2]
   refine cK (QkM hK _ _ _) ?_;by_cases h3:inR p.zo 0 999999999;rotate_left
   ·have:=no _ OkP.zo h3
    simp[h3,this]
   ·simp[h3]
    refine cK (QkM hK _ _ _) ?_;by_cases h4:inR p.z8 1 12;rotate_left
    ·have:=no _ OkP.z8 h4
     simp[h4,this]
    ·simp[h4]
     refine cK (QBr hK p.zc hs.za) ?_;have hpl:=Qc8 p.zc.za;have hpv:XX Zx p.zc.za 0=pv p.zc.za:=rfl;rw[hpv];by_cases h5:p.zf.length=(pv p.zc.za).length;rotate_left
     ·have h5':¬ ((pv p.zc.za).length:Int)=p.zf.length:=by omega
      have:=no _ OkP.many h5;simp[h5',this]
     ·simp[h5]
      intros;have h90:=QBp hK p.zc hs.za;have hEl:(p.zc.za.map fun d=>d.z6.tmod 2).length=p.zc.za.length:=by simp
      generalize (p.zc.za.map fun d=>d.z6.tmod 2)=E at h90 hEl
      refine cK h90 ?_;simp;refine cK (QBq hK p.zc E h1.za hs.za (by omega)) ?_
      simp;refine Ql (fun i=>[(1,AV.iv (.ptr [QC p.zc.za,Qy p.zc.zg,.int .i64 p.zc.zh,QV p.zb.zd,.int .i64 p.zb.zr,.int .i64 p.zb.zu,.int .i64 p.zb.zw,XR p.zb.zk,.int .i64 p.zb.zh,Xq p.zf,.int .i64 p.zo,.int .i64 p.z8])),(3,AV.iv (ZZ (pv p.zc.za))),(4,AV.iv (Qye (QiQ p.zc.za (QO E) p.zc.za.length))),(5,AV.iv (IV.int IntKind.i64 (i:Nat)))]) (fun _=>[]) p.zf.length (fun i=>∀ k (h:k<(pv p.zc.za).length) (h':k<p.zf.length),k<i->Yt p.zf[k] (cnt p.zc.za (pv p.zc.za)[k])) (by simp) ?_ ?_
      ·intro h
       have:OkP p:=⟨h1,h2,h3,h4,h5,fun i h1 h2=>h i h1 h2 h2⟩
       rw[Qa Qp2.eq_1];simp[this]
      ·intro i hi h ih
       have hi':i<(pv p.zc.za).length:=by omega
       have xc:=QfV hi';have hb:=h1.za.cnt (pv p.zc.za)[i] (by omega) (by omega)
       have hcg:=QaQ p.zc.za (QO E) p.zc.za.length (pv p.zc.za)[i] (by omega)
       have hcl:=Xx (QO E) h1.za (pv p.zc.za)[i] (by omega) (by omega)
       rw[Qa Qp2.eq_1];by_cases k:Yt p.zf[i] (cnt p.zc.za (pv p.zc.za)[i])
       ·have ih':=ih (fun k' h1' h2' hk=>by
         grind)
        simp[hi,hi'] at ih' |-;intros;refine cK (Qn8 hK _ _ _) ?_;have k1:=k.1;have k2:=k.2.1;have hz:inR 0 0 999999999:=by simp[inR]
        have hlt1:(pv p.zc.za)[i]<p.zc.za.length+1:=by omega
        simp[k1,k2,hz,hi',hlt1,hcg,hcl];have k3:=k.2.2
        (repeat' first | omega | (with_reducible apply And.intro) | intro _)
        refine cK (QkM hK _ _ _) ?_;simp[k3]
        grind
       ·have:=no _ (fun hh=>hh.zf i hi' hi) k
        simp[hi,hi',this];intros;refine cK (Qn8 hK _ _ _) ?_;by_cases kk:inR p.zf[i].zm 0 9999/\inR p.zf[i].zn 0 99/\inR 0 0 999999999
        ·have hlt1:(pv p.zc.za)[i]<p.zc.za.length+1:=by omega
         simp[kk,hi',hlt1,hcg,hcl]
         (repeat' first | omega | (with_reducible apply And.intro) | intro _)
         refine cK (QkM hK _ _ _) ?_;have k3:¬ inR p.zf[i].z7 (-1) (cnt p.zc.za (pv p.zc.za)[i]-1):=fun c=>k ⟨kk.1,kk.2.1,c⟩
         simp[k3]
        ·simp[kk]
theorem Qxr (c:Qs):Gd K 123 [chV c] (.bool (decide (Quv c))):=by
 have hd:decide (Quv c)=decide (40<c.za.length\/40<c.zg.length\/(OkC c/\5<ZA c.za)):=by
  by_cases h:Quv c
  ·rw[decide_eq_true h];exact (decide_eq_true (p:=40<c.za.length\/40<c.zg.length\/(OkC c/\5<ZA c.za)) h).symm
  rw[decide_eq_false h];exact (decide_eq_false (p:=40<c.za.length\/40<c.zg.length\/(OkC c/\5<ZA c.za)) h).symm
 rw[hd];refine Qb hK (fk func123 QIb (by kernel_rfl)) (by simp) ?_
 by_cases h1:c.za.length<=40;rotate_left
 ·have h1':(40:Int)<c.za.length:=by omega
  have h1'':40<c.za.length:=by omega
  simp[h1',h1'']
  try omega
 ·by_cases h2:c.zg.length<=40
  ·have h1':¬ (40:Int)<c.za.length:=by omega
   have h2':¬ (40:Int)<c.zg.length:=by omega
   have h1'':¬ 40<c.za.length:=by omega
   have h2'':¬ 40<c.zg.length:=by omega
   simp[h1',h2',h1'',h2''];intros;refine cK (Qul hK c (by omega) (by omega)) ?_
   by_cases h3:OkC c;rotate_left
   ·simp[h3]
   simp[h3];refine Ql (fun i=>[(1,AV.iv (.ptr [QC c.za,Qy c.zg,.int .i64 c.zh])),(3,AV.iv (IV.int IntKind.i64 (ZA (c.za.take i):Nat))),(4,AV.iv (IV.int IntKind.i64 (i:Nat)))]) (fun _=>[]) c.za.length (fun i=>True) trivial ?_ ?_
   ·intro _
    rw[Qa QjK.eq_1];simp;omega
   intro i hi _ ih
   have hb:ZA (c.za.take i)<=i:=by
    have:=QLJ (p:=fun d:Qx=>decide (d.z6=2)) (l:=c.za.take i)
    simp at this;unfold ZA;omega
   rw[Qa QjK.eq_1]
   have hc:ZA (c.za.take (i+1))=ZA (c.za.take i)+if c.za[i].z6=2 then 1 else 0:=by
    unfold ZA;rw[QKL hi,QL8]
    grind
   rw[hc] at ih;by_cases e:c.za[i].z6=2
   ·simp[hi,e] at ih |-
    grind
   simp[hi,e] at ih |-
   grind
  ·have h1':¬ (40:Int)<c.za.length:=by omega
   have h2':(40:Int)<c.zg.length:=by omega
   have h2'':40<c.zg.length:=by omega
   simp[h1',h2',h2'']
   try omega
theorem Qxq (m:Machine):Gd K 124 [maV m] (.bool (decide (QoG m))):=by
 refine Qb hK (fk func124 QIa (by kernel_rfl)) (by simp) ?_
 by_cases h1:m.zd.length<=40;rotate_left
 ·have h1':(40:Int)<m.zd.length:=by omega
  have:QoG m:=.inl (by omega)
  simp[h1',this]
 ·by_cases h2:m.zk.length<=40
  ·have h1':¬ (40:Int)<m.zd.length:=by omega
   have h2':¬ (40:Int)<m.zk.length:=by omega
   simp[h1',h2'];intros;refine cK (Quk hK m (by omega) (by omega)) ?_
   by_cases h3:OkM m;rotate_left
   ·have:¬ QoG m:=by
     rintro (h | h | ⟨h,_⟩)
     all_goals grind
    simp[h3,this]
   have h4:=h3.zx;have h5:=h3.zw;simp only[inR] at h4;simp[h3]
   (repeat' first | omega | (with_reducible apply And.intro) | intro _)
   have e0:m.zw-m.zu+1=sets m 0:=by simp[sets,Q4]
   rw[e0];refine Ql (fun i=>[(1,AV.iv (.ptr [QV m.zd,.int .i64 m.zr,.int .i64 m.zu,.int .i64 m.zw,XR m.zk,.int .i64 m.zh])),(3,AV.iv (IV.int IntKind.i64 (sets m i))),(4,AV.iv (IV.int IntKind.i64 (i:Nat)))]) (fun _=>[]) m.zd.length (fun i=>sets m i<=150/\∀ k,0<k->k<=i->sets m k<=150) ⟨by rw[<- e0];omega,fun k h h'=>by omega⟩ ?_ ?_
   ·intro ⟨_,h⟩
    have:¬ QoG m:=by
     rintro (h | h | ⟨_,k,hk,hk',hk2⟩)
     all_goals grind
    rw[Qa QjJ.eq_1];simp[this]
   intro i hi ⟨hq,xf⟩ ih;have hs:=h3.span (QKR hi);have hss:=Qfq m i hi;have hp:=h3.sets_pos i;have hb:sets m i*Z4 m.zd[i]<=150*1000:=QL0 hq hs.2 (by omega) (by omega)
   have hb':0<=sets m i*Z4 m.zd[i]:=QLU (by omega) (by omega)
   have hsp:Z4 m.zd[i]=m.zd[i].hi-m.zd[i].lo+1:=rfl;have hlv:=h3.zd _ (QKR hi);simp[Zg] at hlv;have hlv1:=hlv.1.2;have hlv2:=hlv.2;simp only[inR] at hlv1;rw[Qa QjJ.eq_1];rw[hss,hsp] at ih;simp only[hsp] at hb hb' hss;by_cases hg:150<sets m i*(m.zd[i].hi-m.zd[i].lo+1)
   ·have hex:QoG m:=.inr (.inr ⟨h3,i+1,by omega,by omega,by rw[hss];exact hg⟩)
    simp[hi,hg,hex];omega
   have:=ih ⟨by omega,fun k hk hk'=>by
    grind⟩
   simp[hi,hg] at this |-
   grind
  ·have h1':¬ (40:Int)<m.zd.length:=by omega
   have h2':(40:Int)<m.zk.length:=by omega
   have:QoG m:=.inr (.inl (by omega))
   simp[h1',h2',this]
theorem QBu (p:Qe):Gd K 37 [prV p] (.bool (decide (Qhe p))):=by
 refine Qb hK (fk func37 c37 (by kernel_rfl)) (by simp) ?_
 simp;refine cK (Qxr hK p.zc) ?_;by_cases h1:Quv p.zc
 ·have:Qhe p:=.inl h1
  simp[h1,this]
 ·simp[h1]
  refine cK (Qxq hK p.zb) ?_;by_cases h2:QoG p.zb
  ·have:Qhe p:=.inr (.inl h2)
   simp[h2,this]
  ·by_cases h3:p.zf.length<=40
   ·have h3':¬ (40:Int)<p.zf.length:=by omega
    simp[h2,h3'];intros;have g1:p.zc.za.length<=40:=QLP.1 fun c=>h1 (.inl c)
    have g2:p.zc.zg.length<=40:=QLP.1 fun c=>h1 (.inr (.inl c))
    have g3:p.zb.zd.length<=40:=QLP.1 fun c=>h2 (.inl c)
    have g4:p.zb.zk.length<=40:=QLP.1 fun c=>h2 (.inr (.inl c))
    refine cK (Qur hK p ⟨by omega,by omega,by omega,by omega,by omega⟩) ?_
    by_cases h4:OkP p;rotate_left
    ·have:¬ Qhe p:=by
      rintro (h | h | h | h)
      all_goals grind
     simp[h4,this]
    have k4:=h4.zb.zx;have k5:=h4.zb.zw;simp only[inR] at k4;have hlen:=h4.zb.len;have htw:ZA p.zc.za<=5:=QLP.1 fun c=>h1 (.inr (.inr ⟨h4.zc,c⟩))
    have hset:∀ i,i<=p.zb.zd.length->sets p.zb i<=150:=fun i hi=>by
     rcases QMi i with rfl | hp
     ·simp[sets,Q4];omega
     exact Int.not_lt.1 fun c=>h2 (.inr (.inr ⟨h4.zb,i,hp,hi,c⟩))
    simp[h4]
    (repeat' first | omega | (with_reducible apply And.intro) | intro _)
    have e0:p.zb.zw-p.zb.zu+1=sets p.zb 0:=by simp[sets,Q4]
    rw[e0];refine Ql (fun i=>[(1,AV.iv (.ptr [QC p.zc.za,Qy p.zc.zg,.int .i64 p.zc.zh,QV p.zb.zd,.int .i64 p.zb.zr,.int .i64 p.zb.zu,.int .i64 p.zb.zw,XR p.zb.zk,.int .i64 p.zb.zh,Xq p.zf,.int .i64 p.zo,.int .i64 p.z8])),(3,AV.iv (IV.int IntKind.i64 (sets p.zb i))),(4,AV.iv (IV.int IntKind.i64 (i:Nat)))]) (fun _=>[]) p.zb.zd.length (fun i=>True) trivial ?_ ?_
    ·intro _
     rw[Qa QpQ.eq_1];simp
     (repeat' first | omega | (with_reducible apply And.intro) | intro _)
     have e1:sets p.zb p.zb.zd.length=sets p.zb p.zb.zd.length*(2 ^ ZA (p.zc.za.take 0):Nat):=by simp[ZA]
     rw[e1];refine Ql (fun i=>[(1,AV.iv (.ptr [QC p.zc.za,Qy p.zc.zg,.int .i64 p.zc.zh,QV p.zb.zd,.int .i64 p.zb.zr,.int .i64 p.zb.zu,.int .i64 p.zb.zw,XR p.zb.zk,.int .i64 p.zb.zh,Xq p.zf,.int .i64 p.zo,.int .i64 p.z8])),(3,AV.iv (IV.int IntKind.i64 (sets p.zb p.zb.zd.length*(2 ^ ZA (p.zc.za.take i):Nat)))),(5,AV.iv (IV.int IntKind.i64 (i:Nat)))]) (fun _=>[]) p.zc.za.length (fun i=>True) trivial ?_ ?_
     ·intro _
      rw[Qa QpP.eq_1]
      have:Qhe p↔48<ways p:=⟨fun h=>by
       rcases h with h | h | h | h
       all_goals grind,fun h=>.inr (.inr (.inr ⟨h4,h⟩))⟩
      rw[QKX];by_cases hw:48<ways p
      ·have hf:=this.2 hw
       unfold ways at hw;generalize sets p.zb p.zb.zd.length*(2 ^ ZA p.zc.za:Nat)=W at *;simp[hf,hw]
      have hf:¬ Qhe p:=fun c=>hw (this.1 c)
      unfold ways at hw;generalize sets p.zb p.zb.zd.length*(2 ^ ZA p.zc.za:Nat)=W at *;simp[hf,hw]
     intro i hi _ ih;have hpw:=Qvm (QLp (QmJ p.zc.za i) htw);have hs1:=hset _ (QKS _);have hs2:=h4.zb.sets_pos p.zb.zd.length;have hb:sets p.zb p.zb.zd.length*(2 ^ ZA (p.zc.za.take i):Nat)<=150*32:=QL0 hs1 (Int.ofNat_le.2 hpw) (QMu _) (by omega)
     have hb':0<=sets p.zb p.zb.zd.length*(2 ^ ZA (p.zc.za.take i):Nat):=QLU (by omega) (QMu _)
     rw[Qa QpP.eq_1];rw[QmK _ _ hi] at ih;by_cases e:p.zc.za[i].z6=2
     ·have e2:sets p.zb p.zb.zd.length*(2 ^ (ZA (p.zc.za.take i)+1):Nat)=sets p.zb p.zb.zd.length*(2 ^ ZA (p.zc.za.take i):Nat)*2:=by
       grind
      rw[if_pos e,e2] at ih;generalize sets p.zb p.zb.zd.length*(2 ^ ZA (p.zc.za.take i):Nat)=W at *;simp[hi,e] at ih |-
      grind
     rw[if_neg e,QLS] at ih;generalize sets p.zb p.zb.zd.length*(2 ^ ZA (p.zc.za.take i):Nat)=W at *;simp[hi,e] at ih |-
     grind
    intro i hi _ ih;have hs:=h4.zb.span (QKR hi);have hss:=Qfq p.zb i hi;have hp:=h4.zb.sets_pos i;have hb:sets p.zb i*Z4 p.zb.zd[i]<=150*1000:=QL0 (hset i (by omega)) hs.2 (by omega) (by omega)
    have hb':0<=sets p.zb i*Z4 p.zb.zd[i]:=QLU (by omega) (by omega)
    have hsp:Z4 p.zb.zd[i]=p.zb.zd[i].hi-p.zb.zd[i].lo+1:=rfl;have hlv:=h4.zb.zd _ (QKR hi);simp[Zg] at hlv;have hlv1:=hlv.1.2;have hlv2:=hlv.2;simp only[inR] at hlv1;rw[Qa QpQ.eq_1];rw[hss,hsp] at ih;simp only[hsp] at hb hb' hss;simp[hi] at ih |-
    grind
   ·have h3':(40:Int)<p.zf.length:=by omega
    have:Qhe p:=.inr (.inr (.inl (by omega)))
    simp[h2,h3',this]
omit hK
def d0:Qx:=⟨0,0,0,0,0⟩
def Vn (ds:List Qx):List Nat:=XX ZU ds 0
def Qen (ds:List Qx) (k:Nat):Qx:=ds.getD ((Vn ds).getD k 0) d0
theorem QqM {ds:List Qx} {j:Nat} (h:j∈Vn ds):j<ds.length:=by
 have:=VJ ZU ds 0 j h;omega
theorem Qj2 (ds:List Qx) (i:Nat):wn ds i<=(Vn ds).length:=by
 unfold wn Vn
 conv=>rhs;rw[<- QLX i ds,X6]
 simp
def Qkh (ds:List Qx) (s:Xp) (now:List Nat):Bool :=
 (decide (s.bar<0)||decide (s.bar=(Qen ds (now.getD (plc s.pos s.z6 now.length) 0)).bar)) &&
 (decide (s.z1<0)||decide (s.z1=(Qen ds (now.getD (plc s.pos s.z6 now.length) 0)).z1))
def Qc5 (ds:List Qx) (e:Nat->Int) (s:Xp):Bool:=Qkh ds s (cab ds e s.after.toNat)
def Q6 (ds:List Qx) (ss:List Xp) (e:Nat->Int):Nat:=ss.countP fun s=>!Qc5 ds e s
theorem Qfa (ds:List Qx) (ss:List Xp) (e:Nat->Int) (i:Nat) (h:i<ss.length):Q6 ds (ss.take (i+1)) e=Q6 ds (ss.take i) e+if Qc5 ds e ss[i] then 0 else 1:=by
 unfold Q6;rw[QKL h,QL8]
 grind
theorem QcO (ds:List Qx) (ss:List Xp) (e:Nat->Int):Q6 ds ss e<=ss.length:=QLJ
def QCV (ds:List Qx) (ends:List Int):Prop:=ends.length=ds.length/\∀ i (h:i<ds.length) (h':i<ends.length),inR ends[i] 0 1/\(ds[i].z6<2->ends[i]=ds[i].z6)
noncomputable instance (ds:List Qx) (ends:List Int):Decidable (QCV ds ends):=Classical.propDecidable _
def Qud (c:Qs) (ends:List Int):Prop:=QCV c.za ends/\(Q6 c.za c.zg (QO ends):Int)<=c.zh
noncomputable instance (c:Qs) (ends:List Int):Decidable (Qud c ends):=Classical.propDecidable _
structure Qm where
 zy:List Int
 zx:Int
 deriving DecidableEq
structure Q5 where
 ends:List Int
 set:Qm
 deriving DecidableEq
@[simp] def seC (s:Qm):List IV:=[Q0 s.zy,.int .i64 s.zx]
@[simp] def tuC (t:Q5):List IV:=[Q0 t.ends,Q0 t.set.zy,.int .i64 t.set.zx]
def okS (m:Machine) (s:Qm):Prop:=s.zy.length=m.zd.length/\inR s.zx m.zu m.zw/\∀ i (h:i<m.zd.length) (h':i<s.zy.length),inR s.zy[i] m.zd[i].lo m.zd[i].hi
noncomputable instance (m:Machine) (s:Qm):Decidable (okS m s):=Classical.propDecidable _
def UG (m:Machine) (zx w mn:Int):Int:=w+max 0 (m.zr-mn*zx)
def Vl (m:Machine):Int:=Q4 (·.long) m.zd
def den (s:Qm):Int:=Q4 id s.zy
def num (m:Machine) (s:Qm) (w mn:Int):Int:=UG m s.zx w mn*Vl m
theorem QlL {α:Type} (f:α->Int) (l:List α) (i:Nat) (h:i<l.length):Q4 f (l.take (i+1))=Q4 f (l.take i)*f l[i]:=by
 rw[QKL h,Qbw]
theorem Qkm {α:Type} (f:α->Int):∀ (l:List α),(∀ a∈l,1<=f a/\f a<=1000)->1<=Q4 f l/\Q4 f l<=(1000 ^ l.length:Nat)
 | [],_=>by simp[Q4]
 | a::l,h=>by
   have h1:=h a (by simp)
   have h2:=Qkm f l fun a ha=>h a (by simp[ha])
   have h3:=QL0 h1.1 h2.1 (by omega) (by omega)
   have h4:=QL0 h1.2 h2.2 (by omega) (by omega)
   simp only[Q4,QK6];omega
theorem Qvn {n:Nat} (h:n<=3):1000 ^ n<=1000000000:=by
 have:n=0\/n=1\/n=2\/n=3:=by omega
 grind
theorem Qbv {α:Type} (f:α->Int) (l:List α) (h:∀ a∈l,1<=f a/\f a<=1000) (hl:l.length<=3):1<=Q4 f l/\Q4 f l<=1000000000:=by
 have h1:=Qkm f l h;have h2:=Qvn hl;omega
theorem OkM.lever {m:Machine} (h:OkM m) {l:ZI} (hl:l∈m.zd):(1<=l.long/\l.long<=1000)/\1<=l.lo/\l.lo<=l.hi/\l.hi<=1000:=by
 have:=h.zd l hl;simp[Zg] at this;simp only[inR] at this;omega
theorem OkM.bal {m:Machine} (h:OkM m) {b:QT} (hl:b∈m.zk):inR b.zm 0 9999/\inR b.zn 0 99/\inR b.load 0 999999999/\inR b.off 0 999999999:=by
 have:=h.zk b hl;simp[Yp] at this
 grind
theorem OkM.zq {m:Machine} (h:OkM m) {zx w mn:Int} (hl:inR zx m.zu m.zw) (hw:inR w 0 9999) (hm:inR mn 0 99):(0<=mn*zx/\mn*zx<=1980)/\0<=UG m zx w mn/\UG m zx w mn<=19998:=by
 have h1:=h.zx;have h2:=h.zw;have h3:=h.zr;simp only[inR] at *;have h4:=QLU (a:=mn) (b:=zx) (by omega) (by omega)
 have h5:=QL0 (show mn<=99 by omega) (show zx<=20 by omega) (by omega) (by omega)
 unfold UG;omega
theorem OkM.longs {m:Machine} (h:OkM m) (i:Nat):1<=Q4 (·.long) (m.zd.take i)/\Q4 (·.long) (m.zd.take i)<=1000000000 :=
 Qbv _ _ (fun a ha=>(h.lever (QLC ha)).1) (by have:=h.len;simp;omega)
theorem OkM.zy {m:Machine} (h:OkM m) {s:Qm} (hs:okS m s) (i:Nat):1<=Q4 id (s.zy.take i)/\Q4 id (s.zy.take i)<=1000000000 :=
 Qbv _ _ (fun a ha=>by
  obtain ⟨k,hk,rfl⟩:=QLA (QLC ha);have h1:=hs.2.2 k (by rw[<- hs.1];exact hk) hk
  have h2:=h.lever (QKR (show k<m.zd.length by grind))
  simp only[inR,id] at *;omega) (by have:=h.len;have:=hs.1;simp;omega)
theorem OkM.aboveB {m:Machine} (h:OkM m):1<=Vl m/\Vl m<=1000000000:=by
 have:=h.longs m.zd.length
 rwa [QKX] at this
theorem OkM.denB {m:Machine} (h:OkM m) {s:Qm} (hs:okS m s):1<=den s/\den s<=1000000000:=by
 have:=h.zy hs s.zy.length
 rwa [QKX] at this
theorem OkM.numB {m:Machine} (h:OkM m) {s:Qm} (hs:okS m s) {w mn:Int} (hw:inR w 0 9999) (hm:inR mn 0 99):0<=num m s w mn/\num m s w mn<=19998000000000:=by
 have h1:=h.aboveB;have h2:=(h.zq hs.2.1 hw hm).2;have h3:=QLU (a:=UG m s.zx w mn) (b:=Vl m) (by omega) (by omega)
 have h4:=QL0 h2.2 h1.2 (by omega) (by omega)
 unfold num;omega
def Qc4 (m:Machine) (s:Qm) (b:QT):Bool :=
 decide (num m s b.zm b.zn-b.load*den s<=b.off*den s /\ -(num m s b.zm b.zn-b.load*den s)<=b.off*den s)
def ZW (m:Machine) (bs:List QT) (s:Qm):Nat:=bs.countP fun b=>!Qc4 m s b
theorem Qe9 (m:Machine) (bs:List QT) (s:Qm) (i:Nat) (h:i<bs.length):ZW m (bs.take (i+1)) s=ZW m (bs.take i) s+if Qc4 m s bs[i] then 0 else 1:=by
 unfold ZW;rw[QKL h,QL8]
 grind
theorem Qlk (m:Machine) (bs:List QT) (s:Qm):ZW m bs s<=bs.length:=QLJ
def Wt (m:Machine) (s:Qm):Prop:=okS m s/\(ZW m m.zk s:Int)<=m.zh
noncomputable instance (m:Machine) (s:Qm):Decidable (Wt m s):=Classical.propDecidable _
def Qeu (p:Qe) (t:Q5):Prop:=Qud p.zc t.ends/\Wt p.zb t.set
noncomputable instance (p:Qe) (t:Q5):Decidable (Qeu p t):=Classical.propDecidable _
include hK
omit hK
def t0:VW:=⟨0,0,0⟩
def tr (p:Qe) (i:Nat):VW:=p.zf.getD i t0
theorem QmL {p:Qe} {i:Nat} (h:i<p.zf.length):p.zf[i]=tr p i:=by simp[tr,List.getD_eq_getElem?_getD,h]
def ZC (p:Qe) (i:Nat) (e:Nat->Int):List Nat:=cab p.zc.za e ((pv p.zc.za).getD i 0)
def QI (p:Qe) (i:Nat) (e:Nat->Int):Int:=if 0<=(tr p i).z7 then ((ZC p i e).getD (tr p i).z7.toNat 0:Nat) else -1
def VE (p:Qe) (i:Nat) (s:Qm):Int:=num p.zb s (tr p i).zm (tr p i).zn
def X8 (p:Qe) (i:Nat) (t:Q5):Bool:=decide (0<=(tr p i).z7)&&decide (VE p i t.set<=p.zo*den t.set)
def Xn (p:Qe) (t:Q5):Nat:=(List.range p.zf.length).countP fun i=>X8 p i t
def inN (l:List Nat) (n:Int):Bool:=decide (n∈l.map fun k:Nat=>(k:Int))
def Wg (p:Qe) (link:Int) (t:Q5) (i:Nat):Bool:=decide (p.zo*den t.set<=VE p i t.set)&&inN (ZC p i (QO t.ends)) link&&!decide (QI p i (QO t.ends)=link)
def Zu (p:Qe) (link:Int) (t:Q5):Bool:=(List.range p.zf.length).any (Wg p link t)
def Ji (p:Qe) (e:Nat->Int):List Nat:=cab p.zc.za e p.zc.za.length
def Um (p:Qe) (t:Q5):Bool:=((Ji p (QO t.ends)).all fun (k:Nat)=>Zu p k t)&&decide ((Xn p t:Int)<p.z8)
def Qtl (p:Qe) (z1:Int) (t:Q5) (i:Nat):Bool:=X8 p i t&&decide ((Qen p.zc.za (QI p i (QO t.ends)).toNat).z1=z1)
def Qzs (p:Qe) (z1:Int) (t:Q5):Bool:=(List.range p.zf.length).any (Qtl p z1 t)
def XZ (some many:Int):Int:=if some=many then 1 else if some=0 then 2 else 3
def Qbf (l:List Int) (lo:Int) (i:Nat):List Int:=((List.range i).map fun j:Nat=>lo+j).filter fun n=>decide (n∈l)
def Jg (l:List Int) (lo hi:Int):List Int:=Qbf l lo (hi+1-lo).toNat
theorem Qhx (l:List Int) (lo:Int) (i:Nat):(Qbf l lo i).length<=i:=QLp (QLl _ _) (by simp)
def Qnu (p:Qe) (t:Q5) (k:Nat) (m:Int) (i:Nat):Int :=
 if inN (ZC p i (QO t.ends)) k=true/\¬ QI p i (QO t.ends)=k then max m ((VE p i t.set).tdiv (den t.set)) else m
def Qh0 (p:Qe) (t:Q5) (k:Nat) (n:Nat):Int:=(List.range n).foldl (Qnu p t k) (-1)
def QCs (p:Qe) (t:Q5) (now:List Nat):Int:=now.foldl (fun b k=>min b (Qh0 p t k p.zf.length)) 999999999
def Qb7 (p:Qe) (t:Q5) (i n:Nat):Nat:=(List.range n).countP fun k=>decide (0<=(tr p k).z7)&&decide (VE p k t.set<=VE p i t.set)
def Qqb (p:Qe) (t:Q5) (b:Int) (i:Nat):Int :=
 if 0<=(tr p i).z7/\p.z8<=(Qb7 p t i p.zf.length:Int) then min b ((VE p i t.set+den t.set-1).tdiv (den t.set)-1) else b
def Qfe (p:Qe) (t:Q5):Int:=(List.range p.zf.length).foldl (Qqb p t) (QCs p t (Ji p (QO t.ends)))
theorem QlQ (p:Qe) (t:Q5) (k n:Nat):Qh0 p t k (n+1)=Qnu p t k (Qh0 p t k n) n:=by simp[Qh0,QLf]
theorem Qdf (a b:Int):(if b<a then b else a)=min a b:=by split<;>omega
theorem Qdg (a b:Int):(if a<b then b else a)=max a b:=by split<;>omega
theorem Qa9 {a b:Int} (h1:0<=a) (h2:1<=b):0<=a.tdiv b/\a.tdiv b<=a:=by
 rw[QLD h1];exact ⟨Int.ediv_nonneg h1 (by omega),Int.ediv_le_self _ h1⟩
structure Fit (p:Qe) (t:Q5):Prop where
 ends:p.zc.za.length<=t.ends.length
 set:okS p.zb t.set
theorem OkP.deedsLen {p:Qe} (h:OkP p):p.zc.za.length<=12:=h.zc.len
theorem OkP.trialsLen {p:Qe} (h:OkP p):p.zf.length<=12:=by
 have:=Qc8 p.zc.za;have:=h.many;have:=h.deedsLen;omega
theorem OkP.trial {p:Qe} (h:OkP p) {i:Nat} (hi:i<p.zf.length):Yt (tr p i) (cnt p.zc.za ((pv p.zc.za).getD i 0)):=by
 have h1:i<(pv p.zc.za).length:=by rw[<- h.many];exact hi
 have:=h.zf i h1 hi;rw[QmL hi] at this
 grind
theorem OkP.pvGet {p:Qe} (h:OkP p) {i:Nat} (hi:i<p.zf.length):(pv p.zc.za).getD i 0<p.zc.za.length:=by
 have h1:i<(pv p.zc.za).length:=by rw[<- h.many];exact hi
 have:=QfV h1
 grind
theorem OkP.thenLen {p:Qe} (h:OkP p) (e:Nat->Int) {i:Nat} (hi:i<p.zf.length):((ZC p i e).length:Int)=cnt p.zc.za ((pv p.zc.za).getD i 0):=by
 have:=h.pvGet hi;exact Xx e h.zc.za _ (by omega) (by omega)
theorem OkP.brokeIn {p:Qe} (h:OkP p) (e:Nat->Int) {i:Nat} (hi:i<p.zf.length) (hb:0<=(tr p i).z7):∃ xc:(tr p i).z7.toNat<(ZC p i e).length,QI p i e=((ZC p i e)[(tr p i).z7.toNat]:Nat):=by
 have h1:=(h.trial hi).2.2;have h2:=h.thenLen e hi;simp only[inR] at h1;have xc:(tr p i).z7.toNat<(ZC p i e).length:=by omega
 exact ⟨xc,by simp[QI,hb,List.getD_eq_getElem?_getD,xc]⟩
theorem OkP.thenLt {p:Qe} (e:Nat->Int) (i:Nat) {k:Nat} (hk:k∈ZC p i e):k<(Vn p.zc.za).length :=
 QLj (Qad _ _ _ k hk) (Qj2 _ _)
theorem QkW (p:Qe) (t:Q5):Xn p t<=p.zf.length:=by
 have:=QLJ (p:=fun i=>X8 p i t) (l:=List.range p.zf.length)
 simpa[Xn] using this
theorem QcJ (n:Nat) (f:Nat->Bool):(List.range (n+1)).any f=((List.range n).any f||f n):=by grind
include hK
theorem Qoo (p:Qe) (n:Int) (hs:p.zf.length<=1000):Gd K 176 [prV p,.int .i64 n] (.bool (decide (inR n 0 (p.zf.length-1)))):=by
 refine Qb hK (fk func176 QHA (by kernel_rfl)) (by simp) ?_
 simp
 (repeat' first | omega | (with_reducible apply And.intro) | intro _)
 exact cK (Jk hK _ _ _) (by simp)
omit hK
def UT (d:Qx):List Int:=(if d.z6=0\/d.z6=2 then [0] else [])++(if d.z6=1\/d.z6=2 then [1] else [])
def QX:List Qx->List (List Int)
 | []=>[[]]
 | d::r=>(UT d).flatMap fun e=>(QX r).map (e::·)
noncomputable def Z3 (c:Qs) (first:List Int) (rest:List Qx):List (List Int):=((QX rest).map (first++·)).filter fun e=>decide (Qud c e)
theorem Qme (c:Qs) (first:List Int) (d:Qx) (r:List Qx):Z3 c first (d::r)=(UT d).flatMap fun e=>Z3 c (first++[e]) r:=by
 simp only[Z3,QX,QMA,List.filter_flatMap,List.map_map]
 congr 1
 funext e
 congr 2
 grind
def acc {α:Type} (pc:Nat->List α) (i:Nat):List α:=(List.range i).flatMap pc
theorem Qtz {α:Type} (pc:Nat->List α):acc pc 0=[]:=rfl
theorem QaW {α:Type} (pc:Nat->List α) (i:Nat):acc pc (i+1)=acc pc i++pc i:=by simp[acc,QLf]
noncomputable def QFu (c:Qs) (first:List Int) (d:Qx) (r:List Qx) (i:Nat):List (List Int):=if d.z6=i\/d.z6=2 then Z3 c (first++[(i:Int)]) r else []
theorem Qo2 (d:Qx):(UT d).length<=2:=by unfold UT;grind
theorem ZE {α β:Type} (f:α->List β) (n:Nat):∀ l:List α,(∀ a∈l,(f a).length<=n)->(l.flatMap f).length<=l.length*n
 | [],_=>by simp
 | a::l,h=>by
   have h1:=h a (by simp)
   have h2:=ZE f n l fun b hb=>h b (by simp[hb])
   simp only[QLH,QKW,QK6,Nat.succ_mul];omega
theorem QjV {α:Type} (pc:Nat->List α) (n:Nat) (h:∀ i,(pc i).length<=n) (i:Nat):(acc pc i).length<=i*n:=by
 have:=ZE pc n (List.range i) fun a _=>h a
 simpa[acc] using this
theorem QgP (c:Qs):∀ (rest:List Qx) (first:List Int),(Z3 c first rest).length<=2 ^ rest.length
 | [],first=>by
   have:=QLl (fun e=>decide (Qud c e)) ([[]].map (first++·))
   simpa[Z3,QX] using this
 | d::r,first=>by
   rw[Qme];have h1:=ZE (fun e=>Z3 c (first++[e]) r) (2 ^ r.length) (UT d) fun e _=>QgP c r (first++[e])
   have h2:=QLq (2 ^ r.length) (Qo2 d)
   grind
theorem Wh {n:Nat} (h:n<=12):2 ^ n<=4096:=QLB (by omega) h
include hK
omit hK
def Za:List ZI->List (List Int)
 | []=>[[]]
 | l::r=>acc (fun i=>(Za r).map ((l.lo+(i:Nat))::·)) (l.hi+1-l.lo).toNat
def Zm (m:Machine) (first:List Int) (rest:List ZI):List Qm:=(Za rest).flatMap fun s=>(List.range (m.zw+1-m.zu).toNat).map fun k:Nat=>⟨first++s,m.zu+k⟩
noncomputable def Q3 (m:Machine) (first:List Int) (rest:List ZI):List Qm:=(Zm m first rest).filter fun s=>decide (Wt m s)
theorem QcX (m:Machine) (first:List Int) (l:ZI) (r:List ZI):Q3 m first (l::r)=acc (fun i=>Q3 m (first++[l.lo+(i:Nat)]) r) (l.hi+1-l.lo).toNat:=by
 simp only[Q3,Zm,Za,acc,List.flatMap_assoc,List.filter_flatMap]
 congr 1
 funext i
 simp[List.flatMap_map]
theorem Qfr (m:Machine):∀ (rest:List ZI) (first:List Int),(∀ l∈rest,1<=Z4 l)->1<=m.zw-m.zu+1->((Q3 m first rest).length:Int)<=(m.zw-m.zu+1)*Q4 Z4 rest
 | [],first,_,h=>by
   have:=QLl (fun s=>decide (Wt m s)) (Zm m first [])
   simp[Zm,Za] at this;simp only[Q3,Q4];simp only[Zm,Za] at this |-
   grind
 | l::r,first,hs,h=>by
   rw[QcX];have ih:=fun e:Int=>Qfr m r (first++[e]) (fun l hl=>hs l (by simp[hl])) h
   have hl:=hs l (by simp)
   have hp:=Vy Z4 r fun l hl=>hs l (by simp[hl])
   have hpp:=QLU (a:=m.zw-m.zu+1) (b:=Q4 Z4 r) (by omega) (by omega)
   have h1:=QjV (fun i=>Q3 m (first++[l.lo+(i:Nat)]) r) ((m.zw-m.zu+1)*Q4 Z4 r).toNat (fun i=>by grind) (l.hi+1-l.lo).toNat
   have e1:((l.hi+1-l.lo).toNat:Int)=Z4 l:=by unfold Z4 at *;omega
   have e2:(((m.zw-m.zu+1)*Q4 Z4 r).toNat:Int)=(m.zw-m.zu+1)*Q4 Z4 r:=by omega
   have h2:=Int.ofNat_le.2 h1;rw[Int.natCast_mul,e1,e2] at h2;simp only[Q4]
   grind
noncomputable def QFt (m:Machine) (first:List Int) (k:Nat):List Qm:=if Wt m ⟨first,m.zu+k⟩ then [⟨first,m.zu+k⟩] else []
include hK
omit hK
noncomputable def QF (p:Qe):List Q5:=(Z3 p.zc [] p.zc.za).flatMap fun e=>(Q3 p.zb [] p.zb.zd).map fun s=>⟨e,s⟩
noncomputable def kL (p:Qe) (is:Bool):List Q5:=if OkP p/\is=true then QF p else []
noncomputable def kE (p:Qe) (is:Bool):Int:=if OkP p then (if is=true then (if QF p=[] then 3 else 0) else 1) else 60
theorem QiM {c:Qs} {e:List Int} (h:e∈Z3 c [] c.za):Qud c e:=by
 simp only[Z3,QLw,decide_eq_true_eq] at h;exact h.2
theorem JQ {m:Machine} {s:Qm} (h:s∈Q3 m [] m.zd):Wt m s:=by
 simp only[Q3,QLw,decide_eq_true_eq] at h;exact h.2
theorem Qh9 {p:Qe} {t:Q5} (h:t∈QF p):Qeu p t:=by
 simp only[QF,QLv,QK8] at h;obtain ⟨e,he,s,hs,rfl⟩:=h;exact ⟨QiM he,JQ hs⟩
theorem Qeu.fit {p:Qe} {t:Q5} (h:Qeu p t):Fit p t:=⟨by rw[h.1.1.1];omega,h.2.1⟩
theorem QnM {p:Qe} {t:Q5} (h:t∈QF p):Fit p t:=(Qh9 h).fit
theorem JE {p:Qe} {is:Bool} (h:kE p is=0):OkP p/\is=true/\kL p is=QF p/\QF p≠[]:=by
 unfold kE at h;split at h
 ·rename_i h1
  split at h
  ·rename_i h2
   split at h
   ·cases h
   rename_i h3;exact ⟨h1,h2,by simp[kL,h1,h2],h3⟩
  cases h
 cases h
theorem Qr8 {c:Qs} (h:OkC c):(Z3 c [] c.za).length<=4096:=QLp (QgP c _ _) (Wh h.len)
theorem QaE {m:Machine} (h:OkM m):((Q3 m [] m.zd).length:Int)<=sets m m.zd.length:=by
 have h1:=h.zx;simp only[inR] at h1;have:=Qfr m m.zd [] (fun l hl=>(h.span hl).1) (by omega)
 rwa [sets,QKX]
include hK
omit hK
structure QIs (p:Qe):Prop where
 small:Qmw p
 sets:OkP p->sets p.zb p.zb.zd.length<=1000000
def qk (p:Qe) (link:Int):Bool:=decide (inR link 0 ((Vn p.zc.za).length-1))
def Xk (p:Qe) (n:Int):Bool:=decide (inR n 0 (p.zf.length-1))
noncomputable def rProved (p:Qe) (link:Int):Int:=if kE p (qk p link)=0 then XZ ((kL p (qk p link)).countP (Zu p link)) (kL p (qk p link)).length else 0
noncomputable def rCond (p:Qe):Int:=if kE p true=0 then XZ ((kL p true).countP fun t=>decide (p.z8<=(Xn p t:Int))) (kL p true).length else 0
noncomputable def rGood (p:Qe):Int:=if kE p true=0 then XZ ((kL p true).countP (Um p)) (kL p true).length else 0
noncomputable def Jz (p:Qe):Int:=(kL p true).foldl (fun b t=>min b (Qfe p t)) 999999999
noncomputable def Vf (p:Qe):Int × Int:=if kE p true=0 then (if Jz p<0 then (0,3) else (Jz p,0)) else (0,kE p true)
def span (l:List Int):Int × Int:=match l with
 | []=>(0,0)
 | a::r=>(r.foldl min a,r.foldl max a)
theorem Qbe (l:List Int) (a:Int):span (l++[a])=if l=[] then (a,a) else (min (span l).1 a,max (span l).2 a):=by
 cases l with
 | nil=>rfl
 | cons b r=>simp[span]
noncomputable def rFail (p:Qe):Int × Int:=span ((kL p true).map fun t=>(Xn p t:Int))
noncomputable def QDC (p:Qe):List Int:=if kE p true=0 then acc (fun s:Nat=>if (kL p true).all (Qzs p s) then [(s:Int)] else []) 100 else []
noncomputable def Qec (p:Qe):List Int:=if kE p true=0 then acc (fun at_:Nat=>if (kL p true).all (fun t=>Zu p ((Ji p (QO t.ends)).getD at_ 0) t) then [] else [(at_:Int)]) (XU p.zc.za).toNat else []
noncomputable def qU (p:Qe) (n:Int):List Int:=Jg ((kL p (Xk p n)).map fun t=>QI p n.toNat (QO t.ends)) 0 12
include hK
end Go.Pf
namespace Go.Ev
theorem QAW {P:Program} {K:World->Prop} {F:Way->Env->Qr->Prop} {c:AC} {ks ids:List Nat} {k:List AI} {S:Type} (st:S->Env) (so:S->Qr) (I:S->Prop) (μ:S->Nat)
  (h:∀ s,I s->(∀ s',I s'->μ s'<μ s->ZB P K F c ks ids k (st s') (so s'))->ZB P K F c ks ids k (st s) (so s)):∀ s,I s->ZB P K F c ks ids k (st s) (so s):=by
 have:∀ n s,μ s<n->I s->ZB P K F c ks ids k (st s) (so s):=by
  intro n
  induction n with
  | _=>grind
 grind
end Go.Ev
namespace Go.Pf
open Go Go.Ev Go.Proofs Go.RowKit Go.Proofs.Tryz
variable {K:World->Prop} (hK:∀ w w',K w->Below w.heap.size w w'->K w')
set_option maxRecDepth 8000
theorem U9:∀ (r:List ZI) (s:List Int),s∈Za r->s.length=r.length
 | [],s,h=>by simp[Za] at h;simp[h]
 | l::r,s,h=>by
   simp only[Za,acc,QLv,QK8] at h;obtain ⟨i,_,x,hx,rfl⟩:=h;simp[U9 r x hx]
theorem qL:∀ (r:List ZI) (s:List Int),s∈Za r->∀ i (h:i<r.length) (h':i<s.length),inR s[i] r[i].lo r[i].hi
 | [],s,h,i,hi,_=>by simp at hi
 | l::r,s,h,i,hi,hi'=>by
   simp only[Za,acc,QLv,QK8,QLi] at h;obtain ⟨j,hj,x,hx,rfl⟩:=h;cases i with
   | zero=>simp only[QMs,inR];omega
   | succ i=>simp only[List.getElem_cons_succ];exact qL r x hx i (by simpa using hi) (by simpa using hi')
theorem Qlw {m:Machine} {s:Qm} (h:s∈Zm m [] m.zd):okS m s:=by
 simp only[Zm,QLv,QK8,QLi,QK5] at h;obtain ⟨x,hx,k,hk,rfl⟩:=h;exact ⟨U9 _ _ hx,by simp only[inR];omega,qL _ _ hx⟩
theorem Qft (m:Machine) (first:List Int) (l:ZI) (r:List ZI):Zm m first (l::r)=acc (fun i=>Zm m (first++[l.lo+(i:Nat)]) r) (l.hi+1-l.lo).toNat:=by
 simp only[Zm,Za,acc,List.flatMap_assoc]
 congr 1
 funext i
 simp[List.flatMap_map]
def Qnk (m:Machine) (first:List Int) (k:Nat):List Qm:=[⟨first,m.zu+k⟩]
theorem QhA (m:Machine) (first:List Int):Zm m first []=acc (Qnk m first) (m.zw+1-m.zu).toNat:=by
 simp only[Zm,Za,acc,QLH,List.flatMap_nil,QK9];generalize (m.zw+1-m.zu).toNat=n
 induction n with
 | zero=>rfl
 | succ n ih=>rw[QLf,QK3,ih,List.flatMap_append];rfl
noncomputable def tL (m:Machine) (is:Bool):List Qm:=if OkM m/\is=true then Q3 m [] m.zd else []
noncomputable def tE (m:Machine) (is:Bool):Int:=if OkM m then (if is=true then (if Q3 m [] m.zd=[] then 3 else 0) else 1) else 30
theorem QDr {m:Machine} {is:Bool} {s:Qm} (h:s∈tL m is):OkM m/\is=true/\okS m s:=by
 unfold tL at h;split at h
 ·rename_i h1
  exact ⟨h1.1,h1.2,(JQ h).1⟩
 cases h
def QaV (w mn load:Int):Bool:=decide (inR w 0 9999/\inR mn 0 99/\inR load 0 999999999)
def QbJ (m:Machine) (w mn:Int) (s:Qm):Int:=(num m s w mn).tdiv (den s)
def upS (m:Machine) (w mn:Int) (s:Qm):Int:=(num m s w mn+den s-1).tdiv (den s)
noncomputable def JA (m:Machine) (w mn:Int):Int × Int:=((span ((tL m (QaV w mn 0)).map (QbJ m w mn))).1,(span ((tL m (QaV w mn 0)).map (upS m w mn))).2)
include hK
def Xi (m:Machine) (l:List Qm) (w mn load:Int):Prop:=∀ s∈l,load*den s<=num m s w mn
omit hK
noncomputable def Wp (m:Machine) (l:List Qm) (mn load:Int):Int:=open Classical in ((List.range 10000).findIdx fun (n:Nat)=>decide (Xi m l n mn load):Nat)
theorem QnJ {m:Machine} {l:List Qm} {mn load r:Int} (h0:0<=r/\r<=10000) (h1:r<=9999->Xi m l r mn load) (h2:∀ w,0<=w->w<r->¬ Xi m l w mn load):Wp m l mn load=r:=by
 classical
 unfold Wp
 have hp:∀ n:Nat,n<10000->((List.range 10000).findIdx fun (n:Nat)=>decide (Xi m l n mn load))<=n\/¬ Xi m l n mn load:=by
  intro n hn;by_cases h:Xi m l n mn load
  ·left
   apply QLP.1;intro xc;have:=List.not_of_lt_findIdx xc;simp[h] at this
  exact .inr h
 have hl:((List.range 10000).findIdx fun (n:Nat)=>decide (Xi m l n mn load))<=10000:=by
  have:=List.findIdx_le_length (p:=fun (n:Nat)=>decide (Xi m l n mn load)) (xs:=List.range 10000)
  simpa using this
 have hg:((List.range 10000).findIdx fun (n:Nat)=>decide (Xi m l n mn load))<10000->Xi m l (((List.range 10000).findIdx fun (n:Nat)=>decide (Xi m l n mn load)):Nat) mn load:=by
  intro xc;have:=List.findIdx_getElem (p:=fun (n:Nat)=>decide (Xi m l n mn load)) (xs:=List.range 10000) (w:=by simpa using xc)
  simpa using this
 generalize ((List.range 10000).findIdx fun (n:Nat)=>decide (Xi m l n mn load))=q at *
 rcases Int.lt_trichotomy (q:Int) r with h | h | h
 ·grind
 ·exact h
 ·have hr:=h1 (by omega)
  rcases hp r.toNat (by omega) with h3 | h3
  all_goals grind
noncomputable def JS (m:Machine) (mn load:Int):Int × Int:=if tE m (QaV 0 mn load)=0 then (if 9999<Wp m (tL m (QaV 0 mn load)) mn load then (0,3) else (Wp m (tL m (QaV 0 mn load)) mn load,0)) else (0,tE m (QaV 0 mn load))
theorem QuX {m:Machine} {is:Bool} (h:tE m is=0):OkM m/\is=true/\tL m is=Q3 m [] m.zd/\Q3 m [] m.zd≠[]:=by
 unfold tE at h;split at h
 ·rename_i h1
  split at h
  ·rename_i h2
   split at h
   ·cases h
   rename_i h3;exact ⟨h1,h2,by simp[tL,h1,h2],h3⟩
  cases h
 cases h
include hK
omit hK
@[simp] def stC (s:List Int) (zx below:Int):List IV:=[.int .i64 (s.getD 0 0),.int .i64 (s.getD 1 0),.int .i64 (s.getD 2 0),.int .i64 zx,.int .i64 below]
@[simp] def wkC (m:Machine):List IV:=[QV m.zd,.int .i64 m.zr,.int .i64 m.zu,.int .i64 m.zw,XR m.zk,.int .i64 m.zh,.int .i64 (Vl m)]
def XS {α:Type} (pc:Nat->List α):Nat->Nat->List α
 | _,0=>[]
 | i,k+1=>pc i++XS pc (i+1) k
theorem Qcr {α:Type} (pc:Nat->List α):∀ k i,acc pc i++XS pc i k=acc pc (i+k)
 | 0,i=>by simp[XS]
 | k+1,i=>by
   have:=Qcr pc k (i+1);rw[QaW] at this;have e:i+(k+1)=i+1+k:=by omega
   rw[XS,<- QLz,this,e]
theorem QaX {α:Type} (pc:Nat->List α) (n:Nat):acc pc n=XS pc 0 n:=by
 have:=Qcr pc n 0;simp only[Qtz,QK5,QLb] at this;exact this.symm
def qp (m:Machine) (s:Qm):List IV:=[.agg (stC s.zy s.zx (den s)),.int .i64 (ZW m m.zk s)]
include hK
theorem Qiv (m:Machine) (s:Qm) (w mn:Int) (hm:OkM m) (hl:inR s.zx m.zu m.zw) (hw:inR w 0 9999) (hmn:inR mn 0 99):Gd K 174 [.ptr (wkC m),.agg (stC s.zy s.zx (den s)),.int .i64 w,.int .i64 mn] (.int .i64 (UG m s.zx w mn)):=by
 refine Qb hK (fk func174 QHB (by kernel_rfl)) (by simp) ?_
 have hp:=hm.zq hl hw hmn;have h3:=hm.zr;simp only[inR] at h3 hw
 have e0:(w+if mn*s.zx<m.zr then m.zr-mn*s.zx else 0)=UG m s.zx w mn:=by
  simp only[UG];split<;>omega
 simp[e0];omega
theorem QwE (m:Machine) (hm:OkM m):Gd K 254 [maV m] (.ptr (wkC m)):=by
 refine Qb hK (fk func254 QGO (by kernel_rfl)) (by simp) ?_
 have hl:=hm.len;simp
 (repeat' first | omega | (with_reducible apply And.intro) | intro _)
 refine Ql (fun i=>[(3,AV.loc 8 0),(10,AV.iv (QV m.zd)),(11,AV.iv (.int .i64 m.zd.length)),(12,AV.iv (IV.int IntKind.i64 (i:Nat)))])
  (fun i=>[(8,AO.box [.iv (QV m.zd),.iv (.int .i64 m.zr),.iv (.int .i64 m.zu),.iv (.int .i64 m.zw),.iv (XR m.zk),.iv (.int .i64 m.zh),.iv (.int .i64 (Q4 (·.long) (m.zd.take i)))])]) m.zd.length (fun i=>True) trivial ?_ ?_
 ·intro _
  rw[Qa Qjk.eq_1];rw[QKX];simp[Vl]
 ·intro i hi _ ih
  have l1:=hm.longs (i+1);rw[QlL _ _ _ hi] at ih l1;rw[Qa Qjk.eq_1];simp[hi] at ih l1 |-
  grind
theorem Qwh (m:Machine) (s:Qm) (b:QT) (hm:OkM m) (hs:okS m s) (hb:b∈m.zk):Gd K 364 [.ptr (wkC m),.agg (stC s.zy s.zx (den s)),.agg (baC b)] (.bool (Qc4 m s b)):=by
 refine Qb hK (fk func364 QF9 (by kernel_rfl)) (by simp) ?_
 have h:=hm.bal hb;simp;refine cK (Qiv hK m s b.zm b.zn hm hs.2.1 h.1 h.2.1) ?_;have h1:=hm.numB hs h.1 h.2.1;have h2:=hm.denB hs;have h3:=h.2.2;simp only[inR] at h3;have h4:=QL0 h3.1.2 h2.2 (by omega) (by omega)
 have h5:=QLU h3.1.1 (Int.le_trans (by omega) h2.1)
 have hr:Qc4 m s b=decide (num m s b.zm b.zn-b.load*den s<=b.off*den s /\ -(num m s b.zm b.zn-b.load*den s)<=b.off*den s):=rfl;have hnum:UG m s.zx b.zm b.zn*Vl m=num m s b.zm b.zn:=rfl;rw[hr];simp[hnum]
 have key:∀ d:Int,0<=d->(d<=b.off*den s↔(d.tdiv (den s)<b.off\/(d.tdiv (den s)=b.off/\d.tmod (den s)=0))):=fun d hd=>by
  rw[QLD hd,QLR hd];have e1:=Int.emod_def d (den s);have e2:=Int.emod_nonneg d (b:=den s) (by omega)
  have e3:=Int.emod_lt_of_pos d (b:=den s) (by omega)
  constructor
  ·intro hle
   have h6:d / den s<=b.off:=by
    have:=Int.ediv_le_ediv (c:=den s) (by omega) hle
    rwa [Int.mul_ediv_cancel _ (by omega)] at this
   grind
  rintro (h7 | ⟨h7,h8⟩)
  ·have h9:(d / den s+1)*den s<=b.off*den s:=QLc (by omega) (by omega)
   grind
  grind
 have hd0:¬ den s=0:=by omega
 generalize num m s b.zm b.zn=N at *;generalize b.load*den s=L at *;have hD : -1000000000000000000<=N-L/\N-L<=1000000000000000000:=by omega
 generalize hDe:N-L=D at *;have hO:=QLU h3.2.1 (show 0<=den s by omega)
 by_cases hneg:D<0
 ·have hk:=key (-D) (by omega)
  have htd:=Qa9 (a := -D) (b:=den s) (by omega) h2.1
  have ht2:=Int.tmod_nonneg (den s) (a := -D) (by omega)
  generalize b.off*den s=O at *;rw[Int.neg_tdiv] at htd hk;rw[Int.neg_tmod] at ht2 hk
  grind
 ·have hk:=key D (by omega)
  have htd:=Qa9 (a:=D) (b:=den s) (by omega) h2.1
  grind
theorem Qgj (m:Machine) (hm:OkM m) (first:List Int) (leak0:Int) (hlen:first.length=m.zd.length) (hr:∀ i (h:i<m.zd.length) (h':i<first.length),inR first[i] m.zd[i].lo m.zd[i].hi) :
  Qav prog K 316 [.ptr (wkC m),.agg (stC first leak0 (Q4 id first)),.int .i64 first.length] [] ((Zm m first []).map (qp m)) (fun b=>.bool b):=by
 intro s b s' hf;refine QN QpV (by simp) hf.v rfl ?_
 rw[QhA,QaX] at hf;have hlk:=hm.zx;have hlh:=hm.zw;simp only[inR] at hlk;simp[hlen]
 (repeat' first | omega | (with_reducible apply And.intro) | intro _)
 have e0:AV.iv (IV.int .i64 m.zu)=AV.iv (.int .i64 (m.zu+((0:Nat):Int))):=by simp
 refine XV (m.zw+1-m.zu).toNat (fun i e o=>∃ si,e=[(0,AV.iv (.ptr (wkC m))),(3,AV.cb 0),(5,AV.loc 5 0)]/\o=[(0,.ext si),(5,.box [.iv (.int .i64 (first.getD 0 0)),.iv (.int .i64 (first.getD 1 0)),.iv (.int .i64 (first.getD 2 0)),.iv (.int .i64 (m.zu+(i:Nat))),.iv (.int .i64 (Q4 id first))])] /\
  ZS prog K ((XS (Qnk m first) i ((m.zw+1-m.zu).toNat-i)).map (qp m)) si b s') ?_ ?_ _ _ ⟨s,rfl,by simp,by simpa using hf⟩
 ·rintro e o ⟨si,rfl,rfl,hfd⟩
  have q1:m.zu+((m.zw+1-m.zu).toNat:Int)=m.zw+1:=by omega
  have q2:¬ m.zw+1<=m.zw:=by omega
  rw[Nat.sub_self] at hfd;cases hfd;rw[q1,Qa Qi5.eq_1];simp[q2]
 ·rintro i e o hi ⟨si,rfl,rfl,hfd⟩ ih
  have q1:m.zu+(i:Int)<=m.zw:=by omega
  have q3:m.zu+((i:Int)+1)=m.zu+i+1:=by omega
  have hos:okS m ⟨first,m.zu+i⟩:=⟨hlen,by simp only[inR];omega,hr⟩
  have e1:(m.zw+1-m.zu).toNat-i=((m.zw+1-m.zu).toNat-(i+1))+1:=by omega
  rw[e1] at hfd;simp only[XS,Qnk,QK3,QLa,List.map_nil,List.singleton_append] at hfd;have hbl:=hm.blen;rw[Qa Qi5.eq_1];simp[q1]
  (repeat' first | omega | (with_reducible apply And.intro) | intro _)
  refine Ql (fun k=>[(0,AV.iv (.ptr (wkC m))),(3,AV.cb 0),(5,AV.loc 5 0),(11,AV.iv (IV.int IntKind.i64 (ZW m (m.zk.take k) ⟨first,m.zu+i⟩:Nat))),(87,AV.iv (XR m.zk)),(88,AV.iv (.int .i64 m.zk.length)),(89,AV.iv (IV.int IntKind.i64 (k:Nat)))])
   (fun k=>[(0,.ext si),(5,.box [.iv (.int .i64 (first.getD 0 0)),.iv (.int .i64 (first.getD 1 0)),.iv (.int .i64 (first.getD 2 0)),.iv (.int .i64 (m.zu+(i:Nat))),.iv (.int .i64 (Q4 id first))])]) m.zk.length (fun i=>True) trivial ?_ ?_
  ·intro _
   rw[Qa Qi6.eq_1];simp;have hit:qp m ⟨first,m.zu+i⟩=[.agg (stC first (m.zu+i) (Q4 id first)),.int .i64 (ZW m m.zk ⟨first,m.zu+i⟩)]:=rfl
   rw[hit] at hfd;cases hfd with
   | stop _ _ _ _ hg =>
     refine Q7 (by simpa using hg) rfl ?_
     simp
   | next _ _ _ s1 _ _ hg hr2 =>
     refine Q7 (by simpa using hg) rfl ?_
     simp
     (repeat' first | omega | (with_reducible apply And.intro) | intro _)
     exact ih _ _ ⟨s1,rfl,by simp[q3],hr2⟩
  ·intro k hk _ ih2
   have hle:=Qlk m (m.zk.take k) ⟨first,m.zu+i⟩
   simp at hle;rw[Qa Qi6.eq_1];rw[Qe9 _ _ _ _ hk] at ih2;simp[hk] at ih2 |-;have hg:=Qwh hK m ⟨first,m.zu+i⟩ m.zk[k] hm hos (QKR hk)
   refine cK (by simpa[den] using hg) ?_
   cases hrr:Qc4 m ⟨first,m.zu+i⟩ m.zk[k]
   ·simp[hrr] at ih2 |-
    grind
   ·simp[hrr] at ih2 |-
    grind
theorem QnS (m:Machine) (hm:OkM m):∀ (n:Nat) (first:List Int),first.length+n=m.zd.length->(∀ i (h:i<m.zd.length) (h':i<first.length),inR first[i] m.zd[i].lo m.zd[i].hi) ->
  Qav prog K 316 [.ptr (wkC m),.agg (stC first 0 (Q4 id first)),.int .i64 first.length] [] ((Zm m first (m.zd.drop first.length)).map (qp m)) (fun b=>.bool b)
 | 0,first,hn,hr=>by
   have e1:m.zd.drop first.length=[]:=QLE (by omega)
   rw[e1];exact Qgj hK m hm first 0 (by omega) hr
 | n+1,first,hn,hr=>by
   have ihn:=QnS m hm n;have xc:first.length<m.zd.length:=by omega
   have hl3:=hm.len;have e1:m.zd.drop first.length=m.zd[first.length]::m.zd.drop (first.length+1):=QLg xc
   have hlv:=hm.lever (QKR xc);rw[e1,Qft]
   have hpb:∀ x:Int,inR x m.zd[first.length].lo m.zd[first.length].hi->1<=Q4 id (first++[x])/\Q4 id (first++[x])<=1000000000:=fun x hx=>by
    refine Qbv _ _ (fun a ha=>?_) (by simp;omega)
    simp only[inR] at hx;rcases QK0.1 ha with ha | ha
    ·obtain ⟨k,hk,rfl⟩:=QLA ha
     have h1:=hr k (by omega) hk
     have h2:=hm.lever (QKR (show k<m.zd.length by omega))
     simp only[inR,id] at *;omega
    grind
   have ih2:∀ i:Nat,m.zd[first.length].lo+(i:Int)<=m.zd[first.length].hi->Qav prog K 316 [.ptr (wkC m),.agg (stC (first++[m.zd[first.length].lo+(i:Int)]) 0 (Q4 id (first++[m.zd[first.length].lo+(i:Int)]))),.int .i64 (first.length+1:Nat)] []
     (((fun i:Nat=>Zm m (first++[m.zd[first.length].lo+(i:Nat)]) (m.zd.drop (first.length+1))) i).map (qp m)) (fun b=>.bool b):=fun i hi=>by
    have:=ihn (first++[m.zd[first.length].lo+(i:Int)]) (by simp;omega) (fun k h h'=>by
     rcases QL2 k first.length with hk | hk
     ·grind
     have:k=first.length:=by simp at h';omega
     subst this;simp only[List.getElem_append_right (QKS _),Nat.sub_self,QMs,inR];omega)
    grind
   generalize (fun i:Nat=>Zm m (first++[m.zd[first.length].lo+(i:Nat)]) (m.zd.drop (first.length+1)))=pc at *
   intro s b s' hf;refine QN QpV (by simp) hf.v rfl ?_
   rw[QaX] at hf;have hlt':(first.length:Int)<m.zd.length:=by omega
   simp[xc]
   (repeat' first | omega | (with_reducible apply And.intro) | intro _)
   refine XV (m.zd[first.length].hi+1-m.zd[first.length].lo).toNat (fun i e o=>∃ si,e=[(0,AV.iv (.ptr (wkC m))),(2,AV.iv (IV.int IntKind.i64 (first.length:Nat))),(3,AV.cb 0),(5,AV.loc 5 0),(9,AV.iv (.int .i64 (m.zd[first.length].lo+(i:Nat))))] /\
    o=[(0,.ext si),(5,.box [.iv (.int .i64 (first.getD 0 0)),.iv (.int .i64 (first.getD 1 0)),.iv (.int .i64 (first.getD 2 0)),.iv (.int .i64 0),.iv (.int .i64 (Q4 id first))])] /\
    ZS prog K ((XS pc i ((m.zd[first.length].hi+1-m.zd[first.length].lo).toNat-i)).map (qp m)) si b s') ?_ ?_ _ _ ⟨s,by simp,by simp,by simpa using hf⟩
   ·rintro e o ⟨si,rfl,rfl,hfd⟩
    have q1:m.zd[first.length].lo+((m.zd[first.length].hi+1-m.zd[first.length].lo).toNat:Int)=m.zd[first.length].hi+1:=by omega
    have q2:¬ m.zd[first.length].hi+1<=m.zd[first.length].hi:=by omega
    rw[Nat.sub_self] at hfd;cases hfd;rw[q1,Qa Qi7.eq_1];simp[xc,q2]
   ·rintro i e o hi ⟨si,rfl,rfl,hfd⟩ ih
    have q1:m.zd[first.length].lo+(i:Int)<=m.zd[first.length].hi:=by omega
    have q3:m.zd[first.length].lo+((i:Int)+1)=m.zd[first.length].lo+i+1:=by omega
    have e1:(m.zd[first.length].hi+1-m.zd[first.length].lo).toNat-i=((m.zd[first.length].hi+1-m.zd[first.length].lo).toNat-(i+1))+1:=by omega
    rw[e1] at hfd;simp only[XS,QK3] at hfd;have hg:=ih2 i q1;have hb:=hpb (m.zd[first.length].lo+(i:Int)) (by simp only[inR];omega)
    have hpr:Q4 id (first++[m.zd[first.length].lo+(i:Int)])=Q4 id first*(m.zd[first.length].lo+(i:Int)):=Qbw _ _ _
    rw[hpr] at hg hb;rw[Qa Qi7.eq_1]
    have hcase:(∃ s1 b1,ZS prog K ((pc i).map (qp m)) si b1 s1/\(b1=true->ZS prog K ((XS pc (i+1) ((m.zd[first.length].hi+1-m.zd[first.length].lo).toNat-(i+1))).map (qp m)) s1 b s')/\(b1=false->b=false/\s1=s')):=by
     rcases ZS.append hfd with ⟨s1,h1,h2⟩ | ⟨h1,h2⟩
     all_goals grind
    obtain ⟨s1,b1,f1,f2,f3⟩:=hcase;have hgx:=hg _ _ _ f1
    have hfl:first=[]\/(∃ a,first=[a])\/∃ a c,first=[a,c]:=by
     match first,xc,hl3 with
     | [],_,_=>exact .inl rfl
     | [a],_,_=>grind
     | [a,c],_,_=>grind
     | _::_::_::_,h,h'=>simp at h;omega
    rcases hfl with rfl | ⟨a,rfl⟩ | ⟨a,c,rfl⟩
    all_goals
     try simp only[QLr,QK6,QLb,Nat.reduceAdd] at xc
     try simp only[QLr,QK6,QLb,Nat.reduceAdd] at q1
     try simp only[QLr,QK6,QLb,Nat.reduceAdd] at q3
     try simp only[QLr,QK6,QLb,Nat.reduceAdd] at hb
     try simp only[QLr,QK6,QLb,Nat.reduceAdd] at hgx
     try simp only[QLr,QK6,QLb,Nat.reduceAdd] at ih
     try simp only[QLr,QK6,QLb,Nat.reduceAdd] at f2
     try simp only[QLr,QK6,QLb,Nat.reduceAdd] at hlt'
     try simp only[QLr,QK6,QLb,Nat.reduceAdd] at hlv
     try simp only[QLr,QK6,QLb,Nat.reduceAdd]
     simp[q1,xc]
     (repeat' first | omega | (with_reducible apply And.intro) | intro _)
     refine ZK (by simpa using hgx) rfl ?_
     cases b1
     ·obtain ⟨rfl,rfl⟩:=f3 rfl
      simp
     ·simp
      (repeat' first | omega | (with_reducible apply And.intro) | intro _)
      exact ih _ _ ⟨s1,by simp[q3],by simp,f2 rfl⟩
omit hK
section
variable {K:World->Prop}
def stI (s:Qm):List IV:=[.agg (stC s.zy s.zx (den s))]
theorem Qbm {m:Machine} {ks:Env} (hks:ZG [2,3] [0,3] ks=[(2,.iv (.ptr [.ptr (wkC m)])),(3,.loc 3 0)]) :
  ∀ (Ls:List Qm) (s:Ext) (b:Bool) (s':Ext),ZS prog K ((Ls.filter fun t=>decide ((ZW m m.zk t:Int)<=m.zh)).map stI) s b s' ->
   ∃ wy,(wy=.fall\/wy=.ret)/\Uy prog K [8,9] WQ Qcl [2,3] [0,3] (ZG [2,3] [0,3] ks) (Ls.map (qp m)) [(0,.ext s),(3,.box [.cb 0])] wy [(0,.ext s'),(3,.box [.cb 0])]
 | [],s,b,s',h=>by
   cases h;exact ⟨.fall,.inl rfl,.nil _⟩
 | t::Ls,s,b,s',h=>by
   by_cases ht:(ZW m m.zk t:Int)<=m.zh
   ·rw[QMb (by simpa using ht)] at h
    cases h with
    | stop _ _ _ _ hg =>
      refine ⟨.ret,.inr rfl,.stop _ _ _ _ _ (by simp) ?_⟩
      rw[hks];refine ⟨rfl,?_⟩;simp[qp,WQ,Qcl,ht];refine Q7 (by simpa[stI] using hg) rfl ?_
      simp
    | next _ _ _ s1 _ _ hg hr =>
      obtain ⟨wy,h1,h2⟩:=Qbm hks Ls s1 b s' hr;refine ⟨wy,h1,.next _ _ _ _ _ _ ?_ h2⟩;rw[hks];refine ⟨rfl,?_⟩;simp[qp,WQ,Qcl,ht];refine Q7 (by simpa[stI] using hg) rfl ?_
      simp
   ·rw[QMc (by simpa using ht)] at h
    obtain ⟨wy,h1,h2⟩:=Qbm hks Ls s b s' h;refine ⟨wy,h1,.next _ _ _ _ _ _ ?_ h2⟩;rw[hks];refine ⟨rfl,?_⟩;simp[qp,WQ,Qcl,ht]
theorem Qfs (m:Machine):Q3 m [] m.zd=(Zm m [] m.zd).filter fun t=>decide ((ZW m m.zk t:Int)<=m.zh):=by
 unfold Q3;refine QMn fun s hs=>?_
 have:=Qlw hs;simp[Wt,this]
end
include hK
theorem QvK (m:Machine) (hm:OkM m):Qaw prog K 255 [.ptr (wkC m)] [] ((Zm m [] m.zd).map (qp m)):=by
 intro s b s' hf;have h:=QnS hK m hm m.zd.length [] (by simp) (fun i h h'=>by simp at h')
 simp only[QLr,List.drop_zero] at h;have hgx:=h _ _ _ hf;refine QN (fk func255 QGN (by kernel_rfl)) (by simp) hf.v rfl ?_
 simp;refine ZK (by simpa[Q4] using hgx) rfl ?_
 simp
theorem QbS (m:Machine) (hm:OkM m):Qaw prog K 173 [.ptr (wkC m)] [] ((Q3 m [] m.zd).map stI):=by
 intro s b s' hfd;refine QN (fk func173 c173 (by kernel_rfl)) (by simp) hfd.v rfl ?_
 rw[Qfs] at hfd;obtain ⟨wy,h1,h2⟩:=Qbm (m:=m) (ks:=[(2,.iv (.ptr [.ptr (wkC m)])),(3,.loc 3 0)]) rfl (Zm m [] m.zd) s b s' hfd;simp;refine Q9 (wy:=wy) (o':=[(0,.ext s'),(3,.box [.cb 0])]) rfl (by kernel_rfl) (QvK hK m hm) (by simpa using h2) ?_
 rcases h1 with rfl | rfl<;>simp
theorem Qix (m:Machine) (is:Bool) (hl:m.zd.length<=1000) (hb:m.zk.length<=1000):Gd K 171 [maV m,.bool is] (.xg [if tE m is=0 then .ptr (wkC m) else .nilp,.int .i64 (tE m is)]):=by
 refine Qb hK (fk func171 c171 (by kernel_rfl)) (by simp) ?_
 simp;refine cK (Qos hK m hl hb) ?_;by_cases h1:OkM m
 ·cases is
  ·simp[h1,tE]
  simp[h1];refine cK (QwE hK m h1) ?_;simp;cases hL:Q3 m [] m.zd with
  | nil =>
    refine Q9 (wy:=.fall) (o':=[(4,.box [.iv .nilp]),(5,.box [.iv (.int .i64 0)]),(7,.box [.iv (.ptr (wkC m))])]) rfl (by kernel_rfl) (QbS hK m h1) (by rw[hL];simpa using Uy.nil _) ?_
    simp[tE,h1,hL]
  | cons a r =>
    refine Q9 (wy:=.ret) (o':=[(4,.box [.iv (.ptr (wkC m))]),(5,.box [.iv (.int .i64 0)]),(7,.box [.iv (.ptr (wkC m))])]) rfl (by kernel_rfl) (QbS hK m h1) (by
     rw[hL];refine .stop _ _ _ _ _ (by simp) ?_
     refine ⟨rfl,?_⟩;simp[stI,Qk9,Qp3]) ?_
    simp[tE,h1,hL]
 ·simp[h1,tE]
theorem Qwl (m:Machine) (hl:m.zd.length<=1000) (hb:m.zk.length<=1000) (hs:OkM m->sets m m.zd.length<=1000000):Gd K 321 [maV m] (.xg [.int .i64 (tL m true).length,.int .i64 (tE m true)]):=by
 refine Qb hK (fk func321 QGm (by kernel_rfl)) (by simp) ?_
 simp;refine cK (Qix hK m true hl hb) ?_;by_cases he:tE m true=0
 ·obtain ⟨hm,_,htl,hne⟩:=QuX he
  have hln:=QaE hm;have hln2:=hs hm;simp[he,htl];refine Q9 (wy:=.fall) (o':=[(2,.box [.iv (.int .i64 ((Q3 m [] m.zd).length:Nat))])]) rfl (by kernel_rfl) (QbS hK m hm) ?_ ?_
  ·have:=Uy.all (P:=prog) (K:=K) (ps:=[15]) (asn:=QeR) (body:=Qi1) (ks:=[2]) (ids:=[2]) (eK:=[(2,.loc 2 0)]) ((Q3 m [] m.zd).map stI) (fun i=>[(2,.box [.iv (.int .i64 (i:Int))])]) fun i x hi=>by
    simp only[QKU,QKQ] at hi;obtain ⟨y,hy,rfl⟩:=hi;have xc:=(QKN.1 hy).1;refine ⟨rfl,?_⟩;simp[stI,QeR,Qi1];omega
   simpa using this
  simp
 ·have:tL m true=[]:=by
   unfold tE at he;unfold tL
   grind
  simp[he,this]
omit hK
@[simp] theorem QCH:span []=(0,0):=rfl
theorem QAg {m:Machine} {is:Bool} (h:¬ tE m is=0):tL m is=[]:=by
 unfold tE at h;unfold tL
 grind
def Qh8 (m:Machine) (mn load:Int) (s:Qm):Int:=(load*den s+Vl m-1).tdiv (Vl m)-UG m s.zx 0 mn
def Uk (m:Machine) (mn load:Int) (l:List Qm):Int:=l.foldl (fun b s=>max b (Qh8 m mn load s)) 0
theorem Qrc (m:Machine) (mn load:Int) (l:List Qm) (w:Int) (hw:0<=w):Uk m mn load l<=w↔∀ s∈l,Qh8 m mn load s<=w:=by
 have:∀ (l:List Qm) (b:Int),(l.foldl (fun b s=>max b (Qh8 m mn load s)) b<=w↔b<=w/\∀ s∈l,Qh8 m mn load s<=w):=by
  intro l
  induction l with
  | _=>grind
 have h:=this l 0;simpa[Uk,hw] using h
theorem qY (m:Machine) (mn load:Int) (l:List Qm):0<=Uk m mn load l:=by
 have:∀ (l:List Qm) (b:Int),b<=l.foldl (fun b s=>max b (Qh8 m mn load s)) b:=by
  intro l
  induction l with
  | _=>grind
 exact this l 0
theorem QkC {m:Machine} (hm:OkM m) {s:Qm} (hs:okS m s) {mn load w:Int} (hmn:inR mn 0 99) (hld:inR load 0 999999999):Qh8 m mn load s<=w↔load*den s<=num m s w mn:=by
 have ha:=hm.aboveB;have hd:=hm.denB hs;simp only[inR] at hld;have hn:=QLU hld.1 (Int.le_trans (by omega) hd.1)
 have e1:num m s w mn=(w+UG m s.zx 0 mn)*Vl m:=by
  unfold num UG
  congr 1
  omega
 unfold Qh8;rw[e1,QLD (by omega)]
 generalize UG m s.zx 0 mn=r;generalize load*den s=N at *;generalize Vl m=A at *;have e2:=Int.emod_def (N+A-1) A;have e3:=Int.emod_nonneg (N+A-1) (b:=A) (by omega)
 have e4:=Int.emod_lt_of_pos (N+A-1) (b:=A) (by omega)
 generalize (N+A-1) / A=Q at *;constructor
 ·intro h
  have h1:Q*A<=(w+r)*A:=QLc (by omega) (by omega)
  grind
 ·intro h
  apply Int.not_lt.1;intro xc;have h1:(w+r+1)*A<=Q*A:=QLc (by omega) (by omega)
  grind
theorem QhZ {m:Machine} (hm:OkM m) {l:List Qm} (hs:∀ s∈l,okS m s) {mn load:Int} (hmn:inR mn 0 99) (hld:inR load 0 999999999):Wp m l mn load=min (Uk m mn load l) 10000:=by
 have h0:=qY m mn load l
 have xf:∀ w,0<=w->(Xi m l w mn load↔Uk m mn load l<=w):=fun w hw=>by
  rw[Qrc m mn load l w hw];exact ⟨fun h s hsl=>(QkC hm (hs s hsl) hmn hld).2 (h s hsl),fun h s hsl=>(QkC hm (hs s hsl) hmn hld).1 (h s hsl)⟩
 refine QnJ (by omega) (fun h=>(xf _ (by omega)).2 (by omega)) (fun w h1 h2=>fun c=>?_)
 grind
include hK
theorem Quf (m:Machine) (w mn:Int) (hl:m.zd.length<=1000) (hb:m.zk.length<=1000):Gd K 91 [maV m,.int .i64 w,.int .i64 mn] (.xg [.agg [.int .i64 (JA m w mn).1,.int .i64 (JA m w mn).2],.int .i64 (tE m (QaV w mn 0))]):=by
 refine Qb hK (fk func91 c91 (by kernel_rfl)) (by simp) ?_
 simp;refine cK (Qiw hK w mn 0) ?_;have hask:decide (inR w 0 9999/\inR mn 0 99/\inR 0 0 999999999)=QaV w mn 0:=rfl;rw[hask];simp;refine cK (Qix hK m (QaV w mn 0) hl hb) ?_;unfold JA;by_cases he:tE m (QaV w mn 0)=0;rotate_left
 ·have:=QAg he
  simp[he,this]
 ·obtain ⟨hm,ha,htl,hne⟩:=QuX he
  have ha:=of_decide_eq_true ha;rw[htl];simp[he];refine Q9 (wy:=.fall) (o':=[(6,.box [.iv (.int .i64 0),.iv (.int .i64 0)]),(8,.box [.iv (.ptr (wkC m))]),(10,.box [.iv (.int .i64 (span ((Q3 m [] m.zd).map (QbJ m w mn))).1),.iv (.int .i64 (span ((Q3 m [] m.zd).map (upS m w mn))).2)]),(11,.box [.iv (.bool (decide ((Q3 m [] m.zd).length=0)))])]) rfl (by kernel_rfl) (QbS hK m hm) ?_ ?_
  ·have hok:∀ s∈Q3 m [] m.zd,okS m s:=fun s h=>(JQ h).1
   generalize Q3 m [] m.zd=l at *
   have:=Uy.all (P:=prog) (K:=K) (ps:=[30]) (asn:=QeO) (body:=Qk8) (ks:=[4,5,6,8,10,11]) (ids:=[6,8,10,11]) (eK:=[(4,.iv (.ptr [.int .i64 w])),(5,.iv (.ptr [.int .i64 mn])),(6,.loc 6 0),(8,.loc 8 0),(10,.loc 10 0),(11,.loc 11 0)]) (l.map stI)
    (fun i=>[(6,.box [.iv (.int .i64 0),.iv (.int .i64 0)]),(8,.box [.iv (.ptr (wkC m))]),(10,.box [.iv (.int .i64 (span ((l.take i).map (QbJ m w mn))).1),.iv (.int .i64 (span ((l.take i).map (upS m w mn))).2)]),(11,.box [.iv (.bool (decide (i=0)))])]) fun i x hi=>by
    simp only[QKU,QKQ] at hi;obtain ⟨y,hy,rfl⟩:=hi;obtain ⟨xc,rfl⟩:=QKN.1 hy;have hsi:=hok _ (QKR xc);have hn:=hm.numB hsi ha.1 ha.2.1;have hd:=hm.denB hsi;have td1:=Qa9 hn.1 hd.1;have td2:=Qa9 (a:=num m l[i] w mn+den l[i]-1) (b:=den l[i]) (by omega) (by omega)
    have hd0:¬ den l[i]=0:=by omega
    have hlow:QbJ m w mn l[i]=(num m l[i] w mn).tdiv (den l[i]):=rfl;have hup:upS m w mn l[i]=(num m l[i] w mn+den l[i]-1).tdiv (den l[i]):=rfl;have hnum:UG m l[i].zx w mn*Vl m=num m l[i] w mn:=rfl;rw[QKL xc,QK3,QMj,Qbe,QK3,QMj,Qbe];refine ⟨rfl,?_⟩;have hg:=Qiv hK m l[i] w mn hm hsi.2.1 ha.1 ha.2.1;by_cases h0:i=0
    ·subst h0
     simp[stI,QeO,Qk8];refine cK (by simpa using hg) ?_
     simp[hnum,hd0,hlow,hup];omega
    have hne1:¬ (l.take i).map (QbJ m w mn)=[]:=by
     intro c;have hli:((l.take i).map (QbJ m w mn)).length=i:=by simp;omega
     grind
    have hne2:¬ (l.take i).map (upS m w mn)=[]:=by
     intro c;have hli:((l.take i).map (upS m w mn)).length=i:=by simp;omega
     grind
    rw[if_neg hne1,if_neg hne2];generalize span ((l.take i).map (QbJ m w mn))=A at *;generalize span ((l.take i).map (upS m w mn))=B at *;simp[stI,QeO,Qk8,h0];refine cK (by simpa using hg) ?_
    simp[hnum,hd0,hlow,hup,Qdf,Qdg];omega
   simpa using this
  ·simp
theorem QwW (m:Machine) (mn load:Int) (hl:m.zd.length<=1000) (hb:m.zk.length<=1000):Gd K 193 [maV m,.int .i64 mn,.int .i64 load] (.xg [.int .i64 (JS m mn load).1,.int .i64 (JS m mn load).2]):=by
 refine Qb hK (fk func193 QHk (by kernel_rfl)) (by simp) ?_
 simp;refine cK (Qiw hK 0 mn load) ?_;have hask:decide (inR 0 0 9999/\inR mn 0 99/\inR load 0 999999999)=QaV 0 mn load:=rfl;rw[hask];simp;refine cK (Qix hK m (QaV 0 mn load) hl hb) ?_;unfold JS;by_cases he:tE m (QaV 0 mn load)=0;rotate_left
 ·simp[he]
 ·obtain ⟨hm,ha,htl,hne⟩:=QuX he
  have ha:=of_decide_eq_true ha;have hok:∀ s∈Q3 m [] m.zd,okS m s:=fun s h=>(JQ h).1
  have hml:=QhZ hm hok ha.2.1 ha.2.2;have hmn:=qY m mn load (Q3 m [] m.zd);rw[htl,hml];simp[he];refine Q9 (wy:=.fall) (o':=[(8,.box [.iv (.ptr (wkC m))]),(10,.box [.iv (.int .i64 (Uk m mn load (Q3 m [] m.zd)))])]) rfl (by kernel_rfl) (QbS hK m hm) ?_ ?_
  ·clear hml hmn hne htl
   generalize Q3 m [] m.zd=l at *
   have:=Uy.all (P:=prog) (K:=K) (ps:=[26]) (asn:=QeV) (body:=Qjt) (ks:=[4,5,8,10]) (ids:=[8,10]) (eK:=[(4,.iv (.ptr [.int .i64 mn])),(5,.iv (.ptr [.int .i64 load])),(8,.loc 8 0),(10,.loc 10 0)]) (l.map stI)
    (fun i=>[(8,.box [.iv (.ptr (wkC m))]),(10,.box [.iv (.int .i64 (Uk m mn load (l.take i)))])]) fun i x hi=>by
    simp only[QKU,QKQ] at hi;obtain ⟨y,hy,rfl⟩:=hi;obtain ⟨xc,rfl⟩:=QKN.1 hy;have hsi:=hok _ (QKR xc);have hd:=hm.denB hsi;have hab:=hm.aboveB;have hld:=ha.2.2;simp only[inR] at hld;have h4:=QL0 hld.2 hd.2 (by omega) (by omega)
    have h5:=QLU hld.1 (Int.le_trans (by omega) hd.1)
    have td:=Qa9 (a:=load*den l[i]+Vl m-1) (b:=Vl m) (by omega) (by omega)
    have ha0:¬ Vl m=0:=by omega
    have hp:=(hm.zq (w:=0) hsi.2.1 (by simp[inR]) ha.2.1).2
    have hst:Uk m mn load (l.take (i+1))=max (Uk m mn load (l.take i)) ((load*den l[i]+Vl m-1).tdiv (Vl m)-UG m l[i].zx 0 mn):=by
     unfold Uk;rw[QKL xc,QL4];rfl
    rw[hst];refine ⟨rfl,?_⟩;have hg:=Qiv hK m l[i] 0 mn hm hsi.2.1 (by simp[inR]) ha.2.1
    generalize Uk m mn load (l.take i)=A at *;simp[stI,QeV,Qjt,ha0]
    (repeat' first | omega | (with_reducible apply And.intro) | intro _)
    refine cK (by simpa using hg) ?_
    simp[Qdg];omega
   simpa[Uk] using this
  ·by_cases h9:9999<Uk m mn load (Q3 m [] m.zd)
   ·have:9999<min (Uk m mn load (Q3 m [] m.zd)) 10000:=by omega
    simp[h9,this]
   ·have:min (Uk m mn load (Q3 m [] m.zd)) 10000=Uk m mn load (Q3 m [] m.zd):=by omega
    simp[h9,this]
omit hK
def XW (ds:List Qx):List Qx:=ds.filter ZU
@[simp] def lkC (d:Qx):List IV:=[.int .i64 d.bar,.int .i64 d.z1]
@[simp] def Vd (ds:List Qx) (e:Nat->Int) (pm:IV):List IV:=[Qye (QiQ ds e ds.length),.sl 2 ((XW ds).map lkC),pm]
theorem QbW (p:Qx->Bool):∀ (l:List Qx) (i k:Nat),(l.filter p)[k]?=((XX p l i)[k]?).bind fun j=>l[j-i]?
 | [],i,k=>by simp[XX]
 | d::l,i,k=>by
   have ih:=QbW p l (i+1);have hge:∀ j∈XX p l (i+1),i+1<=j:=fun j hj=>(VJ p l (i+1) j hj).1
   have sh:∀ k:Nat,((XX p l (i+1))[k]?).bind (fun j=>l[j-(i+1)]?)=((XX p l (i+1))[k]?).bind (fun j=>(d::l)[j-i]?):=fun k=>by
    cases hk:(XX p l (i+1))[k]? with
    | none=>rfl
    | some j =>
      have:=hge j (QK4 hk)
      grind
   by_cases hp:p d=true
   ·simp only[QMb hp,XX,hp,if_true]
    grind
   simp only[QMc hp,XX,hp]
   grind
theorem YE (ds:List Qx):(XW ds).length=(Vn ds).length:=by
 have:∀ (l:List Qx) (i:Nat),(l.filter ZU).length=(XX ZU l i).length:=by
  intro l
  induction l with
  | nil=>intro i;rfl
  | cons d l ih =>
    intro i;by_cases hp:ZU d=true
    ·simp only[QMb hp,XX,hp,if_true,QK6,ih (i+1)]
    simp only[QMc hp,XX,hp,ih (i+1)];simp
 exact this ds 0
theorem QlV (ds:List Qx) (k:Nat) (h:k<(XW ds).length):(XW ds)[k]=Qen ds k:=by
 have h':k<(Vn ds).length:=by rw[<- YE];exact h
 have h1:=QbW ZU ds 0 k;have h2:(Vn ds)[k]<ds.length:=QqM (QKR h');have e:(XX ZU ds 0)[k]?=some (Vn ds)[k]:=QKM h';rw[e] at h1;simp only[Option.bind_some,Nat.sub_zero,QKM h2] at h1;have h3:(XW ds)[k]?=some ds[(Vn ds)[k]]:=h1;rw[QKM h] at h3;injection h3 with h3
 rw[h3];simp[Qen,List.getD_eq_getElem?_getD,h',h2]
include hK
theorem Qwo (ds:List Qx) (e:Nat->Int) (pm:IV) (s:Xp) (hc:OkD ds ds.length) (hl:ds.length<=1000) (hs:ZR s ds):Gd K 315 [.agg (Vd ds e pm),.agg (sC s)] (.bool (Qc5 ds e s)):=by
 refine Qb hK (fk func315 QGs (by kernel_rfl)) (by simp) ?_
 obtain ⟨s1,s2,s3,s4,s5⟩:=hs;simp only[inR] at s1 s2 s3;have xc:s.after.toNat<ds.length+1:=by omega
 have hcl:=Xx e hc s.after.toNat (by omega) (by omega)
 have hcg:=QaQ ds e ds.length s.after.toNat (by omega)
 have hcb:=hc.cnt s.after.toNat (by omega) (by omega)
 have hclt:=Qad ds e s.after.toNat;have hww:=Qj2 ds s.after.toNat
 have hp:(if s.z6=1 then ((cab ds e s.after.toNat).length:Int)-1-s.pos else s.pos)=(plc s.pos s.z6 (cab ds e s.after.toNat).length:Nat):=by
  unfold plc;split<;>omega
 have hpl:plc s.pos s.z6 (cab ds e s.after.toNat).length<(cab ds e s.after.toNat).length:=Qkp (by omega)
 simp[xc,hcg]
 (repeat' first | omega | (with_reducible apply And.intro) | intro _)
 refine cK (Qil hK s.pos s.z6 (cab ds e s.after.toNat).length (by omega) (by omega)) ?_
 rw[hp];have hr:Qc5 ds e s=Qkh ds s (cab ds e s.after.toNat):=rfl;rw[hr];unfold Qkh;generalize plc s.pos s.z6 (cab ds e s.after.toNat).length=at_ at *;generalize cab ds e s.after.toNat=now at *
 have h1:now[at_]<(XW ds).length:=by
  have:=hclt now[at_] (QKR hpl);rw[YE];omega
 have hm:Qen ds (now.getD at_ 0)=(XW ds)[now[at_]]:=by
  rw[QlV ds _ h1]
  grind
 rw[hm];simp[hpl,h1]
 grind
theorem Qoe (ds:List Qx) (e:Nat->Int) (pm:IV) (ss:List Xp) (hc:OkD ds ds.length) (hl:ds.length<=1000) (hs:∀ s∈ss,ZR s ds) (hsl:ss.length<=1000):Gd K 253 [.agg (Vd ds e pm),Qy ss] (.int .i64 (Q6 ds ss e)):=by
 refine Qb hK (fk func253 QGP (by kernel_rfl)) (by simp) ?_
 simp;intro _;refine Ql (fun i=>[(2,AV.iv (.ptr (Vd ds e pm))),(5,AV.iv (IV.int IntKind.i64 (Q6 ds (ss.take i) e:Nat))),(8,AV.iv (Qy ss)),(9,AV.iv (.int .i64 ss.length)),(10,AV.iv (IV.int IntKind.i64 (i:Nat)))]) (fun _=>[]) ss.length (fun i=>True) trivial ?_ ?_
 ·intro _
  rw[Qa Qjl.eq_1];simp
 ·intro i hi _ ih
  have hle:=QcO ds (ss.take i) e;simp at hle;rw[Qa Qjl.eq_1];rw[Qfa _ _ _ _ hi] at ih;simp[hi] at ih |-;have hg:=Qwo hK ds e pm ss[i] hc hl (hs _ (QKR hi));refine cK (by simpa using hg) ?_
  cases hr:Qc5 ds e ss[i]
  ·simp[hr] at ih |-
   grind
  ·simp[hr] at ih |-
   grind
theorem Qop (ds:List Qx) (e:Nat->Int) (pm:IV) (hl:ds.length<=1000):Gd K 165 [.agg (Vd ds e pm)] (ZZ (cab ds e ds.length)):=by
 refine Qb hK (fk func165 QHG (by kernel_rfl)) (by simp) ?_
 have hcg:=QaQ ds e ds.length ds.length (by omega)
 simp[hcg];omega
theorem QwG (left all n:Int) (h : -1000000<=left/\left<=1000000):Gd K 250 [.int .i64 left,.int .i64 all,.ptr [.int .i64 n]] (.bool (decide (inR n 0 (left-1)))):=by
 refine Qb hK (fk func250 QGS (by kernel_rfl)) (by simp) ?_
 simp
 (repeat' first | omega | (with_reducible apply And.intro) | intro _)
 exact cK (Yw hK _ _ _) (by simp)
theorem Qxa (n:Int):Gd K 163 [.int .i64 n] (.clo 250 [] [.ptr [.int .i64 n]]):=by
 refine Qb hK (fk func163 QHI (by kernel_rfl)) (by simp) ?_
 simp
theorem Qwg (a b:Int):Gd K 365 [.int .i64 a,.int .i64 b] (.bool true):=by
 refine Qb hK (fk func365 QF8 (by kernel_rfl)) (by simp) ?_
 simp
theorem Qw9 (ds:List Qx) (e:Nat->Int) (pm:IV) (hl:ds.length<=1000) (n:Nat) (hn:n<(cab ds e ds.length).length):Gd K 164 [.agg (Vd ds e pm),.ptr [.int .i64 n]] (.int .i64 ((cab ds e ds.length)[n]:Nat)):=by
 refine Qb hK (fk func164 QHH (by kernel_rfl)) (by simp) ?_
 simp;have hg:=Qop hK ds e pm hl;refine cK (by simpa using hg) ?_
 simp[hn]
omit hK
def ZV (d:Qx):Bool:=decide (d.z6=2)
def Qcn:List Nat->Nat->List (MK × IV)
 | [],_=>[]
 | j::t,r=>(.int .i64 (j:Nat),.int .i64 (r:Nat))::Qcn t (r+1)
theorem Qld (j:Nat):∀ (l:List Nat) (r:Nat),Qcn (l++[j]) r=Qcn l r++[(.int .i64 (j:Nat),.int .i64 ((r+l.length:Nat):Int))]
 | [],r=>by simp[Qcn]
 | a::l,r=>by
   have e:r+1+l.length=r+(l.length+1):=by omega
   simp only[QK1,Qcn,Qld j l (r+1),QK6,e]
@[simp] theorem Qlc:∀ (l:List Nat) (r:Nat),(Qcn l r).length=l.length
 | [],_=>rfl
 | _::l,r=>by simp[Qcn,Qlc l (r+1)]
theorem QdF (j:Nat):∀ (l:List Nat) (r:Nat),j ∉ l->∀ y:IV,zn (.int .i64 (j:Nat)) y (Qcn l r)=Qcn l r++[(.int .i64 (j:Nat),y)]
 | [],_,_,y=>rfl
 | a::l,r,h,y=>by
   have h1:¬ a=j:=fun c=>h (by simp[c])
   have h2:=QdF j l (r+1) (fun c=>h (by simp[c])) y
   have h3:¬ (MK.int .i64 (a:Nat)=MK.int .i64 (j:Nat)):=by simp;omega
   simp only[Qcn,zn,h3,if_false,h2,QK1]
theorem Qg1 (j:Nat):∀ (l:List Nat) (r:Nat),j∈l->Qo (.int .i64 (j:Nat)) (Qcn l r)=some (.int .i64 ((r+l.idxOf j:Nat):Int))
 | a::l,r,h=>by
   by_cases h1:a=j
   ·subst h1;simp[Qcn,Qo]
   have h2:j∈l:=by
    grind
   have h3:¬ (MK.int .i64 (a:Nat)=MK.int .i64 (j:Nat)):=by simp;omega
   have e:r+1+l.idxOf j=r+(l.idxOf j+1):=by omega
   have hi:(a::l).idxOf j=l.idxOf j+1:=by
    grind
   simp only[Qcn,Qo,h3,if_false,Qg1 j l (r+1) h2,hi,e]
theorem qA:∀ (l:List Nat) (r:Nat),Zw (some .i64) (Qcn l r)
 | [],_=>trivial
 | _::l,r=>⟨rfl,qA l (r+1)⟩
def Uo (ds:List Qx):List Nat:=XX ZV ds 0
theorem Qdz (ds:List Qx):(Uo ds).length=ZA ds:=by
 have:∀ (l:List Qx) (i:Nat),(XX ZV l i).length=ZA l:=by
  intro l
  induction l with
  | nil=>intro i;rfl
  | cons d l ih =>
    intro i;by_cases h:d.z6=2
    ·simp[XX,ZV,h,ih,ZA,QMB]
    simp[XX,ZV,h,ih,ZA,QMB]
 exact this ds 0
@[simp] def VU (c:Qs):List IV:=[QC c.za,Qy c.zg,.int .i64 c.zh,.map (Qcn (Uo c.za) 0)]
include hK
theorem Qiy (c:Qs) (hl:c.za.length<=1000):Gd K 169 [chV c] (.agg (VU c)):=by
 refine Qb hK (fk func169 QHE (by kernel_rfl)) (by simp) ?_
 simp;intro _
 refine Ql (fun i=>[(2,AV.loc 2 0),(3,AV.loc 3 0),(10,AV.iv (QC c.za)),(11,AV.iv (.int .i64 c.za.length)),(12,AV.iv (IV.int IntKind.i64 (i:Nat)))])
  (fun i=>[(2,.box [.iv (.sl 5 []),.iv (.sl 5 []),.iv (.int .i64 0),.iv (.map [])]),(3,.box [.iv (QC c.za),.iv (Qy c.zg),.iv (.int .i64 c.zh),.yn 7]),(7,.xi (Qcn (XX ZV (c.za.take i) 0) 0))]) c.za.length (fun i=>True) trivial ?_ ?_
 ·intro _
  rw[Qa QjB.eq_1];simp[Uo]
 ·intro i hi _ ih
  rw[QbV _ _ _ hi] at ih;rw[Qa QjB.eq_1]
  have hnm:i ∉ XX ZV (c.za.take i) 0:=fun h=>by
   have:=VJ ZV (c.za.take i) 0 i h
   grind
  have hfr:=QdF i (XX ZV (c.za.take i) 0) 0 hnm;by_cases hw:c.za[i].z6=2
  ·rw[if_pos (by simp[ZV,hw]),Qld] at ih
   simp[hi,hw] at ih |-;rw[hfr];have hkd:=qA (XX ZV (c.za.take i) 0) 0
   grind
  ·simp[hi,ZV,hw] at ih |-
   grind
end Go.Pf
namespace Go.Ev
open Go Go.RowKit
section
variable {P:Program} {K:World->Prop}
theorem UV {f:FuncId} {e:TypeId} {sz bytes:Nat}
  (hcl:∀ (b off n c:Nat) (news:List Value) (w:World),news.length=n*sz->n<=maxLen->n*bytes<=140737488355328->(∀ (j:Nat) (u:Value),news[j]?=some u->w.cell? ⟨b,off+j,none⟩=some u)->(∀ u∈news,u.oneCell'=true) ->
    Calls P f #[.slice (some ⟨b,off,none⟩) n c] w fun x w'=>∃ v',x=.returned v'/\w'.ownsRow w.heap.size e sz v' n news/\v'≠.slice none 0 0/\Below w.heap.size w w')
  (rows:List (List IV)) (hb:rows.length*bytes<=140737488355328) (hsz:∀ c∈rows,c.length=sz) (hne:rows≠[]):QjW P K f [.sl sz rows] (.yo 0 rows.length) e sz rows 0:=by
 intro w ok vs hk hnew hl hvs
 obtain ⟨v0,rfl⟩:∃ v0,vs=[v0]:=by
  match vs,hl with
  | [v],_=>exact ⟨v,rfl⟩
 have hrep:=hvs 0 _ v0 rfl rfl
 have fin:∀ (v':Value) (w':World) (news:List Value),w'.ownsRow w.heap.size e sz v' rows.length news->Below w.heap.size w w'->(∀ u∈news,u.oneCell'=true) ->
   (∀ (i j:Nat) (c:List IV) (x:IV) (u:Value),rows[i]?=some c->c[j]?=some x->news[i*sz+j]?=some u->QS ok w x u) ->
   ∃ v l,Ending.returned v'=.returned v/\QE (fun b=>b<w.heap.size) (okL ok (one (XE e sz rows 0)) (fun _=>l)) w' (one (XE e sz rows 0)) (fun _=>l) (XE e sz rows 0) l /\
    QB (okL ok (one (XE e sz rows 0)) (fun _=>l)) w' (one (XE e sz rows 0)) (fun _=>l) (ren 0 (.yo 0 rows.length)) v/\Below w.heap.size w w':=by
  intro v' w' news hown hbel hone hcx;have hsl:=Yk hown;have hge:∀ b,v'.ownBlock=some b->w.heap.size<=b:=fun b h=>(hown.lt b h).1
  have hown0:w'.ownsRow 0 e sz v' rows.length news:=by
   obtain ⟨h1,h2⟩:=hown;refine ⟨h1,?_⟩
   grind
  refine ⟨v',.arr v' news,rfl,⟨⟨by grind,fun b h1 h2=>by grind⟩,QL3 _,fun c hc=>?_,hone,fun i j c x u hi hj hu=>?_⟩,?_,hbel⟩
  ·grind
  ·rw[QKU,QKQ] at hi
   obtain ⟨d,hd,rfl⟩:=hi;rw[QKU,QKQ] at hj;obtain ⟨y,hy,rfl⟩:=hj;refine .iv _ _ ((hcx i j d y u hd hy hu).mono fun b hb xc=>⟨⟨hb,fun id o _ hh=>?_⟩,hbel.block b xc⟩)
   grind
  have:=QB.yo (ok:=okL ok (one (XE e sz rows 0)) (fun _=>.arr v' news)) (w:=w') (lo:=one (XE e sz rows 0)) (L:=fun _=>.arr v' news) 0 e sz (rows.map (List.map AV.iv)) 0 v' news (by simp[one,XE]) rfl hsl
  rw[QKZ] at this;exact this
 cases hrep with
 | sl _ _ b off cap u hlc hc hs hu hx =>
   refine (hcl b off rows.length cap ((List.range (rows.length*sz)).map u) w (by simp) (by omega) hb (fun j v hj=>?_) (fun v hv=>?_)).mono fun x w' ⟨v',hx',hown,_,hbel⟩=>?_
   all_goals grind
 | _=>grind
end
end Go.Ev
namespace Go.Pf
open Go Go.Ev Go.Proofs Go.RowKit Go.Shelf Go.Proofs.Tryz
set_option maxRecDepth 8000
noncomputable def QEC:TypeInfo:=(prog.info? 139).get (by kernel_rfl)
noncomputable def Quc:TypeInfo:=(prog.info? 145).get (by kernel_rfl)
noncomputable def QA0:Value:=Quc.zero.get (by kernel_rfl)
section
variable {K:World->Prop}
theorem clone66 (l:List Qx) (hl:l.length<=1000) (hne:l≠[]):Gp K 66 [QC l] (.yo 0 l.length) 139 5 (l.map dC) 0:=by
 have h:=UV (P:=prog) (K:=K) (f:=66) (e:=139) (sz:=5) (bytes:=40) (AnyE.slices_Clone Tryz.clone66 QEC (.agg #[.int .i64 0,.int .i64 0,.int .i64 0,.int .i64 0,.int .i64 0]) 5 40 (by kernel_rfl) (by kernel_rfl) (by kernel_rfl) (by kernel_rfl) rfl (by decide) sizeOf139) (l.map dC) (by simp;omega) (by simp) (by simpa using hne)
 simpa using h
theorem clone68 (l:List ZI) (hl:l.length<=1000) (hne:l≠[]):Gp K 68 [QV l] (.yo 0 l.length) 145 3 (l.map leC) 0:=by
 have h:=UV (P:=prog) (K:=K) (f:=68) (e:=145) (sz:=3) (bytes:=24) (AnyE.slices_Clone Tryz.clone68 Quc QA0 3 24 (by kernel_rfl) (by kernel_rfl) (by kernel_rfl) (by kernel_rfl) (by kernel_rfl) (by decide) sizeOf145) (l.map leC) (by simp;omega) (by simp) (by simpa using hne)
 simpa using h
end
end Go.Pf
namespace Go.Pf
open Go Go.Ev Go.Proofs Go.RowKit Go.Proofs.Tryz
variable {K:World->Prop} (hK:∀ w w',K w->Below w.heap.size w w'->K w')
set_option maxRecDepth 8000
def ZH (ds:List Qx) (n:Nat) (i:Nat):Int:=match ds[i]? with
 | some d=>if d.z6=2 then ((n.testBit ((Uo ds).idxOf i)).toNat:Int) else d.z6
 | none=>0
theorem QkY (ds:List Qx) (n i:Nat) (h:i<ds.length):ZH ds n i=if ds[i].z6=2 then ((n.testBit ((Uo ds).idxOf i)).toNat:Int) else ds[i].z6:=by
 simp[ZH,h]
theorem Qo4 (ds:List Qx) (i:Nat) (h:i<ds.length) (h2:ds[i].z6=2):i∈Uo ds:=by
 have:∀ (l:List Qx) (k i:Nat) (h:i<l.length),l[i].z6=2->k+i∈XX ZV l k:=by
  intro l
  induction l with
  | cons d l ih =>
    intro k i h h2;cases i with
    | zero =>
      have h3:d.z6=2:=h2;simp[XX,ZV,h3]
    | succ i =>
      have:=ih (k+1) i (by simpa using h) (by simpa using h2)
      have e:k+1+i=k+(i+1):=by omega
      rw[e] at this;simp only[XX]
      grind
  | _=>grind
 simpa[Uo] using this ds 0 i h h2
include hK
theorem Qwp (c:Qs) (n i:Nat) (hn:n<2 ^ 63) (hi:i<c.za.length) (h2:c.za[i].z6=2):Gd K 314 [.int .i64 i,.ptr [.int .i64 n],.ptr (VU c)] (.int .i64 (ZH c.za n i)):=by
 refine Qb hK (fk func314 QGt (by kernel_rfl)) (by simp) ?_
 have hf:=Qg1 i (Uo c.za) 0 (Qo4 c.za i hi h2);have hkk:=qA (Uo c.za) 0;rw[QkY _ _ _ hi,if_pos h2];simp only[QLb] at hf;simp[hkk,hf];exact Qzv n _ hn
omit hK
def XI (ds:List Qx) (pm:Nat->IV) (n:Nat):List IV:=[.agg (Vd ds (ZH ds n) (pm n))]
theorem Qvb {n:Nat} (h:n<=12):QtV IntKind.i64 1 (n:Int)=((2 ^ n:Nat):Int):=by
 have:n=0\/n=1\/n=2\/n=3\/n=4\/n=5\/n=6\/n=7\/n=8\/n=9\/n=10\/n=11\/n=12:=by omega
 rcases this with rfl | rfl | rfl | rfl | rfl | rfl | rfl | rfl | rfl | rfl | rfl | rfl | rfl<;>decide
include hK
theorem QnU (c:Qs) (pm:Nat->IV) (ht:ZA c.za<=12) (h201:∀ n:Nat,n<2 ^ ZA c.za->Gd K 313 [QC c.za,.clo 314 [] [.ptr [.int .i64 n],.ptr (VU c)]] (.agg (Vd c.za (ZH c.za n) (pm n)))) :
  Qaw prog K 252 [.agg (VU c)] [] ((List.range (2 ^ ZA c.za)).map (XI c.za pm)):=by
 intro s b s' hf;have hp:=Wh ht;refine QN (fk func252 QGQ (by kernel_rfl)) (by simp) hf.v rfl ?_
 have hlen:(Qcn (Uo c.za) 0).length=ZA c.za:=by rw[Qlc,Qdz]
 simp[Qdz,Qvb ht];have hN:0<2 ^ ZA c.za:=Nat.pos_of_ne_zero (by simp)
 have hcast:((2:Int) ^ ZA c.za)=((2 ^ ZA c.za:Nat):Int):=by push_cast;rfl
 rw[hcast];generalize 2 ^ ZA c.za=N at *
 refine XV N (fun i e o=>∃ si,e=[(1,AV.cb 0),(2,AV.iv (.ptr (VU c))),(8,AV.iv (.int .i64 (N:Nat))),(9,AV.iv (.int .i64 (i:Nat)))]/\o=[(0,.ext si)] /\
  ZS prog K (((List.range N).drop i).map (XI c.za pm)) si b s') ?_ ?_ _ _ ⟨s,rfl,rfl,by simpa using hf⟩
 ·rintro e o ⟨si,rfl,rfl,hfd⟩
  rw[QLE (by simp)] at hfd
  cases hfd;rw[Qa Qjm.eq_1];simp
 ·rintro i e o hi ⟨si,rfl,rfl,hfd⟩ ih
  rw[QLg (by simpa using hi)] at hfd
  simp only[List.getElem_range,QLa] at hfd;have hg:=h201 i hi;rw[Qa Qjm.eq_1];simp[hi];refine Qg7 _ _ _ _ _ _ _ _ ?_;simp;refine cK (by simpa using hg) ?_
  have hst:XI c.za pm i=[.agg (Vd c.za (ZH c.za i) (pm i))]:=rfl;rw[hst] at hfd;simp;cases hfd with
  | stop _ _ _ _ hg =>
    refine Q7 (by simpa using hg) rfl ?_
    simp
  | next _ _ _ s1 _ _ hg hr =>
    refine Q7 (by simpa using hg) rfl ?_
    simp
    (repeat' first | omega | (with_reducible apply And.intro) | intro _)
    exact ih _ _ ⟨s1,by simp,rfl,hr⟩
omit hK
section
variable {K:World->Prop}
def QU (c:Qs):List Nat:=(List.range (2 ^ ZA c.za)).filter fun n=>decide ((Q6 c.za c.zg (ZH c.za n):Int)<=c.zh)
theorem Qbl (hK:∀ w w',K w->Below w.heap.size w w'->K w') {c:Qs} (hc:OkC c) {pm:Nat->IV} {ks:Env} (hks:ZG [2,3] [0,3] ks=[(2,.iv (.ptr (VU c))),(3,.loc 3 0)]) :
  ∀ (Ls:List Nat) (s:Ext) (b:Bool) (s':Ext),ZS prog K ((Ls.filter fun n=>decide ((Q6 c.za c.zg (ZH c.za n):Int)<=c.zh)).map (XI c.za pm)) s b s' ->
   ∃ wy,(wy=.fall\/wy=.ret)/\Uy prog K [7] WP Qck [2,3] [0,3] (ZG [2,3] [0,3] ks) (Ls.map (XI c.za pm)) [(0,.ext s),(3,.box [.cb 0])] wy [(0,.ext s'),(3,.box [.cb 0])]
 | [],s,b,s',h=>by
   cases h;exact ⟨.fall,.inl rfl,.nil _⟩
 | t::Ls,s,b,s',h=>by
   have hl:=hc.len;have hsl:=hc.slen;have hw:=Qoe hK c.za (ZH c.za t) (pm t) c.zg hc.za (by omega) hc.zg (by omega)
   by_cases ht:(Q6 c.za c.zg (ZH c.za t):Int)<=c.zh
   ·rw[QMb (by simpa using ht)] at h
    cases h with
    | stop _ _ _ _ hg =>
      refine ⟨.ret,.inr rfl,.stop _ _ _ _ _ (by simp) ?_⟩
      rw[hks];refine ⟨rfl,?_⟩;simp[XI,WP,Qck];refine cK (by simpa using hw) ?_
      simp[ht];refine Q7 (by simpa[XI] using hg) rfl ?_
      simp
    | next _ _ _ s1 _ _ hg hr =>
      obtain ⟨wy,h1,h2⟩:=Qbl hK hc hks Ls s1 b s' hr;refine ⟨wy,h1,.next _ _ _ _ _ _ ?_ h2⟩;rw[hks];refine ⟨rfl,?_⟩;simp[XI,WP,Qck];refine cK (by simpa using hw) ?_
      simp[ht];refine Q7 (by simpa[XI] using hg) rfl ?_
      simp
   ·rw[QMc (by simpa using ht)] at h
    obtain ⟨wy,h1,h2⟩:=Qbl hK hc hks Ls s b s' h;refine ⟨wy,h1,.next _ _ _ _ _ _ ?_ h2⟩;rw[hks];refine ⟨rfl,?_⟩;simp[XI,WP,Qck];refine cK (by simpa using hw) ?_
    simp[ht]
end
def Qg8 (K:World->Prop) (c:Qs) (pm:Nat->IV):Prop:=∀ n:Nat,n<2 ^ ZA c.za->Gd K 313 [QC c.za,.clo 314 [] [.ptr [.int .i64 n],.ptr (VU c)]] (.agg (Vd c.za (ZH c.za n) (pm n)))
theorem W2 (ds:List Qx):ZA ds<=ds.length:=QLJ
include hK
theorem qo (c:Qs) (hc:OkC c) (pm:Nat->IV) (ht:Qg8 K c pm):Qaw prog K 249 [.agg (VU c)] [] ((QU c).map (XI c.za pm)):=by
 intro s b s' hfd;have h12:=hc.len;have htw:=W2 c.za;refine QN (fk func249 QGT (by kernel_rfl)) (by simp) hfd.v rfl ?_
 obtain ⟨wy,h1,h2⟩:=Qbl (pm:=pm) hK hc (ks:=[(2,.iv (.ptr (VU c))),(3,.loc 3 0)]) rfl (List.range (2 ^ ZA c.za)) s b s' hfd;simp;refine Q9 (wy:=wy) (o':=[(0,.ext s'),(3,.box [.cb 0])]) rfl (by kernel_rfl) (QnU hK c pm (by omega) ht) (by simpa using h2) ?_
 rcases h1 with rfl | rfl<;>simp
noncomputable def Y0 (c:Qs) (is:Bool):Int:=if OkC c then (if is=true then (if QU c=[] then 3 else 0) else 1) else 20
theorem QwH (c:Qs) (pm:Nat->IV) (ht:OkC c->Qg8 K c pm) (g:FuncId) (fs cs:List IV) (is:Bool) (hg:OkC c->Gd K g (fs++[.int .i64 (XU c.za),.int .i64 (Qmt c.za)]++cs) (.bool is)) (hcg:callee prog g=true) (hl:c.za.length<=1000) (hs:c.zg.length<=1000) :
  Gd K 248 [chV c,.clo g fs cs] (.xg [if OkC c/\is=true then .agg (VU c) else .agg [.sl 5 [],.sl 5 [],.int .i64 0,.map []],.int .i64 (Y0 c is)]):=by
 refine Qb hK QpZ (by simp) ?_
 simp;refine cK (Qb0 hK c hl hs) ?_;by_cases h1:OkC c
 ·simp[h1]
  refine cK (Qim hK c hl) ?_;simp;refine ⟨hcg,cK (by simpa using hg h1) ?_⟩
  cases is
  ·simp[Y0,h1]
  simp;refine cK (by simpa using Qiy hK c hl) ?_
  simp;cases hR:QU c with
  | nil =>
    refine Q9 (wy:=.fall) (o':=[(4,.box [.iv (.sl 5 []),.iv (.sl 5 []),.iv (.int .i64 0),.iv (.map [])]),(5,.box [.iv (.int .i64 0)]),(7,.box [.iv (QC c.za),.iv (Qy c.zg),.iv (.int .i64 c.zh),.iv (.map (Qcn (Uo c.za) 0))])]) rfl (by kernel_rfl) (qo hK c h1 pm (ht h1)) (by rw[hR];simpa using Uy.nil _) ?_
    simp[Y0,h1,hR]
  | cons a r =>
    refine Q9 (wy:=.ret) (o':=[(4,.box [.iv (QC c.za),.iv (Qy c.zg),.iv (.int .i64 c.zh),.iv (.map (Qcn (Uo c.za) 0))]),(5,.box [.iv (.int .i64 0)]),(7,.box [.iv (QC c.za),.iv (Qy c.zg),.iv (.int .i64 c.zh),.iv (.map (Qcn (Uo c.za) 0))])]) rfl (by kernel_rfl) (qo hK c h1 pm (ht h1)) (by
     rw[hR];refine .stop _ _ _ _ _ (by simp) ?_
     refine ⟨rfl,?_⟩;simp[XI,QeU,Qjn]) ?_
    simp[Y0,h1,hR]
 ·simp[h1,Y0]
theorem QrQ (c:Qs) (pm:Nat->IV) (ht:OkC c->Qg8 K c pm) (g:FuncId) (is:Bool) (hg:OkC c->Gd K g [.int .i64 (XU c.za),.int .i64 (Qmt c.za)] (.bool is)) (hcg:callee prog g=true) (hl:c.za.length<=1000) (hs:c.zg.length<=1000) :
  Gd K 248 [chV c,.fn g] (.xg [if OkC c/\is=true then .agg (VU c) else .agg [.sl 5 [],.sl 5 [],.int .i64 0,.map []],.int .i64 (Y0 c is)]):=by
 refine Qb hK QpZ (by simp) ?_
 simp;refine cK (Qb0 hK c hl hs) ?_;by_cases h1:OkC c
 ·simp[h1]
  refine cK (Qim hK c hl) ?_;simp;refine ⟨hcg,cK (by simpa using hg h1) ?_⟩
  cases is
  ·simp[Y0,h1]
  simp;refine cK (by simpa using Qiy hK c hl) ?_
  simp;cases hR:QU c with
  | nil =>
    refine Q9 (wy:=.fall) (o':=[(4,.box [.iv (.sl 5 []),.iv (.sl 5 []),.iv (.int .i64 0),.iv (.map [])]),(5,.box [.iv (.int .i64 0)]),(7,.box [.iv (QC c.za),.iv (Qy c.zg),.iv (.int .i64 c.zh),.iv (.map (Qcn (Uo c.za) 0))])]) rfl (by kernel_rfl) (qo hK c h1 pm (ht h1)) (by rw[hR];simpa using Uy.nil _) ?_
    simp[Y0,h1,hR]
  | cons a r =>
    refine Q9 (wy:=.ret) (o':=[(4,.box [.iv (QC c.za),.iv (Qy c.zg),.iv (.int .i64 c.zh),.iv (.map (Qcn (Uo c.za) 0))]),(5,.box [.iv (.int .i64 0)]),(7,.box [.iv (QC c.za),.iv (Qy c.zg),.iv (.int .i64 c.zh),.iv (.map (Qcn (Uo c.za) 0))])]) rfl (by kernel_rfl) (qo hK c h1 pm (ht h1)) (by
     rw[hR];refine .stop _ _ _ _ _ (by simp) ?_
     refine ⟨rfl,?_⟩;simp[XI,QeU,Qjn]) ?_
    simp[Y0,h1,hR]
 ·simp[h1,Y0]
theorem Qwn (c:Qs) (pm:Nat->IV) (ht:OkC c->Qg8 K c pm) (hl:c.za.length<=1000) (hs:c.zg.length<=1000):Gd K 319 [chV c] (.xg [.int .i64 (if Y0 c true=0 then (QU c).length else 0),.int .i64 (Y0 c true)]):=by
 refine Qb hK (fk func319 QGo (by kernel_rfl)) (by simp) ?_
 simp;refine cK (QrQ hK c pm ht 365 true (fun _=>Qwg hK _ _) (by kernel_rfl) hl hs) ?_
 by_cases he:Y0 c true=0;rotate_left
 ·by_cases h1:OkC c<;>simp[he,h1]
 ·have h1:OkC c:=by
   unfold Y0 at he
   grind
  have hlen:(QU c).length<=4096:=by
   have h1':=QLl (fun n=>decide ((Q6 c.za c.zg (ZH c.za n):Int)<=c.zh)) (List.range (2 ^ ZA c.za))
   have h2':=Wh (n:=ZA c.za) (by have:=W2 c.za;have:=h1.len;omega)
   simp at h1';unfold QU;omega
  simp[he,h1];refine Q9 (wy:=.fall) (o':=[(6,.box [.iv (.int .i64 ((QU c).length:Nat))])]) rfl (by kernel_rfl) (qo hK c h1 pm (ht h1)) ?_ ?_
  ·have:=Uy.all (P:=prog) (K:=K) (ps:=[17]) (asn:=QeS) (body:=Qi3) (ks:=[6]) (ids:=[6]) (eK:=[(6,.loc 6 0)]) ((QU c).map (XI c.za pm)) (fun i=>[(6,.box [.iv (.int .i64 (i:Int))])]) fun i x hi=>by
    simp only[QKU,QKQ] at hi;obtain ⟨y,hy,rfl⟩:=hi;have xc:=(QKN.1 hy).1;refine ⟨rfl,?_⟩;simp[XI,QeS,Qi3];omega
   simpa using this
  ·simp
theorem Qoa (d:Qx):Gd K 318 [.agg (dC d)] (.bool (ZV d)):=by
 refine Qb hK (fk func318 QGp (by kernel_rfl)) (by simp) ?_
 simp[ZV]
omit hK
def XP (m:Machine) (n:Int):Machine:={ m with zu:=n,zw:=n }
noncomputable def qV (m:Machine) (k:Nat):List Machine:=if tE (XP m (m.zu+k)) true=0 then [XP m (m.zu+k)] else []
def Qgm (m:Machine):List IV:=[maV m]
include hK
theorem Qgk (m:Machine) (hl:m.zd.length<=1000) (hb:m.zk.length<=1000) (hr:inR m.zu 0 m.zw) (hr2:m.zw<=20) (hs:∀ n,OkM (XP m n)->sets (XP m n) m.zd.length<=1000000) :
  Qav prog K 259 [maV m,.int .i64 m.zd.length] [] ((acc (qV m) (m.zw+1-m.zu).toNat).map Qgm) (fun b=>.bool b):=by
 intro s b s' hf;refine QN QpX (by simp) hf.v rfl ?_
 rw[QaX] at hf;simp only[inR] at hr;simp;intro _
 refine XV (m.zw+1-m.zu).toNat (fun i e o=>∃ si x y,e=[(2,AV.cb 0),(3,AV.iv (.ptr [QV m.zd,.int .i64 m.zr,.int .i64 m.zu,.int .i64 m.zw,XR m.zk,.int .i64 m.zh])),(7,AV.loc 7 0),(8,AV.iv (.int .i64 (m.zu+(i:Nat))))] /\
  o=[(0,.ext si),(7,.box [.iv (QV m.zd),.iv (.int .i64 m.zr),.iv (.int .i64 x),.iv (.int .i64 y),.iv (XR m.zk),.iv (.int .i64 m.zh)])] /\
  ZS prog K ((XS (qV m) i ((m.zw+1-m.zu).toNat-i)).map Qgm) si b s') ?_ ?_ _ _ ⟨s,m.zu,m.zw,by simp,by simp,by simpa using hf⟩
 ·rintro e o ⟨si,x,y,rfl,rfl,hfd⟩
  have q1:m.zu+((m.zw+1-m.zu).toNat:Int)=m.zw+1:=by omega
  have q2:¬ m.zw+1<=m.zw:=by omega
  rw[Nat.sub_self] at hfd;cases hfd;rw[q1,Qa Qjg.eq_1];simp[q2]
 ·rintro i e o hi ⟨si,x,y,rfl,rfl,hfd⟩ ih
  have q1:m.zu+(i:Int)<=m.zw:=by omega
  have q3:m.zu+((i:Int)+1)=m.zu+i+1:=by omega
  have e1:(m.zw+1-m.zu).toNat-i=((m.zw+1-m.zu).toNat-(i+1))+1:=by omega
  rw[e1] at hfd;simp only[XS,QK3] at hfd;have hg:=Qwl hK (XP m (m.zu+i)) hl hb (hs _);rw[Qa Qjg.eq_1];simp[q1];refine Qf (by simpa[XP] using hg) (.inr rfl) ?_
  by_cases he:tE (XP m (m.zu+i)) true=0
  ·have hp:qV m i=[XP m (m.zu+i)]:=by simp[qV,he]
   rw[hp] at hfd;simp only[QLa,List.map_nil,List.singleton_append] at hfd;have he':=he;simp only[XP] at he';simp[he'];cases hfd with
   | stop _ _ _ _ hg =>
     refine Q7 (by simpa[Qgm,XP] using hg) rfl ?_
     simp
   | next _ _ _ s1 _ _ hg hr2 =>
     refine Q7 (by simpa[Qgm,XP] using hg) rfl ?_
     simp
     (repeat' first | omega | (with_reducible apply And.intro) | intro _)
     exact ih _ _ ⟨s1,m.zu+i,m.zu+i,by simp[q3],by simp,hr2⟩
  ·have hp:qV m i=[]:=by simp[qV,he]
   rw[hp] at hfd;simp only[List.map_nil,QK5] at hfd;have he':=he;simp only[XP] at he';simp[he']
   (repeat' first | omega | (with_reducible apply And.intro) | intro _)
   exact ih _ _ ⟨si,m.zu+i,m.zu+i,by simp[q3],by simp,hfd⟩
end Go.Pf
namespace Go.Ev
open Go Go.RowKit Go.Sort
section
variable {P:Program} {K:World->Prop}
@[reducible] def Xj (zs:List Int) (mv:Nat):AO:=.arr 3 1 (zs.map fun z=>[AV.iv (.int .i64 z)]) mv
@[reducible] def QqB (zs:List Int):IV:=.sl 1 (zs.map fun z=>[IV.int .i64 z])
theorem Qh5 {w:World} {g:Nat} {f:Array Value->Array Value} {c:Array Value} {e:TypeId} {fr:Nat × Nat} (h:w.heap[g]?=some (.cells c e fr)):(mapBlock w g f).heap[g]?=some (.cells (f c) e fr):=by
 simp only[mapBlock,Array.getElem?_modify,if_true,h,QMe,onCells]
theorem Qh4 {w:World} {g k:Nat} {f:Array Value->Array Value} (h:k≠g):(mapBlock w g f).heap[k]?=w.heap[k]?:=by
 simp only[mapBlock,Array.getElem?_modify,if_neg (Ne.symm h)]
theorem Qeo {w:World} {g:Nat} {f:Array Value->Array Value}:(mapBlock w g f).heap.size=w.heap.size:=by
 simp only[mapBlock,Array.size_modify]
theorem JY {Fr:Nat->Prop} {w:World} {g:Nat} {f:Array Value->Array Value} (h:¬ Fr g):Zt Fr w (mapBlock w g f) :=
 ⟨rfl,rfl,rfl,by rw[Qeo];omega,fun k hk=>Qh4 fun e=>h (e▸hk)⟩
theorem Z5 {Fr:Nat->Prop} {g:Nat} (h:¬ Fr g):∀ (vs:List Value) (o:Nat) (w:World),Zt Fr w (w.setCells g o vs)
 | [],_,w=>Zt.refl _ _
 | v::r,o,w=>by
   rw[World.setCells];have h1:Zt Fr w (w.setCell ⟨g,o,none⟩ v):=by rw[setCell_eq];exact JY h
   have h2:=Z5 h r (o+1) (w.setCell ⟨g,o,none⟩ v);exact ⟨h2.os.trans h1.os,h2.tape.trans h1.tape,h2.output.trans h1.output,QLp h1.size h2.size,fun k hk=>(h2.block k hk).trans (h1.block k hk)⟩
theorem QdH (w:World) (o:Obj):Zt (fun b=>b<w.heap.size) w (w.alloc o) :=
 ⟨rfl,rfl,rfl,by show _<=(w.heap.push o).size;grind,fun k hk=>by
  show (w.heap.push o)[k]?=_
  grind⟩
structure QcM (w:World) (v:Value) (zs:List Int) (g cap:Nat) (cur:Array Value):Prop where
 v:v=.slice (some ⟨g,0,none⟩) zs.length cap
 at_:w.heap[g]?=some (.cells cur 3 (0,0))
 le:zs.length<=cap
 max:cap<=maxLen
 size:cur.size=cap
 take:cur.toList.take zs.length=zs.map (.int .i64)
theorem QcM.cell {w:World} {v:Value} {zs:List Int} {g cap:Nat} {cur:Array Value} (h:QcM w v zs g cap cur) (j:Nat):w.cell? ⟨g,j,none⟩=cur[j]?:=by
 simp[World.cell?,h.at_]
theorem QcM.frozen {w:World} {v:Value} {zs:List Int} {g cap:Nat} {cur:Array Value} (h:QcM w v zs g cap cur) (j:Nat):w.frozen? ⟨g,j,none⟩=false:=by
 simp[World.frozen?,h.at_]
theorem QcM.get {w:World} {v:Value} {zs:List Int} {g cap:Nat} {cur:Array Value} (h:QcM w v zs g cap cur) (j:Nat) (hj:j<zs.length):cur[j]?=some (.int .i64 zs[j]):=by
 have h1:(cur.toList.take zs.length)[j]?=some (.int .i64 zs[j]):=by rw[h.take];simp[hj]
 grind
theorem QcM.holds {w:World} {v:Value} {zs:List Int} {g cap:Nat} {cur:Array Value} (h:QcM w v zs g cap cur):Holds (Value.int .i64) w g 0 zs.toArray:=by
 intro j hj;have hj':j<zs.length:=by simpa using hj
 refine ⟨?_,by rw[QLb];exact h.frozen j⟩
 rw[QLb,h.cell,h.get j hj',getElem!_pos _ j hj];simp
theorem Qke {Fr ok:Nat->Prop} {w:World} {lo:Nat->Option AO} {L:Nat->Lay} {zs:List Int} {mv:Nat} {l:Lay} (h:QE Fr ok w lo L (Xj zs mv) l) :
  ∃ v xs,l=.arr v xs/\((v=.slice none 0 0/\zs=[])\/∃ g cap cur,QcM w v zs g cap cur/\¬ Fr g):=by
 cases l with
 | arr v xs =>
   obtain ⟨⟨⟨h1,h2⟩,h3⟩,h4,h5,h6,h7⟩:=h;refine ⟨v,xs,rfl,?_⟩;simp only[QKZ] at h1 h2;rcases h2 with ⟨h2,h8⟩ | ⟨g,cap,cur,h8,h9,h10,h11,h12,h13,h14⟩
   ·grind
   refine .inr ⟨g,cap,cur,⟨h8,h10,h11,h12,by omega,?_⟩,h3 g (by simp[h8,Value.ownBlock])⟩
   rw[QMq] at h14;rw[h14];refine QMo fun i=>?_
   by_cases hi:i<zs.length
   ·have hx:i<xs.length:=by omega
    rw[QKM hx];have:=h7 i 0 [AV.iv (.int .i64 zs[i])] (.iv (.int .i64 zs[i])) xs[i] (by simp[hi]) (by simp) (by simp[hx])
    cases this with
    | iv _ _ r =>
      generalize hz:xs[i]=z at r;cases r;simp[hi,hz]
   grind
 | _=>exact absurd h (by simp[QE])
theorem Qli {ok:Nat->Prop} {w:World} {lo:Nat->Option AO} {L:Nat->Lay} {zs:List Int} {mv id n:Nat} {v u:Value} {xs:List Value} (hid:lo id=some (Xj zs mv)) (hL:L id=.arr v xs) (hn:n=zs.length) (h:QB ok w lo L (.yo id n) u):u=v:=by
 grind
theorem Wd {ok:Nat->Prop} {w:World} (zs:List Int) (b cap:Nat) (hcap:zs.length<=cap) (hmax:cap<=maxLen) (hb:ok b) (hc:∀ j z,zs[j]?=some z->w.cell? ⟨b,j,none⟩=some (.int .i64 z)) :
  QS ok w (QqB zs) (.slice (some ⟨b,0,none⟩) zs.length cap):=by
 have h:=QS.sl (ok:=ok) (w:=w) 1 (zs.map fun z=>[IV.int .i64 z]) b 0 cap (fun k=>.int .i64 (zs.getD k 0)) (by simpa using hcap) hmax (by simp) (fun k hk=>?_) (fun i j c x hi hj=>?_)
 ·simpa using h
 ·simp only[QKZ,QMq] at hk
  refine ⟨hb,?_,rfl⟩
  grind
 ·rw[QKU,QKQ] at hi
  obtain ⟨z,hz,rfl⟩:=hi;cases j with
  | zero =>
    simp at hj;subst hj;rw[QMq,QLS,List.getD_eq_getElem?_getD,hz];exact .int _ _
  | succ j=>simp at hj
theorem QbN {Fr ok:Nat->Prop} {w:World} {L:Nat->Lay}:Qmz Fr ok w (Qc []) L:=⟨by simp[Qc],by simp[Qc]⟩
theorem Qd8 {f:FuncId}
  (he:∀ (a:Option Addr) (cap:Nat) (w:World),Calls P f #[.slice a 0 cap] w fun e w'=>e=.returned (.tuple #[])/\w'=w)
  (hr:∀ (blk off cap:Nat) (zs:List Int) (w:World),Holds (Value.int .i64) w blk off zs.toArray->zs.length<=9223372036854775807 ->
    Calls P f #[.slice (some ⟨blk,off,none⟩) zs.length cap] w fun e w'=>e=.returned (.tuple #[])/\∃ n,w'=putRow (Value.int .i64) (Sort.ahead w n) blk off zs.reverse.toArray)
  (zs:List Int) (mv:Nat):Y6 P K f [.yo 0 zs.length] [(0,Xj zs mv)] [0] (.iv (.xg [])) [(0,Xj zs.reverse zs.length)]:=by
 intro w ok L vs hK hnew hown hlaid hvl hvs
 obtain ⟨v0,rfl⟩:∃ v0,vs=[v0]:=by
  match vs,hvl with
  | [v],_=>exact ⟨v,rfl⟩
 have hob:=hlaid.xb 0 (Xj zs mv) rfl;obtain ⟨v,xs,hL,hrow⟩:=Qke hob;have hv:v0=v:=Qli (id:=0) (zs:=zs) (mv:=mv) rfl hL rfl (hvs 0 _ v0 rfl rfl);subst hv
 have fin:∀ (w':World) (xs':List Value),Zt (FrO w (Qc [(0,Xj zs mv)]) L) w w'->Yl (FrO w (Qc [(0,Xj zs mv)]) L) w' 3 1 v0 zs.length xs'->xs'=zs.reverse.map (.int .i64) ->
   ∃ v1 L',(Ending.returned (.tuple #[]):Ending)=.returned v1/\Qmz (FrO w (Qc [(0,Xj zs mv)]) L) ok w' (Qc [(0,Xj zs.reverse zs.length)]) L'/\QB (okL ok (Qc [(0,Xj zs.reverse zs.length)]) L') w' (Qc [(0,Xj zs.reverse zs.length)]) L' (.iv (.xg [])) v1/\Zt (FrO w (Qc [(0,Xj zs mv)]) L) w w' /\
    ∀ i∈[0],∀ o,Qc [(0,Xj zs mv)] i=some o->∃ o',Qc [(0,Xj zs.reverse zs.length)] i=some o'/\Va o o' (L i) (L' i):=by
  intro w' xs' hk ho hx;refine ⟨.tuple #[],fun _=>.arr v0 xs',rfl,⟨fun id o hid=>?_,fun i j oi oj b hij hi hj=>?_⟩,.iv _ _ (.xg [] [] rfl (by simp)),hk,fun i hi o h=>?_⟩
  ·simp only[Qc] at hid
   split at hid
   ·injection hid with hid
    subst hid;refine ⟨by simpa using ho,by simp,by simp,fun u hu=>?_,fun i j c x u hi hj hu=>?_⟩
    ·rw[hx] at hu
     obtain ⟨z,_,rfl⟩:=QK8.1 hu;rfl
    rw[QKU,QKQ] at hi;obtain ⟨z,hz,rfl⟩:=hi;cases j with
    | zero =>
      simp at hj;subst hj;rw[hx,QMq,QLS,QKU,hz] at hu;simp at hu;subst hu;exact .iv _ _ (.int _ _)
    | succ j=>simp at hj
   cases hid
  ·simp only[Qc] at hi hj
   grind
  simp at hi;subst hi;simp only[Qc,if_true] at h;injection h with h
  subst h;refine ⟨Xj zs.reverse zs.length,by simp[Qc],?_⟩
  rw[hL];simp[Va]
 rcases hrow with ⟨rfl,rfl⟩ | ⟨g,cap,cur,hr1,hfr⟩
 ·refine (he none 0 w).mono fun e w' ⟨h1,h2⟩=>?_
  subst h1 h2;exact fin w' [] (Zt.refl _ _) ⟨⟨by simp,.inl ⟨rfl,rfl⟩⟩,by simp[Value.ownBlock]⟩ (by simp)
 ·have hv:=hr1.v
  subst hv;refine (hr g 0 cap zs w hr1.holds (by have:=hr1.max;have:=hr1.le;unfold maxLen at *;omega)).mono fun e w' ⟨h1,n,h2⟩=>?_
  subst h1
  have hk:Zt (FrO w (Qc [(0,Xj zs mv)]) L) w w':=by
   have h3:Zt (FrO w (Qc [(0,Xj zs mv)]) L) (Sort.ahead w n) w':=by rw[h2];exact JY hfr
   exact ⟨h3.os,h3.tape,h3.output,h3.size,h3.block⟩
  have hh:w'.heap[g]?=some (.cells (putCells (Value.int .i64) 0 zs.reverse.toArray cur) 3 (0,0)):=by
   rw[h2];exact Qh5 (w:=Sort.ahead w n) hr1.at_
  refine fin w' _ hk ⟨⟨?_,.inr ⟨g,cap,_,rfl,QL3 _,hh,hr1.le,hr1.max,?_,rfl⟩⟩,fun b hb=>?_⟩ ?_
  ·simp[putCells,hr1.size,hr1.le]
  ·simp[putCells,hr1.size]
  ·simp[Value.ownBlock] at hb
   grind
  ·refine QMo fun i=>?_
   rw[QLt];by_cases hi:i<zs.length
   ·have h1:=hr1.size
    have h2:=hr1.le;have h3:i<cur.size:=by omega
    rw[QMq,if_pos hi];simp only[putCells,Array.getElem?_toList,Array.getElem?_mapIdx,QLy h3,QMe,QKU]
    grind
   grind
theorem QgS {f:FuncId}
  (hd:∀ (blk off cap i j:Nat) (d:Array Int) (w:World),Holds (Value.int .i64) w blk off d->d.size<=cap->cap<=9223372036854775807->i<=j->j<=d.size ->
    Calls P f #[.slice (some ⟨blk,off,none⟩) d.size cap,.int .i64 i,.int .i64 j] w fun e w'=>e=.returned (.slice (some ⟨blk,off,none⟩) (d.size-(j-i)) cap)/\∃ q,w'=putRow (Value.int .i64) (Sort.ahead w q) blk off (d.toList.take i++d.toList.drop j++List.replicate (j-i) 0).toArray)
  (zs:List Int) (mv:Nat) (i:Nat) (hi:i<zs.length):Y6 P K f [.yo 0 zs.length,.iv (.int .i64 (i:Nat)),.iv (.int .i64 ((i+1:Nat):Int))] [(0,Xj zs mv)] [] (.iv (QqB (zs.eraseIdx i))) []:=by
 intro w ok L vs hK hnew hown hlaid hvl hvs
 obtain ⟨v0,v1,v2,rfl⟩:∃ v0 v1 v2,vs=[v0,v1,v2]:=by
  match vs,hvl with
  | [v,u,z],_=>grind
 have hob:=hlaid.xb 0 (Xj zs mv) rfl;obtain ⟨v,xs,hL,hrow⟩:=Qke hob;have hv:v0=v:=Qli (id:=0) (zs:=zs) (mv:=mv) rfl hL rfl (hvs 0 _ v0 rfl rfl);subst hv
 have e1:v1=.int .i64 (i:Nat):=by
  have:=hvs 1 _ v1 rfl rfl;cases this with
  | iv _ _ r=>cases r;rfl
 have e2:v2=.int .i64 ((i+1:Nat):Int):=by
  have:=hvs 2 _ v2 rfl rfl;cases this with
  | iv _ _ r=>cases r;rfl
 subst e1 e2;rcases hrow with ⟨rfl,rfl⟩ | ⟨g,cap,cur,hr1,hfr⟩
 ·simp at hi
 ·have hv:=hr1.v
  subst hv;have hm:=hr1.max;have hle:=hr1.le;have:=hd g 0 cap i (i+1) zs.toArray w hr1.holds (by simpa using hle) (by unfold maxLen at *;omega) (by omega) (by simp;omega)
  have es:zs.toArray.size=zs.length:=by simp
  rw[es] at this;refine this.mono fun e w' ⟨h1,q,h2⟩=>?_
  have hgo:ok g:=hown g ⟨0,Xj zs mv,rfl,by rw[hL];simp[Lay.has,Value.ownBlock]⟩
  have hk:Zt (FrO w (Qc [(0,Xj zs mv)]) L) w w':=by
   have h3:Zt (FrO w (Qc [(0,Xj zs mv)]) L) (Sort.ahead w q) w':=by rw[h2];exact JY hfr
   exact ⟨h3.os,h3.tape,h3.output,h3.size,h3.block⟩
  have hnew:Holds (Value.int .i64) w' g 0 (zs.take i++zs.drop (i+1)++List.replicate (i+1-i) 0).toArray:=by
   have h3:=holds_putRow (Value.int .i64) (Sort.ahead w q) g 0 zs.toArray (zs.take i++zs.drop (i+1)++List.replicate (i+1-i) 0).toArray (holds_ahead _ w q g 0 _ hr1.holds) (by simp;omega)
   grind
  have hlen:(zs.eraseIdx i).length=zs.length-(i+1-i):=by grind
  subst h1;refine ⟨_,fun _=>.one 0,rfl,QbN,.iv _ _ ?_,hk,by simp⟩
  rw[<- hlen];refine Wd _ _ _ (by omega) hm ⟨hgo,by simp[Qc]⟩ fun j z hj=>?_
  rw[List.eraseIdx_eq_take_drop_succ] at hj;have hjl:=(QKN.1 hj).1;have h3:=(hnew j (by grind)).1
  grind
theorem Qgq {f:FuncId}
  (hshift:∀ (b n c i vb vc:Nat) (cs:List Value) (x:Value) (w:World),i<n->n+1<=c->c<=9223372036854775807->vb≠b->cs.length=n ->
    (∀ j v,cs[j]?=some v->w.cell? ⟨b,0+j,none⟩=some v)->(∀ j,j<n+1->(w.cell? ⟨b,0+j,none⟩).isSome=true)->(∀ j,j<n+1->w.frozen? ⟨b,0+j,none⟩=false) ->
    (∀ j v,[x][j]?=some v->w.cell? ⟨vb,0+j,none⟩=some v)->(∀ v∈cs,v.oneCell'=true)->(∀ v∈[x],v.oneCell'=true) ->
    ∀ (tA tB:TypeId) (kA kB:Nat),w.shape? vb=some (tA,kA)->w.shape? b=some (tB,kB)->kB≠0->w.frozen? ⟨vb,0,none⟩=false->w.frozen? ⟨vb,kA,none⟩=false ->
    Calls P f #[.slice (some ⟨b,0,none⟩) n c,.int .i64 i,.slice (some ⟨vb,0,none⟩) 1 vc] w fun e w' =>
     e=.returned (.slice (some ⟨b,0,none⟩) (n+1) c)/\w'=(w.drew.setCells b (0+(i+1)) (cs.drop i)).setCells b (0+i) [x])
  (hroom:∀ (b n c vb vc:Nat) (x:Value) (w:World),n+1<=c->c<=9223372036854775807->(∀ j,j<1->(w.cell? ⟨b,0+n+j,none⟩).isSome=true)->(∀ j,j<1->w.frozen? ⟨b,0+n+j,none⟩=false) ->
    (∀ j v,[x][j]?=some v->w.cell? ⟨vb,0+j,none⟩=some v)->(∀ v∈[x],v.oneCell'=true) ->
    Calls P f #[.slice (some ⟨b,0,none⟩) n c,.int .i64 n,.slice (some ⟨vb,0,none⟩) 1 vc] w fun e w' =>
     e=.returned (.slice (some ⟨b,0,none⟩) (n+1) c)/\w'=w.setCells b (0+n) [x])
  (hend:∀ (base:Option Addr) (n c vb vc:Nat) (cs:List Value) (x:Value) (w:World),n<=c->c<n+1->(n+1)*8<=140737488355328->cs.length=n->(base=none->n=0) ->
    (∀ a,base=some a->∀ j v,cs[j]?=some v->w.cell? (a.add j)=some v)->(∀ j v,[x][j]?=some v->w.cell? ⟨vb,0+j,none⟩=some v)->(∀ v∈[x],v.oneCell'=true) ->
    Calls P f #[.slice base n c,.int .i64 n,.slice (some ⟨vb,0,none⟩) 1 vc] w fun e w' =>
     e=.returned (.slice (some ⟨w.heap.size,0,none⟩) (n+1) (grownCap w (n+1) c 3)) /\
     w'=w.drew.alloc (.cells ((cs++[x]).toArray++Builtin.zeroCells (Value.int .i64 0).cells (grownCap w (n+1) c 3-(n+1))) 3))
  (hgrow:∀ (b n c i vb vc:Nat) (cs:List Value) (x:Value) (w:World),i<n->n<=c->c<n+1->(n+1)*8<=140737488355328->cs.length=n ->
    (∀ j v,cs[j]?=some v->w.cell? ⟨b,0+j,none⟩=some v)->(∀ j v,[x][j]?=some v->w.cell? ⟨vb,0+j,none⟩=some v)->(∀ v∈cs,v.oneCell'=true)->(∀ v∈[x],v.oneCell'=true) ->
    Calls P f #[.slice (some ⟨b,0,none⟩) n c,.int .i64 i,.slice (some ⟨vb,0,none⟩) 1 vc] w fun e w' =>
     e=.returned (.slice (some ⟨w.heap.size,0,none⟩) (n+1) (grownCap w (n+1) c 3)) /\
     w'=(((w.alloc (.cells ((cs.take i).toArray++Builtin.zeroCells (Value.int .i64 0).cells (n+1-i)++Builtin.zeroCells (Value.int .i64 0).cells (grownCap w (n+1) c 3-(n+1))) 3)).drew.setCells w.heap.size i [x]).drew).setCells w.heap.size (i+1) (cs.drop i))
  (zs:List Int) (mv:Nat) (i:Nat) (hi:i<=zs.length) (x:Int) (mv':Nat) (hlen:zs.length<=1000000):Y6 P K f [.yo 0 zs.length,.iv (.int .i64 (i:Nat)),.yo 1 1] [(0,Xj zs mv),(1,Xj [x] mv')] [] (.iv (QqB (zs.take i++x::zs.drop i))) []:=by
 intro w ok L vs hK hnew hown hlaid hvl hvs
 obtain ⟨v0,v1,v2,rfl⟩:∃ v0 v1 v2,vs=[v0,v1,v2]:=by
  match vs,hvl with
  | [v,u,z],_=>grind
 obtain ⟨v,xs,hL,hrow⟩:=Qke (hlaid.xb 0 (Xj zs mv) rfl);obtain ⟨v',xs',hL',hrow'⟩:=Qke (zs:=[x]) (hlaid.xb 1 (Xj [x] mv') rfl);have hv:v0=v:=Qli (id:=0) (zs:=zs) (mv:=mv) rfl hL rfl (hvs 0 _ v0 rfl rfl);have hv':v2=v':=Qli (id:=1) (zs:=[x]) (mv:=mv') rfl hL' rfl (hvs 2 _ v2 rfl rfl)
 have e1:v1=.int .i64 (i:Nat):=by
  have:=hvs 1 _ v1 rfl rfl;cases this with
  | iv _ _ r=>cases r;rfl
 subst hv hv' e1;have hmax:maxLen=1099511627775\/2000000<=maxLen/\maxLen<=9223372036854775807:=by unfold maxLen;omega
 rcases hrow' with ⟨_,h⟩ | ⟨vb,vc,cur',hr2,hfr2⟩
 ·cases h
 have hv2:=hr2.v;subst hv2
 have hx:∀ j v,[Value.int .i64 x][j]?=some v->w.cell? ⟨vb,0+j,none⟩=some v:=fun j v hj=>by
  cases j with
  | zero =>
    simp at hj;subst hj;rw[hr2.cell,hr2.get 0 (by simp)]
    simp
  | succ j=>simp at hj
 have hone:∀ v∈[Value.int .i64 x],v.oneCell'=true:=by simp[Value.oneCell']
 have hvw:vb<w.heap.size:=(QKY.1 hr2.at_).1;have hlen':(zs.take i++x::zs.drop i).length=zs.length+1:=by simp;omega
 have fresh:∀ (w':World) (cap:Nat),Zt (fun b=>b<w.heap.size) w w'->zs.length+1<=cap->cap<=maxLen->(∀ j z,(zs.take i++x::zs.drop i)[j]?=some z->w'.cell? ⟨w.heap.size,j,none⟩=some (.int .i64 z)) ->
   ∃ v1 L',(Ending.returned (.slice (some ⟨w.heap.size,0,none⟩) (zs.length+1) cap):Ending)=.returned v1/\Qmz (FrO w (Qc [(0,Xj zs mv),(1,Xj [x] mv')]) L) ok w' (Qc []) L'/\QB (okL ok (Qc []) L') w' (Qc []) L' (.iv (QqB (zs.take i++x::zs.drop i))) v1/\Zt (FrO w (Qc [(0,Xj zs mv),(1,Xj [x] mv')]) L) w w' /\
    ∀ i∈([]:List Nat),∀ o,Qc [(0,Xj zs mv),(1,Xj [x] mv')] i=some o->∃ o',Qc [] i=some o'/\Va o o' (L i) (L' i):=fun w' cap hk h1 h2 h3=>by
  refine ⟨_,fun _=>.one 0,rfl,QbN,.iv _ _ ?_,⟨hk.os,hk.tape,hk.output,hk.size,fun k hkk=>hk.block k hkk.1⟩,by simp⟩
  rw[<- hlen'] at h1 |-;exact Wd _ _ _ h1 h2 ⟨hnew _ (QKS _),by simp[Qc]⟩ h3
 have inplace:∀ (g cap:Nat) (cur:Array Value) (w':World),QcM w v0 zs g cap cur->¬ FrO w (Qc [(0,Xj zs mv),(1,Xj [x] mv')]) L g->Zt (FrO w (Qc [(0,Xj zs mv),(1,Xj [x] mv')]) L) w w'->zs.length+1<=cap->(∀ j z,(zs.take i++x::zs.drop i)[j]?=some z->w'.cell? ⟨g,j,none⟩=some (.int .i64 z)) ->
   ∃ v1 L',(Ending.returned (.slice (some ⟨g,0,none⟩) (zs.length+1) cap):Ending)=.returned v1/\Qmz (FrO w (Qc [(0,Xj zs mv),(1,Xj [x] mv')]) L) ok w' (Qc []) L'/\QB (okL ok (Qc []) L') w' (Qc []) L' (.iv (QqB (zs.take i++x::zs.drop i))) v1/\Zt (FrO w (Qc [(0,Xj zs mv),(1,Xj [x] mv')]) L) w w' /\
    ∀ i∈([]:List Nat),∀ o,Qc [(0,Xj zs mv),(1,Xj [x] mv')] i=some o->∃ o',Qc [] i=some o'/\Va o o' (L i) (L' i):=fun g cap cur w' hr1 _ hk h1 h3=>by
  have hgo:ok g:=hown g ⟨0,Xj zs mv,rfl,by rw[hL,hr1.v];simp[Lay.has,Value.ownBlock]⟩
  refine ⟨_,fun _=>.one 0,rfl,QbN,.iv _ _ ?_,hk,by simp⟩
  have h2:=hr1.max;rw[<- hlen'] at h1 |-;exact Wd _ _ _ h1 h2 ⟨hgo,by simp[Qc]⟩ h3
 have hcs:∀ j,j<zs.length->(zs.map (Value.int .i64))[j]?=some (.int .i64 zs[j]!):=fun j hj=>by simp[hj]
 have onev:∀ v∈zs.map (Value.int .i64),v.oneCell'=true:=fun v hv=>by
  obtain ⟨z,_,rfl⟩:=QK8.1 hv;rfl
 rcases QL2 i zs.length with xc | hge;rotate_left
 ·
  have hie:i=zs.length:=by omega
  subst hie;have hsame:zs.take zs.length++x::zs.drop zs.length=zs++[x]:=by simp
  have grow:∀ (base:Option Addr) (c:Nat),v0=.slice base zs.length c->zs.length<=c->c<zs.length+1->(base=none->zs.length=0)->(∀ a,base=some a->∀ j v,(zs.map (Value.int .i64))[j]?=some v->w.cell? (a.add j)=some v) ->
    Calls P f [v0,Value.int .i64 (zs.length:Nat),Value.slice (some ⟨vb,0,none⟩) [x].length vc].toArray w (fun e w'=>∃ v1 L',e=.returned v1/\Qmz (FrO w (Qc [(0,Xj zs mv),(1,Xj [x] mv')]) L) ok w' (Qc []) L'/\QB (okL ok (Qc []) L') w' (Qc []) L' (.iv (QqB (zs.take zs.length++x::zs.drop zs.length))) v1/\Zt (FrO w (Qc [(0,Xj zs mv),(1,Xj [x] mv')]) L) w w' /\
     ∀ i∈([]:List Nat),∀ o,Qc [(0,Xj zs mv),(1,Xj [x] mv')] i=some o->∃ o',Qc [] i=some o'/\Va o o' (L i) (L' i)):=fun base c hv h1 h2 h3 h4=>by
   have h0:=hend base zs.length c vb vc (zs.map (.int .i64)) (.int .i64 x) w h1 h2 (by omega) (by simp) h3 h4 hx hone
   rw[<- hv] at h0;have hgc1:=grownCap_ge w (zs.length+1) c 3;have hgc2:=grownCap_le_maxLen w (zs.length+1) c 3 (by omega)
   generalize grownCap w (zs.length+1) c 3=G at *;refine h0.mono fun e w' ⟨h5,h6⟩=>?_
   subst h5;obtain ⟨ROW,hROW⟩:∃ ROW:Array Value,ROW=(zs.map (Value.int .i64)++[Value.int .i64 x]).toArray++Builtin.zeroCells (Value.int .i64 0).cells (G-(zs.length+1)):=⟨_,rfl⟩
   rw[<- hROW] at h6;refine fresh w' G ?_ hgc1 hgc2 fun j z hj=>?_
   ·rw[h6]
    have:=QdH w.drew (.cells ROW 3);exact ⟨this.os,this.tape,this.output,this.size,this.block⟩
   rw[h6,World.cell?_alloc_at (w:=w.drew) ROW _ w.heap.size j rfl,hROW];rw[hsame] at hj;have hjl:=(QKN.1 hj).1;simp at hjl;rw[Array.getElem?_append_left (by simp;omega)]
   have:(zs.map (Value.int .i64)++[Value.int .i64 x])=(zs++[x]).map (.int .i64):=by simp
   rw[this,List.getElem?_toArray,QKU,hj];rfl
  rcases hrow with ⟨h1,h2⟩ | ⟨g,cap,cur,hr1,hfr⟩
  ·subst h2
   grind
  have hv:=hr1.v;have hm:=hr1.max;have hle:=hr1.le;rcases QL2 zs.length cap with hcap | hcap;rotate_left
  ·refine grow (some ⟨g,0,none⟩) cap hv hle (by omega) (by simp) (fun a ha j v hj=>?_)
   injection ha with ha
   subst ha;rw[QKU,QKQ] at hj;obtain ⟨z,hz,rfl⟩:=hj;obtain ⟨h1,h2⟩:=QKN.1 hz;rw[Addr.add_lit,QLb,hr1.cell,hr1.get j h1,h2]
  have h0:=hroom g zs.length cap vb vc (.int .i64 x) w (by omega) (by omega) (fun j hj=>by
   rw[hr1.cell,QLy (by have:=hr1.size;omega)];rfl) (fun j _=>hr1.frozen _) hx hone
  rw[<- hv] at h0;refine h0.mono fun e w' ⟨h1,h2⟩=>?_
  subst h1
  have hk:Zt (FrO w (Qc [(0,Xj zs mv),(1,Xj [x] mv')]) L) w w':=by
   rw[h2];exact Z5 hfr _ _ _
  refine inplace g cap cur w' hr1 hfr hk (by omega) fun j z hj=>?_
  rw[hsame] at hj;rw[h2];rcases QL2 j zs.length with h | h
  ·rw[QLd h] at hj
   rw[World.cell?_setCells_out g [_] (0+zs.length) _ ⟨g,j,none⟩ (fun _ _=>by grind),hr1.cell,hr1.get j h]
   obtain ⟨h3,h4⟩:=QKN.1 hj;rw[h4]
  have hj':j=zs.length:=by have:=(QKN.1 hj).1;grind
  subst hj';simp at hj;subst hj
  have:=World.cell?_setCells_in g [Value.int .i64 x] (0+zs.length) w (fun k hk=>by
   simp at hk;subst hk;rw[hr1.cell,QLy (by have:=hr1.size;omega)];rfl) 0 (by simp)
  simpa using this
 rcases hrow with ⟨_,h⟩ | ⟨g,cap,cur,hr1,hfr⟩
 ·grind
 have hv:=hr1.v;have hm:=hr1.max;have hle:=hr1.le;have hgw:g<w.heap.size:=(QKY.1 hr1.at_).1;have hne:vb≠g:=fun e=>hlaid.apart 0 1 (Xj zs mv) (Xj [x] mv') g (by simp) rfl rfl (by rw[hL,hv];simp[Lay.has,Value.ownBlock]) (by rw[hL',e];simp[Lay.has,Value.ownBlock])
 have hc:∀ j v,(zs.map (Value.int .i64))[j]?=some v->w.cell? ⟨g,0+j,none⟩=some v:=fun j v hj=>by
  rw[QKU,QKQ] at hj;obtain ⟨z,hz,rfl⟩:=hj;obtain ⟨h1,h2⟩:=QKN.1 hz;rw[QLb,hr1.cell,hr1.get j h1,h2]
 have hmid:∀ j z,(zs.take i++x::zs.drop i)[j]?=some z->(j<i/\zs[j]?=some z)\/(j=i/\z=x)\/(i+1<=j/\(zs.drop i)[j-(i+1)]?=some z):=fun j z hj=>by
  rcases Nat.lt_trichotomy j i with h | h | h
  ·rw[QLd (by simp;omega),QLt,if_pos h] at hj
   grind
  ·subst h
   rw[QK7 (by simp;omega),QLF,QLG (by omega),Nat.sub_self] at hj
   grind
  rw[QK7 (by simp;omega),QLF,QLG (by omega)] at hj
  obtain ⟨k,rfl⟩:∃ k,j=i+1+k:=⟨j-(i+1),by omega⟩
  rw[show i+1+k-i=k+1 by omega,List.getElem?_cons_succ] at hj
  exact .inr (.inr ⟨by omega,by rw[show i+1+k-(i+1)=k by omega];exact hj⟩)
 rcases QL2 zs.length cap with hcap | hcap
 ·
  have hsome:∀ j,j<zs.length+1->(w.cell? ⟨g,0+j,none⟩).isSome=true:=fun j hj=>by
   rw[QLb,hr1.cell,QLy (by have:=hr1.size;omega)];rfl
  have h0:=hshift g zs.length cap i vb vc (zs.map (.int .i64)) (.int .i64 x) w xc (by omega) (by omega) hne (by simp) hc hsome (fun j _=>hr1.frozen _) hx onev hone 3 3 cur'.size cur.size
   (by simp[World.shape?,hr2.at_]) (by simp[World.shape?,hr1.at_]) (by have:=hr1.size;omega) (hr2.frozen _) (hr2.frozen _)
  rw[<- hv] at h0;refine h0.mono fun e w' ⟨h1,h2⟩=>?_
  subst h1
  have hk:Zt (FrO w (Qc [(0,Xj zs mv),(1,Xj [x] mv')]) L) w w':=by
   have k1:=Z5 (Fr:=FrO w (Qc [(0,Xj zs mv),(1,Xj [x] mv')]) L) hfr ((zs.map (Value.int .i64)).drop i) (0+(i+1)) w.drew;have k2:=Z5 (Fr:=FrO w (Qc [(0,Xj zs mv),(1,Xj [x] mv')]) L) hfr [Value.int .i64 x] (0+i) (w.drew.setCells g (0+(i+1)) ((zs.map (Value.int .i64)).drop i));rw[h2];exact ⟨k2.os.trans k1.os,k2.tape.trans k1.tape,k2.output.trans k1.output,QLp k1.size k2.size,fun k hk=>(k2.block k hk).trans (k1.block k hk)⟩
  refine inplace g cap cur w' hr1 hfr hk (by omega) fun j z hj=>?_
  have in1:∀ k,k<((zs.map (Value.int .i64)).drop i).length->(w.drew.cell? ⟨g,0+(i+1)+k,none⟩).isSome=true:=fun k hk=>by
   have:=hsome (i+1+k) (by simp at hk;omega)
   rw[show 0+(i+1)+k=0+(i+1+k) by omega]
   exact this
  have sm1:∀ k,(w.cell? ⟨g,k,none⟩).isSome=true->((w.drew.setCells g (0+(i+1)) ((zs.map (Value.int .i64)).drop i)).cell? ⟨g,k,none⟩).isSome=true:=fun k hk=>by
   by_cases hin:0+(i+1)<=k/\k<0+(i+1)+((zs.map (Value.int .i64)).drop i).length
   ·have:=World.cell?_setCells_in g _ (0+(i+1)) w.drew in1 (k-(0+(i+1))) (by omega)
    rw[show 0+(i+1)+(k-(0+(i+1)))=k by omega] at this
    rw[this];rfl
   rw[World.cell?_setCells_out g _ (0+(i+1)) w.drew ⟨g,k,none⟩ (fun _ _=>by grind)]
   exact hk
  rw[h2];rcases hmid j z hj with ⟨h3,h4⟩ | ⟨h3,h4⟩ | ⟨h3,h4⟩
  ·rw[World.cell?_setCells_out g [_] (0+i) _ ⟨g,j,none⟩ (fun _ _=>by grind),World.cell?_setCells_out g _ (0+(i+1)) w.drew ⟨g,j,none⟩ (fun _ _=>by grind)]
   have:=hc j (.int .i64 z) (by simp[h4])
   rw[QLb] at this;exact this
  ·subst h3 h4
   have:=World.cell?_setCells_in g [Value.int .i64 z] (0+j) (w.drew.setCells g (0+(j+1)) ((zs.map (Value.int .i64)).drop j)) (fun k hk=>sm1 _ (by
    have:=hsome j (by omega)
    simp at hk;subst hk;simpa using this)) 0 (by simp)
   simpa using this
  obtain ⟨k,rfl⟩:∃ k,j=i+1+k:=⟨j-(i+1),by omega⟩
  rw[show i+1+k-(i+1)=k by omega] at h4
  have hkl:=(QKN.1 h4).1;rw[World.cell?_setCells_out g [_] (0+i) _ ⟨g,i+1+k,none⟩ (fun _ _=>by show i+1+k<_\/_<=i+1+k;simp)]
  have:=World.cell?_setCells_in g ((zs.map (Value.int .i64)).drop i) (0+(i+1)) w.drew in1 k (by simpa using hkl)
  rw[QLb] at this;rw[QLb,this]
  have h5:(List.drop i (zs.map (Value.int .i64)))[k]?=some (.int .i64 z):=by
   rw[<- QME,QKU,h4];rfl
  rw[QKM (by simpa using hkl)] at h5
  exact h5
 have hcap':cap=zs.length:=by omega
 have h0:=hgrow g zs.length cap i vb vc (zs.map (.int .i64)) (.int .i64 x) w xc (by omega) (by omega) (by omega) (by simp) hc hx onev hone
 rw[<- hv] at h0;have hgc1:=grownCap_ge w (zs.length+1) cap 3;have hgc2:=grownCap_le_maxLen w (zs.length+1) cap 3 (by omega)
 generalize grownCap w (zs.length+1) cap 3=G at *;refine h0.mono fun e w' ⟨h1,h2⟩=>?_
 subst h1;obtain ⟨ROW,hROW⟩:∃ ROW:Array Value,ROW=((zs.map (Value.int .i64)).take i).toArray++Builtin.zeroCells (Value.int .i64 0).cells (zs.length+1-i)++Builtin.zeroCells (Value.int .i64 0).cells (G-(zs.length+1)):=⟨_,rfl⟩
 rw[<- hROW] at h2
 have hRs:zs.length+1<=ROW.size:=by
  rw[hROW];simp[Builtin.zeroCells,Value.cells];omega
 have hRt:∀ j z,j<i->zs[j]?=some z->ROW[j]?=some (.int .i64 z):=fun j z hj hz=>by
  rw[hROW,Array.append_assoc,Array.getElem?_append_left (by simp;omega)]
  simp[QLt,hj,hz]
 have hN:∀ j,j<zs.length+1->((w.alloc (.cells ROW 3)).cell? ⟨w.heap.size,j,none⟩).isSome=true:=fun j hj=>by
  rw[World.cell?_alloc_at (w:=w) ROW _ w.heap.size j rfl,QLy (by omega)];rfl
 obtain ⟨W1,hW1⟩:∃ W1,W1=(w.alloc (.cells ROW 3)).drew.setCells w.heap.size i [Value.int .i64 x]:=⟨_,rfl⟩
 rw[<- hW1] at h2;have hkA:Zt (fun b=>b<w.heap.size) w (w.alloc (.cells ROW 3)):=QdH w _
 have hk1:Zt (fun b=>b<w.heap.size) w W1:=by
  have k2:=Z5 (Fr:=fun b=>b<w.heap.size) (g:=w.heap.size) (by simp) [Value.int .i64 x] i (w.alloc (.cells ROW 3)).drew
  rw[hW1];exact ⟨k2.os.trans hkA.os,k2.tape.trans hkA.tape,k2.output.trans hkA.output,QLp hkA.size k2.size,fun k hk=>(k2.block k hk).trans (hkA.block k hk)⟩
 have hk2:Zt (fun b=>b<w.heap.size) w w':=by
  have k2:=Z5 (Fr:=fun b=>b<w.heap.size) (g:=w.heap.size) (by simp) ((zs.map (Value.int .i64)).drop i) (i+1) W1.drew
  rw[h2];exact ⟨k2.os.trans hk1.os,k2.tape.trans hk1.tape,k2.output.trans hk1.output,QLp hk1.size k2.size,fun k hk=>(k2.block k hk).trans (hk1.block k hk)⟩
 have sm1:∀ k,k<zs.length+1->(W1.cell? ⟨w.heap.size,k,none⟩).isSome=true:=fun k hk=>by
  rw[hW1];by_cases hin:k=i
  ·subst hin
   have:=World.cell?_setCells_in w.heap.size [Value.int .i64 x] k (w.alloc (.cells ROW 3)).drew (fun t ht=>by simp at ht;subst ht;exact hN k hk) 0 (by simp)
   rw[QLS] at this;rw[this];rfl
  rw[World.cell?_setCells_out w.heap.size [_] i _ ⟨w.heap.size,k,none⟩ (fun _ _=>by show k<_\/_<=k;simp;omega)]
  exact hN k hk
 refine fresh w' G hk2 hgc1 hgc2 fun j z hj=>?_
 have in2:∀ k,k<((zs.map (Value.int .i64)).drop i).length->(W1.drew.cell? ⟨w.heap.size,i+1+k,none⟩).isSome=true:=fun k hk=>sm1 _ (by simp at hk;omega)
 rw[h2];rcases hmid j z hj with ⟨h3,h4⟩ | ⟨h3,h4⟩ | ⟨h3,h4⟩
 ·rw[World.cell?_setCells_out w.heap.size _ (i+1) W1.drew ⟨w.heap.size,j,none⟩ (fun _ _=>by grind)]
  show W1.cell? _=_
  rw[hW1,World.cell?_setCells_out w.heap.size [_] i _ ⟨w.heap.size,j,none⟩ (fun _ _=>by grind)]
  show (w.alloc (.cells ROW 3)).cell? _=_
  rw[World.cell?_alloc_at (w:=w) ROW _ w.heap.size j rfl];exact hRt j z h3 h4
 ·subst h3 h4
  rw[World.cell?_setCells_out w.heap.size _ (j+1) W1.drew ⟨w.heap.size,j,none⟩ (fun _ _=>by grind)]
  show W1.cell? _=_
  rw[hW1];have:=World.cell?_setCells_in w.heap.size [Value.int .i64 z] j (w.alloc (.cells ROW 3)).drew (fun t ht=>by simp at ht;subst ht;exact hN j (by omega)) 0 (by simp)
  simpa using this
 obtain ⟨k,rfl⟩:∃ k,j=i+1+k:=⟨j-(i+1),by omega⟩
 rw[show i+1+k-(i+1)=k by omega] at h4
 have hkl:=(QKN.1 h4).1;have:=World.cell?_setCells_in w.heap.size ((zs.map (Value.int .i64)).drop i) (i+1) W1.drew in2 k (by simpa using hkl)
 rw[this]
 have h5:(List.drop i (zs.map (Value.int .i64)))[k]?=some (.int .i64 z):=by
  rw[<- QME,QKU,h4];rfl
 rw[QKM (by simpa using hkl)] at h5
 exact h5
end
end Go.Ev
namespace Go.Pf
open Go Go.Proofs Go.Shelf Go.RowKit Go.Lib Go.Proofs.Tryz
set_option linter.unusedVariables false
set_option linter.unusedSimpArgs false
theorem i3z:(prog.info? 3).map (fun i=>(i.zero,i.size,i.bytes))=some (some (Value.int IntKind.i64 0),1,8):=by kernel_rfl
theorem Qkw:prog.follows .mixedOrders=true:=by kernel_rfl
set_option maxHeartbeats 4000000 in
set_option maxRecDepth 100000 in
theorem QbT (b off n c i vb voff m vc:Nat) (cs vs:List Value) (w:World) (hi:i<n) (hm:0<m) (hroom:n+m<=c) (hc63:c<=9223372036854775807) (hvb:vb≠b)
  (hcl:cs.length=n) (hvl:vs.length=m)
  (hcs:∀ j v,cs[j]?=some v->w.cell? ⟨b,off+j,none⟩=some v) (hsp:∀ j,j<n+m->(w.cell? ⟨b,off+j,none⟩).isSome=true) (hfz:∀ j,j<n+m->w.frozen? ⟨b,off+j,none⟩=false)
  (hvs:∀ j v,vs[j]?=some v->w.cell? ⟨vb,voff+j,none⟩=some v) (h1c:∀ v∈cs,v.oneCell'=true) (h1v:∀ v∈vs,v.oneCell'=true)
  (tA tB:TypeId) (kA kB:Nat) (hsa:w.shape? vb=some (tA,kA)) (hsb:w.shape? b=some (tB,kB)) (hkB:kB≠0) (hfa:w.frozen? ⟨vb,voff,none⟩=false) (hfe:w.frozen? ⟨vb,kA,none⟩=false) :
  Calls prog 360 #[.slice (some ⟨b,off,none⟩) n c,.int .i64 i,.slice (some ⟨vb,voff,none⟩) m vc] w fun e w' =>
   e=.returned (.slice (some ⟨b,off,none⟩) (n+m) c)/\w'=(w.drew.setCells b (off+(i+m)) (cs.drop i)).setCells b (off+i) vs:=by
 have t0:=underlying0;have a0:=isAgg0;have z0:=sizeOf0;have v0:=zeroValue0;have t3:=underlying3;have a3:=isAgg3;have z3:=sizeOf3;have v3:=zeroValue3;have t4:=underlying4;have a4:=isAgg4;have z4:=sizeOf4;have v4:=zeroValue4;have t186:=underlying222;have a186:=isAgg222;have z186:=sizeOf222;have v186:=zeroValue222;have t74:=underlying42;have a74:=isAgg42;have z74:=sizeOf42;have v74:=zeroValue42;have u0:=run_underlying t0;have u3:=run_underlying t3;have u4:=run_underlying t4;have u186:=run_underlying t186;have u74:=run_underlying t74;have hz1:¬ ((m:Int)=0):=by omega
 have hz2:¬ ((i:Int)=(n:Int)):=by omega
 have hsz:(prog.info? 3).map (·.size)=some 1:=by
  obtain ⟨i0,hi0,h0,h1,h2⟩:=info_parts i3z
  grind
 have hov:∀ lb cb,(callFunc 400 #[.slice (some ⟨vb,voff,none⟩) m vc,.slice (some ⟨b,off+(i+m),none⟩) lb cb]).run prog w=.ok (.value (.bool false)) w:=fun lb cb=>by
  rw[run_callFunc_extern func400 (by kernel_rfl) (by kernel_rfl) (by kernel_rfl) (e:=Extern.SlicesOverlaps.overlaps #[42,42] #[4]) (by kernel_rfl),
   Lib.run_overlaps_apart w 42 4 3 t74 1 z3 ⟨vb,voff,none⟩ ⟨b,off+(i+m),none⟩ m vc lb cb hvb tA tB kA kB hsa hsb hkB hfa hfe]
  rfl
 have hdl:(cs.drop i).length=n-i:=by grind
 have mixed:=Qkw;have hw1:IntKind.i64.wrap ((i:Int)+(m:Int))=(i:Int)+(m:Int):=by rw[IntKind.wrap_i64];omega
 have hb1:(0:Int)<=(i:Int)+(m:Int):=by omega
 have hin:i<=n:=by omega
 have htn:((i:Int)+(m:Int)).toNat=i+m:=by omega
 have hb2:¬ (c=i+m):=by omega
 have hb3:(i:Int)<=(n:Int)+(m:Int):=by omega
 have hb4:¬ (c=i):=by omega
 have hcp1:∀ ty dc sc,(Builtin.copy_ #[222,222] ty #[.slice (some ⟨b,off+(i+m),none⟩) (n+m-(i+m)) dc,.slice (some ⟨b,off+i,none⟩) (n+m-i) sc]).run prog w.drew=.ok (goInt (cs.drop i).length) (w.drew.setCells b (off+(i+m)) (cs.drop i)):=fun ty dc sc =>
  run_copy_cells w.drew _ _ ty 3 b (off+(i+m)) (n+m-(i+m)) dc ⟨b,off+i,none⟩ (n+m-i) sc (cs.drop i) t186 hsz (by grind)
   (fun j v hj=>by rw[Addr.add_lit,QLV];exact hcs (i+j) v (by grind))
   (fun j hj=>by rw[QLV];exact hsp _ (by omega)) (fun j hj=>by rw[QLV];exact hfz _ (by omega)) (fun v hv=>h1c v (QL1 hv))
 obtain ⟨W1,hW1⟩:∃ W1,W1=w.drew.setCells b (off+(i+m)) (cs.drop i):=⟨_,rfl⟩
 have hsp1:∀ k,k<n+m->(W1.cell? ⟨b,off+k,none⟩).isSome=true:=fun k hk=>by
  rw[hW1];exact isSome_setCells b _ _ _ (fun j hj=>by rw[QLV];exact hsp _ (by omega)) _ (hsp k hk)
 have hcp2:∀ (W:World),(∀ x,W.cell? x=W1.cell? x)->(∀ x,W.frozen? x=W1.frozen? x)->∀ ty dc,(Builtin.copy_ #[222,42] ty #[.slice (some ⟨b,off+i,none⟩) (n+m-i) dc,.slice (some ⟨vb,voff,none⟩) m vc]).run prog W=.ok (goInt vs.length) (W.setCells b (off+i) vs):=fun W hWc hWf ty dc =>
  run_copy_cells W _ _ ty 3 b (off+i) (n+m-i) dc ⟨vb,voff,none⟩ m vc vs t186 hsz (by grind)
   (fun j v hj=>by
     rw[Addr.add_lit,hWc,hW1,World.cell?_setCells_out b _ _ _ _ (fun h _=>absurd h hvb)]
     exact hvs j v hj)
   (fun j hj=>by rw[hWc,QLV];exact hsp1 _ (by omega)) (fun j hj=>by rw[hWf,hW1,World.frozen?_setCells,QLV];exact hfz _ (by omega)) h1v
 rw[<- hW1] at hcp1
 go_enter func360,ntmps360
 go_wp2_with (simp only[hov])
 go_region_law_o (refine step_copy_runI rfl _ _ 222 222 rfl _ _ (by simp[Act.eval,Act.put]) (by simp[Act.eval,Act.put]) (hcp1 _ _ _) ?_)
 go_wp2_with (at_builtin;refine wpList_copy_runI _ rfl _ _ 222 42 rfl _ _ rfl rfl (hcp2 _ (fun _=>rfl) (fun _=>rfl) _ _) ?_)
 go_ret
 first | exact ⟨rfl,rfl⟩ | exact ⟨rfl,by rw[hW1]⟩
set_option maxHeartbeats 4000000 in
set_option maxRecDepth 100000 in
theorem Wv (b off n c vb voff m vc:Nat) (vs:List Value) (w:World) (hm:0<m) (hroom:n+m<=c) (hc63:c<=9223372036854775807)
  (hvl:vs.length=m) (hsp:∀ j,j<m->(w.cell? ⟨b,off+n+j,none⟩).isSome=true) (hfz:∀ j,j<m->w.frozen? ⟨b,off+n+j,none⟩=false)
  (hvs:∀ j v,vs[j]?=some v->w.cell? ⟨vb,voff+j,none⟩=some v) (h1v:∀ v∈vs,v.oneCell'=true) :
  Calls prog 360 #[.slice (some ⟨b,off,none⟩) n c,.int .i64 n,.slice (some ⟨vb,voff,none⟩) m vc] w fun e w' =>
   e=.returned (.slice (some ⟨b,off,none⟩) (n+m) c)/\w'=w.setCells b (off+n) vs:=by
 have t0:=underlying0;have a0:=isAgg0;have z0:=sizeOf0;have v0:=zeroValue0;have t3:=underlying3;have a3:=isAgg3;have z3:=sizeOf3;have v3:=zeroValue3;have t4:=underlying4;have a4:=isAgg4;have z4:=sizeOf4;have v4:=zeroValue4;have t186:=underlying222;have a186:=isAgg222;have z186:=sizeOf222;have v186:=zeroValue222;have t74:=underlying42;have a74:=isAgg42;have z74:=sizeOf42;have v74:=zeroValue42;have u0:=run_underlying t0;have u3:=run_underlying t3;have u4:=run_underlying t4;have u186:=run_underlying t186;have u74:=run_underlying t74;have mixed:=Qkw;have hz1:¬ ((m:Int)=0):=by omega
 have hsrc:Src prog 1 42 (.slice (some ⟨vb,voff,none⟩) m vc) m vs w:=Src.ofSlice w t74 ⟨vb,voff,none⟩ m vc vs (by omega) (fun j u hj=>by rw[Addr.add_lit];exact hvs j u hj) h1v
 go_enter func360,ntmps360
 go_wp2_with (at_builtin;refine wpList_append_room1 _ rfl _ _ 222 42 rfl 3 _ _ t186 i3z b off n c rfl _ rfl m vs hsrc hroom (by grind) (by grind) ?_)
 go_ret
 exact ⟨rfl,rfl⟩
set_option maxHeartbeats 4000000 in
set_option maxRecDepth 100000 in
theorem Ww (base:Option Addr) (n c vb voff m vc:Nat) (cs vs:List Value) (w:World) (hm:0<m) (hnc:n<=c) (hroom:c<n+m) (hbig:(n+m)*8<=140737488355328)
  (hcl:cs.length=n) (hvl:vs.length=m) (hnil:base=none->n=0)
  (hcs:∀ a,base=some a->∀ j v,cs[j]?=some v->w.cell? (a.add j)=some v)
  (hvs:∀ j v,vs[j]?=some v->w.cell? ⟨vb,voff+j,none⟩=some v) (h1v:∀ v∈vs,v.oneCell'=true) :
  Calls prog 360 #[.slice base n c,.int .i64 n,.slice (some ⟨vb,voff,none⟩) m vc] w fun e w' =>
   e=.returned (.slice (some ⟨w.heap.size,0,none⟩) (n+m) (grownCap w (n+m) c 3)) /\
   w'=w.drew.alloc (.cells ((cs++vs).toArray++Builtin.zeroCells (Value.int .i64 0).cells (grownCap w (n+m) c 3-(n+m))) 3):=by
 have t0:=underlying0;have a0:=isAgg0;have z0:=sizeOf0;have v0:=zeroValue0;have t3:=underlying3;have a3:=isAgg3;have z3:=sizeOf3;have v3:=zeroValue3;have t4:=underlying4;have a4:=isAgg4;have z4:=sizeOf4;have v4:=zeroValue4;have t186:=underlying222;have a186:=isAgg222;have z186:=sizeOf222;have v186:=zeroValue222;have t74:=underlying42;have a74:=isAgg42;have z74:=sizeOf42;have v74:=zeroValue42;have u0:=run_underlying t0;have u3:=run_underlying t3;have u4:=run_underlying t4;have u186:=run_underlying t186;have u74:=run_underlying t74;have mixed:=Qkw;obtain ⟨i0,hi0,hz0,hzs,hzb⟩:=info_parts i3z;have hz1:¬ ((m:Int)=0):=by omega
 have hsrc:Src prog i0.size 42 (.slice (some ⟨vb,voff,none⟩) m vc) m vs w:=by
  rw[hzs];exact Src.ofSlice w t74 ⟨vb,voff,none⟩ m vc vs (by omega) (fun j u hj=>by rw[Addr.add_lit];exact hvs j u hj) h1v
 have hold:(Builtin.firstCells i0.size n (.slice base n c)).run prog w.drew=.ok cs.toArray w.drew:=by
  rw[hzs];cases base with
  | none =>
    have h0:=hnil rfl;subst h0;rw[List.length_eq_zero_iff.1 hcl];exact run_firstCells_none w.drew 1 0 0 c
  | some a=>exact run_firstCells_some w.drew 1 n a n c cs (by omega) (fun j v hj=>hcs a rfl j v hj)
 have hrun:∀ ty,(Builtin.append_ #[222,42] ty #[.slice base n c,.slice (some ⟨vb,voff,none⟩) m vc]).run prog w=_:=fun ty =>
  run_append_grow_src w 222 42 ty 3 i0 _ t186 hi0 hz0 base n c cs hold _ m vs hsrc hroom (by omega) (by rw[hzb];exact growslice_fits hroom hbig)
 go_enter func360,ntmps360
 cases base with
 | none =>
   have h0:=hnil rfl;subst h0
   go_wp2_with (at_builtin;refine Lib.wpList_append_run _ rfl _ _ _ _ rfl _ _ rfl rfl _ _ (hrun _) ?_)
   go_ret
   exact ⟨rfl,rfl⟩
 | some a =>
   obtain ⟨ab,ao,asp⟩:=a
   go_wp2_with (at_builtin;refine Lib.wpList_append_run _ rfl _ _ _ _ rfl _ _ rfl rfl _ _ (hrun _) ?_)
   all_goals (go_ret;exact ⟨rfl,rfl⟩)
set_option maxHeartbeats 4000000 in
set_option maxRecDepth 100000 in
theorem QcD (b off n c i vb voff m vc:Nat) (cs vs:List Value) (w:World) (hi:i<n) (hm:0<m) (hnc:n<=c) (hroom:c<n+m) (hbig:(n+m)*8<=140737488355328)
  (hcl:cs.length=n) (hvl:vs.length=m)
  (hcs:∀ j v,cs[j]?=some v->w.cell? ⟨b,off+j,none⟩=some v)
  (hvs:∀ j v,vs[j]?=some v->w.cell? ⟨vb,voff+j,none⟩=some v) (h1c:∀ v∈cs,v.oneCell'=true) (h1v:∀ v∈vs,v.oneCell'=true) :
  Calls prog 360 #[.slice (some ⟨b,off,none⟩) n c,.int .i64 i,.slice (some ⟨vb,voff,none⟩) m vc] w fun e w' =>
   e=.returned (.slice (some ⟨w.heap.size,0,none⟩) (n+m) (grownCap w (n+m) c 3)) /\
   w'=(((w.alloc (.cells ((cs.take i).toArray++Builtin.zeroCells (Value.int .i64 0).cells (n+m-i)++Builtin.zeroCells (Value.int .i64 0).cells (grownCap w (n+m) c 3-(n+m))) 3)).drew.setCells w.heap.size i vs).drew).setCells w.heap.size (i+m) (cs.drop i):=by
 have t0:=underlying0;have a0:=isAgg0;have z0:=sizeOf0;have v0:=zeroValue0;have t3:=underlying3;have a3:=isAgg3;have z3:=sizeOf3;have v3:=zeroValue3;have t4:=underlying4;have a4:=isAgg4;have z4:=sizeOf4;have v4:=zeroValue4;have t186:=underlying222;have a186:=isAgg222;have z186:=sizeOf222;have v186:=zeroValue222;have t74:=underlying42;have a74:=isAgg42;have z74:=sizeOf42;have v74:=zeroValue42;have u0:=run_underlying t0;have u3:=run_underlying t3;have u4:=run_underlying t4;have u186:=run_underlying t186;have u74:=run_underlying t74;have mixed:=Qkw;obtain ⟨i0,hi0,hz0,hzs,hzb⟩:=info_parts i3z;have hz1:¬ ((m:Int)=0):=by omega
 have hz2:¬ ((i:Int)=(n:Int)):=by omega
 have hz3:(c:Int)<(n:Int)+(m:Int):=by omega
 have hsz:(prog.info? 3).map (·.size)=some 1:=by grind
 have hbw:b<w.heap.size:=block_lt_of_cell (hcs 0 _ (QKM (by omega)))
 have hvw:vb<w.heap.size:=block_lt_of_cell (hvs 0 _ (QKM (by omega)))
 have hkk:(n:Int)+(m:Int)-(i:Int)=((n+m-i:Nat):Int):=by omega
 have hik:i+(n+m-i)=n+m:=by omega
 have hold:(Builtin.firstCells i0.size i (.slice (some ⟨b,off,none⟩) i c)).run prog w.drew=.ok (cs.take i).toArray w.drew:=by
  rw[hzs]
  exact run_firstCells_some w.drew 1 i ⟨b,off,none⟩ i c (cs.take i) (by grind) (fun j v hj=>by
   rw[Addr.add_lit];rw[QLt] at hj;split at hj
   ·exact hcs j v hj
   cases hj)
 have hrz:∀ ty,(Builtin.append_ #[222,3] ty #[.slice (some ⟨b,off,none⟩) i c,.int .i64 ((n:Int)+(m:Int)-(i:Int))]).run prog w =
   .ok (.slice (some ⟨w.heap.size,0,none⟩) (n+m) (grownCap w (n+m) c 3)) (w.drew.alloc (.cells ((cs.take i).toArray++Builtin.zeroCells (Value.int .i64 0).cells (n+m-i)++Builtin.zeroCells (Value.int .i64 0).cells (grownCap w (n+m) c 3-(n+m))) 3)):=fun ty=>by
  have h:=Lib.run_append_grow_zeros w 222 3 ty 3 i0 _ .i64 .i64 t186 t3 hi0 hz0 (some ⟨b,off,none⟩) i c (cs.take i) hold (n+m-i) (by omega) (by omega) (by omega) (by omega) (by rw[hzb];omega) (by rw[hzb,hik];exact growslice_fits hroom hbig)
  grind
 obtain ⟨G,hG⟩:∃ G,G=grownCap w (n+m) c 3:=⟨_,rfl⟩
 obtain ⟨ROW,hROW⟩:∃ ROW:Array Value,ROW=(cs.take i).toArray++Builtin.zeroCells (Value.int .i64 0).cells (n+m-i)++Builtin.zeroCells (Value.int .i64 0).cells (G-(n+m)):=⟨_,rfl⟩
 rw[<- hG] at hrz |-;rw[<- hROW] at hrz |-
 have hRl:n+m<=ROW.size:=by
  rw[hROW];simp[Builtin.zeroCells,Value.cells];omega
 obtain ⟨W1,hW1⟩:∃ W1,W1=w.drew.alloc (.cells ROW 3):=⟨_,rfl⟩
 rw[<- hW1] at hrz
 have hN:∀ j,j<n+m->(W1.cell? ⟨w.heap.size,j,none⟩).isSome=true:=fun j hj=>by
  rw[hW1,World.cell?_alloc_at (w:=w.drew) ROW _ w.heap.size j rfl,QLy (by omega)];rfl
 have hNf:∀ j,W1.frozen? ⟨w.heap.size,j,none⟩=false:=fun j=>by rw[hW1];exact World.frozen?_alloc_at (w:=w.drew) ROW _ w.heap.size j rfl
 have hOb:∀ j v,w.cell? ⟨b,j,none⟩=some v->W1.cell? ⟨b,j,none⟩=some v:=fun j v h=>by rw[hW1,World.cell?_alloc_past (w:=w.drew) _ b j hbw];exact h
 have hOv:∀ j v,w.cell? ⟨vb,j,none⟩=some v->W1.cell? ⟨vb,j,none⟩=some v:=fun j v h=>by rw[hW1,World.cell?_alloc_past (w:=w.drew) _ vb j hvw];exact h
 have hcpA:∀ (W:World),(∀ x,W.cell? x=W1.cell? x)->(∀ x,W.frozen? x=W1.frozen? x)->∀ ty dc,(Builtin.copy_ #[222,42] ty #[.slice (some ⟨w.heap.size,i,none⟩) (n+m-i) dc,.slice (some ⟨vb,voff,none⟩) m vc]).run prog W=.ok (goInt vs.length) (W.setCells w.heap.size i vs):=fun W hWc hWf ty dc =>
  run_copy_cells W _ _ ty 3 w.heap.size i (n+m-i) dc ⟨vb,voff,none⟩ m vc vs t186 hsz (by grind)
   (fun j v hj=>by rw[Addr.add_lit,hWc];grind)
   (fun j hj=>by grind) (fun j hj=>by grind) h1v
 have hGn:n+m<=G:=by rw[hG];exact grownCap_ge w _ _ _
 have hG63:G<=9223372036854775807:=by
  have:=grownCap_le_maxLen w (n+m) c 3 (by unfold maxLen;omega)
  rw[<- hG] at this;unfold maxLen at this;omega
 have hGi:¬ (G=i):=by omega
 have hGim:¬ (G=i+m):=by omega
 have hci:¬ (c=i):=by omega
 have hbN:b≠w.heap.size:=by omega
 have hdl:(cs.drop i).length=n-i:=by grind
 have hcpB:∀ (W:World),(∀ x,W.cell? x=(W1.setCells w.heap.size i vs).cell? x)->(∀ x,W.frozen? x=(W1.setCells w.heap.size i vs).frozen? x)->∀ ty dc sc,(Builtin.copy_ #[222,222] ty #[.slice (some ⟨w.heap.size,i+m,none⟩) (n+m-(i+m)) dc,.slice (some ⟨b,off+i,none⟩) (n-i) sc]).run prog W=.ok (goInt (cs.drop i).length) (W.setCells w.heap.size (i+m) (cs.drop i)):=fun W hWc hWf ty dc sc =>
  run_copy_cells W _ _ ty 3 w.heap.size (i+m) (n+m-(i+m)) dc ⟨b,off+i,none⟩ (n-i) sc (cs.drop i) t186 hsz (by grind)
   (fun j v hj=>by
     rw[Addr.add_lit,hWc,World.cell?_setCells_out _ _ _ _ _ (fun h _=>absurd h hbN),QLV]
     grind)
   (fun j hj=>by rw[hWc];exact isSome_setCells _ _ _ _ (fun t ht=>hN _ (by omega)) _ (hN _ (by omega)))
   (fun j hj=>by rw[hWf,World.frozen?_setCells];exact hNf _) (fun v hv=>h1c v (QL1 hv))
 subst hW1;have hE1:∀ x,((w.alloc (.cells ROW 3)).drew).cell? x=(w.drew.alloc (.cells ROW 3)).cell? x:=fun x=>rfl
 have hE2:∀ x,((w.alloc (.cells ROW 3)).drew).frozen? x=(w.drew.alloc (.cells ROW 3)).frozen? x:=fun x=>rfl
 have hF1:∀ x,(((w.alloc (.cells ROW 3)).drew.setCells w.heap.size i vs).drew).cell? x=((w.drew.alloc (.cells ROW 3)).setCells w.heap.size i vs).cell? x:=fun x=>rfl
 have hF2:∀ x,(((w.alloc (.cells ROW 3)).drew.setCells w.heap.size i vs).drew).frozen? x=((w.drew.alloc (.cells ROW 3)).setCells w.heap.size i vs).frozen? x:=fun x=>rfl
 have hw1:IntKind.i64.wrap ((i:Int)+(m:Int))=(i:Int)+(m:Int):=by rw[IntKind.wrap_i64];omega
 have hb1:(0:Int)<=(i:Int)+(m:Int):=by omega
 have hin:i<=n:=by omega
 have htn:((i:Int)+(m:Int)).toNat=i+m:=by omega
 have hb3:(i:Int)<=(n:Int):=by omega
 clear hkk hik hold hROW hG hRl
 go_enter func360,ntmps360
 go_wp2_with (first
  | (at_builtin;refine Lib.wpList_append_run _ rfl _ _ _ _ rfl _ _ rfl rfl _ _ (hrz _) ?_)
  | (at_builtin;refine wpList_copy_runI _ rfl _ _ 222 42 rfl _ _ rfl rfl (hcpA _ hE1 hE2 _ _) ?_)
  | (at_builtin;refine wpList_copy_runI _ rfl _ _ 222 222 rfl _ _ rfl rfl (hcpB _ (fun _=>rfl) (fun _=>rfl) _ _ _) ?_))
 go_region_law_o (refine step_copy_runI rfl _ _ 222 222 rfl (.slice (some ⟨w.heap.size,i+m,none⟩) (n+m-(i+m)) (G-(i+m))) (.slice (some ⟨b,off+i,none⟩) (n-i) (c-i)) (by simp[Act.eval,Act.put]) (by simp[Act.eval,Act.put]) (hcpB _ hF1 hF2 3 (G-(i+m)) (c-i)) ?_)
 go_wp2
 go_ret
 exact ⟨rfl,rfl⟩
end Go.Pf
namespace Go.Pf
open Go Go.Ev Go.Proofs Go.RowKit Go.Shelf Go.Proofs.Tryz
set_option maxRecDepth 8000
noncomputable def QDW:TypeInfo:=(prog.info? 3).get (by kernel_rfl)
section
variable {K:World->Prop}
theorem Qrx (zs:List Int) (mv:Nat):Y6 prog K 363 [.yo 0 zs.length] [(0,Xj zs mv)] [0] (.iv (.xg [])) [(0,Xj zs.reverse zs.length)] :=
 Qd8 (fun a cap w=>AnyE.slices_Reverse_empty Tryz.rev363 a cap w) (fun blk off cap zs w hh hl=>AnyE.slices_Reverse Tryz.rev363 (Value.int .i64) (fun _=>rfl) blk off cap zs w hh hl) zs mv
theorem Qry (zs:List Int) (mv i:Nat) (hi:i<zs.length):Y6 prog K 362 [.yo 0 zs.length,.iv (.int .i64 (i:Nat)),.iv (.int .i64 ((i+1:Nat):Int))] [(0,Xj zs mv)] [] (.iv (QqB (zs.eraseIdx i))) [] :=
 QgS (fun blk off cap i j d w hh h1 h2 h3 h4=>AnyE.slices_Delete Tryz.del362 (Value.int .i64) (fun _=>rfl) 0 zeroValue3 QDW (by kernel_rfl) (by kernel_rfl) blk off cap i j d w hh h1 h2 h3 h4) zs mv i hi
theorem Qrz (zs:List Int) (mv i:Nat) (hi:i<=zs.length) (x:Int) (mv':Nat) (hlen:zs.length<=1000000):Y6 prog K 360 [.yo 0 zs.length,.iv (.int .i64 (i:Nat)),.yo 1 1] [(0,Xj zs mv),(1,Xj [x] mv')] [] (.iv (QqB (zs.take i++x::zs.drop i))) [] :=
 Qgq
  (fun b n c i vb vc cs x w h1 h2 h3 h4 h5 h6 h7 h8 h9 h10 h11 tA tB kA kB h12 h13 h14 h15 h16=>QbT b 0 n c i vb 0 1 vc cs [x] w h1 (by omega) h2 h3 h4 h5 rfl h6 h7 h8 h9 h10 h11 tA tB kA kB h12 h13 h14 h15 h16)
  (fun b n c vb vc x w h1 h2 h3 h4 h5 h6=>Wv b 0 n c vb 0 1 vc [x] w (by omega) h1 h2 rfl h3 h4 h5 h6)
  (fun base n c vb vc cs x w h1 h2 h3 h4 h5 h6 h7 h8=>Ww base n c vb 0 1 vc cs [x] w (by omega) h1 h2 h3 h4 rfl h5 h6 h7 h8)
  (fun b n c i vb vc cs x w h1 h2 h3 h4 h5 h6 h7 h8 h9=>QcD b 0 n c i vb 0 1 vc cs [x] w h1 (by omega) h2 h3 h4 h5 rfl h6 h7 h8 h9)
  zs mv i hi x mv' hlen
end
end Go.Pf
namespace Go.Pf
open Go Go.Ev Go.Proofs Go.RowKit Go.Proofs.Tryz
set_option maxRecDepth 8000
def Qty (i:Nat) (kvs:List (MK × List (List IV))) (n:Nat):List (MK × List (List IV)):=zn (.int .i64 (n:Int)) (((Qo (.int .i64 (n:Int)) kvs).getD [])++[[.int .i64 (i:Nat)]]) kvs
def prf (ds:List Qx) (e:Nat->Int):Nat->List (MK × List (List IV))
 | 0=>[]
 | i+1=>match ds[i]? with
   | some d=>if d.zp=4 then (cab ds e i).foldl (Qty i) (prf ds e i) else prf ds e i
   | none=>prf ds e i
theorem Qkn (ds:List Qx) (e:Nat->Int) (i:Nat) (h:i<ds.length):prf ds e (i+1)=if ds[i].zp=4 then (cab ds e i).foldl (Qty i) (prf ds e i) else prf ds e i:=by
 simp only[prf,QKM h]
theorem JD (n:Int) (y:List (List IV)):∀ kvs:List (MK × List (List IV)),Zw (some .i64) kvs->Zw (some .i64) (zn (.int .i64 n) y kvs)
 | [],_=>⟨rfl,trivial⟩
 | p::r,h=>by
   unfold zn;split
   ·exact ⟨rfl,h.2⟩
   exact ⟨h.1,JD n y r h.2⟩
theorem VO (k j:MK) (y:List (List IV)):∀ kvs:List (MK × List (List IV)),Qo j (zn k y kvs)=if k=j then some y else Qo j kvs
 | []=>by simp[zn,Qo]
 | p::r=>by
   unfold zn;split
   ·rename_i h
    simp only[Qo]
    grind
   rename_i h;simp only[Qo,VO k j y r]
   grind
def Low (m:Nat) (kvs:List (MK × List (List IV))):Prop:=Zw (some .i64) kvs/\∀ k rows,Qo k kvs=some rows->rows.length<=m
theorem Low.add {m i:Nat} {kvs:List (MK × List (List IV))} (h:Low m kvs) (n:Nat):Low (m+1) (Qty i kvs n):=by
 refine ⟨JD _ _ _ h.1,fun k rows hk=>?_⟩
 unfold Qty at hk;rw[VO] at hk;split at hk
 ·injection hk with hk
  subst hk;cases hf:Qo (.int .i64 (n:Int)) kvs with
  | none=>simp
  | some r=>have:=h.2 _ _ hf;simp;omega
 have:=h.2 _ _ hk;omega
theorem Low.fold {i:Nat}:∀ (l:List Nat) {m:Nat} {kvs:List (MK × List (List IV))},Low m kvs->Low (m+l.length) (l.foldl (Qty i) kvs)
 | [],m,kvs,h=>h
 | n::l,m,kvs,h=>by
   have:=Low.fold (i:=i) l (h.add (i:=i) n)
   grind
theorem Low.mono {m m':Nat} {kvs:List (MK × List (List IV))} (h:Low m kvs) (hm:m<=m'):Low m' kvs:=⟨h.1,fun k rows hk=>QLp (h.2 k rows hk) hm⟩
theorem Qnh (ds:List Qx) (e:Nat->Int) (hc:OkD ds ds.length):∀ i,i<=ds.length->Low (i*ds.length) (prf ds e i)
 | 0,_=>⟨trivial,fun k rows h=>by simp[prf,Qo] at h⟩
 | i+1,h=>by
   have ih:=Qnh ds e hc i (by omega)
   rw[Qkn ds e i (by omega)]
   have e1:(i+1)*ds.length=i*ds.length+ds.length:=by grind
   rw[e1];split
   ·have hcl:=Xx e hc i (by omega) (by omega)
    have hcb:=hc.cnt i (by omega) (by omega)
    exact (ih.fold _).mono (by omega)
   exact ih.mono (by omega)
theorem Low.len {m:Nat} {kvs:List (MK × List (List IV))} (h:Low m kvs) (k:MK):((Qo k kvs).getD []).length<=m:=by
 cases hf:Qo k kvs with
 | none=>simp
 | some r=>exact h.2 _ _ hf
theorem Qh7 (ds:List Qx) (i:Nat) (h:i<ds.length):XW (ds.take (i+1))=if ds[i].zp=1 then XW (ds.take i)++[ds[i]] else XW (ds.take i):=by
 rw[QKL h];unfold XW;rw[QL7];generalize List.filter ZU (List.take i ds)=l;by_cases hw:ds[i].zp=1<;>simp[ZU,hw]
theorem QnG (ds:List Qx) (i:Nat):(XW (ds.take i)).length=wn ds i:=by rw[YE];rfl
@[simp] def QFs (kvs:List (MK × List (List IV))):IV:=.map (kvs.map fun p=>(p.1,.sl 1 p.2))
theorem Qrs (n:Nat) (z:IV):Qe6 (List.replicate n [AV.iv z])=some (List.replicate n [z]):=by
 have:=Qk (List.replicate n [z]);simpa[emb] using this
theorem QaJ (l:List Nat) (mv:Nat):Xj (l.map fun (n:Nat)=>(n:Int)) mv=AO.arr 3 1 (emb (l.map fun (n:Nat)=>[IV.int .i64 (n:Int)])) mv:=by simp[Xj,emb]
theorem Qgp (l:List Nat):QqB (l.map fun (n:Nat)=>(n:Int))=ZZ l:=by simp[QqB]
section
variable {K:World->Prop} {C:Env->Qr->Prop}
theorem YL (m:Nat->Nat) (e:TypeId) (sz:Nat) (xs:List (List IV)) (mv:Nat):rnO m (.arr e sz (emb xs) mv)=.arr e sz (emb xs) mv:=Qm5 m e sz xs mv
theorem Xw (dom:List Nat) (e:TypeId) (sz:Nat) (xs:List (List IV)) (mv:Nat):clO dom (.arr e sz (emb xs) mv)=true:=Qpq dom e sz xs mv
theorem Qmi {id n mv:Nat} {d:Option Nat} {e:Env} {o:Qr} (l:List Nat) (hid:Qc o id=some (.arr 3 1 (emb (l.map fun (n:Nat)=>[IV.int .i64 (n:Int)])) mv)) (hn:n=l.length)
  (h:C (bnd d (.iv (.xg [])) (QqY (YU [id] [0] o) e)) (Qvv [id] (YU [id] [0] o) o [(0,.arr 3 1 (emb (l.reverse.map fun (n:Nat)=>[IV.int .i64 (n:Int)])) n)])):HK prog K 363 [id] d C e o [.yo id n]:=by
 have hg:=Qrx (K:=K) (l.map fun (n:Nat)=>(n:Int)) mv
 rw[<- List.map_reverse,QaJ,QaJ,QKZ] at hg;subst hn;refine Qj hg (by simp[rn,nth]) ?_ ?_
 ·refine ⟨by simp,by simp[clA],?_,?_,by simp[Zp]⟩
  ·intro p hp
   simp only[QLe] at hp;subst hp;exact ⟨by simp,by rw[YL];simpa[nth] using hid,Xw _ _ _ _ _,rfl⟩
  intro i hi h;simp at hi;subst hi;simp[Qc] at h
 ·simpa[rn] using h
theorem QdB {id n mv:Nat} {d:Option Nat} {e:Env} {o:Qr} (l:List Nat) (i:Nat) (hi:i<l.length) (hid:Qc o id=some (.arr 3 1 (emb (l.map fun (n:Nat)=>[IV.int .i64 (n:Int)])) mv)) (hn:n=l.length) {avs:List AV} (ha:avs=[.yo id n,.iv (.int .i64 (i:Nat)),.iv (.int .i64 ((i+1:Nat):Int))])
  (h:C (bnd d (.iv (ZZ (l.eraseIdx i))) (QqY (YU [id] [] o) e)) (Qvv [id] (YU [id] [] o) o [])):HK prog K 362 [id] d C e o avs:=by
 have hg:=Qry (K:=K) (l.map fun (n:Nat)=>(n:Int)) mv i (by simpa using hi)
 have e1:(l.map fun (n:Nat)=>(n:Int)).eraseIdx i=(l.eraseIdx i).map fun (n:Nat)=>(n:Int):=by simp[List.eraseIdx_eq_take_drop_succ]
 rw[e1,QaJ,Qgp,QKZ] at hg;subst hn;refine Qj hg (by rw[ha];simp[rn,nth]) ?_ ?_
 ·refine ⟨by simp,by simp[clA],?_,?_,by simp⟩
  ·intro p hp
   simp only[QLe] at hp;subst hp;exact ⟨by simp,by rw[YL];simpa[nth] using hid,Xw _ _ _ _ _,rfl⟩
  intro i hi h;simp at hi;subst hi;simp[Qc] at h
 ·simpa[rn] using h
theorem QdA {id id' n mv mv':Nat} {d:Option Nat} {e:Env} {o:Qr} (l:List Nat) (i:Nat) (hi:i<=l.length) (x:Nat) (hlen:l.length<=1000000) (hne:id≠id') (hid:Qc o id=some (.arr 3 1 (emb (l.map fun (n:Nat)=>[IV.int .i64 (n:Int)])) mv)) (hid':Qc o id'=some (.arr 3 1 [[.iv (.int .i64 (x:Nat))]] mv')) (hn:n=l.length)
  (h:C (bnd d (.iv (ZZ (l.take i++x::l.drop i))) (QqY (YU [id,id'] [] o) e)) (Qvv [id,id'] (YU [id,id'] [] o) o [])):HK prog K 360 [id,id'] d C e o [.yo id n,.iv (.int .i64 (i:Nat)),.yo id' 1]:=by
 have hg:=Qrz (K:=K) (l.map fun (n:Nat)=>(n:Int)) mv i (by simpa using hi) x mv' (by simpa using hlen)
 have e1:(l.map fun (n:Nat)=>(n:Int)).take i++(x:Int)::(l.map fun (n:Nat)=>(n:Int)).drop i=(l.take i++x::l.drop i).map fun (n:Nat)=>(n:Int):=by simp
 rw[e1,QaJ,Qgp,QKZ] at hg;subst hn;refine Qj hg (by simp[rn,nth]) ?_ ?_
 ·refine ⟨by simpa using hne,by simp[clA],?_,?_,by simp⟩
  ·intro p hp
   simp only[QKV,QK2,or_false] at hp;rcases hp with rfl | rfl
   ·exact ⟨by simp,by rw[YL];simpa[nth] using hid,Xw _ _ _ _ _,rfl⟩
   exact ⟨by simp,by simpa[nth,rnO,rnL,rn] using hid',by simp[clO,clAL,clA],rfl⟩
  intro i hi h;simp at hi;have:i=0\/i=1:=by omega
  rcases this with rfl | rfl<;>simp[Qc] at h
 simpa[rn] using h
end
section
variable {K:World->Prop} (hK:∀ w w',K w->Below w.heap.size w w'->K w')
include hK
theorem Qwq (c:Qs) (n:Nat) (hn:n<2 ^ 63) (hc:OkD c.za c.za.length) (hl:c.za.length<=100) :
  Gd K 313 [QC c.za,.clo 314 [] [.ptr [.int .i64 n],.ptr (VU c)]] (.agg (Vd c.za (ZH c.za n) (QFs (prf c.za (ZH c.za n) c.za.length)))):=by
 refine Qb hK (fk func313 QGu (by kernel_rfl)) (by simp) ?_
 simp;intros
 refine Ql (fun i=>[(1,AV.iv (.clo 314 [] [.ptr [.int .i64 n],.ptr (VU c)])),(4,.loc 4 0),(5,.loc 5 0),(16,AV.iv (QC c.za)),(17,AV.iv (.int .i64 c.za.length)),(18,AV.iv (IV.int IntKind.i64 (i:Nat)))])
  (fun i=>[(4,AO.box [.iv (.sl 1 []),.iv (.sl 2 []),.iv (.map [])]),(5,AO.box [.yo 13 (i+1),.yo 6001 (XW (c.za.take i)).length,.yn 14]),(13,AO.arr 222 1 (emb ((QiQ c.za (ZH c.za n) i).map fun c=>[ZZ c])) 0),
    (14,.yu 3 1 (prf c.za (ZH c.za n) i) none),(6001,.arr 397 2 (emb ((XW (c.za.take i)).map lkC)) 0)]) c.za.length (fun i=>True) trivial ?_ ?_
 ·intro _
  rw[Qa Qi8.eq_1];simp[-List.map_map,Qv,QJ,QD,Qk,QKP]
 ·intro i hi _ ih
  have hcl:=Xx (ZH c.za n) hc i (by omega) (by omega)
  have hcb:=hc.cnt i (by omega) (by omega)
  have hd:=hc i hi hi;have hw:=Qhn c.za i;have hlw:=QnG c.za i;have xd:=Qnh c.za (ZH c.za n) hc i (by omega)
  have hg202:=Qwp hK c n i hn hi;have hei:=QkY c.za n i hi;have hii:i*c.za.length<=100*100:=Nat.mul_le_mul (by omega) (by omega)
  rw[QgW,Qh7 _ _ hi,QaR _ _ _ hi,Qkn _ _ _ hi] at ih;rw[Qa Qi8.eq_1]
  have hcg:(QiQ c.za (ZH c.za n) i)[i]?=some (cab c.za (ZH c.za n) i):=by
   rw[QKM (by simp),QaQ _ _ _ _ (by omega)]
  have hcl2:=Qs0 c.za (ZH c.za n) i;generalize ZH c.za n i=ei at *;generalize QiQ c.za (ZH c.za n) i=cs at *;generalize prf c.za (ZH c.za n) i=kvs at *;generalize XW (c.za.take i)=lk at *;generalize cab c.za (ZH c.za n) i=now at *
  have hcg2:cs[i]'(by omega)=now:=by
   grind
  have hnl:now.length<=100:=by omega
  simp[hi,hcl2,hcg2,-List.map_map,Qv,QJ,QD,Qk];intro _;refine ⟨by omega,?_⟩
  refine Qx7 (rows:=List.replicate now.length [IV.int .i64 0]) (Qrs _ _) (by simp) (by simp) ?_
  rcases hd with ⟨h1,h2,h3,h4⟩ | ⟨h1,h2,h3,h4⟩ | ⟨h1,h4⟩
  ·simp only[inR] at h3 h2
   have hp:(if ei=1 then (now.length:Int)+1-1-c.za[i].pos else c.za[i].pos)=(plc c.za[i].pos ei (now.length+1):Nat):=by
    unfold plc;omega
   have hpl:plc c.za[i].pos ei (now.length+1)<=now.length:=Qnj (by omega)
   have hg214:=Qil hK c.za[i].pos ei (now.length+1) (by omega) (by omega)
   rw[hp] at hg214;simp[Jr,h1,<- hlw] at ih;generalize plc c.za[i].pos ei (now.length+1)=at_ at *;by_cases hf:c.za[i].z6=2
   ·have hg:=hg202 hf
    simp[hi,hf,h1,-List.map_map,Qv,QJ,QD,Qk];refine ⟨by kernel_rfl,cK (by simpa using hg) ?_⟩
    simp[hi,hf,h1,-List.map_map,Qv,QJ,QD,Qk];intro _;refine ⟨by omega,cK hg214 ?_⟩
    simp[hi,hf,h1,-List.map_map,Qv,QJ,QD,Qk];intro _;refine QdA (mv:=now.length) (mv':=0) now at_ hpl lk.length (by omega) (by simp) (by simp[emb,-List.map_map]) (by simp) rfl ?_
    simp[hi,hf,h1,-List.map_map,Qv,QJ,QD,Qk]
    grind
   rw[if_neg hf] at hei;simp[hi,hf,h1,-List.map_map,Qv,QJ,QD,Qk];rw[<- hei];intro _;refine ⟨by omega,cK hg214 ?_⟩
   simp[hi,hf,h1,-List.map_map,Qv,QJ,QD,Qk];intro _;refine QdA (mv:=now.length) (mv':=0) now at_ hpl lk.length (by omega) (by simp) (by simp[emb,-List.map_map]) (by simp) rfl ?_
   simp[hi,hf,h1,-List.map_map,Qv,QJ,QD,Qk]
   grind
  ·have h11:¬ c.za[i].zp=1:=by omega
   simp only[inR] at h3 h2
   have hp:(if ei=1 then (now.length:Int)-1-c.za[i].pos else c.za[i].pos)=(plc c.za[i].pos ei now.length:Nat):=by
    unfold plc;split<;>omega
   have hpl:plc c.za[i].pos ei now.length<now.length:=Qkp (by omega)
   have hg214:=Qil hK c.za[i].pos ei now.length (by omega) (by omega)
   rw[hp] at hg214;simp[Jr,h1] at ih;generalize plc c.za[i].pos ei now.length=at_ at *;have he:now.take at_++now.drop (at_+1)=now.eraseIdx at_:=by grind
   rw[<- QMr,<- QME,<- QK3,he] at ih;by_cases hf:c.za[i].z6=2
   ·have hg:=hg202 hf
    simp[hi,hf,h1,-List.map_map,Qv,QJ,QD,Qk];refine ⟨by kernel_rfl,cK (by simpa using hg) ?_⟩
    simp[hi,hf,h1,-List.map_map,Qv,QJ,QD,Qk];intro _;refine cK hg214 ?_;simp[hi,hf,h1,-List.map_map,Qv,QJ,QD,Qk];refine ⟨by omega,?_⟩
    refine QdB (mv:=now.length) now at_ hpl (by simp[emb,-List.map_map]) rfl (by simp) ?_
    simp[hi,hf,h1,-List.map_map,Qv,QJ,QD,Qk]
    grind
   rw[if_neg hf] at hei;simp[hi,hf,h1,-List.map_map,Qv,QJ,QD,Qk];rw[<- hei];intro _;refine cK hg214 ?_;simp[hi,hf,h1,-List.map_map,Qv,QJ,QD,Qk];refine ⟨by omega,?_⟩
   refine QdB (mv:=now.length) now at_ hpl (by simp[emb,-List.map_map]) rfl (by simp) ?_
   simp[hi,hf,h1,-List.map_map,Qv,QJ,QD,Qk]
   grind
  ·have hf:¬ c.za[i].z6=2:=by omega
   rcases h1 with h1 | h1
   ·simp[Jr,h1] at ih
    simp[hi,hf,h1,-List.map_map,Qv,QJ,QD,Qk];refine Qmi (mv:=now.length) now (by simp[emb,-List.map_map]) rfl ?_
    simp[hi,hf,h1,-List.map_map,Qv,QJ,QD,Qk,QKP]
    grind
   ·simp[Jr,h1] at ih
    simp[hi,hf,h1,-List.map_map,Qv,QJ,QD,Qk];intro _
    refine Ql (fun k=>[(1,AV.iv (.clo 314 [] [.ptr [.int .i64 n],.ptr (VU c)])),(4,.loc 4 0),(5,.loc 5 0),(6,AV.iv (IV.int IntKind.i64 (i:Nat))),(8,AV.yo 29 now.length),(16,AV.iv (QC c.za)),(17,AV.iv (.int .i64 c.za.length)),(18,AV.iv (IV.int IntKind.i64 (i:Nat))),(90,AV.yo 29 now.length),(91,AV.iv (.int .i64 now.length)),(92,AV.iv (.int .i64 (k:Nat)))])
     (fun k=>[(4,AO.box [.iv (.sl 1 []),.iv (.sl 2 []),.iv (.map [])]),(5,AO.box [.yo 13 (i+1),.yo 6001 lk.length,.yn 14]),(13,AO.arr 222 1 (emb (cs.map fun c=>[ZZ c])) 0),
       (14,.yu 3 1 ((now.take k).foldl (Qty i) kvs) none),(29,AO.arr 3 1 (emb (now.map fun (n:Nat)=>[.int .i64 (n:Int)])) now.length),(6001,AO.arr 397 2 (emb (lk.map lkC)) 0)]) now.length (fun _=>True) trivial ?_ ?_
    ·intro _
     rw[Qa Qi9.eq_1];simp[-List.map_map,Qv,QJ,QD,Qk,QKP]
     grind
    ·intro k hk _ ih2
     rw[Qa Qi9.eq_1];have hlk:Low (i*c.za.length+(now.take k).length) ((now.take k).foldl (Qty i) kvs):=xd.fold _;rw[QKL hk,QL4] at ih2;generalize (now.take k).foldl (Qty i) kvs=kv at *;have hkl:(List.take k now).length<=100:=by simp;omega
     have hle:=hlk.len (.int .i64 (now[k]:Nat));have hkk:=hlk.1;have hkk2:=JD (now[k]:Nat) (((Qo (.int .i64 ((now[k]:Nat):Int)) kv).getD [])++[[.int .i64 (i:Nat)]]) kv hkk;have hfm:=VO (.int .i64 ((now[k]:Nat):Int)) (.int .i64 ((now[k]:Nat):Int)) (((Qo (.int .i64 ((now[k]:Nat):Int)) kv).getD [])++[[.int .i64 (i:Nat)]]) kv;rw[if_pos rfl] at hfm;simp[Qty] at ih2;simp[hk,hkk,hkk2,hfm,-List.map_map,Qv,QJ,QD,Qk]
     grind
def pmC (c:Qs) (n:Nat):IV:=QFs (prf c.za (ZH c.za n) c.za.length)
theorem Qj4 (c:Qs) (hc:OkC c):Qg8 K c (pmC c):=fun n hn=>by
 have h:=hc.len;have h2:=W2 c.za;have h3:=Wh (show ZA c.za<=12 by omega)
 exact Qwq hK c n (by omega) hc.za (by omega)
end
end Go.Pf
namespace Go.Pf
open Go Go.Proofs Go.RowKit Go.Maps Go.Sort Go.Shelf
variable {P:Program} {ρ:Ren}
set_option maxRecDepth 100000 in
set_option maxHeartbeats 1000000 in
theorem Qe3 (L:SlLaysZI.n10 P ρ) {H:Type} (F:Fence) (n:Nat) (h10:F.fn (ρ.f 10)) (hro:F.round=none) (hn:1<=n) (l Bm om b nn:Nat) (D0:DataW H) {R:Value->Option (DataW H × List MemPlace)} (J:List Int->World->Prop)
  (hY:∀ pre x W,J pre W->pre.length<Maps.size D0->YieldAt F (n-1) P l #[encZ x] W fun e W'=>e=.returned (.bool true)/\J (pre++[x]) W'/\KeepsWalks W W')
  (W:World) (hJ:AbidesFrom W.heap.size J) (hm:W.cell? ⟨Bm,om,none⟩=some (.map (some b))) (hown:W.ownsMap P (ρ.t 26) R b nn D0) (h0:J [] W) :
  CallsIn F n P (ρ.f 10) #[.func (.yield l) #[] #[],.pointer (some ⟨Bm,om,none⟩)] W fun e W'=>(∃ v,e=.returned v)/\∃ ss:List Int,ss.Perm (intKeys D0)/\J ss W':=by
 have mixed:=L.mixed;have t0:=L.t0;have a0:=L.a0;have z0:=L.z0;have v0:=L.v0;have t4:=L.t4;have a4:=L.a4;have z4:=L.z4;have v4:=L.v4;have t23:=L.t23;have a23:=L.a23;have z23:=L.z23;have v23:=L.v23;have t26:=L.t26;have a26:=L.a26;have z26:=L.z26;have v26:=L.v26;have t33:=L.t33;have a33:=L.a33;have z33:=L.z33;have v33:=L.v33;have u0:=run_underlying L.t0;have u4:=run_underlying L.t4;have u23:=run_underlying L.t23;have u26:=run_underlying L.t26;have u33:=run_underlying L.t33;obtain ⟨_,_,FG⟩:=L.f10;refine callsIn_of_wp FG rfl h10 ?_ hro;simp only[SlBodyZ.n10_ntmps ρ,QMd,QK6,QLr,Nat.reduceAdd,Nat.reduceSub,Array.replicate_succ,Array.replicate_zero,List.push_toArray,List.append_toArray,QK5,QK1]
 gi_wp2_with (first
  | (gi_at_range;refine wpListIn_range_own _ rfl _ (ρ.t 23) rfl (ρ.t 26) (ρ.t 3) (int_keyed L.t26) L.t23 _ b nn _ rfl hown ?_;intro w0 hrg0 hg0 hs0)
  | gi_in)
 go_frame
 gi_loopw [3] (fun _ wr=>∃ (left:Lit->Bool) (cnt:Nat) (ss:List Int),wr.ranges P (ρ.t 26) R b W.heap.size nn D0 left cnt/\ss.length+cnt<=Maps.size D0/\CollectedI D0 left ss/\J ss wr)
  (fun _ wr=>wr.rangeLeft b W.heap.size)
 case atStart =>
  exact ⟨_,_,[],hrg0,by simp,CollectedI.start D0,hJ [] W w0 none h0 hg0 (fun r e=>by cases e)⟩
 case round =>
  obtain ⟨left,cnt,ss,hrg,hcs,hC,hJs⟩:=hrel
  gi_wp2_with (first
   | (gi_at_next;refine wpListIn_next_ranges _ rfl _ rfl (ρ.t 26) (int_keyed L.t26) R encZ id (fun key kl hk=>by obtain ⟨x,hx,_⟩:=Maps.keyOf_i64 L.t26 hk;exact ⟨x,hx⟩) (fun v _ _=>⟨v,rfl⟩) b W.heap.size nn _ _ _ rfl hrg ?_ ?_)
   | gi_in)
  ·
   intro hc0 hl0
   gi_wp2
   go_end0
   exact ⟨⟨_,rfl⟩,ss,hC.perm hown (int_keyed L.t26) L.t26 hl0,hJs⟩
  ·
   intro x c kl yd yp w2 cnt2 hkey hlk hv hat hrg2 xc hg2 hs2 hen;obtain ⟨x',ex,rfl,_⟩:=Maps.keyOf_i64 L.t26 hkey;obtain rfl:x=x':=encZ_inj ex;have hJ2:J ss w2:=hJ ss wr w2 (some W.heap.size) hJs hg2 (fun r e=>by cases e;exact ⟨QKS _,hrg.iter_walk⟩)
   obtain ⟨fn,tmps,assign,body,hy,hR⟩:=hY ss x w2 hJ2 (by omega)
   clear hs2
   gi_wp2
   refine hR.mono ?_
   rintro e W3 ⟨rfl,hJ3,hk3⟩
   gi_wp2
   have hrg3:=hrg2.of_walks hk3
   go_roundw
   case rel=>exact ⟨_,cnt2,ss++[x],hrg3,by simp;omega,hC.step hlk hat,hJ3⟩
   case measure=>rw[hrg3.left_eq,hrg.left_eq];exact xc
set_option maxRecDepth 100000 in
set_option maxHeartbeats 1000000 in
theorem Ux (L:SlLaysZI.n10 P ρ) {H:Type} (F:Fence) (n:Nat) (h10:F.fn (ρ.f 10)) (hro:F.round=none) (hn:1<=n) (Bm om b nn:Nat) (D0:DataW H) {R:Value->Option (DataW H × List MemPlace)} (w:World) (hBm:Bm<w.heap.size)
  (hm:w.cell? ⟨Bm,om,none⟩=some (.map (some b))) (hown:w.ownsMap P (ρ.t 26) R b nn D0) :
  SeqGives F n P (ρ.f 10) #[.pointer (some ⟨Bm,om,none⟩)] encZ (fun ss=>ss.Perm (intKeys D0)) (Maps.size D0) w:=fun l J W hW hJ hY h0=>by
 have hown':W.ownsMap P (ρ.t 26) R b nn D0:=by
  have hbl:=hown.lt;obtain ⟨es,clock,hb,Ft,hs,hD⟩:=hown;exact ⟨es,clock,(hW.block b hbl).trans hb,Ft,hs,hD⟩
 exact Qe3 { L with } F n h10 hro hn l Bm om b nn D0 J hY W hJ ((hW.cell (p:=⟨Bm,om,none⟩) hBm).trans hm) hown' h0
set_option maxRecDepth 100000 in
set_option maxHeartbeats 1000000 in
theorem Qar (L:SlLaysZI.n10 P ρ) (F:Fence) (n:Nat) (h10:F.fn (ρ.f 10)) (hro:F.round=none) (l Bm om:Nat) (J:List Int->World->Prop) (W:World) (hJ:AbidesFrom W.heap.size J)
  (hm:W.cell? ⟨Bm,om,none⟩=some (.map none)) (h0:J [] W) :
  CallsIn F n P (ρ.f 10) #[.func (.yield l) #[] #[],.pointer (some ⟨Bm,om,none⟩)] W fun e W'=>(∃ v,e=.returned v)/\∃ ss:List Int,ss=[]/\J ss W':=by
 have mixed:=L.mixed;have t0:=L.t0;have a0:=L.a0;have z0:=L.z0;have v0:=L.v0;have t4:=L.t4;have a4:=L.a4;have z4:=L.z4;have v4:=L.v4;have t23:=L.t23;have a23:=L.a23;have z23:=L.z23;have v23:=L.v23;have t26:=L.t26;have a26:=L.a26;have z26:=L.z26;have v26:=L.v26;have t33:=L.t33;have a33:=L.a33;have z33:=L.z33;have v33:=L.v33;have u0:=run_underlying L.t0;have u4:=run_underlying L.t4;have u23:=run_underlying L.t23;have u26:=run_underlying L.t26;have u33:=run_underlying L.t33;obtain ⟨_,_,FG⟩:=L.f10;refine callsIn_of_wp FG rfl h10 ?_ hro;simp only[SlBodyZ.n10_ntmps ρ,QMd,QK6,QLr,Nat.reduceAdd,Nat.reduceSub,Array.replicate_succ,Array.replicate_zero,List.push_toArray,List.append_toArray,QK5,QK1];have hrg:=run_range_nilMap (P:=P) W (ρ.t 23) (ρ.t 26) (ρ.t 3) L.t23;have hnx:∀ ty,(Instr.next (.pointer (some ⟨W.heap.size,0,none⟩)) false ty).run P (W.alloc (.mapIter none 0 #[] 0))=_:=fun ty=>run_next_nilMap _ ty 0 0 #[]
 gi_wp2
 refine wpIn_loop_rounds 1 ?_;rw[roundsIn_succ]
 gi_wp2
 go_end0
 exact ⟨⟨_,rfl⟩,[],rfl,hJ [] W _ none h0 (World.grownBy_alloc W _ none) (fun r e=>by cases e)⟩
set_option maxRecDepth 100000 in
set_option maxHeartbeats 1000000 in
theorem Jf (L:SlLaysZI.n10 P ρ) (F:Fence) (n:Nat) (h10:F.fn (ρ.f 10)) (hro:F.round=none) (Bm om:Nat) (w:World) (hBm:Bm<w.heap.size) (hm:w.cell? ⟨Bm,om,none⟩=some (.map none)) :
  SeqGives F n P (ρ.f 10) #[.pointer (some ⟨Bm,om,none⟩)] encZ (fun ss:List Int=>ss=[]) 0 w:=fun l J W hW hJ _ h0 =>
 Qar { L with } F n h10 hro l Bm om J W hJ ((hW.cell (p:=⟨Bm,om,none⟩) hBm).trans hm) h0
end Go.Pf
namespace Go.Proofs
open Go.Proofs.Tryz
open Go.Shelf Go.RowKit Go.Maps Go.Sort
theorem Tryz.sorts262 (m:Nat):AnyZI.SortsIn prog Tryz.sorted177_ren Fence.wide m :=
 ⟨fun blk off cap ss W hH hblk hsz=>callsIn_wide.2 (AnyM.slices_Sort_int Tryz.sort262 blk off cap ss W hH hblk hsz),
  fun p cap W=>callsIn_wide.2 (AnyM.slices_Sort_int_none Tryz.sort262 p cap W)⟩
end Go.Proofs
namespace Go.Pf
open Go Go.Ev Go.Proofs Go.RowKit Go.Shelf Go.Proofs.Tryz
set_option maxRecDepth 8000
theorem qH (lb:Array Value) (S:List Int->Prop) (N:Nat) (hN:N<=1000000) (w:World) (hseq:SeqGives Fence.wide 2 prog 263 lb encZ S N w) :
  Calls prog 177 #[.func (.func 263) #[] lb] w fun e w'=>∃ (v:Value) (ss:List Int),e=.returned v/\S ss /\
   w'.ownsRow w.heap.size 3 1 v ss.length ((ss.mergeSort (fun x y=>decide (x<=y))).map encZ)/\(v=.slice none 0 0↔ss=[])/\Below w.heap.size w w':=by
 refine (callsIn_wide (n:=5)).1 ?_;exact AnyZI.sorted_in Tryz.sorted177 Fence.wide 5 trivial trivial trivial trivial rfl (by omega) (Tryz.sorts262 _) (enters_of func262 (by kernel_rfl) rfl) 263 lb trivial (enters_of func263 (by kernel_rfl) rfl) S N (by unfold maxLen;omega) (by omega) w hseq
theorem insert_perm {H:Type} (x:Lit × DataW H):∀ l:List (Lit × DataW H),(DataW.insert x l).Perm (x::l)
 | []=>List.Perm.refl _
 | y::r=>by
   unfold DataW.insert;split
   ·exact List.Perm.refl _
   exact ((insert_perm x r).cons y).trans (List.Perm.swap x y r)
theorem sorted_perm {H:Type}:∀ l:List (Lit × DataW H),(l.foldr DataW.insert []).Perm l
 | []=>List.Perm.refl _
 | x::r=>by
   rw[List.foldr_cons];exact (insert_perm x _).trans ((sorted_perm r).cons x)
def Qhf:Value->Option (DataW Nat × List MemPlace):=fun _=>some (.nil,[])
theorem Qt5 {x:MapEntry} {n:Int} (h:x.key=.int .i64 n) (hn : -9223372036854775808<=n/\n<9223372036854775808):WideElems.rd prog 3 Qhf x=some (.int .i64 n,.nil):=by
 have hw:(Lit.int .i64 n).wf=true:=by
  have h1:=hn.1;have h2:=hn.2;simp[Lit.wf,IntKind.inR,IntKind.min,IntKind.max,IntKind.bits,IntKind.signed];omega
 simp[WideElems.rd,h,Qhf,keyOf,underlying3,mapKey,hw]
section
variable {K:World->Prop}
theorem Qw4 (kvs:List (MK × IV)) (ks:List Int) (hk:kvs.map (·.1)=ks.map (fun x=>MK.int .i64 x)) (hwf:∀ x∈ks,-9223372036854775808<=x/\x<9223372036854775808) (hlen:ks.length<=1000000) :
  Gd K 177 [.clo 263 [] [.ptr [.map kvs]]] (Q0 (ks.mergeSort fun x y=>decide (x<=y))):=by
 intro w ok vs hK hnew hl hvs
 obtain ⟨v0,rfl⟩:∃ v0,vs=[v0]:=by
  match vs,hl with
  | [v],_=>exact ⟨v,rfl⟩
 have hrep:=hvs 0 _ v0 rfl rfl
 have fin:∀ (v:Value) (w':World) (ss:List Int),ss.Perm ks->w'.ownsRow w.heap.size 3 1 v ss.length ((ss.mergeSort (fun x y=>decide (x<=y))).map encZ)->Below w.heap.size w w' ->
   ∃ v1,Ending.returned v=.returned v1/\QS ok w' (Q0 (ks.mergeSort fun x y=>decide (x<=y))) v1/\Below w.heap.size w w':=fun v w' ss hp ho hb=>by
  refine ⟨v,rfl,?_,hb⟩;have e1:ss.mergeSort (fun x y=>decide (x<=y))=ks.mergeSort fun x y=>decide (x<=y):=mergeSort_of_perm_i hp
  rw[e1] at ho;have hl2:ss.length=ks.length:=hp.length_eq;have e3:(ks.mergeSort fun x y=>decide (x<=y)).length=ss.length:=by simp[hl2]
  generalize (ks.mergeSort fun x y=>decide (x<=y))=zs at *
  obtain ⟨h1,h2 | ⟨g,cap,cur,h2,h3,h4,h5,h6,h7,h8⟩⟩:=ho
  ·obtain ⟨rfl,h2⟩:=h2
   have:zs=[]:=QKT (by omega)
   subst this;exact .nils _
  subst h2;rw[<- e3];refine Wd zs g cap (by omega) h6 (hnew g h3) fun j z hj=>?_
  have hjl:=(QKN.1 hj).1;have:(cur.toList.take (ss.length*1))[j]?=some (.int .i64 z):=by grind
  rw[QLt,if_pos (by omega)] at this
  simp only[World.cell?,h4];simpa using this
 cases hrep with
 | clo _ _ _ us vs' h1 h2 hf hc =>
   obtain rfl:us=[]:=QKT h1
   obtain ⟨p,rfl⟩:∃ p,vs'=[p]:=by
    match vs',h2 with
    | [v],_=>exact ⟨v,rfl⟩
   have hp:=hc 0 _ p rfl rfl;cases hp with
   | ptr _ b off u hu hx =>
     have hcell:=(hu 0 (by simp)).2.1
     rw[QLS] at hcell;have hbw:b<w.heap.size:=QLK w ⟨b,off,none⟩ hcell;have hm:=hx 0 _ rfl;generalize u 0=u0 at hcell hm;cases hm with
     | mapn =>
       have hk0:ks=[]:=by simpa using hk.symm
       subst hk0;refine (qH _ _ 0 (by omega) w (Jf (ρ:=Tryz.keys178_ren) { Tryz.keys178 with } Fence.wide 2 trivial rfl b off w hbw hcell)).mono ?_
       grind
     | map _ r es clock hok hr hmr hd hxx =>
       have hks:kvs.length=ks.length:=by simpa using congrArg List.length hk
       have hkey:∀ (i:Nat) (x:MapEntry),es[i]?=some x->∃ n:Int,ks[i]?=some n/\x.key=.int .i64 n:=fun i x hx=>by
        obtain ⟨k,h3,h4⟩:=hmr.keys i x hx;rw[<- QKU,hk,QKU,QKQ] at h3;obtain ⟨n,h5,rfl⟩:=h3;exact ⟨n,h5,h4⟩
       have hrd:∀ (i:Nat) (x:MapEntry),es[i]?=some x->∃ n:Int,ks[i]?=some n/\x.key=.int .i64 n/\WideElems.rd prog 3 Qhf x=some (.int .i64 n,.nil):=fun i x hx=>by
        obtain ⟨n,h3,h4⟩:=hkey i x hx;exact ⟨n,h3,h4,Qt5 h4 (hwf n (QK4 h3))⟩
       have hlist:es.toList.map (fun x=>intOf (WideElems.rg prog 3 Qhf x).1)=ks:=by
        refine QMo fun i=>?_
        rw[QKU];cases hx:es[i]? with
        | none =>
          have:es.size<=i:=by
           grind
          have hz:=hmr.size
          grind
        | some x =>
          obtain ⟨n,h3,h4,h5⟩:=hrd i x hx;rw[Array.getElem?_toList,hx,h3];simp[WideElems.rg,h5,intOf]
       have hown:w.ownsMap prog 3 Qhf r ks.length (DataW.map ((es.toList.map (WideElems.rg prog 3 Qhf)).foldr DataW.insert [])):=by
        refine ⟨es,clock,hr,⟨by have:=hmr.size;unfold maxLen;omega,⟨fun x hx=>?_,?_,?_⟩,fun x hx=>?_⟩,by grind,rfl⟩
        ·obtain ⟨i,hi⟩:=QLn hx
         exact hmr.born i x (by simpa using hi)
        ·rw[List.nodup_iff_pairwise_ne] at *
         refine QL5.2 fun i j hi hj hij heq=>?_
         simp at hi hj heq;have:=hmr.apart i j es[i] es[j] (by simp[hi]) (by simp[hj]) heq
         omega
        ·refine QL5.2 fun i j hi hj hij heq=>?_
         simp at hi hj heq;obtain ⟨k1,h3,h4⟩:=hmr.keys i es[i] (by simp[hi])
         obtain ⟨k2,h5,h6⟩:=hmr.keys j es[j] (by simp[hj])
         rw[QKQ] at h3 h5;obtain ⟨p,h7,rfl⟩:=h3;obtain ⟨q,h8,rfl⟩:=h5;rw[h4,h6] at heq
         have:p.1=q.1:=by
          cases hp1:p.1<;>cases hq1:q.1<;>rw[hp1,hq1] at heq<;>simp[MK.val] at heq |-<;>simp_all
         grind
        obtain ⟨i,hi⟩:=QLn hx
        grind
       have hperm:(intKeys (DataW.map ((es.toList.map (WideElems.rg prog 3 Qhf)).foldr DataW.insert []))).Perm ks:=by
        have:=(sorted_perm (es.toList.map (WideElems.rg prog 3 Qhf))).map fun p=>intOf p.1
        rw[List.map_map] at this;refine this.trans ?_;rw[show es.toList.map ((fun p=>intOf p.1)∘WideElems.rg prog 3 Qhf)=ks from hlist]
       have hsz:=hown.size_le;refine (qH _ _ _ (by omega) w (Ux (ρ:=Tryz.keys178_ren) { Tryz.keys178 with } Fence.wide 2 trivial rfl (by omega) b off r _ _ w hbw hcell hown)).mono ?_
       grind
end
end Go.Pf
namespace Go.Pf
open Go Go.Ev Go.Proofs Go.RowKit Go.Proofs.Tryz
variable {K:World->Prop} (hK:∀ w w',K w->Below w.heap.size w w'->K w')
set_option maxRecDepth 8000
theorem Yc {α:Type} {p:List α->Prop} (h0:p []) (h1:∀ l x,p l->p (l++[x])) (l:List α):p l:=by
 have:∀ r:List α,p r.reverse:=by
  intro r
  induction r with
  | _=>grind
 have h:=this l.reverse
 grind
def QbU:List (Int × Nat)->Int->List (Int × Nat)
 | [],x=>[(x,1)]
 | p::r,x=>if p.1=x then (x,p.2+1)::r else p::QbU r x
def Qb2:List (Int × Nat)->Int->Nat
 | [],_=>0
 | p::r,x=>if p.1=x then p.2 else Qb2 r x
def Qap (l:List (Int × Nat)):List (MK × IV):=l.map fun p=>(.int .i64 p.1,.int .i64 (p.2:Nat))
theorem JH (x:Int):∀ l,(Qo (.int .i64 x) (Qap l)).getD (.int .i64 0)=.int .i64 (Qb2 l x:Nat)
 | []=>rfl
 | p::r=>by
   by_cases h:p.1=x
   ·simp[Qap,Qo,Qb2,h]
   have:=JH x r;simp[Qap,Qo,Qb2,h] at this |-;exact this
theorem WF (x:Int):∀ l,zn (.int .i64 x) (.int .i64 ((Qb2 l x:Nat)+1)) (Qap l)=Qap (QbU l x)
 | []=>by simp[Qap,zn,Qb2,QbU]
 | p::r=>by
   by_cases h:p.1=x
   ·simp[Qap,zn,Qb2,QbU,h]
   have:=WF x r;simp[Qap,zn,Qb2,QbU,h] at this |-;exact this
theorem YH:∀ l,Zw (some .i64) (Qap l)
 | []=>trivial
 | _::r=>⟨rfl,YH r⟩
theorem QkO (x y:Int):∀ l,Qb2 (QbU l x) y<=Qb2 l y+1
 | []=>by simp[QbU,Qb2];split<;>omega
 | p::r=>by
   unfold QbU;split
   ·simp only[Qb2];grind
   simp only[Qb2];split
   ·omega
   exact QkO x y r
def XY (l:List Int):List (Int × Nat):=l.foldl QbU []
theorem XQ (l:List Int) (x:Int):XY (l++[x])=QbU (XY l) x:=by simp[XY]
theorem QeE (y:Int):∀ l:List Int,Qb2 (XY l) y<=l.length:=by
 refine Yc (by simp[XY,Qb2]) fun l x ih=>?_
 rw[XQ];have:=QkO x y (XY l);simp;omega
def Jh (l:List Int):List Int:=((XY l).map (·.1)).mergeSort fun x y=>decide (x<=y)
theorem Qev (x y:Int):∀ l,y∈(QbU l x).map (·.1)↔y∈l.map (·.1)\/y=x
 | []=>by simp[QbU]
 | p::r=>by
   unfold QbU;split
   ·grind
   have:=Qev x y r
   grind
theorem Qdk (x:Int):∀ l,(l.map (·.1)).Nodup->((QbU l x).map (·.1)).Nodup
 | [],_=>by simp[QbU]
 | p::r,h=>by
   rw[QLa,QMv] at h;unfold QbU;split
   ·grind
   rename_i hp;rw[QLa,QMv];refine ⟨fun hb=>?_,Qdk x r h.2⟩
   rcases (Qev x p.1 r).1 hb with hb | hb
   all_goals grind
theorem Qk5 (y:Int):∀ l:List Int,y∈(XY l).map (·.1)↔y∈l:=by
 refine Yc (by simp[XY]) fun l x ih=>?_
 rw[XQ,Qev,ih];simp
theorem Qmg:∀ l:List Int,((XY l).map (·.1)).Nodup:=by
 refine Yc (by simp[XY]) fun l x ih=>?_
 rw[XQ];exact Qdk x _ ih
theorem QkF (x:Int):∀ k,(QbU k x).length<=k.length+1
 | []=>by simp[QbU]
 | p::r=>by
   have:=QkF x r;unfold QbU
   grind
theorem Qk6:∀ l:List Int,(XY l).length<=l.length:=by
 refine Yc (by simp[XY]) fun l x ih=>?_
 rw[XQ];have:=QkF x (XY l);simp;omega
theorem Vp (y:Int) (l:List Int):y∈Jh l↔y∈l:=by
 unfold Jh;rw[List.mem_mergeSort,Qk5]
theorem V3 (l:List Int):(Jh l).Pairwise (·<·):=by
 have h1:=List.pairwise_mergeSort (le:=fun x y:Int=>decide (x<=y)) (fun a b c h1 h2=>by simp at *;omega) (fun a b=>by simp;omega) ((XY l).map (·.1))
 have h2:(((XY l).map (·.1)).mergeSort (fun x y:Int=>decide (x<=y))).Nodup:=(List.mergeSort_perm ((XY l).map (·.1)) (fun x y:Int=>decide (x<=y))).nodup_iff.2 (Qmg l)
 have h3:=h1.and h2;refine h3.imp fun {a b} h=>?_
 grind
theorem QhV:∀ {l l':List Int},l.Pairwise (·<·)->l'.Pairwise (·<·)->(∀ x,x∈l↔x∈l')->l=l'
 | [],[],_,_,_=>rfl
 | [],b::l',_,_,h=>absurd ((h b).2 (by simp)) (by simp)
 | a::l,[],_,_,h=>absurd ((h a).1 (by simp)) (by simp)
 | a::l,b::l',h1,h2,h=>by
   rw[List.pairwise_cons] at h1 h2
   have hab:a=b:=by
    have p1:=(h a).1 (by simp)
    have p2:=(h b).2 (by simp)
    grind
   subst hab;refine congrArg (a::·) (QhV h1.2 h2.2 fun x=>?_)
   grind
include hK
theorem Qiu (kvs:List (MK × IV)):Gd K 178 [.map kvs] (.clo 263 [] [.ptr [.map kvs]]):=by
 refine Qb hK (fk func178 QHz (by kernel_rfl)) (by simp) ?_
 simp
omit hK in
theorem qt (l:List Int) (hw:∀ x∈l,-1000000<=x/\x<=1000000) (hl:l.length<=1000000):Gd K 177 [.clo 263 [] [.ptr [.map (Qap (XY l))]]] (Q0 (Jh l)):=by
 have hlen:(XY l).length<=l.length:=by
  exact Qk6 l
 refine Qw4 (K:=K) (Qap (XY l)) ((XY l).map (·.1)) (by simp[Qap]) (fun x hx=>?_) (by simp;omega)
 have:=hw x ((Qk5 x l).1 hx);omega
theorem Qoq (c:Qs) (hl:c.za.length<=1000) (hs:c.zg.length<=1000) (g1:FuncId) (cs1:List IV) (is:Bool) (hg1:OkC c->Gd K g1 ([.int .i64 (XU c.za),.int .i64 (Qmt c.za)]++cs1) (.bool is)) (hc1:callee prog g1=true)
  (g2:FuncId) (cs2:List IV) (v:Nat->Int) (hg2:OkC c->is=true->∀ n∈QU c,Gd K g2 ([.agg (Vd c.za (ZH c.za n) (pmC c n))]++cs2) (.int .i64 (v n))) (hc2:callee prog g2=true) (hv:OkC c->is=true->∀ n∈QU c,-1000000<=v n/\v n<=1000000) :
  Gd K 162 [chV c,.clo g1 [] cs1,.clo g2 [] cs2] (.xg [Q0 (if Y0 c is=0 then Jh ((QU c).map v) else []),.int .i64 (Y0 c is)]):=by
 refine Qb hK (fk func162 QHJ (by kernel_rfl)) (by simp) ?_
 simp;refine cK (by simpa using QwH hK c (pmC c) (Qj4 hK c) g1 [] cs1 is (fun h=>by simpa using hg1 h) hc1 hl hs) ?_
 by_cases he:Y0 c is=0;rotate_left
 ·by_cases h1:OkC c<;>cases is<;>simp[he,h1]
 ·have h1:OkC c:=by
   unfold Y0 at he
   grind
  have h2:is=true:=by
   unfold Y0 at he
   grind
  have hlen:(QU c).length<=4096:=by
   have h1':=QLl (fun n=>decide ((Q6 c.za c.zg (ZH c.za n):Int)<=c.zh)) (List.range (2 ^ ZA c.za))
   have h2':=Wh (n:=ZA c.za) (by have:=W2 c.za;have:=h1.len;omega)
   simp at h1';unfold QU;omega
  have hG:=hg2 h1 h2;have hV:=hv h1 h2;clear hg2 hv hg1;subst h2;simp[he,h1];refine Q9 (wy:=.fall) (o':=[(10,.box [.yn 21]),(21,.xi (Qap (XY ((QU c).map v))))]) rfl (by kernel_rfl) (qo hK c h1 (pmC c) (Qj4 hK c h1)) ?_ ?_
  ·have:=Uy.all (P:=prog) (K:=K) (ps:=[24]) (asn:=QeY) (body:=QjD) (ks:=[5,10]) (ids:=[10,21]) (eK:=[(5,.iv (.ptr [.clo g2 [] cs2])),(10,.loc 10 0)]) ((QU c).map (XI c.za (pmC c)))
    (fun i=>[(10,.box [.yn 21]),(21,.xi (Qap (XY (((QU c).map v).take i))))]) fun i x hi=>by
    simp only[QKU,QKQ] at hi;obtain ⟨y,hy,rfl⟩:=hi;have xc:=(QKN.1 hy).1
    have hyv:((QU c).map v)[i]'(by simpa using xc)=v y:=by
     grind
    have hg:=hG y (QK4 hy);refine ⟨rfl,?_⟩;rw[QKL (by simpa using xc),XQ,hyv]
    have hle:=QeE (v y) (((QU c).map v).take i);have hkk:=YH (XY (((QU c).map v).take i));have hf:=JH (v y) (XY (((QU c).map v).take i));have hi:=WF (v y) (XY (((QU c).map v).take i));have hle2:(((QU c).map v).take i).length<=4096:=by simp;omega
    generalize XY (((QU c).map v).take i)=kv at *;simp[XI,QeY,QjD];refine ⟨hc2,cK (by simpa using hg) ?_⟩
    simp[hkk,hf,hi];omega
   simpa[XY,Qap,QKP] using this
  ·simp
   refine cK (by simpa using Qiu hK (Qap (XY ((QU c).map v)))) ?_
   simp;refine cK (qt ((QU c).map v) (fun x hx=>?_) (by simp;omega)) ?_
   ·grind
   ·simp
def QqA (c:Qs) (pos:Int) (n:Nat):Int:=((cab c.za (ZH c.za n) c.za.length).getD pos.toNat 0:Nat)
theorem Qug (c:Qs) (pos:Int) (hl:c.za.length<=1000) (hs:c.zg.length<=1000) :
  Gd K 83 [chV c,.int .i64 pos] (.xg [Q0 (if Y0 c (decide (inR pos 0 (XU c.za-1)))=0 then Jh ((QU c).map (QqA c pos)) else []),.int .i64 (Y0 c (decide (inR pos 0 (XU c.za-1))))]):=by
 refine Qb hK (fk func83 c83 (by kernel_rfl)) (by simp) ?_
 simp;refine cK (by simpa using Qxa hK pos) ?_
 simp
 have hcl:∀ n,OkC c->((cab c.za (ZH c.za n) c.za.length).length:Int)=XU c.za:=fun n h=>by
  rw[Xx _ h.za _ (QKS _) (QKS _)];rfl
 have hg:=Qoq hK c hl hs 250 [.ptr [.int .i64 pos]] (decide (inR pos 0 (XU c.za-1))) (fun h=>by
   have:=hcl 0 h;have h2:=h.za.cnt c.za.length (QKS _) (QKS _);have h3:=Xx (ZH c.za 0) h.za c.za.length (QKS _) (QKS _);simpa using QwG hK (XU c.za) (Qmt c.za) pos (by omega)) (by kernel_rfl) 164 [.ptr [.int .i64 pos]] (QqA c pos) (fun h hi n _=>by
   have h3:=hcl n h;have hi:=of_decide_eq_true hi;simp only[inR] at hi;have h4:pos=((pos.toNat:Nat):Int):=by omega
   have h5:pos.toNat<(cab c.za (ZH c.za n) c.za.length).length:=by omega
   have h6:=Qw9 hK c.za (ZH c.za n) (pmC c n) hl pos.toNat h5;rw[<- h4] at h6;have h7:(cab c.za (ZH c.za n) c.za.length).getD pos.toNat 0=(cab c.za (ZH c.za n) c.za.length)[pos.toNat]:=by grind
   unfold QqA
   grind) (by kernel_rfl) (fun h hi n _=>by
   have h3:=hcl n h;have hi:=of_decide_eq_true hi;simp only[inR] at hi;have h5:pos.toNat<(cab c.za (ZH c.za n) c.za.length).length:=by omega
   have h7:(cab c.za (ZH c.za n) c.za.length).getD pos.toNat 0=(cab c.za (ZH c.za n) c.za.length)[pos.toNat]:=by grind
   have h8:=Qad c.za (ZH c.za n) c.za.length _ (QKR h5);have h9:=Qhn c.za c.za.length;unfold QqA;omega)
 refine cK (by simpa using hg) ?_
 simp
omit hK in
theorem QmT (x:Int):Jh [x]=[x]:=by simp[Jh,XY,QbU]
omit hK in
theorem QlD (c:Qs) (hc:OkC c) (h2:ZA c.za=0) (hs:c.zg=[]):QU c=[0]:=by
 have:=hc.zh;simp only[inR] at this;simp[QU,h2,hs,Q6,this]
theorem Qwm (c:Qs) (hc:OkC c) (h2:ZA c.za=0) (hs:c.zg=[]):Gd K 320 [chV c] (ZZ (cab c.za (ZH c.za 0) c.za.length)):=by
 have hl:=hc.len;have hr:=QlD c hc h2 hs;have hcl:=Xx (ZH c.za 0) hc.za c.za.length (QKS _) (QKS _);have hcb:=hc.za.cnt c.za.length (QKS _) (QKS _);have hcl2:XU c.za=((cab c.za (ZH c.za 0) c.za.length).length:Int):=hcl.symm
 have hw:∀ i:Nat,i<(cab c.za (ZH c.za 0) c.za.length).length->Gd K 83 [chV c,.int .i64 i] (.xg [Q0 [((cab c.za (ZH c.za 0) c.za.length).getD i 0:Nat)],.int .i64 0]):=fun i hi=>by
  have:=Qug hK c i (by omega) (by simp[hs])
  have h3:inR (i:Int) 0 (XU c.za-1):=by simp only[inR];omega
  have h4:Y0 c true=0:=by simp[Y0,hc,hr]
  rw[decide_eq_true h3,h4,hr] at this;simpa[QmT,QqA] using this
 refine Qb hK (fk func320 QGn (by kernel_rfl)) (by simp) ?_
 have hg83:=Qiz hK c (by omega) (by simp[hs])
 simp[hc] at hg83;simp;refine cK hg83 ?_;rw[hcl2];generalize cab c.za (ZH c.za 0) c.za.length=now at *;simp
 refine Ql (fun i=>[(1,AV.iv (.ptr [QC c.za,Qy c.zg,.int .i64 c.zh])),(5,AV.yo 5 i),(14,AV.iv (.int .i64 now.length)),(15,AV.iv (IV.int IntKind.i64 (i:Nat)))])
  (fun i=>[(5,AO.arr 3 1 (emb ((now.take i).map fun (n:Nat)=>[.int .i64 (n:Int)])) 0)]) now.length (fun i=>True) trivial ?_ ?_
 ·intro _
  rw[Qa Qi2.eq_1];simp[QKP]
 intro i hi _ ih;rw[Qa Qi2.eq_1];rw[QKL hi,QK3] at ih;have hg:=hw i hi;have h7:now.getD i 0=now[i]:=by grind
 rw[h7] at hg;simp[hi] at ih |-;refine cK (by simpa using hg) ?_
 simp
 grind
omit hK
def Qah (d:Qx) (x:Int):Qx:={ d with z6:=x }
def UD:List Qx->List (List Qx)
 | []=>[[]]
 | d::r=>if d.z6=2 then (UD r).map (Qah d 0::·)++(UD r).map (Qah d 1::·) else (UD r).map (d::·)
theorem Qvu (ds:List Qx) (h:ZA ds=0):∀ x∈ds,ZV x=false:=by
 intro x hx;have:=QMC.1 h x hx;simpa[ZV] using this
theorem QcY:∀ ds:List Qx,ZA ds=0->UD ds=[ds]
 | [],_=>rfl
 | d::r,h=>by
   by_cases hd:d.z6=2
   ·simp[ZA,QMB,hd] at h
   have:=QcY r (by simpa[ZA,QMB,hd] using h)
   simp[UD,hd,this]
theorem QoE:∀ ds:List Qx,ZA ds≠0->∃ i:Nat,(∀ x∈ds.take i,ZV x=false)/\∃ h:i<ds.length,ds[i].z6=2/\UD ds=UD (ds.set i (Qah ds[i] 0))++UD (ds.set i (Qah ds[i] 1))/\∀ x:Int,x≠2->ZA (ds.set i (Qah ds[i] x))+1=ZA ds
 | [],h=>absurd rfl h
 | d::r,h=>by
   by_cases hd:d.z6=2
   ·refine ⟨0,by simp,by simp,hd,?_,fun x hx=>?_⟩
    ·simp[UD,hd,Qah]
    simp[ZA,QMB,Qah,hx,hd]
   ·have h':ZA r≠0:=by simpa[ZA,QMB,hd] using h
    obtain ⟨i,h1,h2,h3,h4,h5⟩:=QoE r h';refine ⟨i+1,?_,by simpa using h2,by simpa using h3,?_,fun x hx=>?_⟩
    ·intro x hx
     rw[List.take_succ_cons,QKV] at hx;rcases hx with rfl | hx
     ·simp[ZV,hd]
     exact h1 x hx
    ·simp only[List.set_cons_succ,List.getElem_cons_succ,UD,hd,if_false]
     grind
    ·have:=h5 x hx
     simp only[List.set_cons_succ,List.getElem_cons_succ];simp[ZA,hd] at this |-;omega
noncomputable def YT (c:Qs):List Qs:=((UD c.za).map fun ds=>{ c with za:=ds }).filter fun c'=>decide (Y0 c' true=0)
def Qig (c:Qs):List IV:=[chV c]
theorem Qia (c:Qs) (h:ZA c.za=0):YT c=if Y0 c true=0 then [c] else []:=by
 unfold YT;rw[QcY _ h];by_cases h1:Y0 c true=0<;>simp[h1]
include hK
theorem Qie:∀ (n:Nat) (c:Qs),ZA c.za=n->c.za.length<=1000->c.zg.length<=1000->Qav prog K 256 [chV c] [] ((YT c).map Qig) (fun b=>.bool b)
 | 0,c,hn,hl,hs=>by
   intro s b s' hf;refine QN QpY (by simp) hf.v rfl ?_
   have hfi:=UR ZV c.za (Qvu _ hn);have hg:=Qob hK c.za 318 ZV (Qoa hK) (by kernel_rfl) hl
   rw[hfi] at hg;rw[Qia c hn] at hf;simp;refine cK (by simpa using hg) ?_
   simp;refine cK (Qwn hK c (pmC c) (Qj4 hK c) hl hs) ?_;by_cases h1:Y0 c true=0
   ·simp[h1] at hf |-
    cases hf with
    | stop _ _ _ _ hg =>
      refine Q7 (by simpa[Qig] using hg) rfl ?_
      simp
    | next _ _ _ s1 _ _ hg hr =>
      cases hr;refine Q7 (by simpa[Qig] using hg) rfl ?_
      simp
   simp[h1] at hf |-;cases hf
   grind
 | n+1,c,hn,hl,hs=>by
   intro s b s' hf;refine QN QpY (by simp) hf.v rfl ?_
   obtain ⟨i,h1,h2,h3,h4,h5⟩:=QoE c.za (by omega)
   have hg:=Qob hK c.za 318 ZV (Qoa hK) (by kernel_rfl) hl
   rw[QiH ZV c.za i h2 (by simp[ZV,h3]) h1] at hg
   have hne:c.za≠[]:=fun e=>by grind
   have hgc:=clone66 (K:=K) c.za hl hne;have ih0:=Qie n { c with za:=c.za.set i (Qah c.za[i] 0) } (by grind) (by simpa using hl) hs
   have ih1:=Qie n { c with za:=c.za.set i (Qah c.za[i] 1) } (by grind) (by simpa using hl) hs
   have hkn:YT c=YT { c with za:=c.za.set i (Qah c.za[i] 0) }++YT { c with za:=c.za.set i (Qah c.za[i] 1) }:=by
    unfold YT
    grind
   rw[hkn,QK3] at hf;generalize hL0:YT { c with za:=c.za.set i (Qah c.za[i] 0) }=L0 at *
   generalize hL1:YT { c with za:=c.za.set i (Qah c.za[i] 1) }=L1 at *
   simp;refine cK hg ?_;simp
   refine XV 2 (fun k e o=>∃ si,e=[(1,AV.cb 0),(2,AV.iv (.ptr [QC c.za,Qy c.zg,.int .i64 c.zh])),(5,AV.iv (.int .i64 (i:Nat))),(25,AV.iv (.int .i64 (k:Nat)))]/\o=[(0,.ext si)] /\
    ZS prog K (if k=0 then L0.map Qig++L1.map Qig else if k=1 then L1.map Qig else []) si b s') ?_ ?_ _ _ ⟨s,by simp,by simp,by simpa using hf⟩
   ·rintro e o ⟨si,rfl,rfl,hfd⟩
    cases hfd;rw[Qa Qjj.eq_1];simp
   rintro k e o hk ⟨si,rfl,rfl,hfd⟩ ih
   have hk2:k=0\/k=1:=by omega
   rw[Qa Qjj.eq_1]
   have hset:∀ x:Int,(List.map (List.map AV.iv∘dC) c.za).set i [AV.iv (.int .i64 c.za[i].zp),AV.iv (.int .i64 c.za[i].pos),AV.iv (.int .i64 x),AV.iv (.int .i64 c.za[i].bar),AV.iv (.int .i64 c.za[i].z1)]=emb ((c.za.set i (Qah c.za[i] x)).map dC):=fun x=>by
    simp[emb,List.map_set,Qah]
   rcases hk2 with rfl | rfl
   ·simp only[if_true] at hfd
    simp;refine Yh hgc (by simp) ?_
    simp[h2,hset,QKP];rcases hfd.append with ⟨s1,hf1,hf2⟩ | ⟨rfl,hf1⟩
    ·refine ZK (by simpa[QKP] using ih0 _ _ _ hf1) rfl ?_
     simp;exact ih _ _ ⟨s1,by simp,by simp,by simpa using hf2⟩
    refine ZK (by simpa[QKP] using ih0 _ _ _ hf1) rfl ?_
    simp
   simp only[if_true] at hfd;simp at hfd;simp;refine Yh hgc (by simp) ?_
   simp[h2,hset,QKP];refine ZK (by simpa[QKP] using ih1 _ _ _ hfd) rfl ?_
   cases b
   ·simp
   simp;exact ih _ _ ⟨s',by simp,by simp,by simpa using ZS.nil _⟩
omit hK
theorem QfW {α:Type} (f:α->Int):∀ (l:List α) (k:Nat) (a:α),(∀ x∈l,1<=f x)->(∀ h:k<l.length,1<=f a/\f a<=f l[k])->Q4 f (l.set k a)<=Q4 f l
 | [],k,a,_,_=>by simp[Q4]
 | b::l,0,a,h,ha=>by
   have h1:=ha (by simp)
   have h2:=Vy f l fun x hx=>h x (by simp[hx])
   simp only[List.set_cons_zero,Q4];exact QLc h1.2 (by omega)
 | b::l,k+1,a,h,ha=>by
   have ih:=QfW f l k a (fun x hx=>h x (by simp[hx])) (fun hk=>ha (by simpa using hk))
   have h1:=h b (by simp)
   simp only[List.set_cons_succ,Q4];exact QLL ih (by omega)
def QcZ (l:ZI) (n:Int):ZI:={ l with lo:=n,hi:=n }
def YW (m:Machine) (k:Nat) (l:ZI) (n:Int):Machine:={ m with zd:=m.zd.set k (QcZ l n) }
noncomputable def Uv:Nat->Machine->Nat->List Machine
 | 0,m,_=>acc (qV m) (m.zw+1-m.zu).toNat
 | r+1,m,k=>match m.zd[k]? with
   | some l=>acc (fun i=>Uv r (YW m k l (l.lo+(i:Nat))) (k+1)) (l.hi+1-l.lo).toNat
   | none=>[]
structure QCz (m:Machine):Prop where
 len:m.zd.length<=3
 blen:m.zk.length<=6
 zx:inR m.zu 0 m.zw
 zw:m.zw<=20
 span:∀ l∈m.zd,1<=Z4 l
 lo:∀ l∈m.zd,0<=l.lo/\l.hi<=100000
 sets:sets m m.zd.length<=1000000
theorem QCz.fix {m:Machine} (h:QCz m) {k:Nat} (hk:k<m.zd.length) {n:Int} (hn:m.zd[k].lo<=n/\n<=m.zd[k].hi):QCz (YW m k m.zd[k] n):=by
 have hs:=h.span _ (QKR hk);have hl:=h.lo _ (QKR hk);refine ⟨by simpa[YW] using h.len,h.blen,h.zx,h.zw,fun l hl=>?_,fun l hl'=>?_,?_⟩
 ·rcases List.mem_or_eq_of_mem_set hl with h1 | h1
  ·exact h.span l h1
  rw[h1];simp[Z4,QcZ]
 ·rcases List.mem_or_eq_of_mem_set hl' with h1 | h1
  ·exact h.lo l h1
  rw[h1];simp only[QcZ];omega
 ·refine Int.le_trans ?_ h.sets
  have e1:(YW m k m.zd[k] n).zd.length=m.zd.length:=by simp[YW]
  have h2:=h.zx;simp only[inR] at h2;unfold Pf.sets;rw[e1,QKP (QKS _),QKP (by omega)]
  refine QLL (QfW Z4 _ _ _ h.span fun hk'=>?_) (by simp only[YW];omega)
  have:Z4 (QcZ m.zd[k] n)=1:=by simp[Z4,QcZ]
  omega
include hK
theorem QnT:∀ (r:Nat) (m:Machine) (k:Nat),k+r=m.zd.length->QCz m->Qav prog K 259 [maV m,.int .i64 k] [] ((Uv r m k).map Qgm) (fun b=>.bool b)
 | 0,m,k,hk,ht=>by
   have:k=m.zd.length:=by omega
   subst this;have h1:=ht.len;have h2:=ht.blen;refine Qgk hK m (by omega) (by omega) ht.zx ht.zw (fun n _=>?_)
   have h3:=ht.sets;have h4:=ht.zx;have h5:=Vy Z4 m.zd ht.span;simp only[inR] at h4;unfold Pf.sets at h3 |-;simp only[XP] at h3 |-;rw[QKP (QKS _)] at h3 |-;have h6:(m.zw-m.zu+1)*Q4 Z4 m.zd≥1*Q4 Z4 m.zd:=QLc (by omega) (by omega)
   omega
 | r+1,m,k,hk,ht=>by
   have xc:k<m.zd.length:=by omega
   have ih:=QnT r;intro s b s' hf;refine QN QpX (by simp) hf.v rfl ?_
   simp only[Uv,QKM xc] at hf;rw[QaX] at hf;have hne:¬ (k:Int)=m.zd.length:=by omega
   have xd:=ht.lo _ (QKR xc);have hln:=ht.len;have hnn:m.zd≠[]:=fun e=>by grind
   have hgc:=clone68 (K:=K) m.zd (by omega) hnn
   have hsp:=ht.span _ (QKR xc);simp only[Z4] at hsp
   have hit:∀ i:Nat,i<(m.zd[k].hi+1-m.zd[k].lo).toNat->Qav prog K 259 [maV (YW m k m.zd[k] (m.zd[k].lo+i)),.int .i64 ((k+1:Nat):Int)] [] ((Uv r (YW m k m.zd[k] (m.zd[k].lo+i)) (k+1)).map Qgm) (fun b=>.bool b):=fun i hi =>
    ih _ _ (by simp[YW];omega) (ht.fix xc (by omega))
   generalize hpc:(fun i:Nat=>Uv r (YW m k m.zd[k] (m.zd[k].lo+i)) (k+1))=pc at hf
   have hpc':∀ i:Nat,Uv r (YW m k m.zd[k] (m.zd[k].lo+i)) (k+1)=pc i:=fun i=>by rw[<- hpc]
   simp only[hpc'] at hit;simp[hne,xc];intros
   refine XV (m.zd[k].hi+1-m.zd[k].lo).toNat (fun i e o=>∃ si ls,e=[(1,AV.iv (.int .i64 (k:Nat))),(2,AV.cb 0),(3,AV.iv (.ptr [QV m.zd,.int .i64 m.zr,.int .i64 m.zu,.int .i64 m.zw,XR m.zk,.int .i64 m.zh])),(7,AV.loc 7 0),(11,AV.iv (.int .i64 (m.zd[k].lo+(i:Nat))))] /\
    o=[(0,.ext si),(7,.box [.iv (QV ls),.iv (.int .i64 m.zr),.iv (.int .i64 m.zu),.iv (.int .i64 m.zw),.iv (XR m.zk),.iv (.int .i64 m.zh)])] /\
    ZS prog K ((XS pc i ((m.zd[k].hi+1-m.zd[k].lo).toNat-i)).map Qgm) si b s') ?_ ?_ _ _ ⟨s,m.zd,by simp,by simp,by simpa using hf⟩
   ·rintro e o ⟨si,ls,rfl,rfl,hfd⟩
    rw[Nat.sub_self] at hfd;cases hfd;have q1:m.zd[k].lo+((m.zd[k].hi+1-m.zd[k].lo).toNat:Int)=m.zd[k].hi+1:=by omega
    have q2:¬ m.zd[k].hi+1<=m.zd[k].hi:=by omega
    rw[q1,Qa Qjf.eq_1];simp[q2,xc]
   rintro i e o hi ⟨si,ls,rfl,rfl,hfd⟩ ihl
   have q1:m.zd[k].lo+(i:Int)<=m.zd[k].hi:=by omega
   have q3:m.zd[k].lo+((i:Int)+1)=m.zd[k].lo+i+1:=by omega
   have e1:(m.zd[k].hi+1-m.zd[k].lo).toNat-i=((m.zd[k].hi+1-m.zd[k].lo).toNat-(i+1))+1:=by omega
   rw[e1] at hfd;simp only[XS,QK3] at hfd
   have hset:(List.map (List.map AV.iv∘leC) m.zd).set k [AV.iv (.int .i64 m.zd[k].long),AV.iv (.int .i64 (m.zd[k].lo+i)),AV.iv (.int .i64 (m.zd[k].lo+i))]=emb ((m.zd.set k (QcZ m.zd[k] (m.zd[k].lo+i))).map leC):=by
    simp[emb,List.map_set,QcZ]
   rw[Qa Qjf.eq_1];simp[q1,xc];refine Yh hgc (by simp) ?_
   simp[xc,hset,QKP];refine ⟨by omega,?_⟩
   have hiti:=hit i hi;rcases hfd.append with ⟨s1,hf1,hf2⟩ | ⟨rfl,hf1⟩
   ·refine ZK (by simpa[YW] using hiti _ _ _ hf1) rfl ?_
    simp
    (repeat' first | omega | (with_reducible apply And.intro) | intro _)
    exact ihl _ _ ⟨s1,m.zd.set k (QcZ m.zd[k] (m.zd[k].lo+i)),by simp[q3],by simp,hf2⟩
   refine ZK (by simpa[YW] using hiti _ _ _ hf1) rfl ?_
   simp
omit hK
theorem Jp (a:Nat) (h:a<2 ^ 64):(BitVec.ofInt 64 (a:Int)).toNat=a:=by
 grind
theorem U2 (a:Nat) (h:a<2 ^ 64):IntKind.wrap .u64 (a:Int)=(a:Int):=by
 have h':a<18446744073709551616:=h;simp only[IntKind.wrap,IntKind.bits,IntKind.signed];simp;omega
theorem Qdb (a b:Nat) (ha:a<2 ^ 64) (hb:b<2 ^ 64):VV .or .u64 (a:Int) (b:Int)=((a ||| b:Nat):Int):=by
 show IntKind.wrap .u64 (((BitVec.ofInt 64 (a:Int)) ||| (BitVec.ofInt 64 (b:Int))).toNat:Int)=_
 rw[BitVec.toNat_or,Jp a ha,Jp b hb,U2 _ (QMm ha hb)]
theorem Qqq (a b:Nat) (ha:a<2 ^ 64) (hb:b<2 ^ 64):VV .and .u64 (a:Int) (b:Int)=((a &&& b:Nat):Int):=by
 show IntKind.wrap .u64 (((BitVec.ofInt 64 (a:Int)) &&& (BitVec.ofInt 64 (b:Int))).toNat:Int)=_
 rw[BitVec.toNat_and,Jp a ha,Jp b hb,U2 _ (Nat.and_lt_two_pow _ hb)]
def QuH (a b:Nat):Nat:=a &&& (2 ^ 64-1-b)
theorem Qqr {a b:Nat} (ha:a<2 ^ 64):QuH a b<2 ^ 64:=QMt Nat.and_le_left ha
theorem Qms (a b:Nat) (ha:a<2 ^ 64) (hb:b<2 ^ 64):VV .andNot .u64 (a:Int) (b:Int)=(QuH a b:Int):=by
 show IntKind.wrap .u64 (((BitVec.ofInt 64 (a:Int)) &&& ~~~(BitVec.ofInt 64 (b:Int))).toNat:Int)=_
 rw[BitVec.toNat_and,BitVec.toNat_not,Jp a ha,Jp b hb];exact U2 _ (Qqr ha)
theorem Qtw {a b i:Nat} (hb:b<2 ^ 64) (hi:i<64):(QuH a b).testBit i=(a.testBit i&&!b.testBit i):=by
 unfold QuH;rw[Nat.testBit_and,show 2 ^ 64-1-b=2 ^ 64-(b+1) by omega,Nat.testBit_two_pow_sub_succ hb]
 simp[hi]
theorem Qd1 {n:Nat} (h:n<64):QtV .u64 1 (n:Int)=((2 ^ n:Nat):Int):=by
 have h2:(2:Nat) ^ n<2 ^ 64:=QMl (by decide) h
 unfold QtV;rw[show min ((n:Int)).toNat IntKind.u64.bits=n by simp[IntKind.bits];omega,Int.one_mul]
 have:((2:Int) ^ n)=((2 ^ n:Nat):Int):=by push_cast;rfl
 rw[this];exact U2 _ h2
theorem Qu9 (a n:Nat) (h:n<64):QtU .u64 (a:Int) (n:Int)=((a >>> n:Nat):Int):=by
 unfold QtU;rw[show min ((n:Int)).toNat IntKind.u64.bits=n by simp[IntKind.bits];omega,Nat.shiftRight_eq_div_pow]
 grind
theorem QvQ (a n:Nat) (h:n<64) (ha:a<2 ^ 64):VV .and .u64 (QtU .u64 (a:Int) (n:Int)) 1=if a.testBit n then 1 else 0:=by
 rw[Qu9 a n h];have h1:a >>> n<2 ^ 64:=QMt (Nat.shiftRight_le _ _) ha;have:=Qqq (a >>> n) 1 h1 (by decide)
 rw[show ((1:Nat):Int)=1 from rfl] at this
 rw[this]
 have e:a.testBit n=(decide ((a >>> n) &&& 1=1)):=by
  rw[Nat.testBit,Nat.and_comm]
  grind
 grind
def Xu (l:List Nat):Nat:=l.foldl (fun m n=>m ||| 2 ^ n) 0
theorem qj (l:List Nat) (n:Nat):Xu (l++[n])=Xu l ||| 2 ^ n:=by simp[Xu]
theorem Qf5 (i:Nat):∀ l:List Nat,(Xu l).testBit i=decide (i∈l):=by
 refine Yc (by simp[Xu]) fun l n ih=>?_
 rw[qj,Nat.testBit_or,ih,Nat.testBit_two_pow]
 grind
theorem Qkz (k:Nat):∀ l:List Nat,(∀ n∈l,n<k)->Xu l<2 ^ k:=by
 refine Yc (fun _=>by simp[Xu];grind) fun l n ih h=>?_
 rw[qj];exact QMm (ih fun m hm=>h m (by simp[hm])) (QMl (by decide) (h n (by simp)))
theorem QgX (ds:List Qx) {e e':Nat->Int}:∀ k,(∀ i<k,e i=e' i)->cab ds e k=cab ds e' k
 | 0,_=>rfl
 | k+1,h=>by
   have ih:=QgX ds k fun i hi=>h i (by omega)
   have hk:=h k (by omega)
   simp only[cab,ih,hk]
theorem QuP (ds:List Qx) (k:Nat) {j:Nat} (h:j<=k):wn (ds.take k) j=wn ds j:=by
 unfold wn
 grind
theorem Qk7 (ds:List Qx) (e:Nat->Int) (k:Nat):∀ j,j<=k->cab (ds.take k) e j=cab ds e j
 | 0,_=>rfl
 | j+1,h=>by
   have ih:=Qk7 ds e k j (by omega)
   have hj:(ds.take k)[j]?=ds[j]?:=by grind
   simp only[cab,hj,ih,QuP ds k (show j<=k by omega)]
theorem Qo5 (ds:List Qx) (k i:Nat) (h:i<k):ZH (ds.take k) 0 i=ZH ds 0 i:=by
 have hj:(ds.take k)[i]?=ds[i]?:=by grind
 unfold ZH
 grind
theorem Qmk (ds:List Qx) (k:Nat):cab (ds.take k) (ZH (ds.take k) 0) k=cab ds (ZH ds 0) k:=by
 rw[Qk7 ds _ k k (QKS _)];exact QgX ds k fun i hi=>Qo5 ds k i hi
theorem Qcx (ds:List Qx) (k:Nat) (h:ZA ds=0):ZA (ds.take k)=0:=by
 rw[ZA,QMC] at *
 grind
def ZX (p:Qe) (e:Nat->Int):List IV :=
 [.sl 1 ((List.range p.zf.length).map fun i=>[.int .u64 (Xu (ZC p i e):Nat)]),.sl 1 ((List.range p.zf.length).map fun i=>[.int .i64 (QI p i e)]),ZZ (Ji p e)]
include hK
theorem QfL (c:Qs) (hc:OkD c.za c.za.length) (hl:c.za.length<=12) (h2:ZA c.za=0) (k:Nat) (hk:k<=c.za.length):Gd K 320 [chV (ZF c k)] (ZZ (cab c.za (ZH c.za 0) k)):=by
 have hC:OkC (ZF c k):=qd hc hl hk;have:=Qwm hK (ZF c k) hC (Qcx _ _ h2) rfl;have e:(ZF c k).za=c.za.take k:=rfl;have e2:(c.za.take k).length=k:=by simp;omega
 rw[e,e2,Qmk] at this;exact this
theorem QwD (p:Qe) (hp:OkP p) (h2:ZA p.zc.za=0):Gd K 258 [chV p.zc,Xq p.zf] (.agg (ZX p (ZH p.zc.za 0))):=by
 have hl:=hp.deedsLen;have htl:=hp.trialsLen;have hd:=hp.zc.za;refine Qb hK (fk func258 QGL (by kernel_rfl)) (by simp) ?_
 simp;intro _;refine cK (by simpa using QeB hK p.zc p.zc.za.length (QKS _)) ?_
 simp;refine cK (by simpa using QfL hK p.zc hd hl h2 p.zc.za.length (QKS _)) ?_
 simp;refine cK (by simpa using Qor hK p.zc) ?_
 simp
 refine Q9 (wy:=.fall) (o':=[(4,.box [.iv (.sl 1 []),.iv (.sl 1 []),.iv (.sl 1 [])]),(5,.box [.yo 6000 p.zf.length,.yo 6001 p.zf.length,.iv (ZZ (Ji p (ZH p.zc.za 0)))]),
  (6000,.arr 263 1 (emb ((List.range p.zf.length).map fun i=>[.int .u64 (Xu (ZC p i (ZH p.zc.za 0)):Nat)])) 0),(6001,.arr 3 1 (emb ((List.range p.zf.length).map fun i=>[.int .i64 (QI p i (ZH p.zc.za 0))])) 0)]) rfl (by kernel_rfl) (Qif p.zc (by omega)) ?_ ?_
 ·have htrs:(trs (pv p.zc.za) 0).length=p.zf.length:=by
   have:∀ (l:List Nat) (t:Nat),(trs l t).length=l.length:=by
    intro l
    induction l with
    | nil=>intro t;rfl
    | cons a l ih=>intro t;simp[trs,ih]
   rw[this,hp.many]
  have:=Uy.all (P:=prog) (K:=K) (ps:=[22,23]) (asn:=QeT) (body:=Qjh) (ks:=[2,3,4,5]) (ids:=[4,5,6000,6001]) (eK:=[(2,.iv (.ptr [QC p.zc.za,Qy p.zc.zg,.int .i64 p.zc.zh])),(3,.iv (.ptr [Xq p.zf])),(4,.loc 4 0),(5,.loc 5 0)]) (trs (pv p.zc.za) 0)
   (fun i=>[(4,.box [.iv (.sl 1 []),.iv (.sl 1 []),.iv (.sl 1 [])]),(5,.box [.yo 6000 i,.yo 6001 i,.iv (ZZ (Ji p (ZH p.zc.za 0)))]),
     (6000,.arr 263 1 (emb ((List.range i).map fun i=>[.int .u64 (Xu (ZC p i (ZH p.zc.za 0)):Nat)])) 0),(6001,.arr 3 1 (emb ((List.range i).map fun i=>[.int .i64 (QI p i (ZH p.zc.za 0))])) 0)]) fun i x hx=>by
   obtain ⟨hi,rfl⟩:=QdT _ _ _ _ hx;have hit:i<p.zf.length:=by grind
   have xc:=QfV hi;have hthen:ZC p i (ZH p.zc.za 0)=cab p.zc.za (ZH p.zc.za 0) (pv p.zc.za)[i]:=by simp[ZC,List.getD_eq_getElem?_getD,hi]
   have hrow:=QfL hK p.zc hd hl h2 (pv p.zc.za)[i] (by omega)
   rw[<- hthen] at hrow;have htr:=QmL hit;have hok:=hp.trial hit;have hbr:QI p i (ZH p.zc.za 0)=if 0<=(tr p i).z7 then (((ZC p i (ZH p.zc.za 0)).getD (tr p i).z7.toNat 0:Nat):Int) else -1:=rfl
   have hcl:((ZC p i (ZH p.zc.za 0)).length:Int)=cnt p.zc.za (pv p.zc.za)[i]:=by rw[hthen];exact Xx _ hd _ (by omega) (by omega)
   have hcb:=hd.cnt (pv p.zc.za)[i] (by omega) (by omega)
   have hmem:∀ n∈ZC p i (ZH p.zc.za 0),n<12:=fun n hn=>by
    rw[hthen] at hn;have:=Qad _ _ _ n hn;have:=Qhn p.zc.za (pv p.zc.za)[i];omega
   have hpd:(pv p.zc.za).getD i 0=(pv p.zc.za)[i]:=by grind
   rw[hpd] at hok;rw[QLf,QK3,QK3];refine ⟨rfl,?_⟩;generalize hnow:ZC p i (ZH p.zc.za 0)=now at *;simp[QeT,Qjh,-List.map_map,Qv,QJ,QD,Qk];refine cK (by simpa using QeB hK p.zc (pv p.zc.za)[i] (by omega)) ?_
   simp;refine cK (by simpa using hrow) ?_
   simp;intro _
   refine Ql (fun k=>[(2,.iv (.ptr [QC p.zc.za,Qy p.zc.zg,.int .i64 p.zc.zh])),(3,.iv (.ptr [Xq p.zf])),(4,.loc 4 0),(5,.loc 5 0),(6,.iv (.int .i64 (i:Nat))),(8,.iv (ZZ now)),(9,.iv (.int .u64 (Xu (now.take k):Nat))),(28,.iv (ZZ now)),(29,.iv (.int .i64 now.length)),(30,.iv (.int .i64 (k:Nat)))])
    (fun _=>[(4,.box [.iv (.sl 1 []),.iv (.sl 1 []),.iv (.sl 1 [])]),(5,.box [.yo 6000 i,.yo 6001 i,.iv (ZZ (Ji p (ZH p.zc.za 0)))]),
    (6000,.arr 263 1 (emb ((List.range i).map fun i=>[.int .u64 (Xu (ZC p i (ZH p.zc.za 0)):Nat)])) 0),(6001,.arr 3 1 (emb ((List.range i).map fun i=>[.int .i64 (QI p i (ZH p.zc.za 0))])) 0)]) now.length (fun _=>True) trivial ?_ ?_
   ·intro _
    rw[Qa Qji.eq_1];by_cases hb:0<=(tr p i).z7
    ·have hb2:(tr p i).z7.toNat<now.length:=by
      have:=hok.2.2;simp only[inR] at this;omega
     have hgd:now.getD (tr p i).z7.toNat 0=now[(tr p i).z7.toNat]:=by grind
     rw[if_pos hb,hgd] at hbr;simp[hit,htr,hb,hb2,hbr,hnow,-List.map_map,Qv,QJ,QD,Qk,QKP];omega
    rw[if_neg hb] at hbr;simp[hit,htr,hb,hbr,hnow,-List.map_map,Qv,QJ,QD,Qk,QKP];omega
   intro k hk _ ih;rw[Qa Qji.eq_1];have hn:=hmem now[k] (QKR hk);have hm1:Xu (now.take k)<2 ^ 12:=Qkz 12 _ fun n hn=>hmem n (QLC hn)
   have hm2:(2:Nat) ^ now[k]<2 ^ 12:=QMl (by decide) hn
   have hor:=Qdb (Xu (now.take k)) (2 ^ now[k]) (by omega) (by omega)
   rw[<- Qd1 (n:=now[k]) (by omega)] at hor
   rw[QKL hk,qj] at ih;simp at ih;simp[hk,hor]
   grind
  rw[htrs] at this;simpa[emb,Ji] using this
 simp[ZX,QKP]
 trace_state
omit hK
def Zq (p:Qe) (s:Qm):List (List IV):=(List.range p.zf.length).map fun i=>[.int .i64 (QbJ p.zb (tr p i).zm (tr p i).zn s),.int .i64 (upS p.zb (tr p i).zm (tr p i).zn s)]
def ZM (p:Qe) (t:Q5):List IV:=ZX p (QO t.ends)++[.sl 2 (Zq p t.set)]
def nd (p:Qe) (zo:Int):Qe:={ p with zo:=zo }
theorem UA {a b c:Int} (ha:0<=a) (hb:1<=b):(a+b-1).tdiv b<=c↔a<=c*b:=by
 rw[QLD (by omega)]
 constructor
 ·intro h
  have h1:=Int.mul_ediv_add_emod (a+b-1) b;have h2:=Int.emod_lt_of_pos (a+b-1) (show 0<b by omega)
  have h3:b*((a+b-1) / b)<=b*c:=QLL h (by omega)
  grind
 intro h
 have:(a+b-1) / b<c+1:=by
  rw[Int.ediv_lt_iff_lt_mul (by omega),Int.add_mul]
  omega
 omega
theorem UK {a b c:Int} (ha:0<=a) (hb:1<=b):c<=a.tdiv b↔c*b<=a:=by
 rw[QLD ha];exact Int.le_ediv_iff_mul_le (by omega)
include hK
theorem QwC (p:Qe) (t:Q5) (zo:Int) (hp:OkP p) (hs:okS p.zb t.set) (i:Nat) (hi:i<p.zf.length):Gd K 264 [.agg (ZM p t),.int .i64 i,.int .i64 zo] (.bool (X8 (nd p zo) i t)):=by
 refine Qb hK (fk func264 QGJ (by kernel_rfl)) (by simp) ?_
 have hbr:QI p i (QO t.ends)=if 0<=(tr p i).z7 then (((ZC p i (QO t.ends)).getD (tr p i).z7.toNat 0:Nat):Int) else -1:=rfl
 have hfd:X8 (nd p zo) i t=(decide (0<=(tr p i).z7)&&decide (num p.zb t.set (tr p i).zm (tr p i).zn<=zo*den t.set)):=rfl;have hnum:0<=num p.zb t.set (tr p i).zm (tr p i).zn:=(hp.zb.numB hs (hp.trial hi).1 (hp.trial hi).2.1).1;have hden:1<=den t.set:=(hp.zb.denB hs).1;have hup:=UA (c:=zo) hnum hden;rw[hfd];by_cases hb:0<=(tr p i).z7
 ·rw[if_pos hb] at hbr
  by_cases h2:num p.zb t.set (tr p i).zm (tr p i).zn<=zo*den t.set
  ·have h3:=hup.2 h2
   simp[ZM,ZX,Zq,hi,hbr,hb,upS,h2,h3]
  have h3:=fun h=>h2 (hup.1 h)
  simp[ZM,ZX,Zq,hi,hbr,hb,upS,h2,h3];omega
 ·rw[if_neg hb] at hbr
  simp[ZM,ZX,Zq,hi,hbr,hb]
omit hK in
theorem Ql3 (p:Qe) (t:Q5) (n:Nat):(List.range (n+1)).countP (fun i=>X8 p i t)=(List.range n).countP (fun i=>X8 p i t)+if X8 p n t then 1 else 0:=by
 rw[QLf,QL8]
 grind
theorem Qit (p:Qe) (t:Q5) (zo:Int) (hp:OkP p) (hs:okS p.zb t.set):Gd K 180 [.agg (ZM p t),.int .i64 zo] (.int .i64 (Xn (nd p zo) t:Nat)):=by
 refine Qb hK (fk func180 QHx (by kernel_rfl)) (by simp) ?_
 have htl:=hp.trialsLen;have hll:(Zq p t.set).length=p.zf.length:=by simp[Zq]
 have hf:Xn (nd p zo) t=(List.range p.zf.length).countP (fun i=>X8 (nd p zo) i t):=rfl
 have hsv:ZM p t=[.sl 1 ((List.range p.zf.length).map fun i=>[.int .u64 (Xu (ZC p i (QO t.ends)):Nat)]),.sl 1 ((List.range p.zf.length).map fun i=>[.int .i64 (QI p i (QO t.ends))]),ZZ (Ji p (QO t.ends)),.sl 2 (Zq p t.set)]:=rfl
 rw[hsv];have hg:=fun i hi=>QwC hK p t zo hp hs i hi
 rw[hsv] at hg;simp[hll];intro _
 refine Ql (fun i=>[(1,AV.iv (.int .i64 zo)),(2,.iv (.ptr [.sl 1 ((List.range p.zf.length).map fun i=>[.int .u64 (Xu (ZC p i (QO t.ends)):Nat)]),.sl 1 ((List.range p.zf.length).map fun i=>[.int .i64 (QI p i (QO t.ends))]),ZZ (Ji p (QO t.ends)),.sl 2 (Zq p t.set)])),
   (5,.iv (.int .i64 ((List.range i).countP (fun i=>X8 (nd p zo) i t):Nat))),(9,.iv (.int .i64 p.zf.length)),(10,.iv (.int .i64 (i:Nat)))]) (fun _=>[]) p.zf.length (fun _=>True) trivial ?_ ?_
 ·intro _
  rw[Qa Qjx.eq_1];simp[hf]
 ·intro i hi _ ih
  have hle:(List.range i).countP (fun i=>X8 (nd p zo) i t)<=i:=by
   have:=QLJ (p:=fun i=>X8 (nd p zo) i t) (l:=List.range i)
   simpa using this
  rw[Qa Qjx.eq_1];rw[Ql3] at ih;simp[hi] at ih |-;refine cK (by simpa using hg i hi) ?_
  cases hb:X8 (nd p zo) i t
  ·simp[hb] at ih |-
   grind
  ·simp[hb] at ih |-
   grind
omit hK in
theorem QkA {p:Qe} (hp:OkP p) (i:Nat) (e:Nat->Int):Xu (ZC p i e)<2 ^ 12:=Qkz 12 _ fun n hn=>by
 have h1:=OkP.thenLt (p:=p) e i hn;have h2:=YE p.zc.za;have h3:(XW p.zc.za).length<=p.zc.za.length:=QLl _ _;have:=hp.deedsLen;omega
def Qq8 (p:Qe) (t:Q5) (m i:Nat):Nat :=
 if p.zo<=QbJ p.zb (tr p i).zm (tr p i).zn t.set then m ||| (if 0<=QI p i (QO t.ends) then QuH (Xu (ZC p i (QO t.ends))) (2 ^ (QI p i (QO t.ends)).toNat) else Xu (ZC p i (QO t.ends))) else m
def pmN (p:Qe) (t:Q5) (n:Nat):Nat:=(List.range n).foldl (Qq8 p t) 0
omit hK in
theorem Wi (p:Qe) (t:Q5) (n:Nat):pmN p t (n+1)=Qq8 p t (pmN p t n) n:=by simp[pmN,QLf]
omit hK in
theorem QaU {p:Qe} (hp:OkP p) (e:Nat->Int) {i:Nat} (hi:i<p.zf.length) : -1<=QI p i e/\QI p i e<12:=by
 by_cases hb:0<=(tr p i).z7
 ·obtain ⟨h1,h2⟩:=hp.brokeIn e hi hb
  have h3:=OkP.thenLt (p:=p) e i (QKR h1);have h4:=YE p.zc.za;have h5:(XW p.zc.za).length<=p.zc.za.length:=QLl _ _;have:=hp.deedsLen;omega
 simp[QI,hb]
omit hK in
theorem Qni {p:Qe} (hp:OkP p) {t:Q5} (hs:okS p.zb t.set) (zo:Int) (m:Nat) {i:Nat} (hi:i<p.zf.length) {k:Nat} (hk:k<64):(Qq8 (nd p zo) t m i).testBit k=(m.testBit k||Wg (nd p zo) k t i):=by
 have hnum:=(hp.zb.numB hs (hp.trial hi).1 (hp.trial hi).2.1).1;have hden:=(hp.zb.denB hs).1;have hbb:=QaU hp (QO t.ends) hi;have hiff:=UK (c:=zo) hnum hden
 have hin:inN (ZC p i (QO t.ends)) k=decide (k∈ZC p i (QO t.ends)):=by
  unfold inN
  grind
 have e1:Wg (nd p zo) k t i=(decide (zo*den t.set<=num p.zb t.set (tr p i).zm (tr p i).zn)&&inN (ZC p i (QO t.ends)) k&&!decide (QI p i (QO t.ends)=k)):=rfl;have e2:Qq8 (nd p zo) t m i=if zo<=QbJ p.zb (tr p i).zm (tr p i).zn t.set then m ||| (if 0<=QI p i (QO t.ends) then QuH (Xu (ZC p i (QO t.ends))) (2 ^ (QI p i (QO t.ends)).toNat) else Xu (ZC p i (QO t.ends))) else m:=rfl
 rw[e1,e2,hin];by_cases h1:zo<=QbJ p.zb (tr p i).zm (tr p i).zn t.set
 ·have h2:zo*den t.set<=num p.zb t.set (tr p i).zm (tr p i).zn:=hiff.1 h1
  rw[if_pos h1,Nat.testBit_or];by_cases h3:0<=QI p i (QO t.ends)
  ·rw[if_pos h3,Qtw (QMl (by decide) (by omega)) hk,Qf5,Nat.testBit_two_pow]
   grind
  rw[if_neg h3,Qf5]
  grind
 have h2:¬ zo*den t.set<=num p.zb t.set (tr p i).zm (tr p i).zn:=fun h=>h1 (hiff.2 h)
 grind
omit hK in
theorem Qee {p:Qe} (hp:OkP p) {t:Q5} (hs:okS p.zb t.set) {zo:Int} {k:Nat} (hk:k<64):(pmN (nd p zo) t p.zf.length).testBit k=Zu (nd p zo) k t:=by
 have hat:∀ (m:Nat) {i:Nat},i<p.zf.length->(Qq8 (nd p zo) t m i).testBit k=(m.testBit k||Wg (nd p zo) k t i):=fun m i hi=>Qni hp hs zo m hi hk
 have:∀ n,n<=p.zf.length->(pmN (nd p zo) t n).testBit k=(List.range n).any (Wg (nd p zo) k t):=by
  intro n
  induction n with
  | zero=>intro _;simp[pmN]
  | succ n ih=>intro h;rw[Wi,hat _ (by omega),ih (by omega),QcJ]
 exact this _ (QKS _)
omit hK in
theorem Qko {p:Qe} (hp:OkP p) (t:Q5) {zo:Int} (n:Nat):pmN (nd p zo) t n<2 ^ 64:=by
 have:∀ n,pmN (nd p zo) t n<2 ^ 12:=fun n=>by
  induction n with
  | zero=>simp[pmN]
  | succ n ih =>
    rw[Wi];have h:=QkA hp n (QO t.ends);unfold Qq8;split
    ·refine QMm ih ?_
     split
     ·exact QMt Nat.and_le_left h
     exact h
    exact ih
 grind
theorem Qir (p:Qe) (t:Q5) (zo:Int) (hp:OkP p):Gd K 185 [.agg (ZM p t),.int .i64 zo] (.int .u64 (pmN (nd p zo) t p.zf.length:Nat)):=by
 refine Qb hK (fk func185 QHs (by kernel_rfl)) (by simp) ?_
 have htl:=hp.trialsLen
 have hpl:∀ i,pmN (nd p zo) t i<2 ^ 12:=fun i=>by
  have:∀ n,pmN (nd p zo) t n<2 ^ 12:=fun n=>by
   induction n with
   | zero=>simp[pmN]
   | succ n ih =>
     rw[Wi];have h:=QkA hp n (QO t.ends);unfold Qq8;split
     ·refine QMm ih ?_
      split
      ·exact QMt Nat.and_le_left h
      exact h
     exact ih
  exact this i
 have hsv:ZM p t=[.sl 1 ((List.range p.zf.length).map fun i=>[.int .u64 (Xu (ZC p i (QO t.ends)):Nat)]),.sl 1 ((List.range p.zf.length).map fun i=>[.int .i64 (QI p i (QO t.ends))]),ZZ (Ji p (QO t.ends)),.sl 2 (Zq p t.set)]:=rfl
 rw[hsv];simp;intros
 refine Ql (fun i=>[(1,AV.iv (.int .i64 zo)),(2,.iv (.ptr [.sl 1 ((List.range p.zf.length).map fun i=>[.int .u64 (Xu (ZC p i (QO t.ends)):Nat)]),.sl 1 ((List.range p.zf.length).map fun i=>[.int .i64 (QI p i (QO t.ends))]),ZZ (Ji p (QO t.ends)),.sl 2 (Zq p t.set)])),
   (5,.iv (.int .u64 (pmN (nd p zo) t i:Nat))),(11,.iv (.sl 1 ((List.range p.zf.length).map fun i=>[.int .u64 (Xu (ZC p i (QO t.ends)):Nat)]))),(12,.iv (.int .i64 p.zf.length)),(13,.iv (.int .i64 (i:Nat)))]) (fun _=>[]) p.zf.length (fun _=>True) trivial ?_ ?_
 ·intro _
  rw[Qa Qjv.eq_1];simp
 ·intro i hi _ ih
  have hm:=QkA hp i (QO t.ends);have hbb:=QaU hp (QO t.ends) hi;have hpi:=hpl i;rw[Qa Qjv.eq_1];rw[Wi] at ih;have hat:∀ m,Qq8 (nd p zo) t m i=if zo<=QbJ p.zb (tr p i).zm (tr p i).zn t.set then m ||| (if 0<=QI p i (QO t.ends) then QuH (Xu (ZC p i (QO t.ends))) (2 ^ (QI p i (QO t.ends)).toNat) else Xu (ZC p i (QO t.ends))) else m:=fun m=>rfl
  rw[hat] at ih;have hld:(Zq p t.set)[i]?=some [.int .i64 (QbJ p.zb (tr p i).zm (tr p i).zn t.set),.int .i64 (upS p.zb (tr p i).zm (tr p i).zn t.set)]:=by simp[Zq,hi]
  have hll:(Zq p t.set).length=p.zf.length:=by simp[Zq]
  generalize QbJ p.zb (tr p i).zm (tr p i).zn t.set=lo at *;generalize upS p.zb (tr p i).zm (tr p i).zn t.set=up at *;generalize pmN (nd p zo) t i=m at *
  have hld2:(Zq p t.set)[i]'(by omega)=[.int .i64 lo,.int .i64 up]:=by
   grind
  by_cases h1:zo<=lo
  ·have h1':¬ lo<zo:=by omega
   by_cases h3:0<=QI p i (QO t.ends)
   ·obtain ⟨b,hb⟩:∃ b:Nat,QI p i (QO t.ends)=b:=⟨(QI p i (QO t.ends)).toNat,by omega⟩
    have hb12:b<12:=by omega
    have h2b:(2:Nat) ^ b<2 ^ 12:=QMl (by decide) hb12
    have q1:=Qms (Xu (ZC p i (QO t.ends))) (2 ^ b) (by omega) (by omega)
    rw[<- Qd1 (n:=b) (by omega)] at q1
    have q2:=Qdb m (QuH (Xu (ZC p i (QO t.ends))) (2 ^ b)) (by omega) (Qqr (by omega))
    simp[h1,hb] at ih;simp[hi,hll,hld2,h1',hb,q1,q2]
    grind
   have q2:=Qdb m (Xu (ZC p i (QO t.ends))) (by omega) (by omega)
   simp[h1,h3] at ih;simp[hi,hll,hld2,h1',h3,q2]
   grind
  ·have h1':lo<zo:=by omega
   simp[h1] at ih;simp[hi,hll,hld2,h1']
   grind
theorem Qiq (s k:Nat) (hs:s<2 ^ 64) (hk:k<64):Gd K 186 [.int .u64 s,.int .i64 k] (.bool (s.testBit k)):=by
 refine Qb hK (fk func186 QHr (by kernel_rfl)) (by simp) ?_
 have:=QvQ s k hk hs;cases hb:s.testBit k<;>simp[hb] at this<;>simp[this]
theorem QwB (s k:Nat) (hs:s<2 ^ 64) (hk:k<64):Gd K 265 [.int .i64 k,.ptr [.int .u64 s]] (.bool (!s.testBit k)):=by
 refine Qb hK (fk func265 QGI (by kernel_rfl)) (by simp) ?_
 simp;refine cK (Qiq hK s k hs hk) ?_;simp
theorem Qon (p:Qe) (t:Q5) (zo:Int) (hp:OkP p) (hs:okS p.zb t.set):Gd K 190 [.agg (ZM p t),.int .i64 zo,.int .i64 p.z8] (.bool (Um (nd p zo) t)):=by
 refine Qb hK (fk func190 QHn (by kernel_rfl)) (by simp) ?_
 have hl:=hp.deedsLen;have hsv:ZM p t=[.sl 1 ((List.range p.zf.length).map fun i=>[.int .u64 (Xu (ZC p i (QO t.ends)):Nat)]),.sl 1 ((List.range p.zf.length).map fun i=>[.int .i64 (QI p i (QO t.ends))]),ZZ (Ji p (QO t.ends)),.sl 2 (Zq p t.set)]:=rfl
 have hg70:=Qir hK p t zo hp;have hg65:=Qit hK p t zo hp hs;rw[hsv] at hg70 hg65 |-
 have xc:∀ n,pmN (nd p zo) t n<2 ^ 12:=fun n=>by
  induction n with
  | zero=>simp[pmN]
  | succ n ih =>
    rw[Wi];have h:=QkA hp n (QO t.ends);unfold Qq8;split
    ·refine QMm ih ?_
     split
     ·exact QMt Nat.and_le_left h
     exact h
    exact ih
 have hpm:=xc p.zf.length
 have hnow:∀ n∈Ji p (QO t.ends),n<12:=fun n hn=>by
  have:=Qad _ _ _ n hn;have:=Qhn p.zc.za p.zc.za.length;omega
 have hbit:∀ n∈Ji p (QO t.ends),(pmN (nd p zo) t p.zf.length).testBit n=Zu (nd p zo) n t:=fun n hn=>Qee hp hs (by grind)
 have hnl:(Ji p (QO t.ends)).length<=1000:=by
  have h1:=Xx (QO t.ends) hp.zc.za p.zc.za.length (QKS _) (QKS _);have h2:=hp.zc.za.cnt p.zc.za.length (QKS _) (QKS _);show (cab p.zc.za (QO t.ends) p.zc.za.length).length<=1000
  omega
 have hgood:Um (nd p zo) t=(((Ji p (QO t.ends)).all fun (k:Nat)=>Zu (nd p zo) k t)&&decide ((Xn (nd p zo) t:Int)<p.z8)):=rfl
 have xf:((Ji p (QO t.ends)).all fun (k:Nat)=>Zu (nd p zo) k t)=!(((Ji p (QO t.ends)).map fun (n:Nat)=>(n:Int)).any fun x=>!(pmN (nd p zo) t p.zf.length).testBit x.toNat):=by
  rw[Bool.eq_iff_iff];simp only[QLo,QLm,QMp,QK8];constructor
  ·rintro h x ⟨n,hn,rfl⟩
   have h1:=h n hn;rw[<- hbit n hn] at h1;simp[h1]
  intro h n hn;have:=h n ⟨n,hn,rfl⟩
  grind
 have hg129:=QwA hK ((Ji p (QO t.ends)).map fun (n:Nat)=>(n:Int)) 265 [] [.ptr [.int .u64 (pmN (nd p zo) t p.zf.length)]] (fun x=>!(pmN (nd p zo) t p.zf.length).testBit x.toNat) (fun x hx=>by
  obtain ⟨n,hn,rfl⟩:=QK8.1 hx;have:=hnow n hn;simpa using QwB hK (pmN (nd p zo) t p.zf.length) n (by omega) (by omega)) (by kernel_rfl) (by simpa using hnl)
 rw[hgood,xf];clear xf hgood;generalize ((Ji p (QO t.ends)).map fun (n:Nat)=>(n:Int)).any (fun x=>!(pmN (nd p zo) t p.zf.length).testBit x.toNat)=A at *
 simp;refine cK (by simpa using hg70) ?_
 simp;refine cK (by simpa using hg65) ?_
 by_cases h1:(Xn (nd p zo) t:Int)<p.z8
 ·simp[h1]
  refine Qf (by simpa[Function.comp_def] using hg129) (.inr rfl) ?_
  simp
 simp[h1]
omit hK
noncomputable def QZ (p:Qe):List (List IV):=(Z3 p.zc [] p.zc.za).map fun e=>ZX p (QO e)
noncomputable def XO (p:Qe):List (List IV):=(Q3 p.zb [] p.zb.zd).map fun s=>[.sl 2 (Zq p s)]
def prC (p:Qe):List IV:=[QC p.zc.za,Qy p.zc.zg,.int .i64 p.zc.zh,QV p.zb.zd,.int .i64 p.zb.zr,.int .i64 p.zb.zu,.int .i64 p.zb.zw,XR p.zb.zk,.int .i64 p.zb.zh,
 Xq p.zf,.int .i64 p.zo,.int .i64 p.z8]
noncomputable def Un (p:Qe):List IV:=prC p++[.sl 3 (QZ p),.sl 1 (XO p)]
def QcB (p:Qe) (t:Q5):List IV:=[.agg (ZM p t)]
include hK
theorem QnV (p:Qe) (hE:(Z3 p.zc [] p.zc.za).length<=1000000) (hS:(Q3 p.zb [] p.zb.zd).length<=1000000):Qaw prog K 179 [.ptr (Un p)] [] ((QF p).map (QcB p)):=by
 intro s b s' hf;refine QN (fk func179 QHy (by kernel_rfl)) (by simp) hf.v rfl ?_
 unfold QF at hf;have hfile:Un p=prC p++[.sl 3 ((Z3 p.zc [] p.zc.za).map fun e=>ZX p (QO e)),.sl 1 ((Q3 p.zb [] p.zb.zd).map fun s=>[.sl 2 (Zq p s)])]:=rfl
 rw[hfile];generalize Z3 p.zc [] p.zc.za=E at *;generalize Q3 p.zb [] p.zb.zd=S at *;obtain ⟨q0,q1,q2,q3,q4,q5,q6,q7,q8,q9,q10,q11,hpr⟩:∃ q0 q1 q2 q3 q4 q5 q6 q7 q8 q9 q10 q11,prC p=[q0,q1,q2,q3,q4,q5,q6,q7,q8,q9,q10,q11]:=⟨_,_,_,_,_,_,_,_,_,_,_,_,rfl⟩
 rw[hpr];rw[QMA] at hf;simp only[List.map_map] at hf;simp;intro _
 refine XV E.length (fun i e o=>∃ si,e=[(0,AV.iv (.ptr [q0,q1,q2,q3,q4,q5,q6,q7,q8,q9,q10,q11,.sl 3 (E.map fun e=>ZX p (QO e)),.sl 1 (S.map fun s=>[.sl 2 (Zq p s)])])),(1,AV.cb 0),(11,.iv (.sl 3 (E.map fun e=>ZX p (QO e)))),(12,.iv (.int .i64 E.length)),(13,.iv (.int .i64 (i:Nat)))]/\o=[(0,.ext si)] /\
  ZS prog K ((E.drop i).flatMap fun e=>S.map (QcB p∘fun s=>⟨e,s⟩)) si b s') ?_ ?_ _ _ ⟨s,by simp,by simp,by simpa using hf⟩
 ·rintro e o ⟨si,rfl,rfl,hfd⟩
  rw[QLE (QKS _)] at hfd;cases hfd;rw[Qa Qjy.eq_1];simp
 ·rintro i e o hi ⟨si,rfl,rfl,hfd⟩ ih
  rw[QLg hi,QLH] at hfd;have hst:∃ s0 s1 s2,ZX p (QO E[i])=[s0,s1,s2]:=⟨_,_,_,rfl⟩
  obtain ⟨s0,s1,s2,hst⟩:=hst;rw[Qa Qjy.eq_1];simp[hi,hst];intros
  refine XV S.length (fun j e o=>∃ sj,e=[(0,AV.iv (.ptr [q0,q1,q2,q3,q4,q5,q6,q7,q8,q9,q10,q11,.sl 3 (E.map fun e=>ZX p (QO e)),.sl 1 (S.map fun s=>[.sl 2 (Zq p s)])])),(1,AV.cb 0),(5,.loc 5 0),(11,.iv (.sl 3 (E.map fun e=>ZX p (QO e)))),(12,.iv (.int .i64 E.length)),(13,.iv (.int .i64 (i:Nat))),
    (20,.iv (.sl 1 (S.map fun s=>[.sl 2 (Zq p s)]))),(21,.iv (.int .i64 S.length)),(22,.iv (.int .i64 (j:Nat)))]/\o=[(0,.ext sj),(5,.box [.iv s0,.iv s1,.iv s2])] /\
   ZS prog K ((S.drop j).map (QcB p∘fun s=>⟨E[i],s⟩)++(E.drop (i+1)).flatMap fun e=>S.map (QcB p∘fun s=>⟨e,s⟩)) sj b s') ?_ ?_ _ _ ⟨si,by simp,by simp,by simpa using hfd⟩
  ·rintro e o ⟨sj,rfl,rfl,hfj⟩
   rw[QLE (QKS _)] at hfj;rw[Qa Qjz.eq_1];simp
   grind
  ·rintro j e o hj ⟨sj,rfl,rfl,hfj⟩ ihj
   rw[QLg hj,QLa,QK1] at hfj
   have hitem:(QcB p∘fun s=>(⟨E[i],s⟩:Q5)) S[j]=[.agg [s0,s1,s2,.sl 2 (Zq p S[j])]]:=by
    simp[QcB,ZM,hst]
   rw[hitem] at hfj;rw[Qa Qjz.eq_1];simp[hj];cases hfj with
   | stop _ _ _ _ hg =>
     refine Q7 (by simpa using hg) rfl ?_
     simp
   | next _ _ _ s3 _ _ hg hr =>
     refine Q7 (by simpa using hg) rfl ?_
     simp
     (repeat' first | omega | (with_reducible apply And.intro) | intro _)
     exact ihj _ _ ⟨s3,by simp,by simp,hr⟩
theorem Qip (p:Qe) (hE:(Z3 p.zc [] p.zc.za).length<=1000000) (hS:(Q3 p.zb [] p.zb.zd).length<=1000000) (hT:(QF p).length<=1000000000)
  (g:FuncId) (fs cs:List IV) (B:Q5->Bool) (hg:∀ t∈QF p,Gd K g (fs++[.agg (ZM p t)]++cs) (.bool (B t))) (hc:callee prog g=true) :
  Gd K 187 [.ptr (Un p),.clo g fs cs] (.int .i64 (XZ ((QF p).countP B) (QF p).length)):=by
 refine Qb hK (fk func187 QHq (by kernel_rfl)) (by simp) ?_
 have hit:=QnV hK p hE hS;generalize Un p=F at *;generalize QF p=T at *;simp;refine Q9 (wy:=.fall) (o':=[(5,.box [.iv (.int .i64 (T.countP B:Nat))]),(6,.box [.iv (.int .i64 (T.countP (fun t=>!B t):Nat))])]) rfl (by kernel_rfl) hit ?_ ?_
 ·have:=Uy.all (P:=prog) (K:=K) (ps:=[10]) (asn:=QeW) (body:=Qju) (ks:=[3,5,6]) (ids:=[5,6]) (eK:=[(3,.iv (.ptr [.clo g fs cs])),(5,.loc 5 0),(6,.loc 6 0)]) (T.map (QcB p))
   (fun i=>[(5,.box [.iv (.int .i64 ((T.take i).countP B:Nat))]),(6,.box [.iv (.int .i64 ((T.take i).countP (fun t=>!B t):Nat))])]) fun i x hx=>by
   simp only[QKU,QKQ] at hx;obtain ⟨t,ht,rfl⟩:=hx;obtain ⟨xc,hget⟩:=QKN.1 ht;have hgt:=hg t (QK4 ht);have hl1:(T.take i).countP B<=1000000000:=QLp QLJ (by simp;omega)
   have hl2:(T.take i).countP (fun t=>!B t)<=1000000000:=QLp QLJ (by simp;omega)
   refine ⟨rfl,?_⟩;rw[QKL xc,QL8,QL8,hget];obtain ⟨v0,v1,v2,v3,hv⟩:∃ v0 v1 v2 v3,ZM p t=[v0,v1,v2,v3]:=⟨_,_,_,_,rfl⟩
   rw[hv] at hgt;simp[QcB,hv,QeW,Qju];refine ⟨hc,cK (by simpa using hgt) ?_⟩
   cases hb:B t
   ·simp[hb]
    omega
   simp[hb];omega
  simpa using this
 have hsum:T.countP B+T.countP (fun t=>!B t)=T.length:=by
  have:=List.length_eq_countP_add_countP B (l:=T)
  grind
 have htold:XZ (T.countP B:Nat) T.length=if T.countP (fun t=>!B t)=0 then 1 else if T.countP B=0 then 2 else 3:=by
  unfold XZ;omega
 rw[htold];clear htold hg hit;generalize T.countP B=a at *;generalize T.countP (fun t=>!B t)=d at *
 by_cases h1:d=0
 ·simp[h1]
 by_cases h2:a=0
 ·simp[h1,h2]
 simp[h1,h2]
omit hK
def Qk3 (d:Qx):Qx:=Qah d 0
theorem Wz (p:Qx->Bool) (hp:∀ d,p (Qk3 d)=p d):∀ (ds:List Qx) (i:Nat),XX p (ds.map Qk3) i=XX p ds i
 | [],_=>rfl
 | d::r,i=>by simp only[QLa,XX,hp,Wz p hp r]
theorem QuQ (ds:List Qx) (i:Nat):wn (ds.map Qk3) i=wn ds i:=by
 unfold wn;rw[<- QMr,Wz ZU fun d=>rfl]
theorem Qng (ds:List Qx):pv (ds.map Qk3)=pv ds:=Wz Zx (fun _=>rfl) ds 0
theorem Qlm (ds:List Qx):Vn (ds.map Qk3)=Vn ds:=Wz ZU (fun _=>rfl) ds 0
theorem Qk4 (ds:List Qx) (i:Nat):cnt (ds.map Qk3) i=cnt ds i:=by
 unfold cnt;rw[<- QMr,List.map_map];rfl
theorem QaS (ds:List Qx) (e:Nat->Int):∀ i,cab (ds.map Qk3) e i=cab ds e i
 | 0=>rfl
 | i+1=>by
   have ih:=QaS ds e i;simp only[cab,QKU,ih,QuQ];cases ds[i]?<;>rfl
theorem QlT (ds:List Qx) (k:Nat):Qen (ds.map Qk3) k=Qk3 (Qen ds k):=by
 unfold Qen;rw[Qlm];simp only[List.getD_eq_getElem?_getD,QKU];cases ds[(Vn ds)[k]?.getD 0]?<;>rfl
theorem qE (ds:List Qx) (ss:List Xp) (e:Nat->Int):Q6 (ds.map Qk3) ss e=Q6 ds ss e:=by
 unfold Q6
 congr 1
 funext s
 simp only[Qc5,QaS,Qkh,QlT];rfl
section
variable {ds ds':List Qx} (h:ds'.map Qk3=ds.map Qk3)
include h
theorem Qkb:ds'.length=ds.length:=by simpa using congrArg List.length h
theorem Qd4:pv ds'=pv ds:=by rw[<- Qng ds',h,Qng]
theorem Qd5 (i:Nat):cnt ds' i=cnt ds i:=by rw[<- Qk4 ds',h,Qk4]
theorem Qkc (e:Nat->Int) (i:Nat):cab ds' e i=cab ds e i:=by rw[<- QaS ds',h,QaS]
theorem QhB (ss:List Xp) (e:Nat->Int):Q6 ds' ss e=Q6 ds ss e:=by rw[<- qE ds',h,qE]
theorem Qlx (p:Qe) (hp:p.zc.za=ds) (c:Qs) (hc:c.za=ds') (e:Nat->Int):ZX { p with zc:=c } e=ZX p e:=by
 have h1:∀ i,ZC { p with zc:=c } i e=ZC p i e:=fun i=>by
  show cab c.za e ((pv c.za).getD i 0)=cab p.zc.za e ((pv p.zc.za).getD i 0)
  rw[hc,hp,Qd4 h,Qkc h]
 have h2:Ji { p with zc:=c } e=Ji p e:=by
  show cab c.za e c.za.length=cab p.zc.za e p.zc.za.length
  rw[hc,hp,Qkb h,Qkc h]
 have h3:∀ i,QI { p with zc:=c } i e=QI p i e:=fun i=>by
  unfold QI;rw[h1];rfl
 simp only[ZX,h1,h2,h3]
end
def QdJ:List Qx->List Int->List Qx
 | d::r,x::e=>Qah d x::QdJ r e
 | _,_=>[]
theorem YI:∀ {ds:List Qx} {e:List Int},e.length=ds.length->(QdJ ds e).map Qk3=ds.map Qk3
 | [],[],_=>rfl
 | d::r,x::e,h=>by
   have:=YI (ds:=r) (e:=e) (by simpa using h)
   simp only[QdJ,QLa,this];rfl
theorem QjZ:∀ {ds:List Qx} {e:List Int} (hl:e.length=ds.length) (i:Nat) (h:i<ds.length),(QdJ ds e)[i]?=some (Qah ds[i] (e[i]'(by omega)))
 | d::r,x::e,hl,0,_=>rfl
 | d::r,x::e,hl,i+1,h=>by
   have:=QjZ (ds:=r) (e:=e) (by simpa using hl) i (by simpa using h)
   simpa[QdJ] using this
theorem Zi:∀ {ds:List Qx} {e:List Int},e∈QX ds->e.length=ds.length/\∀ i (h:i<ds.length) (h':i<e.length),e[i]∈UT ds[i]
 | [],e,h=>by simp[QX] at h;subst h;simp
 | d::r,e,h=>by
   simp only[QX,QLv,QK8] at h;obtain ⟨x,hx,e',he',rfl⟩:=h;obtain ⟨h1,h2⟩:=Zi he'
   grind
theorem Wa:∀ {ds:List Qx},(∀ d∈ds,d.z6=0\/d.z6=1\/d.z6=2)->UD ds=(QX ds).map (QdJ ds)
 | [],_=>rfl
 | d::r,h=>by
   have ih:=Wa (ds:=r) fun d hd=>h d (by simp[hd])
   have hd:=h d (by simp)
   have hself:∀ x,d.z6=x->Qah d x=d:=fun x hx=>by subst hx;rfl
   rcases hd with hd | hd | hd
   ·simp[UD,QX,UT,hd,ih,QdJ,hself 0 hd,List.map_map,Function.comp_def]
   ·simp[UD,QX,UT,hd,ih,QdJ,hself 1 hd,List.map_map,Function.comp_def]
   ·simp[UD,QX,UT,hd,ih,QdJ,List.map_map,Function.comp_def]
theorem Qb9 {d:Qx} {x:Int} (h:x∈UT d):(x=0\/x=1)/\(d.z6=2\/x=d.z6):=by
 unfold UT at h
 grind
theorem OkD.z6 {ds:List Qx} {n:Nat} (h:OkD ds n) (hn:ds.length<=n):∀ d∈ds,d.z6=0\/d.z6=1\/d.z6=2:=by
 intro d hd;obtain ⟨i,hi,rfl⟩:=QLA hd;have:=h i hi (by omega)
 rcases this with ⟨_,h2,_⟩ | ⟨_,h2,_⟩ | ⟨_,_,h2,_⟩
 ·simp only[inR] at h2;omega
 ·simp only[inR] at h2;omega
 ·omega
section
variable {c:Qs} (hc:OkC c) {e:List Int} (he:e∈QX c.za)
include hc he
theorem QdI:(QdJ c.za e).length=c.za.length:=Qkb (YI (Zi he).1)
theorem Qhh (i:Nat) (h:i<c.za.length):∃ x,(QdJ c.za e)[i]?=some (Qah c.za[i] x)/\(x=0\/x=1)/\(c.za[i].z6=2\/x=c.za[i].z6)/\QO e i=x:=by
 obtain ⟨h1,h2⟩:=Zi he;have h3:=Qb9 (h2 i h (by omega))
 refine ⟨e[i]'(by omega),QjZ h1 i h,h3.1,h3.2,?_⟩
 simp[QO,List.getD_eq_getElem?_getD,QKM (show i<e.length by omega)]
theorem QuL:OkD (QdJ c.za e) (QdJ c.za e).length:=by
 intro i h _;have hlen:=QdI hc he;have hi:i<c.za.length:=by omega
 obtain ⟨x,h1,h2,h3,_⟩:=Qhh hc he i hi;rw[QKM h] at h1;injection h1 with h1
 rw[h1,Qd5 (YI (Zi he).1)];rcases hc.za i hi hi with ⟨a1,a2,a3⟩ | ⟨a1,a2,a3⟩ | ⟨a1,a2,a3,a4⟩
 ·exact .inl ⟨a1,by simp only[inR,Qah];omega,a3⟩
 ·exact .inr (.inl ⟨a1,by simp only[inR,Qah];omega,a3⟩)
 exact .inr (.inr ⟨a1,a2,by simp only[Qah];omega,a4⟩)
theorem QmB:OkC { c with za:=QdJ c.za e }:=by
 have hlen:=QdI hc he;refine ⟨by simp only[hlen];exact hc.len,hc.slen,hc.zh,QuL hc he,fun s hs=>?_⟩
 have:=hc.zg s hs;unfold ZR at *;simp only[hlen,Qd5 (YI (Zi he).1)];exact this
theorem QjX:ZA (QdJ c.za e)=0:=by
 rw[ZA,QMC];intro d hd;obtain ⟨i,hi,rfl⟩:=QLA hd;have hlen:=QdI hc he;obtain ⟨x,h1,h2,_⟩:=Qhh hc he i (by omega)
 rw[QKM hi] at h1;injection h1 with h1
 have h3:¬ x=2:=by omega
 rw[h1];simp[Qah,h3]
theorem Qaz:ZH (QdJ c.za e) 0=QO e:=by
 funext i
 have hlen:=QdI hc he;unfold ZH;rcases QL2 i c.za.length with h | h
 ·obtain ⟨x,h1,h2,_,h4⟩:=Qhh hc he i h
  have h5:¬ (Qah c.za[i] x).z6=2:=by show ¬ x=2;omega
  rw[h1,h4];simp only;rw[if_neg h5];rfl
 rw[QMw (by omega)]
 have:=(Zi he).1;simp[QO,List.getD_eq_getElem?_getD,QMw (show e.length<=i by omega)]
theorem QjY:QCV c.za e:=by
 obtain ⟨h1,h2⟩:=Zi he;refine ⟨h1,fun i h h'=>?_⟩
 have h3:=Qb9 (h2 i h h');simp only[inR];omega
theorem QuM:Y0 { c with za:=QdJ c.za e } true=0↔Qud c e:=by
 have h1:=QmB hc he
 have h2:QU { c with za:=QdJ c.za e }=if (Q6 c.za c.zg (QO e):Int)<=c.zh then [0] else []:=by
  have hw:=QhB (YI (Zi he).1) c.zg (QO e);unfold QU;simp only[QjX hc he,Qaz hc he,Nat.pow_zero];rw[show List.range 1=[0] from rfl]
  by_cases h:(Q6 c.za c.zg (QO e):Int)<=c.zh
  ·rw[if_pos h,QMb (by simpa[Qaz hc he,hw] using h)];rfl
  rw[if_neg h,QMc (by simpa[Qaz hc he,hw] using h)];rfl
 unfold Y0 Qud;rw[if_pos h1,if_pos rfl,h2];have:=QjY hc he
 grind
end
theorem qm (c:Qs) (hc:OkC c):YT c=(Z3 c [] c.za).map fun e=>{ c with za:=QdJ c.za e }:=by
 unfold YT Z3;rw[Wa (hc.za.z6 (QKS _)),List.map_map,List.filter_map];have e1:((QX c.za).map fun x=>[]++x)=QX c.za:=by simp
 rw[e1]
 congr 1
 refine QMn fun e he=>?_
 simp only[Function.comp_apply];rw[Bool.eq_iff_iff];simpa using QuM hc he
theorem Qes (p:Qe) (hc:OkC p.zc):(YT p.zc).map (fun c'=>ZX { p with zc:=c' } (ZH c'.za 0))=QZ p:=by
 unfold QZ;rw[qm _ hc,List.map_map];refine QLO fun e he=>?_
 have he':e∈QX p.zc.za:=by
  simp only[Z3,QLw] at he;simpa using he.1
 simp only[Function.comp_apply];rw[Qaz hc he'];exact Qlx (YI (Zi he').1) p rfl _ rfl _
def QaA:List ZI->List Int->List ZI
 | l::r,x::e=>QcZ l x::QaA r e
 | l,[]=>l
 | [],_=>[]
theorem QdK (ls:List ZI):QaA ls []=ls:=by cases ls<;>rfl
theorem U0:∀ (ls:List ZI) (e:List Int),(QaA ls e).length=ls.length
 | [],[]=>rfl
 | [],_::_=>rfl
 | _::_,[]=>rfl
 | l::r,x::e=>by simp[QaA,U0 r e]
theorem Qe7:∀ (ls:List ZI) (e:List Int) (n:Int) (h:e.length<ls.length),QaA ls (e++[n])=(QaA ls e).set e.length (QcZ ls[e.length] n)
 | l::r,[],n,_=>by simp[QaA,QdK]
 | l::r,x::e,n,h=>by
   have:=Qe7 r e n (by simpa using h)
   simp[QaA,this]
theorem QcN:∀ (ls:List ZI) (e:List Int) (h:e.length<ls.length),(QaA ls e)[e.length]?=some ls[e.length]
 | l::r,[],_=>by simp[QdK]
 | l::r,x::e,h=>by
   have:=QcN r e (by simpa using h)
   simpa[QaA] using this
def Z6 (m:Machine) (s:Qm):Machine:={ m with zd:=QaA m.zd s.zy,zu:=s.zx,zw:=s.zx }
def Qep (m:Machine) (first:List Int):Machine:={ m with zd:=QaA m.zd first }
theorem Qg6:∀ (ls:List ZI) (e:List Int),Q4 (·.long) (QaA ls e)=Q4 (·.long) ls
 | [],[]=>rfl
 | [],_::_=>rfl
 | _::_,[]=>rfl
 | l::r,x::e=>by simp only[QaA,Q4,Qg6 r e];rfl
theorem Qku (m:Machine) (s s':Qm) (w mn:Int):num (Z6 m s) s' w mn=num m s' w mn:=by
 unfold num Vl;rw[show (Z6 m s).zd=QaA m.zd s.zy from rfl,Qg6]
 rfl
theorem Qhi (m:Machine) (s s':Qm):ZW (Z6 m s) m.zk s'=ZW m m.zk s':=by
 unfold ZW
 congr 1
 funext b
 simp only[Qc4,Qku]
theorem U7:∀ (ls:List ZI) (e:List Int),e.length=ls.length->Za (QaA ls e)=[e]
 | [],[],_=>rfl
 | l::r,x::e,h=>by
   have ih:=U7 r e (by simpa using h)
   have h1:(QcZ l x).hi+1-(QcZ l x).lo=1:=by simp only[QcZ];omega
   simp only[QaA,Za,ih,h1];simp[acc,QcZ]
theorem Qnn {m:Machine} {s:Qm} (h:okS m s) (i:Nat) (hi:i<m.zd.length):(QaA m.zd s.zy)[i]?=some (QcZ m.zd[i] (s.zy[i]'(by rw[h.1];exact hi))):=by
 have:∀ (ls:List ZI) (e:List Int) (i:Nat) (h1:e.length=ls.length) (hi:i<ls.length),(QaA ls e)[i]?=some (QcZ ls[i] (e[i]'(by omega))):=by
  intro ls
  induction ls with
  | cons l r ih =>
    intro e i h1 hi;cases e with
    | nil=>simp at h1
    | cons x e =>
      cases i with
      | zero=>simp[QaA]
      | succ i=>simpa[QaA] using ih e i (by simpa using h1) (by simpa using hi)
  | _=>grind
 exact this _ _ i h.1 hi
theorem Qra {m:Machine} {s:Qm} (h:okS m s):okS (Z6 m s) s:=by
 refine ⟨by simp only[Z6,U0];exact h.1,by simp[Z6,inR],fun i h1 h2=>?_⟩
 have hi:i<m.zd.length:=by simpa[Z6,U0] using h1
 have:=Qnn h i hi
 have h3:(Z6 m s).zd[i]=QcZ m.zd[i] (s.zy[i]'(by rw[h.1];exact hi)):=by
  rw[show (Z6 m s).zd=QaA m.zd s.zy from rfl] at h1
  rw[QKM h1] at this;injection this
 rw[h3];simp[QcZ,inR]
theorem Qaf (l:ZI):Zg l=false↔inR l.long 1 1000/\inR l.lo 1 l.hi/\l.hi<=1000:=by
 unfold Zg
 grind
theorem Qeg {m:Machine} (hm:OkM m) {s:Qm} (h:okS m s):OkM (Z6 m s):=by
 have h2:=h.2.1;have h3:=hm.zx;have h4:=hm.zw;simp only[inR] at h2 h3;refine ⟨by simp only[Z6,U0];exact hm.len,fun l hl=>?_,hm.zr,by simp only[Z6,inR];omega,by simp only[Z6];omega,hm.blen,hm.zk,hm.zh⟩
 obtain ⟨i,hi,rfl⟩:=QLA hl;have hi':i<m.zd.length:=by simpa[Z6,U0] using hi
 have h5:=Qnn h i hi'
 have h6:(Z6 m s).zd[i]=QcZ m.zd[i] (s.zy[i]'(by grind)):=by
  rw[show (Z6 m s).zd=QaA m.zd s.zy from rfl] at hi
  rw[QKM hi] at h5;injection h5
 have h7:=h.2.2 i hi' (by grind)
 have h8:=hm.zd _ (QKR hi');rw[h6];rw[Qaf] at h8 |-;simp only[inR,QcZ] at h7 h8 |-;omega
theorem QcW {m:Machine} {s:Qm} (h:okS m s):Q3 (Z6 m s) [] (Z6 m s).zd=if (ZW m m.zk s:Int)<=m.zh then [s] else []:=by
 have h1:Zm (Z6 m s) [] (Z6 m s).zd=[s]:=by
  unfold Zm;rw[show (Z6 m s).zd=QaA m.zd s.zy from rfl,U7 _ _ h.1]
  have:((Z6 m s).zw+1-(Z6 m s).zu).toNat=1:=by simp only[Z6];omega
  rw[this];simp[Z6]
 unfold Q3;rw[h1]
 have h2:Wt (Z6 m s) s↔(ZW m m.zk s:Int)<=m.zh:=by
  unfold Wt;rw[show (Z6 m s).zk=m.zk from rfl,Qhi]
  exact ⟨fun h=>h.2,fun h'=>⟨Qra h,h'⟩⟩
 grind
theorem QuY {m:Machine} (hm:OkM m) {s:Qm} (h:okS m s):tE (Z6 m s) true=0↔Wt m s:=by
 unfold tE;rw[if_pos (Qeg hm h),if_pos rfl,QcW h];unfold Wt
 grind
theorem Qqt {α β:Type} (f:α->β) (pc:Nat->List α) (n:Nat):(acc pc n).map f=acc (fun i=>(pc i).map f) n:=by simp[acc,QMA]
theorem Qg5 {α:Type} {pc pc':Nat->List α} {n:Nat} (h:∀ i<n,pc i=pc' i):acc pc n=acc pc' n:=by
 induction n with
 | zero=>rfl
 | succ n ih=>rw[QaW,QaW,ih fun i hi=>h i (by omega),h n (by omega)]
theorem Qdu {m:Machine} (hm:OkM m):∀ (r k:Nat) (first:List Int),k+r=m.zd.length->first.length=k->(∀ i (h:i<m.zd.length) (h':i<first.length),inR first[i] m.zd[i].lo m.zd[i].hi) ->
  Uv r (Qep m first) k=(Q3 m first (m.zd.drop k)).map (Z6 m)
 | 0,k,first,hk,hf,hr=>by
   have hd:m.zd.drop k=[]:=QLE (by omega)
   have h1:Q3 m first (m.zd.drop k)=acc (fun i=>if Wt m ⟨first,m.zu+(i:Nat)⟩ then [⟨first,m.zu+(i:Nat)⟩] else []) (m.zw+1-m.zu).toNat:=by
    rw[hd];simp only[Q3,Zm,Za,QLH,List.flatMap_nil,QK9,acc];generalize (m.zw+1-m.zu).toNat=n;generalize List.range n=L
    induction L with
    | _=>grind
   rw[h1,Qqt];simp only[Uv];refine Qg5 fun i hi=>?_
   have hleak:inR (m.zu+(i:Nat)) m.zu m.zw:=by
    have hi':i<(m.zw+1-m.zu).toNat:=hi;simp only[inR];omega
   have hok:okS m ⟨first,m.zu+(i:Nat)⟩:=⟨by simp only;omega,hleak,hr⟩
   have hmach:XP (Qep m first) ((Qep m first).zu+(i:Nat))=Z6 m ⟨first,m.zu+(i:Nat)⟩:=rfl
   unfold qV;rw[hmach];have:=QuY hm hok
   grind
 | r+1,k,first,hk,hf,hr=>by
   have xc:k<m.zd.length:=by omega
   have hget:(Qep m first).zd[k]?=some m.zd[k]:=by
    have:=QcN m.zd first (by omega)
    simp only[hf] at this;exact this
   rw[QLg xc,QcX,Qqt];simp only[Uv,hget];refine Qg5 fun i hi=>?_
   have hfix:YW (Qep m first) k m.zd[k] (m.zd[k].lo+(i:Nat))=Qep m (first++[m.zd[k].lo+(i:Nat)]):=by
    unfold YW Qep;rw[Qe7 m.zd first _ (by omega)]
    simp only[hf]
   rw[hfix];refine Qdu hm r (k+1) (first++[m.zd[k].lo+(i:Nat)]) (by omega) (by simp[hf]) fun j h h'=>?_
   rcases QL2 j first.length with hj | hj
   ·grind
   have hjk:j=k:=by simp at h';omega
   subst hjk;rw[List.getElem_append_right hj];simp only[hf,Nat.sub_self,QMs,inR];omega
theorem QoJ {m:Machine} (hm:OkM m):Uv m.zd.length m 0=(Q3 m [] m.zd).map (Z6 m):=by
 have:=Qdu hm m.zd.length 0 [] (by omega) rfl (by simp)
 have e:Qep m []=m:=by unfold Qep;rw[QdK]
 grind
theorem QlJ {m:Machine} (hm:OkM m) {s:Qm} (h:Wt m s) {w mn:Int} (ha:QaV w mn 0=true):JA (Z6 m s) w mn=(QbJ m w mn s,upS m w mn s):=by
 unfold JA tL;rw[ha,if_pos ⟨Qeg hm h.1,rfl⟩,QcW h.1,if_pos h.2];simp only[QLa,List.map_nil,span,List.foldl_nil,QbJ,upS,Qku]
theorem QuW {m:Machine} (hm:OkM m) (hs:sets m m.zd.length<=1000000):QCz m:=by
 have hl:∀ l∈m.zd,1<=l.lo/\l.lo<=l.hi/\l.hi<=1000:=fun l hl=>by
  have:=(Qaf l).1 (hm.zd l hl);simp only[inR] at this;omega
 exact ⟨hm.len,hm.blen,hm.zx,hm.zw,fun l h=>by have:=hl l h;simp only[Z4];omega,fun l h=>by grind,hs⟩
@[reducible] def Jl (p:Qe) (SS LL:List (List IV)):Qr :=
 [(0,.box [.loc 1 0]),(1,.box ((prC p).map AV.iv++[.yo 2 SS.length,.yo 3 LL.length])),(2,.arr 250 3 (emb SS) 0),(3,.arr 255 1 (emb LL) 0)]
def QFh (pe:List (Nat × Nat × Nat)) (o1:Qr):Env->Qr->Prop:=Qha [Y2.tmp 4] [0,1,2,3] pe (.iv (.bool true)) o1
theorem Qo3 (p:Qe) (SS LL:List (List IV)) {s:Nat} {e:Env} {o:Qr} (h1:Ev.look e 4=.iv (.bool true)) (h2:Ev.look e s=.loc 0 0) (h3:∀ q∈Jl p SS LL,Qc o q.1=some q.2):QFh [(s,0,0)] (Jl p SS LL) e o:=by
 refine ⟨⟨.iv (.bool true),?_,rfl⟩,fun q hq=>?_,fun q hq=>?_⟩
 ·simp[QzK,Qt6,h1]
 ·have:=h3 q hq
  simp only[QKV,QK2,or_false] at hq;rcases hq with rfl | rfl | rfl | rfl
  ·exact this
  ·refine this.trans ?_
   simp[rnO,rnL,rn,prC,nth]
  ·rw[YL];exact this
  rw[YL];exact this
 grind
theorem Yz (p:Qe) (SS LL:List (List IV)):∀ q∈Jl p SS LL,q.1<4/\Zp q.2=true/\clO ((Jl p SS LL).map (·.1)) q.2=true:=by
 intro q hq;simp only[QKV,QK2,or_false] at hq;rcases hq with rfl | rfl | rfl | rfl
 ·exact ⟨by omega,rfl,by simp[clO,clAL,clA]⟩
 ·exact ⟨by omega,rfl,by simp[clO,clAL,clA,prC]⟩
 ·exact ⟨by omega,rfl,Xw _ _ _ _ _⟩
 ·exact ⟨by omega,rfl,Xw _ _ _ _ _⟩
include hK
omit hK in
theorem Qs2:ZP prog 257 QDe [1]:=⟨_,func257,by kernel_rfl⟩
omit hK in
theorem Qs1:ZP prog 260 QDd [2]:=⟨_,func260,by kernel_rfl⟩
theorem QrD (p:Qe) (c:Qs) (s0 s1 s2:IV) (SS LL:List (List IV)) (hn:SS.length<=1000000) (hg:Gd K 258 [chV c,Xq p.zf] (.agg [s0,s1,s2])) :
  Gh K 257 [.iv (chV c),.loc 0 0,.iv (.ptr (prC p))] (Jl p SS LL) [0] (.iv (.bool true)) (Jl p (SS++[[s0,s1,s2]]) LL):=by
 refine QW [0,1,2,3] [0] [1] [(1,0,0)] Qs2 (by simp[QDe]) (by simp) ?_ ?_ ?_ ?_
 ·exact Yz p _ _
 ·simp[clA]
 ·simp[nth,Qc]
  grind
 ·show WpF _ _ (FnF (QFh [(1,0,0)] (Jl p (SS++[[s0,s1,s2]]) LL))) _ _ _
  simp[prC];refine cK (by simpa using hg) ?_
  simp[prC,-List.map_map,Qv,QJ,QD,Qk];refine ⟨by omega,Qo3 p _ _ rfl rfl fun q hq=>?_⟩
  simp only[QKV,QK2,or_false] at hq;rcases hq with rfl | rfl | rfl | rfl<;>simp[Qc,prC]
def QAL (p:Qe) (lo up:Nat->Int):List IV:=[.sl 2 ((List.range p.zf.length).map fun i=>[.int .i64 (lo i),.int .i64 (up i)])]
theorem QrB (p:Qe) (m:Machine) (hl:m.zd.length<=1000) (hb:m.zk.length<=1000) (ht:p.zf.length<=1000) (lo up:Nat->Int) (hr:∀ i,i<p.zf.length->JA m (tr p i).zm (tr p i).zn=(lo i,up i)) (SS LL:List (List IV)) (hn:LL.length<=1000000) :
  Gh K 260 [.iv (maV m),.iv (.ptr (prC p)),.loc 0 0] (Jl p SS LL) [0] (.iv (.bool true)) (Jl p SS (LL++[QAL p lo up])):=by
 refine QW [0,1,2,3] [0] [2] [(2,0,0)] Qs1 (by simp[QDd]) (by simp) ?_ ?_ ?_ ?_
 ·exact Yz p _ _
 ·simp[clA]
 ·simp[nth,Qc]
  grind
 ·show WpF _ _ (FnF (QFh [(2,0,0)] (Jl p SS (LL++[QAL p lo up])))) _ _ _
  generalize hG:Jl p SS (LL++[QAL p lo up])=G;simp[prC];intro _
  refine Ql (fun i=>[(2,AV.loc 0 0),(3,.iv (.ptr [QV m.zd,.int .i64 m.zr,.int .i64 m.zu,.int .i64 m.zw,XR m.zk,.int .i64 m.zh])),(5,.yo 5 i),(11,.iv (Xq p.zf)),(12,.iv (.int .i64 p.zf.length)),(13,.iv (.int .i64 (i:Nat)))])
   (fun i=>[(0,.box [.loc 1 0]),(1,.box ((prC p).map AV.iv++[.yo 2 SS.length,.yo 3 LL.length])),(2,.arr 250 3 (emb SS) 0),(3,.arr 255 1 (emb LL) 0),(5,.arr 28 2 (emb ((List.range i).map fun i=>[.int .i64 (lo i),.int .i64 (up i)])) 0)]) p.zf.length (fun _=>True) trivial ?_ ?_
  ·intro _
   rw[Qa Qje.eq_1];simp[prC,-List.map_map,Qv,QJ,QD,Qk,QKP];rw[<- hG];refine ⟨by omega,Qo3 p _ _ rfl rfl fun q hq=>?_⟩
   simp only[QKV,QK2,or_false] at hq;rcases hq with rfl | rfl | rfl | rfl<;>simp[Qc,prC,QAL]
  ·intro i hi _ ih
   have hg:=Quf hK m (tr p i).zm (tr p i).zn hl hb;rw[hr i hi] at hg;have htr:=QmL hi;rw[Qa Qje.eq_1];rw[QLf,QK3] at ih;simp at ih;simp[hi,htr,-List.map_map,Qv,QJ,QD,Qk];refine cK (by simpa using hg) ?_
   have hsc:scrL [0,1,2,3,5] ((prC p).map AV.iv++[.yo 2 SS.length,.yo 3 LL.length])=(prC p).map AV.iv++[.yo 2 SS.length,.yo 3 LL.length]:=by simp[prC,scrL,scr]
   simp[hsc,-List.map_map,Qv,QJ,QD,Qk]
   grind
omit hK in
theorem Qvr {p:Qe} (hp:OkP p) {c:Qs} (hc:c∈YT p.zc):OkP { p with zc:=c }/\ZA c.za=0:=by
 rw[qm _ hp.zc] at hc;obtain ⟨e,he,rfl⟩:=QK8.1 hc
 have he':e∈QX p.zc.za:=by
  simp only[Z3,QLw] at he;simpa using he.1
 have hcore:=YI (Zi he').1;refine ⟨⟨QmB hp.zc he',hp.zb,hp.zo,hp.z8,?_,fun i h h'=>?_⟩,QjX hp.zc he'⟩
 ·simp only[Qd4 hcore];exact hp.many
 ·simp only[Qd4 hcore] at h
  have:=hp.zf i h h';simp only[Qd4 hcore,Qd5 hcore];exact this
theorem QfO (p:Qe) (hp:OkP p):∀ (L:List Qs) (SS LL:List (List IV)),(∀ c∈L,c∈YT p.zc)->SS.length+L.length<=1000000 ->
  Y1 prog K 257 [] [.loc 0 0,.iv (.ptr (prC p))] [0] (L.map Qig) (Jl p SS LL) true (Jl p (SS++L.map fun c'=>ZX { p with zc:=c' } (ZH c'.za 0)) LL)
 | [],SS,LL,_,_=>by simpa using Y1.nil _
 | c::L,SS,LL,h,hn=>by
   have hc:=Qvr hp (h c (by simp))
   have hg:=QwD hK { p with zc:=c } hc.1 hc.2
   have ih:=QfO p hp L (SS++[ZX { p with zc:=c } (ZH c.za 0)]) LL (fun c' hc'=>h c' (by simp[hc'])) (by grind)
   refine .next _ _ _ _ _ _ (QrD hK p c _ _ _ SS LL (by simp at hn;omega) hg) (fun q hq=>(Yz p _ _ q hq).2.1) ?_
   simpa[ZX] using ih
theorem QfN (p:Qe) (hp:OkP p) (SS:List (List IV)):∀ (L:List Qm) (LL:List (List IV)),(∀ s∈L,Wt p.zb s)->LL.length+L.length<=1000000 ->
  Y1 prog K 260 [] [.iv (.ptr (prC p)),.loc 0 0] [0] ((L.map (Z6 p.zb)).map Qgm) (Jl p SS LL) true (Jl p SS (LL++L.map fun s=>[.sl 2 (Zq p s)]))
 | [],LL,_,_=>by simpa using Y1.nil _
 | s::L,LL,h,hn=>by
   have hs:=h s (by simp)
   have hm:=Qeg hp.zb hs.1;have ih:=QfN p hp SS L (LL++[[.sl 2 (Zq p s)]]) (fun c' hc'=>h c' (by simp[hc'])) (by grind)
   have htl:=hp.trialsLen;have h1:=hm.len;have h2:=hm.blen
   have hg:=QrB hK p (Z6 p.zb s) (by omega) (by omega) (by omega) (fun i=>QbJ p.zb (tr p i).zm (tr p i).zn s) (fun i=>upS p.zb (tr p i).zm (tr p i).zn s) (fun i hi=>by
    have ht:=hp.trial hi;refine QlJ hp.zb hs ?_;simp only[QaV,inR];have a1:=ht.1;have a2:=ht.2.1;simp only[inR] at a1 a2;simp;omega) SS LL (by simp at hn;omega)
   refine .next _ _ _ _ _ _ hg (fun q hq=>(Yz p _ _ q hq).2.1) ?_
   simpa[QAL,Zq] using ih
theorem QrE (p:Qe) (hp:OkP p):Gh K 256 [.iv (chV p.zc),.clo 257 [] [.loc 0 0,.iv (.ptr (prC p))]] (Jl p [] []) [0] (.iv (.bool true)) (Jl p (QZ p) []):=by
 have hl:=hp.deedsLen;have hs:=hp.zc.slen;have hit:=Qie hK (ZA p.zc.za) p.zc rfl (by omega) (by omega)
 have hr:=QfO hK p hp (YT p.zc) [] [] (fun c hc=>hc) (by
  rw[qm _ hp.zc,QKZ];have:=Qr8 hp.zc;simp;omega)
 rw[QK5,Qes p hp.zc] at hr
 have:=WB hit (by kernel_rfl) (by simp[clAL]) (by simp[clAL,clA]) (fun i hi=>by
  simp at hi;subst hi;exact ⟨_,rfl⟩) (fun q hq=>(Yz p _ _ q hq).2.1) hr
 simpa using this
theorem QrC (p:Qe) (hp:OkP p) (hs:sets p.zb p.zb.zd.length<=1000000) (SS:List (List IV)):Gh K 259 [.iv (maV p.zb),.iv (.int .i64 0),.clo 260 [] [.iv (.ptr (prC p)),.loc 0 0]] (Jl p SS []) [0] (.iv (.bool true)) (Jl p SS (XO p)):=by
 have hit:=QnT hK p.zb.zd.length p.zb 0 (by omega) (QuW hp.zb hs)
 rw[QoJ hp.zb] at hit
 have hr:=QfN hK p hp SS (Q3 p.zb [] p.zb.zd) [] (fun s h=>by
  simp only[Q3,QLw,decide_eq_true_eq] at h;exact h.2) (by
  have:=QaE hp.zb;simp;omega)
 rw[QK5] at hr
 have:=WB hit (by kernel_rfl) (by simp[clAL]) (by simp[clAL,clA]) (fun i hi=>by
  simp at hi;subst hi;exact ⟨_,rfl⟩) (fun q hq=>(Yz p _ _ q hq).2.1) hr
 simpa[XO] using this
omit hK in
theorem QkU (p:Qe) (SS LL SS' LL':List (List IV)) (args0:List AV) (ha:args0.all (clA [0,1,2,3])=true) (o:Qr) (h7:Qc o 7=some (.box [.loc 17 0])) (h17:Qc o 17=some (.box ((prC p).map AV.iv++[.yo 18012 SS.length,.yo 18013 LL.length])))
  (h12:Qc o 18012=some (.arr 250 3 (emb SS) 0)) (h13:Qc o 18013=some (.arr 255 1 (emb LL) 0)):HOk [7,17,18012,18013] args0 o (Jl p SS LL) (Jl p SS' LL'):=by
 refine ⟨by decide,ha,fun q hq=>?_,fun i hi h=>?_,fun q hq=>⟨(Yz p _ _ q hq).1,(Yz p _ _ q hq).2.1⟩⟩
 ·have h1:=Yz p _ _ q hq
  refine ⟨h1.1,?_,h1.2.2,h1.2.1⟩;simp only[QKV,QK2,or_false] at hq;rcases hq with rfl | rfl | rfl | rfl
  ·exact h7
  ·refine h17.trans ?_
   simp[rnO,rnL,rn,prC,nth]
  ·rw[YL];exact h12
  rw[YL];exact h13
 ·simp at hi
  have:i=0\/i=1\/i=2\/i=3:=by omega
  rcases this with rfl | rfl | rfl | rfl<;>simp[Qc] at h
theorem UO (p:Qe) (is:Bool) (hf:QIs p):Gd K 175 [prV p,.bool is] (.xg [if kE p is=0 then .ptr (Un p) else .nilp,.int .i64 (kE p is)]):=by
 refine Qb hK (fk func175 c175 (by kernel_rfl)) (by simp) ?_
 simp;refine cK (by simpa using Qui hK p hf.small) ?_
 by_cases hp:OkP p
 ·cases is
  ·simp[hp,kE]
  have hg1:=QrE hK p hp;have hg2:=QrC hK p hp (hf.sets hp) (QZ p);simp[hp];refine Qj hg1 ?_ ?_ ?_
  ·simp[rn,rnL,nth,prC]
  ·exact QkU p [] [] _ _ _ (by simp[clA,clAL]) _ (by simp[Qc]) (by simp[Qc,prC]) (by simp[Qc,emb]) (by simp[Qc,emb])
  have hrn:rnL (nth [7,17,18012,18013]) ((prC p).map AV.iv++[.yo 2 (QZ p).length,.yo 3 0])=(prC p).map AV.iv++[.yo 18012 (QZ p).length,.yo 18013 0]:=by simp[rnL,rn,prC,nth]
  simp[hrn];refine Qj hg2 ?_ ?_ ?_
  ·simp[rn,rnL,nth,prC]
  ·exact QkU p _ [] _ _ _ (by simp[clA,clAL]) _ (by simp[Qc]) (by simp[Qc,prC]) (by simp[Qc,emb]) (by simp[Qc,emb])
  have hrn2:rnL (nth [7,17,18012,18013]) ((prC p).map AV.iv++[.yo 2 (QZ p).length,.yo 3 (XO p).length])=(prC p).map AV.iv++[.yo 18012 (QZ p).length,.yo 18013 (XO p).length]:=by simp[rnL,rn,prC,nth]
  have hE1:QF p=[]↔QZ p=[]\/XO p=[]:=by
   unfold QF QZ XO;rw[List.flatMap_eq_nil_iff];simp only[List.map_eq_nil_iff];constructor
   ·intro h
    cases hE:Z3 p.zc [] p.zc.za with
    | nil=>exact .inl rfl
    | cons a r=>exact .inr (h a (by rw[hE];simp))
   grind
  have hk:kE p true=if QZ p=[]\/XO p=[] then 3 else 0:=by
   unfold kE
   grind
  have hfile:Un p=prC p++[.sl 3 (QZ p),.sl 1 (XO p)]:=rfl;rw[hk,hfile];generalize QZ p=SS at *;generalize XO p=LL at *;simp[hrn2];cases SS with
  | nil=>simp[prC]
  | cons a r =>
    cases LL with
    | nil=>simp[prC]
    | cons a2 r2 =>
      simp[prC];omega
 simp[hp,kE]
omit hK
theorem Yn {p:Qe} {t:Q5} (h:t∈QF p):okS p.zb t.set:=(QnM h).set
theorem UB (p:Qe):(QZ p).length=(Z3 p.zc [] p.zc.za).length:=by simp[QZ]
theorem Wn (p:Qe):(XO p).length=(Q3 p.zb [] p.zb.zd).length:=by simp[XO]
theorem Wq (p:Qe):(QF p).length=(QZ p).length*(XO p).length:=by
 rw[UB,Wn];unfold QF;generalize Z3 p.zc [] p.zc.za=E;generalize Q3 p.zb [] p.zb.zd=S
 induction E with
 | _=>grind
theorem QnN {p:Qe} {is:Bool} (he:¬ kE p is=0):kL p is=[]:=by
 unfold kL kE at *
 grind
structure Few (p:Qe):Prop where
 fine:QIs p
 ends:OkP p->(Z3 p.zc [] p.zc.za).length<=1000000
 sets:OkP p->(Q3 p.zb [] p.zb.zd).length<=1000000
 all:OkP p->(QF p).length<=100000
include hK
theorem Qis (p:Qe) (is:Bool) (hf:Few p) (g:FuncId) (fs cs:List IV) (B:Q5->Bool) (hg:kE p is=0->∀ t∈QF p,Gd K g (fs++[.agg (ZM p t)]++cs) (.bool (B t))) (hc:callee prog g=true) :
  Gd K 181 [prV p,.bool is,.clo g fs cs] (.xg [.int .i64 (if kE p is=0 then XZ ((kL p is).countP B) (kL p is).length else 0),.int .i64 (kE p is)]):=by
 refine Qb hK (fk func181 QHw (by kernel_rfl)) (by simp) ?_
 have hg63:=UO hK p is hf.fine;simp;refine cK (by simpa using hg63) ?_
 by_cases he:kE p is=0
 ·obtain ⟨hp,_,hk,_⟩:=JE he
  have hg75:=Qip hK p (hf.ends hp) (hf.sets hp) (by have:=hf.all hp;omega) g fs cs B (hg he) hc
  rw[hk];generalize Un p=F at *;simp[he];refine cK (by simpa using hg75) ?_
  simp
 ·simp[he]
theorem Qw3 (p:Qe) (t:Q5) (hp:OkP p) (hs:okS p.zb t.set):Gd K 182 [.agg (ZM p t),.ptr (prC p)] (.bool (decide (p.z8<=(Xn p t:Int)))):=by
 refine Qb hK (fk func182 QHv (by kernel_rfl)) (by simp) ?_
 have hg:=Qit hK p t p.zo hp hs;obtain ⟨v0,v1,v2,v3,hv⟩:∃ v0 v1 v2 v3,ZM p t=[v0,v1,v2,v3]:=⟨_,_,_,_,rfl⟩
 rw[hv] at hg |-;simp[prC];refine cK (by simpa using hg) ?_
 have hnd:nd p p.zo=p:=rfl;simp[hnd]
theorem QwZ (p:Qe) (t:Q5) (hp:OkP p) (hs:okS p.zb t.set):Gd K 189 [.agg (ZM p t),.ptr (prC p)] (.bool (Um p t)):=by
 refine Qb hK (fk func189 QHo (by kernel_rfl)) (by simp) ?_
 have hg:=Qon hK p t p.zo hp hs;obtain ⟨v0,v1,v2,v3,hv⟩:∃ v0 v1 v2 v3,ZM p t=[v0,v1,v2,v3]:=⟨_,_,_,_,rfl⟩
 rw[hv] at hg |-;simp[prC];refine cK (by simpa using hg) ?_
 have hnd:nd p p.zo=p:=rfl;simp[hnd]
theorem Qw1 (p:Qe) (t:Q5) (k:Nat) (hk:k<64) (hp:OkP p) (hs:okS p.zb t.set):Gd K 184 [.agg (ZM p t),.ptr (prC p),.ptr [.int .i64 k]] (.bool (Zu p k t)):=by
 refine Qb hK (fk func184 QHt (by kernel_rfl)) (by simp) ?_
 have hg:=Qir hK p t p.zo hp;have hb:=Qee hp hs (zo:=p.zo) hk;have xc:∀ n,pmN (nd p p.zo) t n<2 ^ 64:=fun n=>Qko hp t n
 have hg2:=Qiq hK (pmN (nd p p.zo) t p.zf.length) k (xc _) hk;have hnd:nd p p.zo=p:=rfl;rw[hb,hnd] at hg2;rw[hnd] at hg;obtain ⟨v0,v1,v2,v3,hv⟩:∃ v0 v1 v2 v3,ZM p t=[v0,v1,v2,v3]:=⟨_,_,_,_,rfl⟩
 rw[hv] at hg |-;simp[prC];refine cK (by simpa using hg) ?_
 simp;refine cK (by simpa using hg2) ?_
 simp
theorem QxE (p:Qe) (hf:Few p):Gd K 100 [prV p] (.xg [.int .i64 (rCond p),.int .i64 (kE p true)]):=by
 refine Qb hK (fk func100 QIp (by kernel_rfl)) (by simp) ?_
 have hg:=Qis hK p true hf 182 [] [.ptr (prC p)] (fun t=>decide (p.z8<=(Xn p t:Int))) (fun he t ht=>by
  have hp:=(JE he).1;simpa using Qw3 hK p t hp (Yn ht)) (by kernel_rfl)
 simp;refine cK (by simpa[prC] using hg) ?_
 simp[rCond]
theorem QxB (p:Qe) (hf:Few p):Gd K 106 [prV p] (.xg [.int .i64 (rGood p),.int .i64 (kE p true)]):=by
 refine Qb hK (fk func106 QIm (by kernel_rfl)) (by simp) ?_
 have hg:=Qis hK p true hf 189 [] [.ptr (prC p)] (Um p) (fun he t ht=>by
  have hp:=(JE he).1;simpa using QwZ hK p t hp (Yn ht)) (by kernel_rfl)
 simp;refine cK (by simpa[prC] using hg) ?_
 simp[rGood]
theorem Qxz (p:Qe) (hf:Few p):Gd K 110 [prV p] (.xg [.int .i64 (if kE p true=0 then (JS p.zb 0 p.zo).1 else 0),.int .i64 (if kE p true=0 then (JS p.zb 0 p.zo).2 else kE p true)]):=by
 refine Qb hK (fk func110 QIk (by kernel_rfl)) (by simp) ?_
 have hg:=UO hK p true hf.fine;have hg2:=QwW hK p.zb 0 p.zo hf.fine.small.zd hf.fine.small.zk;generalize Un p=F at *;simp;refine cK (by simpa using hg) ?_
 by_cases he:kE p true=0
 ·simp[he]
  refine cK (by simpa using hg2) ?_
  simp
 simp[he]
omit hK
theorem QcE (l:List Int) (n0:Int) (hne:l≠[]) (h:∀ x∈l,x<=n0):l.foldl min n0=(span l).1:=by
 cases l with
 | cons a r =>
   have:=h a (by simp)
   show r.foldl min (min n0 a)=r.foldl min a
   grind
 | _=>grind
theorem QcF (l:List Int) (n0:Int) (hne:l≠[]) (h:∀ x∈l,n0<=x):l.foldl max n0=(span l).2:=by
 cases l with
 | cons a r =>
   have:=h a (by simp)
   show r.foldl max (max n0 a)=r.foldl max a
   grind
 | _=>grind
theorem Ue {α β:Type} (f:β->α->β) (b:β) (l:List α) (i:Nat) (h:i<l.length):(l.take (i+1)).foldl f b=f ((l.take i).foldl f b) l[i]:=by
 rw[QKL h,QL4];rfl
include hK
theorem QxD (p:Qe) (link:Int) (hf:Few p):Gd K 102 [prV p,.int .i64 link] (.xg [.int .i64 (rProved p link),.int .i64 (kE p (qk p link))]):=by
 refine Qb hK (fk func102 QIo (by kernel_rfl)) (by simp) ?_
 have hd:=hf.fine.small.za
 have hsl:(Yr p.zc.za).length=(Vn p.zc.za).length:=by
  rw[<- YE];simp[Yr,XW]
 have hwl:(Vn p.zc.za).length<=p.zc.za.length:=Wx ZU p.zc.za 0
 have hg:=Qis hK p (qk p link) hf 184 [] [.ptr (prC p),.ptr [.int .i64 link]] (Zu p link) (fun he t ht=>by
  obtain ⟨hp,his,_⟩:=JE he;have his:=of_decide_eq_true his;simp only[inR] at his;have:=hp.deedsLen;have h1:link=((link.toNat:Nat):Int):=by omega
  rw[h1];simpa using Qw1 hK p t link.toNat (by omega) hp (Yn ht)) (by kernel_rfl)
 have hg67:=Jk hK link 0 ((Vn p.zc.za).length-1);simp;refine cK (by simpa using Qw2 hK p.zc hd) ?_
 have hsl2:=hsl;generalize Yr p.zc.za=S at *;simp[hsl]
 (repeat' first | omega | (with_reducible apply And.intro) | intro _)
 refine cK (by simpa using hg67) ?_
 simp;refine cK (by simpa[prC,qk] using hg) ?_
 simp[rProved,qk]
theorem QBa (p:Qe) (hf:Few p):Gd K 97 [prV p] (.xg [.agg [.int .i64 (rFail p).1,.int .i64 (rFail p).2],.int .i64 (kE p true)]):=by
 refine Qb hK (fk func97 c97 (by kernel_rfl)) (by simp) ?_
 have hg:=UO hK p true hf.fine;have htl:=hf.fine.small.zf;simp;refine cK (by simpa using hg) ?_
 by_cases he:kE p true=0;rotate_left
 ·have hk:kL p true=[]:=QnN he
  simp[he,rFail,hk,span]
 obtain ⟨hp,_,hk,hne⟩:=JE he;have hit:=QnV hK p (hf.ends hp) (hf.sets hp);have hset:∀ t∈QF p,okS p.zb t.set:=fun t ht=>Yn ht
 have hg65:∀ t∈QF p,Gd K 180 [.agg (ZM p t),.int .i64 p.zo] (.int .i64 (Xn p t:Nat)):=fun t ht=>Qit hK p t p.zo hp (hset t ht)
 have hmin:=QcE ((QF p).map fun t=>(Xn p t:Int)) p.zf.length (by simpa using hne) (fun x hx=>by
  obtain ⟨t,_,rfl⟩:=QK8.1 hx;have:=QkW p t;omega)
 have hmax:=QcF ((QF p).map fun t=>(Xn p t:Int)) 0 (by simpa using hne) (fun x hx=>by
  grind)
 have hr:rFail p=span ((QF p).map fun t=>(Xn p t:Int)):=by unfold rFail;rw[hk]
 rw[hr,<- hmin,<- hmax];generalize Un p=F at *;generalize QF p=T at *;simp[he];intro _;refine Q9 (wy:=.fall) (o':=[(2,.box [.iv (.int .i64 0),.iv (.int .i64 0)]),(6,.box [.iv (.int .i64 ((T.map fun t=>(Xn p t:Int)).foldl min p.zf.length)),.iv (.int .i64 ((T.map fun t=>(Xn p t:Int)).foldl max 0))])]) rfl (by kernel_rfl) hit ?_ ?_
 ·have:=Uy.all (P:=prog) (K:=K) (ps:=[24]) (asn:=QiR) (body:=QpA) (ks:=[1,2,6]) (ids:=[2,6]) (eK:=[(1,.iv (.ptr (prC p))),(2,.loc 2 0),(6,.loc 6 0)]) (T.map (QcB p))
   (fun i=>[(2,.box [.iv (.int .i64 0),.iv (.int .i64 0)]),(6,.box [.iv (.int .i64 (((T.map fun t=>(Xn p t:Int)).take i).foldl min p.zf.length)),.iv (.int .i64 (((T.map fun t=>(Xn p t:Int)).take i).foldl max 0))])]) fun i x hx=>by
   simp only[QKU,QKQ] at hx;obtain ⟨t,ht,rfl⟩:=hx;obtain ⟨xc,hget⟩:=QKN.1 ht;have hgt:=hg65 t (QK4 ht);refine ⟨rfl,?_⟩;rw[Ue _ _ _ i (by simpa using xc),Ue _ _ _ i (by simpa using xc)]
   obtain ⟨v0,v1,v2,v3,hv⟩:∃ v0 v1 v2 v3,ZM p t=[v0,v1,v2,v3]:=⟨_,_,_,_,rfl⟩
   rw[hv] at hgt;simp[QcB,hv,QiR,QpA,prC];refine cK (by simpa using hgt) ?_
   simp[hget,Qdf,Qdg]
  simpa[prC] using this
 simp
end Go.Pf
