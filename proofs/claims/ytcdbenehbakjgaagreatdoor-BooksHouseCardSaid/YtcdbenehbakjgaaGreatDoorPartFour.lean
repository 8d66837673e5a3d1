/- Copies, comparisons, zp is far too much, the reference's checks. -/
import Derived.Test.YtcdbenehbakjgaaGreatDoorPartThree
import Derived.Ground.SlgnProg
import Derived.Shelf.SlicesE.Clone
import Derived.Shelf.SlicesE.Reverse
import Derived.Shelf.SlicesE.Delete
import Derived.Lib.SliceRun
import Derived.Lib.JoinLaws
import Derived.Test.YtcdbenehbakjgaaGreatDoorProg
import Derived.KernelRfl
import Derived.Shelf.Spec.SlicesInsertGrow
import Derived.Shelf.SlIterI.Nil
import Derived.Shelf.SortM.Plain
import Derived.Shelf.SortM.SortNone
import Derived.Ground.GgzProg
import Derived.Ground.SlgmProg
set_option linter.all false
namespace Go.Pf
open Go Go.Ev Go.Proofs Go.RowKit Go.Proofs.Tryz
variable {K:World->Prop} (hK:∀ w w',K w->Below w.heap.size w w'->K w')
set_option maxRecDepth 8000
@[simp] theorem QAD {α:Type} (f:α->List IV) (l:List α):Qe0 (l.map (List.map AV.iv∘f))=some (l.map f):=by
 rw[<- List.map_map];exact Qax _
theorem Qx.ext {a b:Qx} (h0:a.zp=b.zp) (h1:a.pos=b.pos) (h2:a.z7=b.z7) (h3:a.bar=b.bar) (h4:a.z6=b.z6):a=b:=by
 cases a;cases b;simp_all
theorem Xh.ext {a b:Xh} (h0:a.after=b.after) (h1:a.pos=b.pos) (h2:a.z7=b.z7) (h3:a.bar=b.bar) (h4:a.z6=b.z6):a=b:=by
 cases a;cases b;simp_all
theorem ZE.ext {a b:ZE} (h0:a.long=b.long) (h1:a.lo=b.lo) (h2:a.hi=b.hi):a=b:=by
 cases a;cases b;simp_all
theorem QR.ext {a b:QR} (h0:a.zm=b.zm) (h1:a.zn=b.zn) (h2:a.load=b.load) (h3:a.off=b.off):a=b:=by
 cases a;cases b;simp_all
theorem VM.ext {a b:VM} (h0:a.zm=b.zm) (h1:a.zn=b.zn) (h2:a.z8=b.z8):a=b:=by
 cases a;cases b;simp_all
def Q9 {α:Type} (f:α->Int):List α->Int
 | []=>1
 | a::l=>f a*Q9 f l
theorem Qbm {α:Type} (f:α->Int) (l:List α) (a:α):Q9 f (l++[a])=Q9 f l*f a:=by
 induction l with
 | nil=>simp[Q9]
 | cons b l ih=>simp[Q9,ih,Int.mul_assoc]
theorem U7 {α:Type} (f:α->Int) (l:List α) (h:∀ a∈l,1<=f a):1<=Q9 f l:=by
 induction l with
 | nil=>simp[Q9]
 | cons b l ih =>
   have h1:=h b (by simp)
   have h2:=ih fun a ha=>h a (by simp[ha])
   have:=QK7 h1 h2 (by omega) (by omega)
   simp only[Q9];omega
def Xj (l:ZE):Int:=l.hi-l.lo+1
def sets (m:Machine) (i:Nat):Int:=(m.zw-m.zu+1)*Q9 Xj (m.zd.take i)
def ZN (ds:List Qx):Nat:=ds.countP fun d=>decide (d.z7=2)
theorem Qfm (m:Machine) (i:Nat) (h:i<m.zd.length):sets m (i+1)=sets m i*Xj m.zd[i]:=by
 unfold sets;rw[QJV h,Qbm,Int.mul_assoc]
def Qql (m:Machine):Prop:=40<m.zd.length\/40<m.zk.length\/(OkM m/\∃ i,0<i/\i<=m.zd.length/\150<sets m i)
noncomputable instance (m:Machine):Decidable (Qql m):=Classical.propDecidable _
def Qxv (c:Qr):Prop:=40<c.za.length\/40<c.zg.length\/(OkC c/\5<ZN c.za)
noncomputable instance (c:Qr):Decidable (Qxv c):=Classical.propDecidable _
def ways (p:Qf):Int:=sets p.zb p.zb.zd.length*(2 ^ ZN p.zc.za:Nat)
def Qop (p:Qf):Prop:=Qxv p.zc\/Qql p.zb\/40<p.zf.length\/(OkP p/\48<ways p)
noncomputable instance (p:Qf):Decidable (Qop p):=Classical.propDecidable _
theorem Qmx (ds:List Qx) (i:Nat) (h:i<ds.length):ZN (ds.take (i+1))=ZN (ds.take i)+if ds[i].z7=2 then 1 else 0:=by
 unfold ZN;rw[QJV h,QLf]
 grind
theorem Qmw (ds:List Qx) (i:Nat):ZN (ds.take i)<=ZN ds:=by
 conv=>rhs;rw[<- QKU i ds]
 unfold ZN
 grind
theorem Qvi {n:Nat} (h:n<=5):2 ^ n<=32:=by
 have:n=0\/n=1\/n=2\/n=3\/n=4\/n=5:=by omega
 grind
theorem OkM.span {m:Machine} (h:OkM m) {l:ZE} (hl:l∈m.zd):1<=Xj l/\Xj l<=1000:=by
 have:=h.zd l hl;simp[Zd,inR] at this;have h1:=of_decide_eq_true this.1.2;unfold Xj;omega
theorem OkM.sets_pos {m:Machine} (h:OkM m) (i:Nat):1<=sets m i:=by
 have h1:=U7 Xj (m.zd.take i) fun a ha=>(h.span (QKF ha)).1
 have h2:=h.zx;simp only[inR] at h2;have:=QK7 (show (1:Int)<=m.zw-m.zu+1 by omega) h1 (by omega) (by omega)
 unfold sets;omega
include hK
theorem QAW (a b:Qr):Gd K 65 [chV a,chV b] (.bool (decide (a=b))):=by
 refine Qb hK (fk func65 c65 (by kernel_rfl)) (by simp) ?_
 by_cases h1:a.zh=b.zh;rotate_left
 ·have:a≠b:=fun e=>h1 (by rw[e])
  simp[h1,this]
 ·by_cases h2:a.za.length=b.za.length
  ·by_cases h3:a.zg.length=b.zg.length
   ·simp[h1,h2,h3]
    intros;refine Qi (fun i=>[(2,AV.iv (.ptr [QB a.za,Qw a.zg,.int .i64 b.zh])),(3,AV.iv (.ptr [QB b.za,Qw b.zg,.int .i64 b.zh])),(5,AV.iv (IV.int IntKind.i64 (i:Nat)))]) (fun _=>[]) a.za.length (fun i=>a.za.take i=b.za.take i) (by simp) ?_ ?_
    ·intro h
     rw[h2,QJ5,<- h2,QJ5] at h;rw[Qa Qpo.eq_1];simp;intros;refine Qi (fun i=>[(2,AV.iv (.ptr [QB a.za,Qw a.zg,.int .i64 b.zh])),(3,AV.iv (.ptr [QB b.za,Qw b.zg,.int .i64 b.zh])),(6,AV.iv (IV.int IntKind.i64 (i:Nat)))]) (fun _=>[]) a.zg.length (fun i=>a.zg.take i=b.zg.take i) (by simp) ?_ ?_
     ·intro h'
      rw[h3,QJ5,<- h3,QJ5] at h';rw[Qa Qpn.eq_1];have:a=b:=by cases a;cases b;simp_all
      subst this;simp
     intro i hi h ih;have hi':i<b.zg.length:=by omega
     rw[Qa Qpn.eq_1];by_cases e:a.zg[i]=b.zg[i]
     ·simp[hi,hi',e] at ih |-
      intros;refine ⟨by omega,ih ?_⟩
      rw[QJV hi,QJV hi',h,e]
     have hne:a≠b:=fun c=>by grind
     have e':=fun k1 k2 k3 k4 k5=>e (Xh.ext k1 k2 k3 k4 k5)
     simp[hi,hi',hne]
     grind
    intro i hi h ih;have hi':i<b.za.length:=by omega
    rw[Qa Qpo.eq_1];by_cases e:a.za[i]=b.za[i]
    ·simp[hi,hi',e] at ih |-
     intros;refine ⟨by omega,ih ?_⟩
     rw[QJV hi,QJV hi',h,e]
    have hne:a≠b:=fun c=>by grind
    have e':=fun k1 k2 k3 k4 k5=>e (Qx.ext k1 k2 k3 k4 k5)
    simp[hi,hi',hne]
    grind
   have h3':¬ (a.zg.length:Int)=b.zg.length:=by omega
   have:a≠b:=fun e=>h3 (by rw[e])
   simp[h1,h2,h3',this]
  ·have h2':¬ (a.za.length:Int)=b.za.length:=by omega
   have:a≠b:=fun e=>h2 (by rw[e])
   simp[h1,h2',this]
theorem QAV (a b:Machine):Gd K 66 [maV a,maV b] (.bool (decide (a=b))):=by
 refine Qb hK (fk func66 c66 (by kernel_rfl)) (by simp) ?_
 by_cases h1:a.zr=b.zr;rotate_left
 ·have:a≠b:=fun e=>h1 (by rw[e])
  simp[h1,this]
 ·by_cases h2:a.zu=b.zu/\a.zw=b.zw
  ·by_cases h3:a.zh=b.zh
   ·by_cases h4:a.zd.length=b.zd.length
    ·by_cases h5:a.zk.length=b.zk.length
     ·simp[h1,h2.1,h2.2,h3,h4,h5]
      intros;refine Qi (fun i=>[(2,AV.iv (.ptr [QT a.zd,.int .i64 b.zr,.int .i64 b.zu,.int .i64 b.zw,XN a.zk,.int .i64 b.zh])),(3,AV.iv (.ptr [QT b.zd,.int .i64 b.zr,.int .i64 b.zu,.int .i64 b.zw,XN b.zk,.int .i64 b.zh])),(5,AV.iv (IV.int IntKind.i64 (i:Nat)))]) (fun _=>[]) a.zd.length (fun i=>a.zd.take i=b.zd.take i) (by simp) ?_ ?_
      ·intro h
       rw[h4,QJ5,<- h4,QJ5] at h;rw[Qa Qpm.eq_1];simp;intros;refine Qi (fun i=>[(2,AV.iv (.ptr [QT a.zd,.int .i64 b.zr,.int .i64 b.zu,.int .i64 b.zw,XN a.zk,.int .i64 b.zh])),(3,AV.iv (.ptr [QT b.zd,.int .i64 b.zr,.int .i64 b.zu,.int .i64 b.zw,XN b.zk,.int .i64 b.zh])),(6,AV.iv (IV.int IntKind.i64 (i:Nat)))]) (fun _=>[]) a.zk.length (fun i=>a.zk.take i=b.zk.take i) (by simp) ?_ ?_
       ·intro h'
        rw[h5,QJ5,<- h5,QJ5] at h';rw[Qa Qpl.eq_1];have:a=b:=by cases a;cases b;simp_all
        subst this;simp
       intro i hi h ih;have hi':i<b.zk.length:=by omega
       rw[Qa Qpl.eq_1];by_cases e:a.zk[i]=b.zk[i]
       ·simp[hi,hi',e] at ih |-
        intros;refine ⟨by omega,ih ?_⟩
        rw[QJV hi,QJV hi',h,e]
       have hne:a≠b:=fun c=>by grind
       have e':=fun k1 k2 k3 k4=>e (QR.ext k1 k2 k3 k4)
       simp[hi,hi',hne]
       grind
      intro i hi h ih;have hi':i<b.zd.length:=by omega
      rw[Qa Qpm.eq_1];by_cases e:a.zd[i]=b.zd[i]
      ·simp[hi,hi',e] at ih |-
       intros;refine ⟨by omega,ih ?_⟩
       rw[QJV hi,QJV hi',h,e]
      have hne:a≠b:=fun c=>by grind
      have e':=fun k1 k2 k3=>e (ZE.ext k1 k2 k3)
      simp[hi,hi',hne]
      grind
     have h':¬ (a.zk.length:Int)=b.zk.length:=by omega
     have:a≠b:=fun e=>h5 (by rw[e])
     simp[h1,h2.1,h2.2,h3,h4,h',this]
    have h':¬ (a.zd.length:Int)=b.zd.length:=by omega
    have:a≠b:=fun e=>h4 (by rw[e])
    simp[h1,h2.1,h2.2,h3,h',this]
   have:a≠b:=fun e=>h3 (by rw[e])
   simp[h1,h2.1,h2.2,h3,this]
  ·have:a≠b:=fun e=>h2 (by grind)
   by_cases k1:a.zu=b.zu
   ·have k2:¬ a.zw=b.zw:=fun c=>h2 ⟨k1,c⟩
    simp[h1,k1,k2,this]
   ·simp[h1,k1,this]
theorem QBe (a b:Qf):Gd K 33 [prV a,prV b] (.bool (decide (a=b))):=by
 refine Qb hK (fk func33 c33 (by kernel_rfl)) (by simp) ?_
 simp;refine cK (QAW hK a.zc b.zc) ?_;by_cases h1:a.zc=b.zc;rotate_left
 ·have:a≠b:=fun e=>h1 (by rw[e])
  simp[h1,this]
 ·simp[h1]
  refine cK (QAV hK a.zb b.zb) ?_;by_cases h2:a.zb=b.zb;rotate_left
  ·have:a≠b:=fun e=>h2 (by rw[e])
   simp[h1,h2,this]
  ·by_cases h3:a.zf.length=b.zf.length
   ·by_cases h4:a.zo=b.zo
    ·by_cases h5:a.ya=b.ya
     ·simp[h1,h2,h3,h4,h5]
      intros;refine Qi (fun i=>[(2,AV.iv (.ptr [QB b.zc.za,Qw b.zc.zg,.int .i64 b.zc.zh,QT b.zb.zd,.int .i64 b.zb.zr,.int .i64 b.zb.zu,.int .i64 b.zb.zw,XN b.zb.zk,.int .i64 b.zb.zh,Xi a.zf,.int .i64 b.zo,.int .i64 b.ya])),(3,AV.iv (.ptr [QB b.zc.za,Qw b.zc.zg,.int .i64 b.zc.zh,QT b.zb.zd,.int .i64 b.zb.zr,.int .i64 b.zb.zu,.int .i64 b.zb.zw,XN b.zb.zk,.int .i64 b.zb.zh,Xi b.zf,.int .i64 b.zo,.int .i64 b.ya])),(5,AV.iv (IV.int IntKind.i64 (i:Nat)))]) (fun _=>[]) a.zf.length (fun i=>a.zf.take i=b.zf.take i) (by simp) ?_ ?_
      ·intro h
       rw[h3,QJ5,<- h3,QJ5] at h;rw[Qa QpH.eq_1];have:a=b:=by cases a;cases b;simp_all
       subst this;simp
      intro i hi h ih;have hi':i<b.zf.length:=by omega
      rw[Qa QpH.eq_1];by_cases e:a.zf[i]=b.zf[i]
      ·simp[hi,hi',e] at ih |-
       intros;refine ⟨by omega,ih ?_⟩
       rw[QJV hi,QJV hi',h,e]
      have hne:a≠b:=fun c=>by grind
      have e':=fun k1 k2 k3=>e (VM.ext k1 k2 k3)
      simp[hi,hi',hne]
      grind
     have:a≠b:=fun e=>h5 (by rw[e])
     simp[h1,h2,h3,h4,h5,this]
    have:a≠b:=fun e=>h4 (by rw[e])
    simp[h1,h2,h3,h4,this]
   ·have h':¬ (a.zf.length:Int)=b.zf.length:=by omega
    have:a≠b:=fun e=>h3 (by rw[e])
    simp[h1,h2,h',this]
theorem QnW (m:Machine) (hl:m.zd.length<=1000) (hb:m.zk.length<=1000):Gd K 36 [maV m] (.int .i64 (if OkM m then 0 else 30)):=by
 refine Qb hK Quu (by simp) ?_
 have no:∀ q:Prop,(OkM m->q)->¬ q->¬ OkM m:=fun q h1 h2 h=>h2 (h1 h)
 by_cases h1:m.zd.length<=3;rotate_left
 ·have h1':(3:Int)<m.zd.length:=by omega
  have:=no _ OkM.len h1;simp[h1',this]
 ·have h1':¬ (3:Int)<m.zd.length:=by omega
  simp[h1'];intros;refine cK (VE hK _ _ _) ?_;by_cases h3:inR m.zr 0 9999;rotate_left
  ·have:=no _ OkM.zr h3
   simp[h3,this]
  ·simp[h3]
   refine cK (VE hK _ _ _) ?_;by_cases h4:inR m.zu 0 m.zw;rotate_left
   ·have:=no _ OkM.zx h4
    simp[h4,this]
   ·by_cases h5:m.zw<=20
    ·have h5':¬ 20<m.zw:=by omega
     by_cases h6:m.zk.length<=6;rotate_left
     ·have h6':(6:Int)<m.zk.length:=by omega
      have:=no _ OkM.blen h6;simp[h4,h5',h6',this]
     have h6':¬ (6:Int)<m.zk.length:=by omega
     simp[h4,h5',h6'];intros;refine cK (VE hK _ _ _) ?_;by_cases h8:inR m.zh 0 6;rotate_left
     ·have:=no _ OkM.zh h8
      simp[h8,this]
     simp[h8];refine Qi (fun i=>[(1,AV.iv (.ptr [QT m.zd,.int .i64 m.zr,.int .i64 m.zu,.int .i64 m.zw,XN m.zk,.int .i64 m.zh])),(3,AV.iv (IV.int IntKind.i64 (i:Nat)))]) (fun _=>[]) m.zd.length (fun i=>∀ l∈m.zd.take i,Zd l=false) (by simp) ?_ ?_
     ·intro h2
      rw[QJ5] at h2;rw[Qa QpC.eq_1];simp;intros;refine Qi (fun i=>[(1,AV.iv (.ptr [QT m.zd,.int .i64 m.zr,.int .i64 m.zu,.int .i64 m.zw,XN m.zk,.int .i64 m.zh])),(4,AV.iv (IV.int IntKind.i64 (i:Nat)))]) (fun _=>[]) m.zk.length (fun i=>∀ l∈m.zk.take i,XU l=false) (by simp) ?_ ?_
      ·intro h7
       rw[QJ5] at h7;have:OkM m:=⟨h1,h2,h3,h4,h5,h6,h7,h8⟩;rw[Qa QpB.eq_1];simp[this]
      intro i hi h ih;rw[Qa QpB.eq_1];simp[hi] at ih |-;intros;refine cK (QnU hK _ _ _) ?_;by_cases k1:inR m.zk[i].zm 0 9999/\inR m.zk[i].zn 0 99/\inR m.zk[i].load 0 999999999
      ·simp[k1]
       refine cK (VE hK _ _ _) ?_;by_cases k2:inR m.zk[i].off 0 999999999
       ·simp[k2]
        refine ⟨by omega,ih ?_⟩
        rw[QJV hi];intro l hl;rcases QKa.1 hl with hl | hl
        ·exact h l hl
        rw[QKs.1 hl];simp[XU,k1,k2]
       have:=no _ (fun hh=>hh.zk _ (QJ1 hi)) (by simp[XU,k2])
       simp[k2,this]
      have:=no _ (fun hh=>hh.zk _ (QJ1 hi)) (by simp only[XU];grind)
      simp[k1,this]
     intro i hi h ih;rw[Qa QpC.eq_1];simp[hi] at ih |-;intros;refine cK (VE hK _ _ _) ?_;by_cases k1:inR m.zd[i].long 1 1000;rotate_left
     ·have:=no _ (fun hh=>hh.zd _ (QJ1 hi)) (by simp[Zd,k1])
      simp[k1,this]
     simp[k1,hi];refine cK (VE hK _ _ _) ?_;by_cases k2:inR m.zd[i].lo 1 m.zd[i].hi
     ·by_cases k3:m.zd[i].hi<=1000
      ·have k3':¬ 1000<m.zd[i].hi:=by omega
       simp[k2,k3',hi];refine ⟨by omega,ih ?_⟩
       rw[QJV hi];intro l hl;rcases QKa.1 hl with hl | hl
       ·exact h l hl
       rw[QKs.1 hl];simp[Zd,k1,k2,k3]
      have k3':1000<m.zd[i].hi:=by omega
      have:=no _ (fun hh=>hh.zd _ (QJ1 hi)) (by simp[Zd,k3])
      simp[k2,k3',hi,this]
     have:=no _ (fun hh=>hh.zd _ (QJ1 hi)) (by simp[Zd,k2])
     simp[k2,this]
    ·have h5':20<m.zw:=by omega
     have:=no _ OkM.zw h5;simp[h4,h5',this]
theorem Qoh (p:Qf) (hs:QjC p):Gd K 16 [prV p] (.int .i64 (if OkP p then 0 else 60)):=by
 refine Qb hK Qux (by simp) ?_
 have no:∀ q:Prop,(OkP p->q)->¬ q->¬ OkP p:=fun q h1 h2 h=>h2 (h1 h)
 simp;refine cK (QnX hK p.zc hs.za hs.zg) ?_;by_cases h1:OkC p.zc;rotate_left
 ·have:=no _ OkP.zc h1
  simp[h1,this]
 ·simp[h1]
  refine cK (QnW hK p.zb hs.zd hs.zk) ?_;by_cases h2:OkM p.zb;rotate_left
  ·have:=no _ OkP.zb h2
   simp[h2,this]
  ·simp[h2]
   refine cK (Qdk hK _ _ _) ?_;by_cases h3:inR p.zo 0 999999999;rotate_left
   ·have:=no _ OkP.zo h3
    simp[h3,this]
   ·simp[h3]
    refine cK (Qdk hK _ _ _) ?_;by_cases h4:inR p.ya 1 12;rotate_left
    ·have:=no _ OkP.ya h4
     simp[h4,this]
    ·simp[h4]
     refine cK (Qub hK p.zc hs.za) ?_;have hpl:=U5 p.zc.za;have hpv:XQ QX p.zc.za 0=pv p.zc.za:=rfl;rw[hpv];by_cases h5:p.zf.length=(pv p.zc.za).length;rotate_left
     ·have h5':¬ ((pv p.zc.za).length:Int)=p.zf.length:=by omega
      have:=no _ OkP.many h5;simp[h5',this]
     ·simp[h5]
      intros;have h90:=QBa hK p.zc hs.za;have hEl:(p.zc.za.map fun d=>d.z7.tmod 2).length=p.zc.za.length:=by simp
      generalize (p.zc.za.map fun d=>d.z7.tmod 2)=E at h90 hEl
      refine cK h90 ?_;simp;refine cK (QBc hK p.zc E h1.za hs.za (by omega)) ?_
      simp;refine Qi (fun i=>[(1,AV.iv (.ptr [QB p.zc.za,Qw p.zc.zg,.int .i64 p.zc.zh,QT p.zb.zd,.int .i64 p.zb.zr,.int .i64 p.zb.zu,.int .i64 p.zb.zw,XN p.zb.zk,.int .i64 p.zb.zh,Xi p.zf,.int .i64 p.zo,.int .i64 p.ya])),(3,AV.iv (Xc (pv p.zc.za))),(4,AV.iv (QxU (QiA p.zc.za (QN E) p.zc.za.length))),(5,AV.iv (IV.int IntKind.i64 (i:Nat)))]) (fun _=>[]) p.zf.length (fun i=>∀ k (h:k<(pv p.zc.za).length) (h':k<p.zf.length),k<i->XW p.zf[k] (cnt p.zc.za (pv p.zc.za)[k])) (by simp) ?_ ?_
      ·intro h
       have:OkP p:=⟨h1,h2,h3,h4,h5,fun i h1 h2=>h i h1 h2 h2⟩
       rw[Qa QpS.eq_1];simp[this]
      ·intro i hi h ih
       have hi':i<(pv p.zc.za).length:=by omega
       have xd:=QfN hi';have hb:=h1.za.cnt (pv p.zc.za)[i] (by omega) (by omega)
       have hcg:=QaF p.zc.za (QN E) p.zc.za.length (pv p.zc.za)[i] (by omega)
       have hcl:=Xo (QN E) h1.za (pv p.zc.za)[i] (by omega) (by omega)
       rw[Qa QpS.eq_1];by_cases k:XW p.zf[i] (cnt p.zc.za (pv p.zc.za)[i])
       ·have ih':=ih (fun k' h1' h2' hk=>by
         grind)
        simp[hi,hi'] at ih' |-;intros;refine cK (QnU hK _ _ _) ?_;have k1:=k.1;have k2:=k.2.1;have hz:inR 0 0 999999999:=by simp[inR]
        have hlt1:(pv p.zc.za)[i]<p.zc.za.length+1:=by omega
        simp[k1,k2,hz,hi',hlt1,hcg,hcl];have k3:=k.2.2
        (repeat' first | omega | (with_reducible apply And.intro) | intro _)
        refine cK (Qdk hK _ _ _) ?_;simp[k3]
        grind
       ·have:=no _ (fun hh=>hh.zf i hi' hi) k
        simp[hi,hi',this];intros;refine cK (QnU hK _ _ _) ?_;by_cases kk:inR p.zf[i].zm 0 9999/\inR p.zf[i].zn 0 99/\inR 0 0 999999999
        ·have hlt1:(pv p.zc.za)[i]<p.zc.za.length+1:=by omega
         simp[kk,hi',hlt1,hcg,hcl]
         (repeat' first | omega | (with_reducible apply And.intro) | intro _)
         refine cK (Qdk hK _ _ _) ?_;have k3:¬ inR p.zf[i].z8 (-1) (cnt p.zc.za (pv p.zc.za)[i]-1):=fun c=>k ⟨kk.1,kk.2.1,c⟩
         simp[k3]
        ·simp[kk]
theorem QAS (c:Qr):Gd K 72 [chV c] (.bool (decide (Qxv c))):=by
 have hd:decide (Qxv c)=decide (40<c.za.length\/40<c.zg.length\/(OkC c/\5<ZN c.za)):=by
  by_cases h:Qxv c
  ·rw[decide_eq_true h];exact (decide_eq_true (p:=40<c.za.length\/40<c.zg.length\/(OkC c/\5<ZN c.za)) h).symm
  rw[decide_eq_false h];exact (decide_eq_false (p:=40<c.za.length\/40<c.zg.length\/(OkC c/\5<ZN c.za)) h).symm
 rw[hd];refine Qb hK (fk func72 c72 (by kernel_rfl)) (by simp) ?_
 by_cases h1:c.za.length<=40;rotate_left
 ·have h1':(40:Int)<c.za.length:=by omega
  have h1'':40<c.za.length:=by omega
  simp[h1',h1'']
  try omega
 ·by_cases h2:c.zg.length<=40
  ·have h1':¬ (40:Int)<c.za.length:=by omega
   have h2':¬ (40:Int)<c.zg.length:=by omega
   have h1'':¬ 40<c.za.length:=by omega
   have h2'':¬ 40<c.zg.length:=by omega
   simp[h1',h2',h1'',h2''];intros;refine cK (QnX hK c (by omega) (by omega)) ?_
   by_cases h3:OkC c;rotate_left
   ·simp[h3]
   simp[h3];refine Qi (fun i=>[(1,AV.iv (.ptr [QB c.za,Qw c.zg,.int .i64 c.zh])),(3,AV.iv (IV.int IntKind.i64 (ZN (c.za.take i):Nat))),(4,AV.iv (IV.int IntKind.i64 (i:Nat)))]) (fun _=>[]) c.za.length (fun i=>True) trivial ?_ ?_
   ·intro _
    rw[Qa Qpj.eq_1];simp;omega
   intro i hi _ ih
   have hb:ZN (c.za.take i)<=i:=by
    have:=QKQ (p:=fun d:Qx=>decide (d.z7=2)) (l:=c.za.take i)
    simp at this;unfold ZN;omega
   rw[Qa Qpj.eq_1]
   have hc:ZN (c.za.take (i+1))=ZN (c.za.take i)+if c.za[i].z7=2 then 1 else 0:=by
    unfold ZN;rw[QJV hi,QLf]
    grind
   rw[hc] at ih;by_cases e:c.za[i].z7=2
   ·simp[hi,e] at ih |-
    grind
   simp[hi,e] at ih |-
   grind
  ·have h1':¬ (40:Int)<c.za.length:=by omega
   have h2':(40:Int)<c.zg.length:=by omega
   have h2'':40<c.zg.length:=by omega
   simp[h1',h2',h2'']
   try omega
theorem QAR (m:Machine):Gd K 73 [maV m] (.bool (decide (Qql m))):=by
 refine Qb hK (fk func73 c73 (by kernel_rfl)) (by simp) ?_
 by_cases h1:m.zd.length<=40;rotate_left
 ·have h1':(40:Int)<m.zd.length:=by omega
  have:Qql m:=.inl (by omega)
  simp[h1',this]
 ·by_cases h2:m.zk.length<=40
  ·have h1':¬ (40:Int)<m.zd.length:=by omega
   have h2':¬ (40:Int)<m.zk.length:=by omega
   simp[h1',h2'];intros;refine cK (QnW hK m (by omega) (by omega)) ?_
   by_cases h3:OkM m;rotate_left
   ·have:¬ Qql m:=by
     rintro (h | h | ⟨h,_⟩)
     all_goals grind
    simp[h3,this]
   have h4:=h3.zx;have h5:=h3.zw;simp only[inR] at h4;simp[h3]
   (repeat' first | omega | (with_reducible apply And.intro) | intro _)
   have e0:m.zw-m.zu+1=sets m 0:=by simp[sets,Q9]
   rw[e0];refine Qi (fun i=>[(1,AV.iv (.ptr [QT m.zd,.int .i64 m.zr,.int .i64 m.zu,.int .i64 m.zw,XN m.zk,.int .i64 m.zh])),(3,AV.iv (IV.int IntKind.i64 (sets m i))),(4,AV.iv (IV.int IntKind.i64 (i:Nat)))]) (fun _=>[]) m.zd.length (fun i=>sets m i<=150/\∀ k,0<k->k<=i->sets m k<=150) ⟨by rw[<- e0];omega,fun k h h'=>by omega⟩ ?_ ?_
   ·intro ⟨_,h⟩
    have:¬ Qql m:=by
     rintro (h | h | ⟨_,k,hk,hk',hk2⟩)
     all_goals grind
    rw[Qa Qpi.eq_1];simp[this]
   intro i hi ⟨hq,xg⟩ ih;have hs:=h3.span (QJ1 hi);have hss:=Qfm m i hi;have hp:=h3.sets_pos i;have hb:sets m i*Xj m.zd[i]<=150*1000:=QK7 hq hs.2 (by omega) (by omega)
   have hb':0<=sets m i*Xj m.zd[i]:=QKY (by omega) (by omega)
   have hsp:Xj m.zd[i]=m.zd[i].hi-m.zd[i].lo+1:=rfl;have hlv:=h3.zd _ (QJ1 hi);simp[Zd] at hlv;have hlv1:=hlv.1.2;have hlv2:=hlv.2;simp only[inR] at hlv1;rw[Qa Qpi.eq_1];rw[hss,hsp] at ih;simp only[hsp] at hb hb' hss;by_cases hg:150<sets m i*(m.zd[i].hi-m.zd[i].lo+1)
   ·have hex:Qql m:=.inr (.inr ⟨h3,i+1,by omega,by omega,by rw[hss];exact hg⟩)
    simp[hi,hg,hex];omega
   have:=ih ⟨by omega,fun k hk hk'=>by
    grind⟩
   simp[hi,hg] at this |-
   grind
  ·have h1':¬ (40:Int)<m.zd.length:=by omega
   have h2':(40:Int)<m.zk.length:=by omega
   have:Qql m:=.inr (.inl (by omega))
   simp[h1',h2',this]
theorem QA7 (p:Qf):Gd K 45 [prV p] (.bool (decide (Qop p))):=by
 refine Qb hK (fk func45 c45 (by kernel_rfl)) (by simp) ?_
 simp;refine cK (QAS hK p.zc) ?_;by_cases h1:Qxv p.zc
 ·have:Qop p:=.inl h1
  simp[h1,this]
 ·simp[h1]
  refine cK (QAR hK p.zb) ?_;by_cases h2:Qql p.zb
  ·have:Qop p:=.inr (.inl h2)
   simp[h2,this]
  ·by_cases h3:p.zf.length<=40
   ·have h3':¬ (40:Int)<p.zf.length:=by omega
    simp[h2,h3'];intros;have g1:p.zc.za.length<=40:=QK2.1 fun c=>h1 (.inl c)
    have g2:p.zc.zg.length<=40:=QK2.1 fun c=>h1 (.inr (.inl c))
    have g3:p.zb.zd.length<=40:=QK2.1 fun c=>h2 (.inl c)
    have g4:p.zb.zk.length<=40:=QK2.1 fun c=>h2 (.inr (.inl c))
    refine cK (Qoh hK p ⟨by omega,by omega,by omega,by omega,by omega⟩) ?_
    by_cases h4:OkP p;rotate_left
    ·have:¬ Qop p:=by
      rintro (h | h | h | h)
      all_goals grind
     simp[h4,this]
    have k4:=h4.zb.zx;have k5:=h4.zb.zw;simp only[inR] at k4;have hlen:=h4.zb.len;have htw:ZN p.zc.za<=5:=QK2.1 fun c=>h1 (.inr (.inr ⟨h4.zc,c⟩))
    have hset:∀ i,i<=p.zb.zd.length->sets p.zb i<=150:=fun i hi=>by
     rcases QLs i with rfl | hp
     ·simp[sets,Q9];omega
     exact Int.not_lt.1 fun c=>h2 (.inr (.inr ⟨h4.zb,i,hp,hi,c⟩))
    simp[h4]
    (repeat' first | omega | (with_reducible apply And.intro) | intro _)
    have e0:p.zb.zw-p.zb.zu+1=sets p.zb 0:=by simp[sets,Q9]
    rw[e0];refine Qi (fun i=>[(1,AV.iv (.ptr [QB p.zc.za,Qw p.zc.zg,.int .i64 p.zc.zh,QT p.zb.zd,.int .i64 p.zb.zr,.int .i64 p.zb.zu,.int .i64 p.zb.zw,XN p.zb.zk,.int .i64 p.zb.zh,Xi p.zf,.int .i64 p.zo,.int .i64 p.ya])),(3,AV.iv (IV.int IntKind.i64 (sets p.zb i))),(4,AV.iv (IV.int IntKind.i64 (i:Nat)))]) (fun _=>[]) p.zb.zd.length (fun i=>True) trivial ?_ ?_
    ·intro _
     rw[Qa Qpv.eq_1];simp
     (repeat' first | omega | (with_reducible apply And.intro) | intro _)
     have e1:sets p.zb p.zb.zd.length=sets p.zb p.zb.zd.length*(2 ^ ZN (p.zc.za.take 0):Nat):=by simp[ZN]
     rw[e1];refine Qi (fun i=>[(1,AV.iv (.ptr [QB p.zc.za,Qw p.zc.zg,.int .i64 p.zc.zh,QT p.zb.zd,.int .i64 p.zb.zr,.int .i64 p.zb.zu,.int .i64 p.zb.zw,XN p.zb.zk,.int .i64 p.zb.zh,Xi p.zf,.int .i64 p.zo,.int .i64 p.ya])),(3,AV.iv (IV.int IntKind.i64 (sets p.zb p.zb.zd.length*(2 ^ ZN (p.zc.za.take i):Nat)))),(5,AV.iv (IV.int IntKind.i64 (i:Nat)))]) (fun _=>[]) p.zc.za.length (fun i=>True) trivial ?_ ?_
     ·intro _
      rw[Qa Qpu.eq_1]
      have:Qop p↔48<ways p:=⟨fun h=>by
       rcases h with h | h | h | h
       all_goals grind,fun h=>.inr (.inr (.inr ⟨h4,h⟩))⟩
      rw[QJ5];by_cases hw:48<ways p
      ·have hf:=this.2 hw
       unfold ways at hw;generalize sets p.zb p.zb.zd.length*(2 ^ ZN p.zc.za:Nat)=W at *;simp[hf,hw]
      have hf:¬ Qop p:=fun c=>hw (this.1 c)
      unfold ways at hw;generalize sets p.zb p.zb.zd.length*(2 ^ ZN p.zc.za:Nat)=W at *;simp[hf,hw]
     intro i hi _ ih;have hpw:=Qvi (QKG (Qmw p.zc.za i) htw);have hs1:=hset _ (QJ2 _);have hs2:=h4.zb.sets_pos p.zb.zd.length;have hb:sets p.zb p.zb.zd.length*(2 ^ ZN (p.zc.za.take i):Nat)<=150*32:=QK7 hs1 (Int.ofNat_le.2 hpw) (QLA _) (by omega)
     have hb':0<=sets p.zb p.zb.zd.length*(2 ^ ZN (p.zc.za.take i):Nat):=QKY (by omega) (QLA _)
     rw[Qa Qpu.eq_1];rw[Qmx _ _ hi] at ih;by_cases e:p.zc.za[i].z7=2
     ·have e2:sets p.zb p.zb.zd.length*(2 ^ (ZN (p.zc.za.take i)+1):Nat)=sets p.zb p.zb.zd.length*(2 ^ ZN (p.zc.za.take i):Nat)*2:=by
       grind
      rw[if_pos e,e2] at ih;generalize sets p.zb p.zb.zd.length*(2 ^ ZN (p.zc.za.take i):Nat)=W at *;simp[hi,e] at ih |-
      grind
     rw[if_neg e,QKT] at ih;generalize sets p.zb p.zb.zd.length*(2 ^ ZN (p.zc.za.take i):Nat)=W at *;simp[hi,e] at ih |-
     grind
    intro i hi _ ih;have hs:=h4.zb.span (QJ1 hi);have hss:=Qfm p.zb i hi;have hp:=h4.zb.sets_pos i;have hb:sets p.zb i*Xj p.zb.zd[i]<=150*1000:=QK7 (hset i (by omega)) hs.2 (by omega) (by omega)
    have hb':0<=sets p.zb i*Xj p.zb.zd[i]:=QKY (by omega) (by omega)
    have hsp:Xj p.zb.zd[i]=p.zb.zd[i].hi-p.zb.zd[i].lo+1:=rfl;have hlv:=h4.zb.zd _ (QJ1 hi);simp[Zd] at hlv;have hlv1:=hlv.1.2;have hlv2:=hlv.2;simp only[inR] at hlv1;rw[Qa Qpv.eq_1];rw[hss,hsp] at ih;simp only[hsp] at hb hb' hss;simp[hi] at ih |-
    grind
   ·have h3':(40:Int)<p.zf.length:=by omega
    have:Qop p:=.inr (.inr (.inl (by omega)))
    simp[h2,h3',this]
omit hK
def d0:Qx:=⟨0,0,0,0,0⟩
def Vj (ds:List Qx):List Nat:=XQ ZS ds 0
def Qeb (ds:List Qx) (k:Nat):Qx:=ds.getD ((Vj ds).getD k 0) d0
theorem Qqy {ds:List Qx} {j:Nat} (h:j∈Vj ds):j<ds.length:=by
 have:=JV ZS ds 0 j h;omega
theorem QjJ (ds:List Qx) (i:Nat):wn ds i<=(Vj ds).length:=by
 unfold wn Vj
 conv=>rhs;rw[<- QKU i ds,X2]
 simp
def Qj2 (ds:List Qx) (s:Xh) (now:List Nat):Bool :=
 (decide (s.bar<0)||decide (s.bar=(Qeb ds (now.getD (plc s.pos s.z7 now.length) 0)).bar)) &&
 (decide (s.z6<0)||decide (s.z6=(Qeb ds (now.getD (plc s.pos s.z7 now.length) 0)).z6))
def QcZ (ds:List Qx) (e:Nat->Int) (s:Xh):Bool:=Qj2 ds s (cab ds e s.after.toNat)
def Zf (ds:List Qx) (ss:List Xh) (e:Nat->Int):Nat:=ss.countP fun s=>!QcZ ds e s
theorem Qe4 (ds:List Qx) (ss:List Xh) (e:Nat->Int) (i:Nat) (h:i<ss.length):Zf ds (ss.take (i+1)) e=Zf ds (ss.take i) e+if QcZ ds e ss[i] then 0 else 1:=by
 unfold Zf;rw[QJV h,QLf]
 grind
theorem QcH (ds:List Qx) (ss:List Xh) (e:Nat->Int):Zf ds ss e<=ss.length:=QKQ
def QCF (ds:List Qx) (ends:List Int):Prop:=ends.length=ds.length/\∀ i (h:i<ds.length) (h':i<ends.length),inR ends[i] 0 1/\(ds[i].z7<2->ends[i]=ds[i].z7)
noncomputable instance (ds:List Qx) (ends:List Int):Decidable (QCF ds ends):=Classical.propDecidable _
def Qt1 (c:Qr) (ends:List Int):Prop:=QCF c.za ends/\(Zf c.za c.zg (QN ends):Int)<=c.zh
noncomputable instance (c:Qr) (ends:List Int):Decidable (Qt1 c ends):=Classical.propDecidable _
structure Ql where
 zy:List Int
 zx:Int
 deriving DecidableEq
structure Q1 where
 ends:List Int
 set:Ql
 deriving DecidableEq
@[simp] def seC (s:Ql):List IV:=[QW s.zy,.int .i64 s.zx]
@[simp] def tuC (t:Q1):List IV:=[QW t.ends,QW t.set.zy,.int .i64 t.set.zx]
def okS (m:Machine) (s:Ql):Prop:=s.zy.length=m.zd.length/\inR s.zx m.zu m.zw/\∀ i (h:i<m.zd.length) (h':i<s.zy.length),inR s.zy[i] m.zd[i].lo m.zd[i].hi
noncomputable instance (m:Machine) (s:Ql):Decidable (okS m s):=Classical.propDecidable _
def Uv (m:Machine) (zx w mn:Int):Int:=w+max 0 (m.zr-mn*zx)
def Vg (m:Machine):Int:=Q9 (·.long) m.zd
def den (s:Ql):Int:=Q9 id s.zy
def num (m:Machine) (s:Ql) (w mn:Int):Int:=Uv m s.zx w mn*Vg m
theorem Qlw {α:Type} (f:α->Int) (l:List α) (i:Nat) (h:i<l.length):Q9 f (l.take (i+1))=Q9 f (l.take i)*f l[i]:=by
 rw[QJV h,Qbm]
theorem Qj6 {α:Type} (f:α->Int):∀ (l:List α),(∀ a∈l,1<=f a/\f a<=1000)->1<=Q9 f l/\Q9 f l<=(1000 ^ l.length:Nat)
 | [],_=>by simp[Q9]
 | a::l,h=>by
   have h1:=h a (by simp)
   have h2:=Qj6 f l fun a ha=>h a (by simp[ha])
   have h3:=QK7 h1.1 h2.1 (by omega) (by omega)
   have h4:=QK7 h1.2 h2.2 (by omega) (by omega)
   simp only[Q9,QKk];omega
theorem Qvj {n:Nat} (h:n<=3):1000 ^ n<=1000000000:=by
 have:n=0\/n=1\/n=2\/n=3:=by omega
 grind
theorem Qbl {α:Type} (f:α->Int) (l:List α) (h:∀ a∈l,1<=f a/\f a<=1000) (hl:l.length<=3):1<=Q9 f l/\Q9 f l<=1000000000:=by
 have h1:=Qj6 f l h;have h2:=Qvj hl;omega
theorem OkM.lever {m:Machine} (h:OkM m) {l:ZE} (hl:l∈m.zd):(1<=l.long/\l.long<=1000)/\1<=l.lo/\l.lo<=l.hi/\l.hi<=1000:=by
 have:=h.zd l hl;simp[Zd] at this;simp only[inR] at this;omega
theorem OkM.bal {m:Machine} (h:OkM m) {b:QR} (hl:b∈m.zk):inR b.zm 0 9999/\inR b.zn 0 99/\inR b.load 0 999999999/\inR b.off 0 999999999:=by
 have:=h.zk b hl;simp[XU] at this
 grind
theorem OkM.zq {m:Machine} (h:OkM m) {zx w mn:Int} (hl:inR zx m.zu m.zw) (hw:inR w 0 9999) (hm:inR mn 0 99):(0<=mn*zx/\mn*zx<=1980)/\0<=Uv m zx w mn/\Uv m zx w mn<=19998:=by
 have h1:=h.zx;have h2:=h.zw;have h3:=h.zr;simp only[inR] at *;have h4:=QKY (a:=mn) (b:=zx) (by omega) (by omega)
 have h5:=QK7 (show mn<=99 by omega) (show zx<=20 by omega) (by omega) (by omega)
 unfold Uv;omega
theorem OkM.longs {m:Machine} (h:OkM m) (i:Nat):1<=Q9 (·.long) (m.zd.take i)/\Q9 (·.long) (m.zd.take i)<=1000000000 :=
 Qbl _ _ (fun a ha=>(h.lever (QKF ha)).1) (by have:=h.len;simp;omega)
theorem OkM.zy {m:Machine} (h:OkM m) {s:Ql} (hs:okS m s) (i:Nat):1<=Q9 id (s.zy.take i)/\Q9 id (s.zy.take i)<=1000000000 :=
 Qbl _ _ (fun a ha=>by
  obtain ⟨k,hk,rfl⟩:=QKK (QKF ha);have h1:=hs.2.2 k (by rw[<- hs.1];exact hk) hk
  have h2:=h.lever (QJ1 (show k<m.zd.length by grind))
  simp only[inR,id] at *;omega) (by have:=h.len;have:=hs.1;simp;omega)
theorem OkM.aboveB {m:Machine} (h:OkM m):1<=Vg m/\Vg m<=1000000000:=by
 have:=h.longs m.zd.length
 rwa [QJ5] at this
theorem OkM.denB {m:Machine} (h:OkM m) {s:Ql} (hs:okS m s):1<=den s/\den s<=1000000000:=by
 have:=h.zy hs s.zy.length
 rwa [QJ5] at this
theorem OkM.numB {m:Machine} (h:OkM m) {s:Ql} (hs:okS m s) {w mn:Int} (hw:inR w 0 9999) (hm:inR mn 0 99):0<=num m s w mn/\num m s w mn<=19998000000000:=by
 have h1:=h.aboveB;have h2:=(h.zq hs.2.1 hw hm).2;have h3:=QKY (a:=Uv m s.zx w mn) (b:=Vg m) (by omega) (by omega)
 have h4:=QK7 h2.2 h1.2 (by omega) (by omega)
 unfold num;omega
def QcY (m:Machine) (s:Ql) (b:QR):Bool :=
 decide (num m s b.zm b.zn-b.load*den s<=b.off*den s /\ -(num m s b.zm b.zn-b.load*den s)<=b.off*den s)
def ZV (m:Machine) (bs:List QR) (s:Ql):Nat:=bs.countP fun b=>!QcY m s b
theorem Qe3 (m:Machine) (bs:List QR) (s:Ql) (i:Nat) (h:i<bs.length):ZV m (bs.take (i+1)) s=ZV m (bs.take i) s+if QcY m s bs[i] then 0 else 1:=by
 unfold ZV;rw[QJV h,QLf]
 grind
theorem Qk2 (m:Machine) (bs:List QR) (s:Ql):ZV m bs s<=bs.length:=QKQ
def Wk (m:Machine) (s:Ql):Prop:=okS m s/\(ZV m m.zk s:Int)<=m.zh
noncomputable instance (m:Machine) (s:Ql):Decidable (Wk m s):=Classical.propDecidable _
def Qej (p:Qf) (t:Q1):Prop:=Qt1 p.zc t.ends/\Wk p.zb t.set
noncomputable instance (p:Qf) (t:Q1):Decidable (Qej p t):=Classical.propDecidable _
include hK
omit hK
def t0:VM:=⟨0,0,0⟩
def tr (p:Qf) (i:Nat):VM:=p.zf.getD i t0
theorem Qmy {p:Qf} {i:Nat} (h:i<p.zf.length):p.zf[i]=tr p i:=by simp[tr,List.getD_eq_getElem?_getD,h]
def Zz (p:Qf) (i:Nat) (e:Nat->Int):List Nat:=cab p.zc.za e ((pv p.zc.za).getD i 0)
def QG (p:Qf) (i:Nat) (e:Nat->Int):Int:=if 0<=(tr p i).z8 then ((Zz p i e).getD (tr p i).z8.toNat 0:Nat) else -1
def Vy (p:Qf) (i:Nat) (s:Ql):Int:=num p.zb s (tr p i).zm (tr p i).zn
def X4 (p:Qf) (i:Nat) (t:Q1):Bool:=decide (0<=(tr p i).z8)&&decide (Vy p i t.set<=p.zo*den t.set)
def Xf (p:Qf) (t:Q1):Nat:=(List.range p.zf.length).countP fun i=>X4 p i t
def inN (l:List Nat) (n:Int):Bool:=decide (n∈l.map fun k:Nat=>(k:Int))
def U6 (p:Qf) (link:Int) (t:Q1) (i:Nat):Bool:=decide (p.zo*den t.set<=Vy p i t.set)&&inN (Zz p i (QN t.ends)) link&&!decide (QG p i (QN t.ends)=link)
def Zs (p:Qf) (link:Int) (t:Q1):Bool:=(List.range p.zf.length).any (U6 p link t)
def Jf (p:Qf) (e:Nat->Int):List Nat:=cab p.zc.za e p.zc.za.length
def Ub (p:Qf) (t:Q1):Bool:=((Jf p (QN t.ends)).all fun (k:Nat)=>Zs p k t)&&decide ((Xf p t:Int)<p.ya)
def Qtj (p:Qf) (z6:Int) (t:Q1) (i:Nat):Bool:=X4 p i t&&decide ((Qeb p.zc.za (QG p i (QN t.ends)).toNat).z6=z6)
def Qy1 (p:Qf) (z6:Int) (t:Q1):Bool:=(List.range p.zf.length).any (Qtj p z6 t)
def XV (some many:Int):Int:=if some=many then 1 else if some=0 then 2 else 3
def Qa5 (l:List Int) (lo:Int) (i:Nat):List Int:=((List.range i).map fun j:Nat=>lo+j).filter fun n=>decide (n∈l)
def Jc (l:List Int) (lo hi:Int):List Int:=Qa5 l lo (hi+1-lo).toNat
theorem Qhd (l:List Int) (lo:Int) (i:Nat):(Qa5 l lo i).length<=i:=QKG (QKz _ _) (by simp)
def Qnh (p:Qf) (t:Q1) (k:Nat) (m:Int) (i:Nat):Int :=
 if inN (Zz p i (QN t.ends)) k=true/\¬ QG p i (QN t.ends)=k then max m ((Vy p i t.set).tdiv (den t.set)) else m
def QhH (p:Qf) (t:Q1) (k:Nat) (n:Nat):Int:=(List.range n).foldl (Qnh p t k) (-1)
def QCd (p:Qf) (t:Q1) (now:List Nat):Int:=now.foldl (fun b k=>min b (QhH p t k p.zf.length)) 999999999
def Qb2 (p:Qf) (t:Q1) (i n:Nat):Nat:=(List.range n).countP fun k=>decide (0<=(tr p k).z8)&&decide (Vy p k t.set<=Vy p i t.set)
def QpY (p:Qf) (t:Q1) (b:Int) (i:Nat):Int :=
 if 0<=(tr p i).z8/\p.ya<=(Qb2 p t i p.zf.length:Int) then min b ((Vy p i t.set+den t.set-1).tdiv (den t.set)-1) else b
def Qe8 (p:Qf) (t:Q1):Int:=(List.range p.zf.length).foldl (QpY p t) (QCd p t (Jf p (QN t.ends)))
theorem QlA (p:Qf) (t:Q1) (k n:Nat):QhH p t k (n+1)=Qnh p t k (QhH p t k n) n:=by simp[QhH,QKn]
theorem Qc6 (a b:Int):(if b<a then b else a)=min a b:=by split<;>omega
theorem Qc7 (a b:Int):(if a<b then b else a)=max a b:=by split<;>omega
theorem Qa1 {a b:Int} (h1:0<=a) (h2:1<=b):0<=a.tdiv b/\a.tdiv b<=a:=by
 rw[QKD h1];exact ⟨Int.ediv_nonneg h1 (by omega),Int.ediv_le_self _ h1⟩
structure Fit (p:Qf) (t:Q1):Prop where
 ends:p.zc.za.length<=t.ends.length
 set:okS p.zb t.set
theorem OkP.deedsLen {p:Qf} (h:OkP p):p.zc.za.length<=12:=h.zc.len
theorem OkP.trialsLen {p:Qf} (h:OkP p):p.zf.length<=12:=by
 have:=U5 p.zc.za;have:=h.many;have:=h.deedsLen;omega
theorem OkP.trial {p:Qf} (h:OkP p) {i:Nat} (hi:i<p.zf.length):XW (tr p i) (cnt p.zc.za ((pv p.zc.za).getD i 0)):=by
 have h1:i<(pv p.zc.za).length:=by rw[<- h.many];exact hi
 have:=h.zf i h1 hi;rw[Qmy hi] at this
 grind
theorem OkP.pvGet {p:Qf} (h:OkP p) {i:Nat} (hi:i<p.zf.length):(pv p.zc.za).getD i 0<p.zc.za.length:=by
 have h1:i<(pv p.zc.za).length:=by rw[<- h.many];exact hi
 have:=QfN h1
 grind
theorem OkP.thenLen {p:Qf} (h:OkP p) (e:Nat->Int) {i:Nat} (hi:i<p.zf.length):((Zz p i e).length:Int)=cnt p.zc.za ((pv p.zc.za).getD i 0):=by
 have:=h.pvGet hi;exact Xo e h.zc.za _ (by omega) (by omega)
theorem OkP.brokeIn {p:Qf} (h:OkP p) (e:Nat->Int) {i:Nat} (hi:i<p.zf.length) (hb:0<=(tr p i).z8):∃ xd:(tr p i).z8.toNat<(Zz p i e).length,QG p i e=((Zz p i e)[(tr p i).z8.toNat]:Nat):=by
 have h1:=(h.trial hi).2.2;have h2:=h.thenLen e hi;simp only[inR] at h1;have xd:(tr p i).z8.toNat<(Zz p i e).length:=by omega
 exact ⟨xd,by simp[QG,hb,List.getD_eq_getElem?_getD,xd]⟩
theorem OkP.thenLt {p:Qf} (e:Nat->Int) (i:Nat) {k:Nat} (hk:k∈Zz p i e):k<(Vj p.zc.za).length :=
 QKA (qS _ _ _ k hk) (QjJ _ _)
theorem QkF (p:Qf) (t:Q1):Xf p t<=p.zf.length:=by
 have:=QKQ (p:=fun i=>X4 p i t) (l:=List.range p.zf.length)
 simpa[Xf] using this
theorem QcC (n:Nat) (f:Nat->Bool):(List.range (n+1)).any f=((List.range n).any f||f n):=by grind
include hK
theorem Qn7 (p:Qf) (n:Int) (hs:p.zf.length<=1000):Gd K 205 [prV p,.int .i64 n] (.bool (decide (inR n 0 (p.zf.length-1)))):=by
 refine Qb hK (fk func205 QGO (by kernel_rfl)) (by simp) ?_
 simp
 (repeat' first | omega | (with_reducible apply And.intro) | intro _)
 exact cK (Ji hK _ _ _) (by simp)
omit hK
def Qb5 (d:Qx):List Int:=(if d.z7=0\/d.z7=2 then [0] else [])++(if d.z7=1\/d.z7=2 then [1] else [])
def Zu:List Qx->List (List Int)
 | []=>[[]]
 | d::r=>(Qb5 d).flatMap fun e=>(Zu r).map (e::·)
noncomputable def Xn (c:Qr) (first:List Int) (rest:List Qx):List (List Int):=((Zu rest).map (first++·)).filter fun e=>decide (Qt1 c e)
theorem Ql1 (c:Qr) (first:List Int) (d:Qx) (r:List Qx):Xn c first (d::r)=(Qb5 d).flatMap fun e=>Xn c (first++[e]) r:=by
 simp only[Xn,Zu,QLL,List.filter_flatMap,List.map_map]
 congr 1
 funext e
 congr 2
 grind
def acc {α:Type} (pc:Nat->List α) (i:Nat):List α:=(List.range i).flatMap pc
theorem Qtt {α:Type} (pc:Nat->List α):acc pc 0=[]:=rfl
theorem QaN {α:Type} (pc:Nat->List α) (i:Nat):acc pc (i+1)=acc pc i++pc i:=by simp[acc,QKn]
noncomputable def QE4 (c:Qr) (first:List Int) (d:Qx) (r:List Qx) (i:Nat):List (List Int):=if d.z7=i\/d.z7=2 then Xn c (first++[(i:Int)]) r else []
theorem QoK (d:Qx):(Qb5 d).length<=2:=by unfold Qb5;grind
theorem UG {α β:Type} (f:α->List β) (n:Nat):∀ l:List α,(∀ a∈l,(f a).length<=n)->(l.flatMap f).length<=l.length*n
 | [],_=>by simp
 | a::l,h=>by
   have h1:=h a (by simp)
   have h2:=UG f n l fun b hb=>h b (by simp[hb])
   simp only[QK4,QKb,QKk,Nat.succ_mul];omega
theorem QjB {α:Type} (pc:Nat->List α) (n:Nat) (h:∀ i,(pc i).length<=n) (i:Nat):(acc pc i).length<=i*n:=by
 have:=UG pc n (List.range i) fun a _=>h a
 simpa[acc] using this
theorem Qgy (c:Qr):∀ (rest:List Qx) (first:List Int),(Xn c first rest).length<=2 ^ rest.length
 | [],first=>by
   have:=QKz (fun e=>decide (Qt1 c e)) ([[]].map (first++·))
   simpa[Xn,Zu] using this
 | d::r,first=>by
   rw[Ql1];have h1:=UG (fun e=>Xn c (first++[e]) r) (2 ^ r.length) (Qb5 d) fun e _=>Qgy c r (first++[e])
   have h2:=QKE (2 ^ r.length) (QoK d)
   grind
theorem U9 {n:Nat} (h:n<=12):2 ^ n<=4096:=QLi (by omega) h
include hK
omit hK
def Q7:List ZE->List (List Int)
 | []=>[[]]
 | l::r=>acc (fun i=>(Q7 r).map ((l.lo+(i:Nat))::·)) (l.hi+1-l.lo).toNat
def Zk (m:Machine) (first:List Int) (rest:List ZE):List Ql:=(Q7 rest).flatMap fun s=>(List.range (m.zw+1-m.zu).toNat).map fun k:Nat=>⟨first++s,m.zu+k⟩
noncomputable def Q2 (m:Machine) (first:List Int) (rest:List ZE):List Ql:=(Zk m first rest).filter fun s=>decide (Wk m s)
theorem QcQ (m:Machine) (first:List Int) (l:ZE) (r:List ZE):Q2 m first (l::r)=acc (fun i=>Q2 m (first++[l.lo+(i:Nat)]) r) (l.hi+1-l.lo).toNat:=by
 simp only[Q2,Zk,Q7,acc,List.flatMap_assoc,List.filter_flatMap]
 congr 1
 funext i
 simp[List.flatMap_map]
theorem Qfn (m:Machine):∀ (rest:List ZE) (first:List Int),(∀ l∈rest,1<=Xj l)->1<=m.zw-m.zu+1->((Q2 m first rest).length:Int)<=(m.zw-m.zu+1)*Q9 Xj rest
 | [],first,_,h=>by
   have:=QKz (fun s=>decide (Wk m s)) (Zk m first [])
   simp[Zk,Q7] at this;simp only[Q2,Q9];simp only[Zk,Q7] at this |-
   grind
 | l::r,first,hs,h=>by
   rw[QcQ];have ih:=fun e:Int=>Qfn m r (first++[e]) (fun l hl=>hs l (by simp[hl])) h
   have hl:=hs l (by simp)
   have hp:=U7 Xj r fun l hl=>hs l (by simp[hl])
   have hpp:=QKY (a:=m.zw-m.zu+1) (b:=Q9 Xj r) (by omega) (by omega)
   have h1:=QjB (fun i=>Q2 m (first++[l.lo+(i:Nat)]) r) ((m.zw-m.zu+1)*Q9 Xj r).toNat (fun i=>by grind) (l.hi+1-l.lo).toNat
   have e1:((l.hi+1-l.lo).toNat:Int)=Xj l:=by unfold Xj at *;omega
   have e2:(((m.zw-m.zu+1)*Q9 Xj r).toNat:Int)=(m.zw-m.zu+1)*Q9 Xj r:=by omega
   have h2:=Int.ofNat_le.2 h1;rw[Int.natCast_mul,e1,e2] at h2;simp only[Q9]
   grind
noncomputable def QE3 (m:Machine) (first:List Int) (k:Nat):List Ql:=if Wk m ⟨first,m.zu+k⟩ then [⟨first,m.zu+k⟩] else []
include hK
omit hK
noncomputable def QK (p:Qf):List Q1:=(Xn p.zc [] p.zc.za).flatMap fun e=>(Q2 p.zb [] p.zb.zd).map fun s=>⟨e,s⟩
noncomputable def kL (p:Qf) (is:Bool):List Q1:=if OkP p/\is=true then QK p else []
noncomputable def kE (p:Qf) (is:Bool):Int:=if OkP p then (if is=true then (if QK p=[] then 3 else 0) else 1) else 60
theorem Qix {c:Qr} {e:List Int} (h:e∈Xn c [] c.za):Qt1 c e:=by
 simp only[Xn,QKx,decide_eq_true_eq] at h;exact h.2
theorem JJ {m:Machine} {s:Ql} (h:s∈Q2 m [] m.zd):Wk m s:=by
 simp only[Q2,QKx,decide_eq_true_eq] at h;exact h.2
theorem QhT {p:Qf} {t:Q1} (h:t∈QK p):Qej p t:=by
 simp only[QK,QKC,QKh] at h;obtain ⟨e,he,s,hs,rfl⟩:=h;exact ⟨Qix he,JJ hs⟩
theorem Qej.fit {p:Qf} {t:Q1} (h:Qej p t):Fit p t:=⟨by rw[h.1.1.1];omega,h.2.1⟩
theorem Qny {p:Qf} {t:Q1} (h:t∈QK p):Fit p t:=(QhT h).fit
theorem Jz {p:Qf} {is:Bool} (h:kE p is=0):OkP p/\is=true/\kL p is=QK p/\QK p≠[]:=by
 unfold kE at h;split at h
 ·rename_i h1
  split at h
  ·rename_i h2
   split at h
   ·cases h
   rename_i h3;exact ⟨h1,h2,by simp[kL,h1,h2],h3⟩
  cases h
 cases h
theorem QrY {c:Qr} (h:OkC c):(Xn c [] c.za).length<=4096:=QKG (Qgy c _ _) (U9 h.len)
theorem QjT {m:Machine} (h:OkM m):((Q2 m [] m.zd).length:Int)<=sets m m.zd.length:=by
 have h1:=h.zx;simp only[inR] at h1;have:=Qfn m m.zd [] (fun l hl=>(h.span hl).1) (by omega)
 rwa [sets,QJ5]
include hK
omit hK
structure QHE (p:Qf):Prop where
 small:QjC p
 sets:OkP p->sets p.zb p.zb.zd.length<=1000000
def qa (p:Qf) (link:Int):Bool:=decide (inR link 0 ((Vj p.zc.za).length-1))
def Xb (p:Qf) (n:Int):Bool:=decide (inR n 0 (p.zf.length-1))
noncomputable def rProved (p:Qf) (link:Int):Int:=if kE p (qa p link)=0 then XV ((kL p (qa p link)).countP (Zs p link)) (kL p (qa p link)).length else 0
noncomputable def rCond (p:Qf):Int:=if kE p true=0 then XV ((kL p true).countP fun t=>decide (p.ya<=(Xf p t:Int))) (kL p true).length else 0
noncomputable def rGood (p:Qf):Int:=if kE p true=0 then XV ((kL p true).countP (Ub p)) (kL p true).length else 0
noncomputable def Jv (p:Qf):Int:=(kL p true).foldl (fun b t=>min b (Qe8 p t)) 999999999
noncomputable def J7 (p:Qf):Int × Int:=if kE p true=0 then (if Jv p<0 then (0,3) else (Jv p,0)) else (0,kE p true)
def span (l:List Int):Int × Int:=match l with
 | []=>(0,0)
 | a::r=>(r.foldl min a,r.foldl max a)
theorem Qa4 (l:List Int) (a:Int):span (l++[a])=if l=[] then (a,a) else (min (span l).1 a,max (span l).2 a):=by
 cases l with
 | nil=>rfl
 | cons b r=>simp[span]
noncomputable def rFail (p:Qf):Int × Int:=span ((kL p true).map fun t=>(Xf p t:Int))
noncomputable def QDn (p:Qf):List Int:=if kE p true=0 then acc (fun s:Nat=>if (kL p true).all (Qy1 p s) then [(s:Int)] else []) 100 else []
noncomputable def Qd2 (p:Qf):List Int:=if kE p true=0 then acc (fun at_:Nat=>if (kL p true).all (fun t=>Zs p ((Jf p (QN t.ends)).getD at_ 0) t) then [] else [(at_:Int)]) (XR p.zc.za).toNat else []
noncomputable def qK (p:Qf) (n:Int):List Int:=Jc ((kL p (Xb p n)).map fun t=>QG p n.toNat (QN t.ends)) 0 12
include hK
end Go.Pf
namespace Go.Ev
theorem QtY {P:Program} {K:World->Prop} {F:Way->Env->Qs->Prop} {c:AC} {ks ids:List Nat} {k:List AI} {S:Type} (st:S->Env) (so:S->Qs) (I:S->Prop) (μ:S->Nat)
  (h:∀ s,I s->(∀ s',I s'->μ s'<μ s->XB P K F c ks ids k (st s') (so s'))->XB P K F c ks ids k (st s) (so s)):∀ s,I s->XB P K F c ks ids k (st s) (so s):=by
 have:∀ n s,μ s<n->I s->XB P K F c ks ids k (st s) (so s):=by
  intro n
  induction n with
  | _=>grind
 grind
end Go.Ev
namespace Go.Pf
open Go Go.Ev Go.Proofs Go.RowKit Go.Proofs.Tryz
variable {K:World->Prop} (hK:∀ w w',K w->Below w.heap.size w w'->K w')
set_option maxRecDepth 8000
theorem UY:∀ (r:List ZE) (s:List Int),s∈Q7 r->s.length=r.length
 | [],s,h=>by simp[Q7] at h;simp[h]
 | l::r,s,h=>by
   simp only[Q7,acc,QKC,QKh] at h;obtain ⟨i,_,x,hx,rfl⟩:=h;simp[UY r x hx]
theorem qA:∀ (r:List ZE) (s:List Int),s∈Q7 r->∀ i (h:i<r.length) (h':i<s.length),inR s[i] r[i].lo r[i].hi
 | [],s,h,i,hi,_=>by simp at hi
 | l::r,s,h,i,hi,hi'=>by
   simp only[Q7,acc,QKC,QKh,QKr] at h;obtain ⟨j,hj,x,hx,rfl⟩:=h;cases i with
   | zero=>simp only[QLx,inR];omega
   | succ i=>simp only[List.getElem_cons_succ];exact qA r x hx i (by simpa using hi) (by simpa using hi')
theorem Qlg {m:Machine} {s:Ql} (h:s∈Zk m [] m.zd):okS m s:=by
 simp only[Zk,QKC,QKh,QKr,QKe] at h;obtain ⟨x,hx,k,hk,rfl⟩:=h;exact ⟨UY _ _ hx,by simp only[inR];omega,qA _ _ hx⟩
theorem Qfp (m:Machine) (first:List Int) (l:ZE) (r:List ZE):Zk m first (l::r)=acc (fun i=>Zk m (first++[l.lo+(i:Nat)]) r) (l.hi+1-l.lo).toNat:=by
 simp only[Zk,Q7,acc,List.flatMap_assoc]
 congr 1
 funext i
 simp[List.flatMap_map]
def Qm6 (m:Machine) (first:List Int) (k:Nat):List Ql:=[⟨first,m.zu+k⟩]
theorem Qhg (m:Machine) (first:List Int):Zk m first []=acc (Qm6 m first) (m.zw+1-m.zu).toNat:=by
 simp only[Zk,Q7,acc,QK4,List.flatMap_nil,QKj];generalize (m.zw+1-m.zu).toNat=n
 induction n with
 | zero=>rfl
 | succ n ih=>rw[QKn,QKf,ih,List.flatMap_append];rfl
noncomputable def tL (m:Machine) (is:Bool):List Ql:=if OkM m/\is=true then Q2 m [] m.zd else []
noncomputable def tE (m:Machine) (is:Bool):Int:=if OkM m then (if is=true then (if Q2 m [] m.zd=[] then 3 else 0) else 1) else 30
theorem QDe {m:Machine} {is:Bool} {s:Ql} (h:s∈tL m is):OkM m/\is=true/\okS m s:=by
 unfold tL at h;split at h
 ·rename_i h1
  exact ⟨h1.1,h1.2,(JJ h).1⟩
 cases h
def QaM (w mn load:Int):Bool:=decide (inR w 0 9999/\inR mn 0 99/\inR load 0 999999999)
def Qbz (m:Machine) (w mn:Int) (s:Ql):Int:=(num m s w mn).tdiv (den s)
def upS (m:Machine) (w mn:Int) (s:Ql):Int:=(num m s w mn+den s-1).tdiv (den s)
noncomputable def Jw (m:Machine) (w mn:Int):Int × Int:=((span ((tL m (QaM w mn 0)).map (Qbz m w mn))).1,(span ((tL m (QaM w mn 0)).map (upS m w mn))).2)
include hK
def Z9 (m:Machine) (l:List Ql) (w mn load:Int):Prop:=∀ s∈l,load*den s<=num m s w mn
omit hK
noncomputable def Wi (m:Machine) (l:List Ql) (mn load:Int):Int:=open Classical in ((List.range 10000).findIdx fun (n:Nat)=>decide (Z9 m l n mn load):Nat)
theorem Qnv {m:Machine} {l:List Ql} {mn load r:Int} (h0:0<=r/\r<=10000) (h1:r<=9999->Z9 m l r mn load) (h2:∀ w,0<=w->w<r->¬ Z9 m l w mn load):Wi m l mn load=r:=by
 classical
 unfold Wi
 have hp:∀ n:Nat,n<10000->((List.range 10000).findIdx fun (n:Nat)=>decide (Z9 m l n mn load))<=n\/¬ Z9 m l n mn load:=by
  intro n hn;by_cases h:Z9 m l n mn load
  ·left
   apply QK2.1;intro xd;have:=List.not_of_lt_findIdx xd;simp[h] at this
  exact .inr h
 have hl:((List.range 10000).findIdx fun (n:Nat)=>decide (Z9 m l n mn load))<=10000:=by
  have:=List.findIdx_le_length (p:=fun (n:Nat)=>decide (Z9 m l n mn load)) (xs:=List.range 10000)
  simpa using this
 have hg:((List.range 10000).findIdx fun (n:Nat)=>decide (Z9 m l n mn load))<10000->Z9 m l (((List.range 10000).findIdx fun (n:Nat)=>decide (Z9 m l n mn load)):Nat) mn load:=by
  intro xd;have:=List.findIdx_getElem (p:=fun (n:Nat)=>decide (Z9 m l n mn load)) (xs:=List.range 10000) (w:=by simpa using xd)
  simpa using this
 generalize ((List.range 10000).findIdx fun (n:Nat)=>decide (Z9 m l n mn load))=q at *
 rcases Int.lt_trichotomy (q:Int) r with h | h | h
 ·grind
 ·exact h
 ·have hr:=h1 (by omega)
  rcases hp r.toNat (by omega) with h3 | h3
  all_goals grind
noncomputable def JL (m:Machine) (mn load:Int):Int × Int:=if tE m (QaM 0 mn load)=0 then (if 9999<Wi m (tL m (QaM 0 mn load)) mn load then (0,3) else (Wi m (tL m (QaM 0 mn load)) mn load,0)) else (0,tE m (QaM 0 mn load))
theorem QuR {m:Machine} {is:Bool} (h:tE m is=0):OkM m/\is=true/\tL m is=Q2 m [] m.zd/\Q2 m [] m.zd≠[]:=by
 unfold tE at h;split at h
 ·rename_i h1
  split at h
  ·rename_i h2
   split at h
   ·cases h
   rename_i h3;exact ⟨h1,h2,by simp[tL,h1,h2],h3⟩
  cases h
 cases h
include hK
omit hK
@[simp] def stC (s:List Int) (zx below:Int):List IV:=[.int .i64 (s.getD 0 0),.int .i64 (s.getD 1 0),.int .i64 (s.getD 2 0),.int .i64 zx,.int .i64 below]
@[simp] def wkC (m:Machine):List IV:=[QT m.zd,.int .i64 m.zr,.int .i64 m.zu,.int .i64 m.zw,XN m.zk,.int .i64 m.zh,.int .i64 (Vg m)]
def XO {α:Type} (pc:Nat->List α):Nat->Nat->List α
 | _,0=>[]
 | i,k+1=>pc i++XO pc (i+1) k
theorem Qck {α:Type} (pc:Nat->List α):∀ k i,acc pc i++XO pc i k=acc pc (i+k)
 | 0,i=>by simp[XO]
 | k+1,i=>by
   have:=Qck pc k (i+1);rw[QaN] at this;have e:i+(k+1)=i+1+k:=by omega
   rw[XO,<- QKW,this,e]
theorem QaO {α:Type} (pc:Nat->List α) (n:Nat):acc pc n=XO pc 0 n:=by
 have:=Qck pc n 0;simp only[Qtt,QKe,QKl] at this;exact this.symm
def qf (m:Machine) (s:Ql):List IV:=[.agg (stC s.zy s.zx (den s)),.int .i64 (ZV m m.zk s)]
include hK
theorem Qij (m:Machine) (s:Ql) (w mn:Int) (hm:OkM m) (hl:inR s.zx m.zu m.zw) (hw:inR w 0 9999) (hmn:inR mn 0 99):Gd K 203 [.ptr (wkC m),.agg (stC s.zy s.zx (den s)),.int .i64 w,.int .i64 mn] (.int .i64 (Uv m s.zx w mn)):=by
 refine Qb hK (fk func203 QGQ (by kernel_rfl)) (by simp) ?_
 have hp:=hm.zq hl hw hmn;have h3:=hm.zr;simp only[inR] at h3 hw
 have e0:(w+if mn*s.zx<m.zr then m.zr-mn*s.zx else 0)=Uv m s.zx w mn:=by
  simp only[Uv];split<;>omega
 simp[e0];omega
theorem Qwr (m:Machine) (hm:OkM m):Gd K 282 [maV m] (.ptr (wkC m)):=by
 refine Qb hK (fk func282 QF7 (by kernel_rfl)) (by simp) ?_
 have hl:=hm.len;simp
 (repeat' first | omega | (with_reducible apply And.intro) | intro _)
 refine Qi (fun i=>[(3,AV.loc 8 0),(10,AV.iv (QT m.zd)),(11,AV.iv (.int .i64 m.zd.length)),(12,AV.iv (IV.int IntKind.i64 (i:Nat)))])
  (fun i=>[(8,AO.box [.iv (QT m.zd),.iv (.int .i64 m.zr),.iv (.int .i64 m.zu),.iv (.int .i64 m.zw),.iv (XN m.zk),.iv (.int .i64 m.zh),.iv (.int .i64 (Q9 (·.long) (m.zd.take i)))])]) m.zd.length (fun i=>True) trivial ?_ ?_
 ·intro _
  rw[Qa Qi3.eq_1];rw[QJ5];simp[Vg]
 ·intro i hi _ ih
  have l1:=hm.longs (i+1);rw[Qlw _ _ _ hi] at ih l1;rw[Qa Qi3.eq_1];simp[hi] at ih l1 |-
  grind
theorem Qv4 (m:Machine) (s:Ql) (b:QR) (hm:OkM m) (hs:okS m s) (hb:b∈m.zk):Gd K 370 [.ptr (wkC m),.agg (stC s.zy s.zx (den s)),.agg (baC b)] (.bool (QcY m s b)):=by
 refine Qb hK (fk func370 QFw (by kernel_rfl)) (by simp) ?_
 have h:=hm.bal hb;simp;refine cK (Qij hK m s b.zm b.zn hm hs.2.1 h.1 h.2.1) ?_;have h1:=hm.numB hs h.1 h.2.1;have h2:=hm.denB hs;have h3:=h.2.2;simp only[inR] at h3;have h4:=QK7 h3.1.2 h2.2 (by omega) (by omega)
 have h5:=QKY h3.1.1 (Int.le_trans (by omega) h2.1)
 have hr:QcY m s b=decide (num m s b.zm b.zn-b.load*den s<=b.off*den s /\ -(num m s b.zm b.zn-b.load*den s)<=b.off*den s):=rfl;have hnum:Uv m s.zx b.zm b.zn*Vg m=num m s b.zm b.zn:=rfl;rw[hr];simp[hnum]
 have key:∀ d:Int,0<=d->(d<=b.off*den s↔(d.tdiv (den s)<b.off\/(d.tdiv (den s)=b.off/\d.tmod (den s)=0))):=fun d hd=>by
  rw[QKD hd,QKM hd];have e1:=Int.emod_def d (den s);have e2:=Int.emod_nonneg d (b:=den s) (by omega)
  have e3:=Int.emod_lt_of_pos d (b:=den s) (by omega)
  constructor
  ·intro hle
   have h6:d / den s<=b.off:=by
    have:=Int.ediv_le_ediv (c:=den s) (by omega) hle
    rwa [Int.mul_ediv_cancel _ (by omega)] at this
   grind
  rintro (h7 | ⟨h7,h8⟩)
  ·have h9:(d / den s+1)*den s<=b.off*den s:=QKo (by omega) (by omega)
   grind
  grind
 have hd0:¬ den s=0:=by omega
 generalize num m s b.zm b.zn=N at *;generalize b.load*den s=L at *;have hD : -1000000000000000000<=N-L/\N-L<=1000000000000000000:=by omega
 generalize hDe:N-L=D at *;have hO:=QKY h3.2.1 (show 0<=den s by omega)
 by_cases hneg:D<0
 ·have hk:=key (-D) (by omega)
  have htd:=Qa1 (a := -D) (b:=den s) (by omega) h2.1
  have ht2:=Int.tmod_nonneg (den s) (a := -D) (by omega)
  generalize b.off*den s=O at *;rw[Int.neg_tdiv] at htd hk;rw[Int.neg_tmod] at ht2 hk
  grind
 ·have hk:=key D (by omega)
  have htd:=Qa1 (a:=D) (b:=den s) (by omega) h2.1
  grind
theorem Qf9 (m:Machine) (hm:OkM m) (first:List Int) (leak0:Int) (hlen:first.length=m.zd.length) (hr:∀ i (h:i<m.zd.length) (h':i<first.length),inR first[i] m.zd[i].lo m.zd[i].hi) :
  Qal prog K 333 [.ptr (wkC m),.agg (stC first leak0 (Q9 id first)),.int .i64 first.length] [] ((Zk m first []).map (qf m)) (fun b=>.bool b):=by
 intro s b s' hf;refine QL QpI (by simp) hf.v rfl ?_
 rw[Qhg,QaO] at hf;have hlk:=hm.zx;have hlh:=hm.zw;simp only[inR] at hlk;simp[hlen]
 (repeat' first | omega | (with_reducible apply And.intro) | intro _)
 have e0:AV.iv (IV.int .i64 m.zu)=AV.iv (.int .i64 (m.zu+((0:Nat):Int))):=by simp
 refine Yi (m.zw+1-m.zu).toNat (fun i e o=>∃ si,e=[(0,AV.iv (.ptr (wkC m))),(3,AV.cb 0),(5,AV.loc 5 0)]/\o=[(0,.ext si),(5,.box [.iv (.int .i64 (first.getD 0 0)),.iv (.int .i64 (first.getD 1 0)),.iv (.int .i64 (first.getD 2 0)),.iv (.int .i64 (m.zu+(i:Nat))),.iv (.int .i64 (Q9 id first))])] /\
  ZO prog K ((XO (Qm6 m first) i ((m.zw+1-m.zu).toNat-i)).map (qf m)) si b s') ?_ ?_ _ _ ⟨s,rfl,by simp,by simpa using hf⟩
 ·rintro e o ⟨si,rfl,rfl,hfd⟩
  have q1:m.zu+((m.zw+1-m.zu).toNat:Int)=m.zw+1:=by omega
  have q2:¬ m.zw+1<=m.zw:=by omega
  rw[Nat.sub_self] at hfd;cases hfd;rw[q1,Qa QiO.eq_1];simp[q2]
 ·rintro i e o hi ⟨si,rfl,rfl,hfd⟩ ih
  have q1:m.zu+(i:Int)<=m.zw:=by omega
  have q3:m.zu+((i:Int)+1)=m.zu+i+1:=by omega
  have hos:okS m ⟨first,m.zu+i⟩:=⟨hlen,by simp only[inR];omega,hr⟩
  have e1:(m.zw+1-m.zu).toNat-i=((m.zw+1-m.zu).toNat-(i+1))+1:=by omega
  rw[e1] at hfd;simp only[XO,Qm6,QKf,QKg,List.map_nil,List.singleton_append] at hfd;have hbl:=hm.blen;rw[Qa QiO.eq_1];simp[q1]
  (repeat' first | omega | (with_reducible apply And.intro) | intro _)
  refine Qi (fun k=>[(0,AV.iv (.ptr (wkC m))),(3,AV.cb 0),(5,AV.loc 5 0),(11,AV.iv (IV.int IntKind.i64 (ZV m (m.zk.take k) ⟨first,m.zu+i⟩:Nat))),(87,AV.iv (XN m.zk)),(88,AV.iv (.int .i64 m.zk.length)),(89,AV.iv (IV.int IntKind.i64 (k:Nat)))])
   (fun k=>[(0,.ext si),(5,.box [.iv (.int .i64 (first.getD 0 0)),.iv (.int .i64 (first.getD 1 0)),.iv (.int .i64 (first.getD 2 0)),.iv (.int .i64 (m.zu+(i:Nat))),.iv (.int .i64 (Q9 id first))])]) m.zk.length (fun i=>True) trivial ?_ ?_
  ·intro _
   rw[Qa QiP.eq_1];simp;have hit:qf m ⟨first,m.zu+i⟩=[.agg (stC first (m.zu+i) (Q9 id first)),.int .i64 (ZV m m.zk ⟨first,m.zu+i⟩)]:=rfl
   rw[hit] at hfd;cases hfd with
   | stop _ _ _ _ hg =>
     refine Q4 (by simpa using hg) rfl ?_
     simp
   | next _ _ _ s1 _ _ hg hr2 =>
     refine Q4 (by simpa using hg) rfl ?_
     simp
     (repeat' first | omega | (with_reducible apply And.intro) | intro _)
     exact ih _ _ ⟨s1,rfl,by simp[q3],hr2⟩
  ·intro k hk _ ih2
   have hle:=Qk2 m (m.zk.take k) ⟨first,m.zu+i⟩
   simp at hle;rw[Qa QiP.eq_1];rw[Qe3 _ _ _ _ hk] at ih2;simp[hk] at ih2 |-;have hg:=Qv4 hK m ⟨first,m.zu+i⟩ m.zk[k] hm hos (QJ1 hk)
   refine cK (by simpa[den] using hg) ?_
   cases hrr:QcY m ⟨first,m.zu+i⟩ m.zk[k]
   ·simp[hrr] at ih2 |-
    grind
   ·simp[hrr] at ih2 |-
    grind
theorem QnE (m:Machine) (hm:OkM m):∀ (n:Nat) (first:List Int),first.length+n=m.zd.length->(∀ i (h:i<m.zd.length) (h':i<first.length),inR first[i] m.zd[i].lo m.zd[i].hi) ->
  Qal prog K 333 [.ptr (wkC m),.agg (stC first 0 (Q9 id first)),.int .i64 first.length] [] ((Zk m first (m.zd.drop first.length)).map (qf m)) (fun b=>.bool b)
 | 0,first,hn,hr=>by
   have e1:m.zd.drop first.length=[]:=QKN (by omega)
   rw[e1];exact Qf9 hK m hm first 0 (by omega) hr
 | n+1,first,hn,hr=>by
   have ihn:=QnE m hm n;have xd:first.length<m.zd.length:=by omega
   have hl3:=hm.len;have e1:m.zd.drop first.length=m.zd[first.length]::m.zd.drop (first.length+1):=QKp xd
   have hlv:=hm.lever (QJ1 xd);rw[e1,Qfp]
   have hpb:∀ x:Int,inR x m.zd[first.length].lo m.zd[first.length].hi->1<=Q9 id (first++[x])/\Q9 id (first++[x])<=1000000000:=fun x hx=>by
    refine Qbl _ _ (fun a ha=>?_) (by simp;omega)
    simp only[inR] at hx;rcases QKa.1 ha with ha | ha
    ·obtain ⟨k,hk,rfl⟩:=QKK ha
     have h1:=hr k (by omega) hk
     have h2:=hm.lever (QJ1 (show k<m.zd.length by omega))
     simp only[inR,id] at *;omega
    grind
   have ih2:∀ i:Nat,m.zd[first.length].lo+(i:Int)<=m.zd[first.length].hi->Qal prog K 333 [.ptr (wkC m),.agg (stC (first++[m.zd[first.length].lo+(i:Int)]) 0 (Q9 id (first++[m.zd[first.length].lo+(i:Int)]))),.int .i64 (first.length+1:Nat)] []
     (((fun i:Nat=>Zk m (first++[m.zd[first.length].lo+(i:Nat)]) (m.zd.drop (first.length+1))) i).map (qf m)) (fun b=>.bool b):=fun i hi=>by
    have:=ihn (first++[m.zd[first.length].lo+(i:Int)]) (by simp;omega) (fun k h h'=>by
     rcases QLa k first.length with hk | hk
     ·grind
     have:k=first.length:=by simp at h';omega
     subst this;simp only[List.getElem_append_right (QJ2 _),Nat.sub_self,QLx,inR];omega)
    grind
   generalize (fun i:Nat=>Zk m (first++[m.zd[first.length].lo+(i:Nat)]) (m.zd.drop (first.length+1)))=pc at *
   intro s b s' hf;refine QL QpI (by simp) hf.v rfl ?_
   rw[QaO] at hf;have hlt':(first.length:Int)<m.zd.length:=by omega
   simp[xd]
   (repeat' first | omega | (with_reducible apply And.intro) | intro _)
   refine Yi (m.zd[first.length].hi+1-m.zd[first.length].lo).toNat (fun i e o=>∃ si,e=[(0,AV.iv (.ptr (wkC m))),(2,AV.iv (IV.int IntKind.i64 (first.length:Nat))),(3,AV.cb 0),(5,AV.loc 5 0),(9,AV.iv (.int .i64 (m.zd[first.length].lo+(i:Nat))))] /\
    o=[(0,.ext si),(5,.box [.iv (.int .i64 (first.getD 0 0)),.iv (.int .i64 (first.getD 1 0)),.iv (.int .i64 (first.getD 2 0)),.iv (.int .i64 0),.iv (.int .i64 (Q9 id first))])] /\
    ZO prog K ((XO pc i ((m.zd[first.length].hi+1-m.zd[first.length].lo).toNat-i)).map (qf m)) si b s') ?_ ?_ _ _ ⟨s,by simp,by simp,by simpa using hf⟩
   ·rintro e o ⟨si,rfl,rfl,hfd⟩
    have q1:m.zd[first.length].lo+((m.zd[first.length].hi+1-m.zd[first.length].lo).toNat:Int)=m.zd[first.length].hi+1:=by omega
    have q2:¬ m.zd[first.length].hi+1<=m.zd[first.length].hi:=by omega
    rw[Nat.sub_self] at hfd;cases hfd;rw[q1,Qa QiQ.eq_1];simp[xd,q2]
   ·rintro i e o hi ⟨si,rfl,rfl,hfd⟩ ih
    have q1:m.zd[first.length].lo+(i:Int)<=m.zd[first.length].hi:=by omega
    have q3:m.zd[first.length].lo+((i:Int)+1)=m.zd[first.length].lo+i+1:=by omega
    have e1:(m.zd[first.length].hi+1-m.zd[first.length].lo).toNat-i=((m.zd[first.length].hi+1-m.zd[first.length].lo).toNat-(i+1))+1:=by omega
    rw[e1] at hfd;simp only[XO,QKf] at hfd;have hg:=ih2 i q1;have hb:=hpb (m.zd[first.length].lo+(i:Int)) (by simp only[inR];omega)
    have hpr:Q9 id (first++[m.zd[first.length].lo+(i:Int)])=Q9 id first*(m.zd[first.length].lo+(i:Int)):=Qbm _ _ _
    rw[hpr] at hg hb;rw[Qa QiQ.eq_1]
    have hcase:(∃ s1 b1,ZO prog K ((pc i).map (qf m)) si b1 s1/\(b1=true->ZO prog K ((XO pc (i+1) ((m.zd[first.length].hi+1-m.zd[first.length].lo).toNat-(i+1))).map (qf m)) s1 b s')/\(b1=false->b=false/\s1=s')):=by
     rcases ZO.append hfd with ⟨s1,h1,h2⟩ | ⟨h1,h2⟩
     all_goals grind
    obtain ⟨s1,b1,f1,f2,f3⟩:=hcase;have hgx:=hg _ _ _ f1
    have hfl:first=[]\/(∃ a,first=[a])\/∃ a c,first=[a,c]:=by
     match first,xd,hl3 with
     | [],_,_=>exact .inl rfl
     | [a],_,_=>grind
     | [a,c],_,_=>grind
     | _::_::_::_,h,h'=>simp at h;omega
    rcases hfl with rfl | ⟨a,rfl⟩ | ⟨a,c,rfl⟩
    all_goals
     try simp only[QKy,QKk,QKl,Nat.reduceAdd] at xd
     try simp only[QKy,QKk,QKl,Nat.reduceAdd] at q1
     try simp only[QKy,QKk,QKl,Nat.reduceAdd] at q3
     try simp only[QKy,QKk,QKl,Nat.reduceAdd] at hb
     try simp only[QKy,QKk,QKl,Nat.reduceAdd] at hgx
     try simp only[QKy,QKk,QKl,Nat.reduceAdd] at ih
     try simp only[QKy,QKk,QKl,Nat.reduceAdd] at f2
     try simp only[QKy,QKk,QKl,Nat.reduceAdd] at hlt'
     try simp only[QKy,QKk,QKl,Nat.reduceAdd] at hlv
     try simp only[QKy,QKk,QKl,Nat.reduceAdd]
     simp[q1,xd]
     (repeat' first | omega | (with_reducible apply And.intro) | intro _)
     refine ZH (by simpa using hgx) rfl ?_
     cases b1
     ·obtain ⟨rfl,rfl⟩:=f3 rfl
      simp
     ·simp
      (repeat' first | omega | (with_reducible apply And.intro) | intro _)
      exact ih _ _ ⟨s1,by simp[q3],by simp,f2 rfl⟩
omit hK
section
variable {K:World->Prop}
def stI (s:Ql):List IV:=[.agg (stC s.zy s.zx (den s))]
theorem Qbc {m:Machine} {ks:Env} (hks:ZC [2,3] [0,3] ks=[(2,.iv (.ptr [.ptr (wkC m)])),(3,.loc 3 0)]) :
  ∀ (Ls:List Ql) (s:Ext) (b:Bool) (s':Ext),ZO prog K ((Ls.filter fun t=>decide ((ZV m m.zk t:Int)<=m.zh)).map stI) s b s' ->
   ∃ wy,(wy=.fall\/wy=.ret)/\Un prog K [8,9] WJ Qcf [2,3] [0,3] (ZC [2,3] [0,3] ks) (Ls.map (qf m)) [(0,.ext s),(3,.box [.cb 0])] wy [(0,.ext s'),(3,.box [.cb 0])]
 | [],s,b,s',h=>by
   cases h;exact ⟨.fall,.inl rfl,.nil _⟩
 | t::Ls,s,b,s',h=>by
   by_cases ht:(ZV m m.zk t:Int)<=m.zh
   ·rw[QLk (by simpa using ht)] at h
    cases h with
    | stop _ _ _ _ hg =>
      refine ⟨.ret,.inr rfl,.stop _ _ _ _ _ (by simp) ?_⟩
      rw[hks];refine ⟨rfl,?_⟩;simp[qf,WJ,Qcf,ht];refine Q4 (by simpa[stI] using hg) rfl ?_
      simp
    | next _ _ _ s1 _ _ hg hr =>
      obtain ⟨wy,h1,h2⟩:=Qbc hks Ls s1 b s' hr;refine ⟨wy,h1,.next _ _ _ _ _ _ ?_ h2⟩;rw[hks];refine ⟨rfl,?_⟩;simp[qf,WJ,Qcf,ht];refine Q4 (by simpa[stI] using hg) rfl ?_
      simp
   ·rw[QLl (by simpa using ht)] at h
    obtain ⟨wy,h1,h2⟩:=Qbc hks Ls s b s' h;refine ⟨wy,h1,.next _ _ _ _ _ _ ?_ h2⟩;rw[hks];refine ⟨rfl,?_⟩;simp[qf,WJ,Qcf,ht]
theorem Qfo (m:Machine):Q2 m [] m.zd=(Zk m [] m.zd).filter fun t=>decide ((ZV m m.zk t:Int)<=m.zh):=by
 unfold Q2;refine QLn fun s hs=>?_
 have:=Qlg hs;simp[Wk,this]
end
include hK
theorem QvG (m:Machine) (hm:OkM m):Qam prog K 283 [.ptr (wkC m)] [] ((Zk m [] m.zd).map (qf m)):=by
 intro s b s' hf;have h:=QnE hK m hm m.zd.length [] (by simp) (fun i h h'=>by simp at h')
 simp only[QKy,List.drop_zero] at h;have hgx:=h _ _ _ hf;refine QL (fk func283 QF6 (by kernel_rfl)) (by simp) hf.v rfl ?_
 simp;refine ZH (by simpa[Q9] using hgx) rfl ?_
 simp
theorem QbN (m:Machine) (hm:OkM m):Qam prog K 202 [.ptr (wkC m)] [] ((Q2 m [] m.zd).map stI):=by
 intro s b s' hfd;refine QL (fk func202 QGR (by kernel_rfl)) (by simp) hfd.v rfl ?_
 rw[Qfo] at hfd;obtain ⟨wy,h1,h2⟩:=Qbc (m:=m) (ks:=[(2,.iv (.ptr [.ptr (wkC m)])),(3,.loc 3 0)]) rfl (Zk m [] m.zd) s b s' hfd;simp;refine Q6 (wy:=wy) (o':=[(0,.ext s'),(3,.box [.cb 0])]) rfl (by kernel_rfl) (QvG hK m hm) (by simpa using h2) ?_
 rcases h1 with rfl | rfl<;>simp
theorem Qil (m:Machine) (is:Bool) (hl:m.zd.length<=1000) (hb:m.zk.length<=1000):Gd K 200 [maV m,.bool is] (.xh [if tE m is=0 then .ptr (wkC m) else .nilp,.int .i64 (tE m is)]):=by
 refine Qb hK (fk func200 QGT (by kernel_rfl)) (by simp) ?_
 simp;refine cK (Qob hK m hl hb) ?_;by_cases h1:OkM m
 ·cases is
  ·simp[h1,tE]
  simp[h1];refine cK (Qwr hK m h1) ?_;simp;cases hL:Q2 m [] m.zd with
  | nil =>
    refine Q6 (wy:=.fall) (o':=[(4,.box [.iv .nilp]),(5,.box [.iv (.int .i64 0)]),(7,.box [.iv (.ptr (wkC m))])]) rfl (by kernel_rfl) (QbN hK m h1) (by rw[hL];simpa using Un.nil _) ?_
    simp[tE,h1,hL]
  | cons a r =>
    refine Q6 (wy:=.ret) (o':=[(4,.box [.iv (.ptr (wkC m))]),(5,.box [.iv (.int .i64 0)]),(7,.box [.iv (.ptr (wkC m))])]) rfl (by kernel_rfl) (QbN hK m h1) (by
     rw[hL];refine .stop _ _ _ _ _ (by simp) ?_
     refine ⟨rfl,?_⟩;simp[stI,QkQ,QpO]) ?_
    simp[tE,h1,hL]
 ·simp[h1,tE]
theorem Qv9 (m:Machine) (hl:m.zd.length<=1000) (hb:m.zk.length<=1000) (hs:OkM m->sets m m.zd.length<=1000000):Gd K 338 [maV m] (.xh [.int .i64 (tL m true).length,.int .i64 (tE m true)]):=by
 refine Qb hK (fk func338 QFC (by kernel_rfl)) (by simp) ?_
 simp;refine cK (Qil hK m true hl hb) ?_;by_cases he:tE m true=0
 ·obtain ⟨hm,_,htl,hne⟩:=QuR he
  have hln:=QjT hm;have hln2:=hs hm;simp[he,htl];refine Q6 (wy:=.fall) (o':=[(2,.box [.iv (.int .i64 ((Q2 m [] m.zd).length:Nat))])]) rfl (by kernel_rfl) (QbN hK m hm) ?_ ?_
  ·have:=Un.all (P:=prog) (K:=K) (ps:=[15]) (asn:=QeG) (body:=QiK) (ks:=[2]) (ids:=[2]) (eK:=[(2,.loc 2 0)]) ((Q2 m [] m.zd).map stI) (fun i=>[(2,.box [.iv (.int .i64 (i:Int))])]) fun i x hi=>by
    simp only[QJ4,QJ0] at hi;obtain ⟨y,hy,rfl⟩:=hi;have xd:=(QJX.1 hy).1;refine ⟨rfl,?_⟩;simp[stI,QeG,QiK];omega
   simpa using this
  simp
 ·have:tL m true=[]:=by
   unfold tE at he;unfold tL
   grind
  simp[he,this]
omit hK
@[simp] theorem QCs:span []=(0,0):=rfl
theorem QzP {m:Machine} {is:Bool} (h:¬ tE m is=0):tL m is=[]:=by
 unfold tE at h;unfold tL
 grind
def QhS (m:Machine) (mn load:Int) (s:Ql):Int:=(load*den s+Vg m-1).tdiv (Vg m)-Uv m s.zx 0 mn
def V8 (m:Machine) (mn load:Int) (l:List Ql):Int:=l.foldl (fun b s=>max b (QhS m mn load s)) 0
theorem QqW (m:Machine) (mn load:Int) (l:List Ql) (w:Int) (hw:0<=w):V8 m mn load l<=w↔∀ s∈l,QhS m mn load s<=w:=by
 have:∀ (l:List Ql) (b:Int),(l.foldl (fun b s=>max b (QhS m mn load s)) b<=w↔b<=w/\∀ s∈l,QhS m mn load s<=w):=by
  intro l
  induction l with
  | _=>grind
 have h:=this l 0;simpa[V8,hw] using h
theorem qO (m:Machine) (mn load:Int) (l:List Ql):0<=V8 m mn load l:=by
 have:∀ (l:List Ql) (b:Int),b<=l.foldl (fun b s=>max b (QhS m mn load s)) b:=by
  intro l
  induction l with
  | _=>grind
 exact this l 0
theorem Qko {m:Machine} (hm:OkM m) {s:Ql} (hs:okS m s) {mn load w:Int} (hmn:inR mn 0 99) (hld:inR load 0 999999999):QhS m mn load s<=w↔load*den s<=num m s w mn:=by
 have ha:=hm.aboveB;have hd:=hm.denB hs;simp only[inR] at hld;have hn:=QKY hld.1 (Int.le_trans (by omega) hd.1)
 have e1:num m s w mn=(w+Uv m s.zx 0 mn)*Vg m:=by
  unfold num Uv
  congr 1
  omega
 unfold QhS;rw[e1,QKD (by omega)]
 generalize Uv m s.zx 0 mn=r;generalize load*den s=N at *;generalize Vg m=A at *;have e2:=Int.emod_def (N+A-1) A;have e3:=Int.emod_nonneg (N+A-1) (b:=A) (by omega)
 have e4:=Int.emod_lt_of_pos (N+A-1) (b:=A) (by omega)
 generalize (N+A-1) / A=Q at *;constructor
 ·intro h
  have h1:Q*A<=(w+r)*A:=QKo (by omega) (by omega)
  grind
 ·intro h
  apply Int.not_lt.1;intro xd;have h1:(w+r+1)*A<=Q*A:=QKo (by omega) (by omega)
  grind
theorem QhG {m:Machine} (hm:OkM m) {l:List Ql} (hs:∀ s∈l,okS m s) {mn load:Int} (hmn:inR mn 0 99) (hld:inR load 0 999999999):Wi m l mn load=min (V8 m mn load l) 10000:=by
 have h0:=qO m mn load l
 have xg:∀ w,0<=w->(Z9 m l w mn load↔V8 m mn load l<=w):=fun w hw=>by
  rw[QqW m mn load l w hw];exact ⟨fun h s hsl=>(Qko hm (hs s hsl) hmn hld).2 (h s hsl),fun h s hsl=>(Qko hm (hs s hsl) hmn hld).1 (h s hsl)⟩
 refine Qnv (by omega) (fun h=>(xg _ (by omega)).2 (by omega)) (fun w h1 h2=>fun c=>?_)
 grind
include hK
theorem Qoi (m:Machine) (w mn:Int) (hl:m.zd.length<=1000) (hb:m.zk.length<=1000):Gd K 110 [maV m,.int .i64 w,.int .i64 mn] (.xh [.agg [.int .i64 (Jw m w mn).1,.int .i64 (Jw m w mn).2],.int .i64 (tE m (QaM w mn 0))]):=by
 refine Qb hK (fk func110 QHw (by kernel_rfl)) (by simp) ?_
 simp;refine cK (Qik hK w mn 0) ?_;have hask:decide (inR w 0 9999/\inR mn 0 99/\inR 0 0 999999999)=QaM w mn 0:=rfl;rw[hask];simp;refine cK (Qil hK m (QaM w mn 0) hl hb) ?_;unfold Jw;by_cases he:tE m (QaM w mn 0)=0;rotate_left
 ·have:=QzP he
  simp[he,this]
 ·obtain ⟨hm,ha,htl,hne⟩:=QuR he
  have ha:=of_decide_eq_true ha;rw[htl];simp[he];refine Q6 (wy:=.fall) (o':=[(6,.box [.iv (.int .i64 0),.iv (.int .i64 0)]),(8,.box [.iv (.ptr (wkC m))]),(10,.box [.iv (.int .i64 (span ((Q2 m [] m.zd).map (Qbz m w mn))).1),.iv (.int .i64 (span ((Q2 m [] m.zd).map (upS m w mn))).2)]),(11,.box [.iv (.bool (decide ((Q2 m [] m.zd).length=0)))])]) rfl (by kernel_rfl) (QbN hK m hm) ?_ ?_
  ·have hok:∀ s∈Q2 m [] m.zd,okS m s:=fun s h=>(JJ h).1
   generalize Q2 m [] m.zd=l at *
   have:=Un.all (P:=prog) (K:=K) (ps:=[30]) (asn:=QaJ) (body:=QeQ) (ks:=[4,5,6,8,10,11]) (ids:=[6,8,10,11]) (eK:=[(4,.iv (.ptr [.int .i64 w])),(5,.iv (.ptr [.int .i64 mn])),(6,.loc 6 0),(8,.loc 8 0),(10,.loc 10 0),(11,.loc 11 0)]) (l.map stI)
    (fun i=>[(6,.box [.iv (.int .i64 0),.iv (.int .i64 0)]),(8,.box [.iv (.ptr (wkC m))]),(10,.box [.iv (.int .i64 (span ((l.take i).map (Qbz m w mn))).1),.iv (.int .i64 (span ((l.take i).map (upS m w mn))).2)]),(11,.box [.iv (.bool (decide (i=0)))])]) fun i x hi=>by
    simp only[QJ4,QJ0] at hi;obtain ⟨y,hy,rfl⟩:=hi;obtain ⟨xd,rfl⟩:=QJX.1 hy;have hsi:=hok _ (QJ1 xd);have hn:=hm.numB hsi ha.1 ha.2.1;have hd:=hm.denB hsi;have td1:=Qa1 hn.1 hd.1;have td2:=Qa1 (a:=num m l[i] w mn+den l[i]-1) (b:=den l[i]) (by omega) (by omega)
    have hd0:¬ den l[i]=0:=by omega
    have hlow:Qbz m w mn l[i]=(num m l[i] w mn).tdiv (den l[i]):=rfl;have hup:upS m w mn l[i]=(num m l[i] w mn+den l[i]-1).tdiv (den l[i]):=rfl;have hnum:Uv m l[i].zx w mn*Vg m=num m l[i] w mn:=rfl;rw[QJV xd,QKf,QLz,Qa4,QKf,QLz,Qa4];refine ⟨rfl,?_⟩;have hg:=Qij hK m l[i] w mn hm hsi.2.1 ha.1 ha.2.1;by_cases h0:i=0
    ·subst h0
     simp[stI,QaJ,QeQ];refine cK (by simpa using hg) ?_
     simp[hnum,hd0,hlow,hup];omega
    have hne1:¬ (l.take i).map (Qbz m w mn)=[]:=by
     intro c;have hli:((l.take i).map (Qbz m w mn)).length=i:=by simp;omega
     grind
    have hne2:¬ (l.take i).map (upS m w mn)=[]:=by
     intro c;have hli:((l.take i).map (upS m w mn)).length=i:=by simp;omega
     grind
    rw[if_neg hne1,if_neg hne2];generalize span ((l.take i).map (Qbz m w mn))=A at *;generalize span ((l.take i).map (upS m w mn))=B at *;simp[stI,QaJ,QeQ,h0];refine cK (by simpa using hg) ?_
    simp[hnum,hd0,hlow,hup,Qc6,Qc7];omega
   simpa using this
  ·simp
theorem QwK (m:Machine) (mn load:Int) (hl:m.zd.length<=1000) (hb:m.zk.length<=1000):Gd K 222 [maV m,.int .i64 mn,.int .i64 load] (.xh [.int .i64 (JL m mn load).1,.int .i64 (JL m mn load).2]):=by
 refine Qb hK (fk func222 QGB (by kernel_rfl)) (by simp) ?_
 simp;refine cK (Qik hK 0 mn load) ?_;have hask:decide (inR 0 0 9999/\inR mn 0 99/\inR load 0 999999999)=QaM 0 mn load:=rfl;rw[hask];simp;refine cK (Qil hK m (QaM 0 mn load) hl hb) ?_;unfold JL;by_cases he:tE m (QaM 0 mn load)=0;rotate_left
 ·simp[he]
 ·obtain ⟨hm,ha,htl,hne⟩:=QuR he
  have ha:=of_decide_eq_true ha;have hok:∀ s∈Q2 m [] m.zd,okS m s:=fun s h=>(JJ h).1
  have hml:=QhG hm hok ha.2.1 ha.2.2;have hmn:=qO m mn load (Q2 m [] m.zd);rw[htl,hml];simp[he];refine Q6 (wy:=.fall) (o':=[(8,.box [.iv (.ptr (wkC m))]),(10,.box [.iv (.int .i64 (V8 m mn load (Q2 m [] m.zd)))])]) rfl (by kernel_rfl) (QbN hK m hm) ?_ ?_
  ·clear hml hmn hne htl
   generalize Q2 m [] m.zd=l at *
   have:=Un.all (P:=prog) (K:=K) (ps:=[26]) (asn:=QeK) (body:=Qjc) (ks:=[4,5,8,10]) (ids:=[8,10]) (eK:=[(4,.iv (.ptr [.int .i64 mn])),(5,.iv (.ptr [.int .i64 load])),(8,.loc 8 0),(10,.loc 10 0)]) (l.map stI)
    (fun i=>[(8,.box [.iv (.ptr (wkC m))]),(10,.box [.iv (.int .i64 (V8 m mn load (l.take i)))])]) fun i x hi=>by
    simp only[QJ4,QJ0] at hi;obtain ⟨y,hy,rfl⟩:=hi;obtain ⟨xd,rfl⟩:=QJX.1 hy;have hsi:=hok _ (QJ1 xd);have hd:=hm.denB hsi;have hab:=hm.aboveB;have hld:=ha.2.2;simp only[inR] at hld;have h4:=QK7 hld.2 hd.2 (by omega) (by omega)
    have h5:=QKY hld.1 (Int.le_trans (by omega) hd.1)
    have td:=Qa1 (a:=load*den l[i]+Vg m-1) (b:=Vg m) (by omega) (by omega)
    have ha0:¬ Vg m=0:=by omega
    have hp:=(hm.zq (w:=0) hsi.2.1 (by simp[inR]) ha.2.1).2
    have hst:V8 m mn load (l.take (i+1))=max (V8 m mn load (l.take i)) ((load*den l[i]+Vg m-1).tdiv (Vg m)-Uv m l[i].zx 0 mn):=by
     unfold V8;rw[QJV xd,QLc];rfl
    rw[hst];refine ⟨rfl,?_⟩;have hg:=Qij hK m l[i] 0 mn hm hsi.2.1 (by simp[inR]) ha.2.1
    generalize V8 m mn load (l.take i)=A at *;simp[stI,QeK,Qjc,ha0]
    (repeat' first | omega | (with_reducible apply And.intro) | intro _)
    refine cK (by simpa using hg) ?_
    simp[Qc7];omega
   simpa[V8] using this
  ·by_cases h9:9999<V8 m mn load (Q2 m [] m.zd)
   ·have:9999<min (V8 m mn load (Q2 m [] m.zd)) 10000:=by omega
    simp[h9,this]
   ·have:min (V8 m mn load (Q2 m [] m.zd)) 10000=V8 m mn load (Q2 m [] m.zd):=by omega
    simp[h9,this]
omit hK
def XS (ds:List Qx):List Qx:=ds.filter ZS
@[simp] def lkC (d:Qx):List IV:=[.int .i64 d.bar,.int .i64 d.z6]
@[simp] def J5 (ds:List Qx) (e:Nat->Int) (pm:IV):List IV:=[QxU (QiA ds e ds.length),.sl 2 ((XS ds).map lkC),pm]
theorem QbR (p:Qx->Bool):∀ (l:List Qx) (i k:Nat),(l.filter p)[k]?=((XQ p l i)[k]?).bind fun j=>l[j-i]?
 | [],i,k=>by simp[XQ]
 | d::l,i,k=>by
   have ih:=QbR p l (i+1);have hge:∀ j∈XQ p l (i+1),i+1<=j:=fun j hj=>(JV p l (i+1) j hj).1
   have sh:∀ k:Nat,((XQ p l (i+1))[k]?).bind (fun j=>l[j-(i+1)]?)=((XQ p l (i+1))[k]?).bind (fun j=>(d::l)[j-i]?):=fun k=>by
    cases hk:(XQ p l (i+1))[k]? with
    | none=>rfl
    | some j =>
      have:=hge j (QKd hk)
      grind
   by_cases hp:p d=true
   ·simp only[QLk hp,XQ,hp,if_true]
    grind
   simp only[QLl hp,XQ,hp]
   grind
theorem Yz (ds:List Qx):(XS ds).length=(Vj ds).length:=by
 have:∀ (l:List Qx) (i:Nat),(l.filter ZS).length=(XQ ZS l i).length:=by
  intro l
  induction l with
  | nil=>intro i;rfl
  | cons d l ih =>
    intro i;by_cases hp:ZS d=true
    ·simp only[QLk hp,XQ,hp,if_true,QKk,ih (i+1)]
    simp only[QLl hp,XQ,hp,ih (i+1)];simp
 exact this ds 0
theorem QlE (ds:List Qx) (k:Nat) (h:k<(XS ds).length):(XS ds)[k]=Qeb ds k:=by
 have h':k<(Vj ds).length:=by rw[<- Yz];exact h
 have h1:=QbR ZS ds 0 k;have h2:(Vj ds)[k]<ds.length:=Qqy (QJ1 h');have e:(XQ ZS ds 0)[k]?=some (Vj ds)[k]:=QJW h';rw[e] at h1;simp only[Option.bind_some,Nat.sub_zero,QJW h2] at h1;have h3:(XS ds)[k]?=some ds[(Vj ds)[k]]:=h1;rw[QJW h] at h3;injection h3 with h3
 rw[h3];simp[Qeb,List.getD_eq_getElem?_getD,h',h2]
include hK
theorem Qwc (ds:List Qx) (e:Nat->Int) (pm:IV) (s:Xh) (hc:OkD ds ds.length) (hl:ds.length<=1000) (hs:ZG s ds):Gd K 332 [.agg (J5 ds e pm),.agg (sC s)] (.bool (QcZ ds e s)):=by
 refine Qb hK (fk func332 QFI (by kernel_rfl)) (by simp) ?_
 obtain ⟨s1,s2,s3,s4,s5⟩:=hs;simp only[inR] at s1 s2 s3;have xd:s.after.toNat<ds.length+1:=by omega
 have hcl:=Xo e hc s.after.toNat (by omega) (by omega)
 have hcg:=QaF ds e ds.length s.after.toNat (by omega)
 have hcb:=hc.cnt s.after.toNat (by omega) (by omega)
 have hclt:=qS ds e s.after.toNat;have hww:=QjJ ds s.after.toNat
 have hp:(if s.z7=1 then ((cab ds e s.after.toNat).length:Int)-1-s.pos else s.pos)=(plc s.pos s.z7 (cab ds e s.after.toNat).length:Nat):=by
  unfold plc;split<;>omega
 have hpl:plc s.pos s.z7 (cab ds e s.after.toNat).length<(cab ds e s.after.toNat).length:=Qj9 (by omega)
 simp[xd,hcg]
 (repeat' first | omega | (with_reducible apply And.intro) | intro _)
 refine cK (Qh9 hK s.pos s.z7 (cab ds e s.after.toNat).length (by omega) (by omega)) ?_
 rw[hp];have hr:QcZ ds e s=Qj2 ds s (cab ds e s.after.toNat):=rfl;rw[hr];unfold Qj2;generalize plc s.pos s.z7 (cab ds e s.after.toNat).length=at_ at *;generalize cab ds e s.after.toNat=now at *
 have h1:now[at_]<(XS ds).length:=by
  have:=hclt now[at_] (QJ1 hpl);rw[Yz];omega
 have hm:Qeb ds (now.getD at_ 0)=(XS ds)[now[at_]]:=by
  rw[QlE ds _ h1]
  grind
 rw[hm];simp[hpl,h1]
 grind
theorem Qn2 (ds:List Qx) (e:Nat->Int) (pm:IV) (ss:List Xh) (hc:OkD ds ds.length) (hl:ds.length<=1000) (hs:∀ s∈ss,ZG s ds) (hsl:ss.length<=1000):Gd K 281 [.agg (J5 ds e pm),Qw ss] (.int .i64 (Zf ds ss e)):=by
 refine Qb hK (fk func281 QF8 (by kernel_rfl)) (by simp) ?_
 simp;intro _;refine Qi (fun i=>[(2,AV.iv (.ptr (J5 ds e pm))),(5,AV.iv (IV.int IntKind.i64 (Zf ds (ss.take i) e:Nat))),(8,AV.iv (Qw ss)),(9,AV.iv (.int .i64 ss.length)),(10,AV.iv (IV.int IntKind.i64 (i:Nat)))]) (fun _=>[]) ss.length (fun i=>True) trivial ?_ ?_
 ·intro _
  rw[Qa Qi4.eq_1];simp
 ·intro i hi _ ih
  have hle:=QcH ds (ss.take i) e;simp at hle;rw[Qa Qi4.eq_1];rw[Qe4 _ _ _ _ hi] at ih;simp[hi] at ih |-;have hg:=Qwc hK ds e pm ss[i] hc hl (hs _ (QJ1 hi));refine cK (by simpa using hg) ?_
  cases hr:QcZ ds e ss[i]
  ·simp[hr] at ih |-
   grind
  ·simp[hr] at ih |-
   grind
theorem Qn8 (ds:List Qx) (e:Nat->Int) (pm:IV) (hl:ds.length<=1000):Gd K 194 [.agg (J5 ds e pm)] (Xc (cab ds e ds.length)):=by
 refine Qb hK (fk func194 QGZ (by kernel_rfl)) (by simp) ?_
 have hcg:=QaF ds e ds.length ds.length (by omega)
 simp[hcg];omega
theorem Qwt (left all n:Int) (h : -1000000<=left/\left<=1000000):Gd K 278 [.int .i64 left,.int .i64 all,.ptr [.int .i64 n]] (.bool (decide (inR n 0 (left-1)))):=by
 refine Qb hK (fk func278 QGb (by kernel_rfl)) (by simp) ?_
 simp
 (repeat' first | omega | (with_reducible apply And.intro) | intro _)
 exact cK (Yr hK _ _ _) (by simp)
theorem QwY (n:Int):Gd K 192 [.int .i64 n] (.clo 278 [] [.ptr [.int .i64 n]]):=by
 refine Qb hK (fk func192 QG1 (by kernel_rfl)) (by simp) ?_
 simp
theorem Qv3 (a b:Int):Gd K 371 [.int .i64 a,.int .i64 b] (.bool true):=by
 refine Qb hK (fk func371 QFv (by kernel_rfl)) (by simp) ?_
 simp
theorem QwX (ds:List Qx) (e:Nat->Int) (pm:IV) (hl:ds.length<=1000) (n:Nat) (hn:n<(cab ds e ds.length).length):Gd K 193 [.agg (J5 ds e pm),.ptr [.int .i64 n]] (.int .i64 ((cab ds e ds.length)[n]:Nat)):=by
 refine Qb hK (fk func193 QG0 (by kernel_rfl)) (by simp) ?_
 simp;have hg:=Qn8 hK ds e pm hl;refine cK (by simpa using hg) ?_
 simp[hn]
omit hK
def ZT (d:Qx):Bool:=decide (d.z7=2)
def Qcg:List Nat->Nat->List (MK × IV)
 | [],_=>[]
 | j::t,r=>(.int .i64 (j:Nat),.int .i64 (r:Nat))::Qcg t (r+1)
theorem QkU (j:Nat):∀ (l:List Nat) (r:Nat),Qcg (l++[j]) r=Qcg l r++[(.int .i64 (j:Nat),.int .i64 ((r+l.length:Nat):Int))]
 | [],r=>by simp[Qcg]
 | a::l,r=>by
   have e:r+1+l.length=r+(l.length+1):=by omega
   simp only[QJ8,Qcg,QkU j l (r+1),QKk,e]
@[simp] theorem QkT:∀ (l:List Nat) (r:Nat),(Qcg l r).length=l.length
 | [],_=>rfl
 | _::l,r=>by simp[Qcg,QkT l (r+1)]
theorem Qdz (j:Nat):∀ (l:List Nat) (r:Nat),j ∉ l->∀ y:IV,zn (.int .i64 (j:Nat)) y (Qcg l r)=Qcg l r++[(.int .i64 (j:Nat),y)]
 | [],_,_,y=>rfl
 | a::l,r,h,y=>by
   have h1:¬ a=j:=fun c=>h (by simp[c])
   have h2:=Qdz j l (r+1) (fun c=>h (by simp[c])) y
   have h3:¬ (MK.int .i64 (a:Nat)=MK.int .i64 (j:Nat)):=by simp;omega
   simp only[Qcg,zn,h3,if_false,h2,QJ8]
theorem QgL (j:Nat):∀ (l:List Nat) (r:Nat),j∈l->Qn (.int .i64 (j:Nat)) (Qcg l r)=some (.int .i64 ((r+l.idxOf j:Nat):Int))
 | a::l,r,h=>by
   by_cases h1:a=j
   ·subst h1;simp[Qcg,Qn]
   have h2:j∈l:=by
    grind
   have h3:¬ (MK.int .i64 (a:Nat)=MK.int .i64 (j:Nat)):=by simp;omega
   have e:r+1+l.idxOf j=r+(l.idxOf j+1):=by omega
   have hi:(a::l).idxOf j=l.idxOf j+1:=by
    grind
   simp only[Qcg,Qn,h3,if_false,QgL j l (r+1) h2,hi,e]
theorem qr:∀ (l:List Nat) (r:Nat),Zx (some .i64) (Qcg l r)
 | [],_=>trivial
 | _::l,r=>⟨rfl,qr l (r+1)⟩
def Ud (ds:List Qx):List Nat:=XQ ZT ds 0
theorem Qdt (ds:List Qx):(Ud ds).length=ZN ds:=by
 have:∀ (l:List Qx) (i:Nat),(XQ ZT l i).length=ZN l:=by
  intro l
  induction l with
  | nil=>intro i;rfl
  | cons d l ih =>
    intro i;by_cases h:d.z7=2
    ·simp[XQ,ZT,h,ih,ZN,QLM]
    simp[XQ,ZT,h,ih,ZN,QLM]
 exact this ds 0
@[simp] def VL (c:Qr):List IV:=[QB c.za,Qw c.zg,.int .i64 c.zh,.map (Qcg (Ud c.za) 0)]
include hK
theorem Qim (c:Qr) (hl:c.za.length<=1000):Gd K 198 [chV c] (.agg (VL c)):=by
 refine Qb hK (fk func198 QGV (by kernel_rfl)) (by simp) ?_
 simp;intro _
 refine Qi (fun i=>[(2,AV.loc 2 0),(3,AV.loc 3 0),(10,AV.iv (QB c.za)),(11,AV.iv (.int .i64 c.za.length)),(12,AV.iv (IV.int IntKind.i64 (i:Nat)))])
  (fun i=>[(2,.box [.iv (.sl 5 []),.iv (.sl 5 []),.iv (.int .i64 0),.iv (.map [])]),(3,.box [.iv (QB c.za),.iv (Qw c.zg),.iv (.int .i64 c.zh),.yo 7]),(7,.xj (Qcg (XQ ZT (c.za.take i) 0) 0))]) c.za.length (fun i=>True) trivial ?_ ?_
 ·intro _
  rw[Qa Qjk.eq_1];simp[Ud]
 ·intro i hi _ ih
  rw[QbQ _ _ _ hi] at ih;rw[Qa Qjk.eq_1]
  have hnm:i ∉ XQ ZT (c.za.take i) 0:=fun h=>by
   have:=JV ZT (c.za.take i) 0 i h
   grind
  have hfr:=Qdz i (XQ ZT (c.za.take i) 0) 0 hnm;by_cases hw:c.za[i].z7=2
  ·rw[if_pos (by simp[ZT,hw]),QkU] at ih
   simp[hi,hw] at ih |-;rw[hfr];have hkd:=qr (XQ ZT (c.za.take i) 0) 0
   grind
  ·simp[hi,ZT,hw] at ih |-
   grind
end Go.Pf
namespace Go.Ev
open Go Go.RowKit
section
variable {P:Program} {K:World->Prop}
theorem UK {f:FuncId} {e:TypeId} {sz bytes:Nat}
  (hcl:∀ (b off n c:Nat) (news:List Value) (w:World),news.length=n*sz->n<=maxLen->n*bytes<=140737488355328->(∀ (j:Nat) (u:Value),news[j]?=some u->w.cell? ⟨b,off+j,none⟩=some u)->(∀ u∈news,u.oneCell'=true) ->
    Calls P f #[.slice (some ⟨b,off,none⟩) n c] w fun x w'=>∃ v',x=.returned v'/\w'.ownsRow w.heap.size e sz v' n news/\v'≠.slice none 0 0/\Below w.heap.size w w')
  (rows:List (List IV)) (hb:rows.length*bytes<=140737488355328) (hsz:∀ c∈rows,c.length=sz) (hne:rows≠[]):QjD P K f [.sl sz rows] (.yq 0 rows.length) e sz rows 0:=by
 intro w ok vs hk hnew hl hvs
 obtain ⟨v0,rfl⟩:∃ v0,vs=[v0]:=by
  match vs,hl with
  | [v],_=>exact ⟨v,rfl⟩
 have hrep:=hvs 0 _ v0 rfl rfl
 have fin:∀ (v':Value) (w':World) (news:List Value),w'.ownsRow w.heap.size e sz v' rows.length news->Below w.heap.size w w'->(∀ u∈news,u.oneCell'=true) ->
   (∀ (i j:Nat) (c:List IV) (x:IV) (u:Value),rows[i]?=some c->c[j]?=some x->news[i*sz+j]?=some u->QQ ok w x u) ->
   ∃ v l,Ending.returned v'=.returned v/\QD (fun b=>b<w.heap.size) (okL ok (one (Xy e sz rows 0)) (fun _=>l)) w' (one (Xy e sz rows 0)) (fun _=>l) (Xy e sz rows 0) l /\
    QA (okL ok (one (Xy e sz rows 0)) (fun _=>l)) w' (one (Xy e sz rows 0)) (fun _=>l) (ren 0 (.yq 0 rows.length)) v/\Below w.heap.size w w':=by
  intro v' w' news hown hbel hone hcx;have hsl:=Yf hown;have hge:∀ b,v'.ownBlock=some b->w.heap.size<=b:=fun b h=>(hown.lt b h).1
  have hown0:w'.ownsRow 0 e sz v' rows.length news:=by
   obtain ⟨h1,h2⟩:=hown;refine ⟨h1,?_⟩
   grind
  refine ⟨v',.arr v' news,rfl,⟨⟨by grind,fun b h1 h2=>by grind⟩,QLb _,fun c hc=>?_,hone,fun i j c x u hi hj hu=>?_⟩,?_,hbel⟩
  ·grind
  ·rw[QJ4,QJ0] at hi
   obtain ⟨d,hd,rfl⟩:=hi;rw[QJ4,QJ0] at hj;obtain ⟨y,hy,rfl⟩:=hj;refine .iv _ _ ((hcx i j d y u hd hy hu).mono fun b hb xd=>⟨⟨hb,fun id o _ hh=>?_⟩,hbel.block b xd⟩)
   grind
  have:=QA.yq (ok:=okL ok (one (Xy e sz rows 0)) (fun _=>.arr v' news)) (w:=w') (lo:=one (Xy e sz rows 0)) (L:=fun _=>.arr v' news) 0 e sz (rows.map (List.map AV.iv)) 0 v' news (by simp[one,Xy]) rfl hsl
  rw[QJ9] at this;exact this
 cases hrep with
 | sl _ _ b off cap u hlc hc hs hu hx =>
   refine (hcl b off rows.length cap ((List.range (rows.length*sz)).map u) w (by simp) (by omega) hb (fun j v hj=>?_) (fun v hv=>?_)).mono fun x w' ⟨v',hx',hown,_,hbel⟩=>?_
   all_goals grind
 | _=>grind
end
end Go.Ev
namespace Go.Pf
open Go Go.Ev Go.Proofs Go.RowKit Go.Shelf Go.Proofs.Tryz
set_option maxRecDepth 8000
noncomputable def QEd:TypeInfo:=(prog.info? 73).get (by kernel_rfl)
noncomputable def Qt0:TypeInfo:=(prog.info? 139).get (by kernel_rfl)
noncomputable def QAz:Value:=Qt0.zero.get (by kernel_rfl)
section
variable {K:World->Prop}
theorem clone85 (l:List Qx) (hl:l.length<=1000) (hne:l≠[]):Gp K 85 [QB l] (.yq 0 l.length) 73 5 (l.map dC) 0:=by
 have h:=UK (P:=prog) (K:=K) (f:=85) (e:=73) (sz:=5) (bytes:=40) (AnyE.slices_Clone Tryz.clone85 QEd (.agg #[.int .i64 0,.int .i64 0,.int .i64 0,.int .i64 0,.int .i64 0]) 5 40 (by kernel_rfl) (by kernel_rfl) (by kernel_rfl) (by kernel_rfl) rfl (by decide) sizeOf73) (l.map dC) (by simp;omega) (by simp) (by simpa using hne)
 simpa using h
theorem clone87 (l:List ZE) (hl:l.length<=1000) (hne:l≠[]):Gp K 87 [QT l] (.yq 0 l.length) 139 3 (l.map leC) 0:=by
 have h:=UK (P:=prog) (K:=K) (f:=87) (e:=139) (sz:=3) (bytes:=24) (AnyE.slices_Clone Tryz.clone87 Qt0 QAz 3 24 (by kernel_rfl) (by kernel_rfl) (by kernel_rfl) (by kernel_rfl) (by kernel_rfl) (by decide) sizeOf139) (l.map leC) (by simp;omega) (by simp) (by simpa using hne)
 simpa using h
end
end Go.Pf
namespace Go.Pf
open Go Go.Ev Go.Proofs Go.RowKit Go.Proofs.Tryz
variable {K:World->Prop} (hK:∀ w w',K w->Below w.heap.size w w'->K w')
set_option maxRecDepth 8000
def ZD (ds:List Qx) (n:Nat) (i:Nat):Int:=match ds[i]? with
 | some d=>if d.z7=2 then ((n.testBit ((Ud ds).idxOf i)).toNat:Int) else d.z7
 | none=>0
theorem QkH (ds:List Qx) (n i:Nat) (h:i<ds.length):ZD ds n i=if ds[i].z7=2 then ((n.testBit ((Ud ds).idxOf i)).toNat:Int) else ds[i].z7:=by
 simp[ZD,h]
theorem QoM (ds:List Qx) (i:Nat) (h:i<ds.length) (h2:ds[i].z7=2):i∈Ud ds:=by
 have:∀ (l:List Qx) (k i:Nat) (h:i<l.length),l[i].z7=2->k+i∈XQ ZT l k:=by
  intro l
  induction l with
  | cons d l ih =>
    intro k i h h2;cases i with
    | zero =>
      have h3:d.z7=2:=h2;simp[XQ,ZT,h3]
    | succ i =>
      have:=ih (k+1) i (by simpa using h) (by simpa using h2)
      have e:k+1+i=k+(i+1):=by omega
      rw[e] at this;simp only[XQ]
      grind
  | _=>grind
 simpa[Ud] using this ds 0 i h h2
include hK
theorem Qwd (c:Qr) (n i:Nat) (hn:n<2 ^ 63) (hi:i<c.za.length) (h2:c.za[i].z7=2):Gd K 331 [.int .i64 i,.ptr [.int .i64 n],.ptr (VL c)] (.int .i64 (ZD c.za n i)):=by
 refine Qb hK (fk func331 QFJ (by kernel_rfl)) (by simp) ?_
 have hf:=QgL i (Ud c.za) 0 (QoM c.za i hi h2);have hkk:=qr (Ud c.za) 0;rw[QkH _ _ _ hi,if_pos h2];simp only[QKl] at hf;simp[hkk,hf];exact Qy3 n _ hn
omit hK
def XD (ds:List Qx) (pm:Nat->IV) (n:Nat):List IV:=[.agg (J5 ds (ZD ds n) (pm n))]
theorem Qu5 {n:Nat} (h:n<=12):Qu6 IntKind.i64 1 (n:Int)=((2 ^ n:Nat):Int):=by
 have:n=0\/n=1\/n=2\/n=3\/n=4\/n=5\/n=6\/n=7\/n=8\/n=9\/n=10\/n=11\/n=12:=by omega
 rcases this with rfl | rfl | rfl | rfl | rfl | rfl | rfl | rfl | rfl | rfl | rfl | rfl | rfl<;>decide
include hK
theorem QnG (c:Qr) (pm:Nat->IV) (ht:ZN c.za<=12) (h201:∀ n:Nat,n<2 ^ ZN c.za->Gd K 330 [QB c.za,.clo 331 [] [.ptr [.int .i64 n],.ptr (VL c)]] (.agg (J5 c.za (ZD c.za n) (pm n)))) :
  Qam prog K 280 [.agg (VL c)] [] ((List.range (2 ^ ZN c.za)).map (XD c.za pm)):=by
 intro s b s' hf;have hp:=U9 ht;refine QL (fk func280 QF9 (by kernel_rfl)) (by simp) hf.v rfl ?_
 have hlen:(Qcg (Ud c.za) 0).length=ZN c.za:=by rw[QkT,Qdt]
 simp[Qdt,Qu5 ht];have hN:0<2 ^ ZN c.za:=Nat.pos_of_ne_zero (by simp)
 have hcast:((2:Int) ^ ZN c.za)=((2 ^ ZN c.za:Nat):Int):=by push_cast;rfl
 rw[hcast];generalize 2 ^ ZN c.za=N at *
 refine Yi N (fun i e o=>∃ si,e=[(1,AV.cb 0),(2,AV.iv (.ptr (VL c))),(8,AV.iv (.int .i64 (N:Nat))),(9,AV.iv (.int .i64 (i:Nat)))]/\o=[(0,.ext si)] /\
  ZO prog K (((List.range N).drop i).map (XD c.za pm)) si b s') ?_ ?_ _ _ ⟨s,rfl,rfl,by simpa using hf⟩
 ·rintro e o ⟨si,rfl,rfl,hfd⟩
  rw[QKN (by simp)] at hfd
  cases hfd;rw[Qa Qi5.eq_1];simp
 ·rintro i e o hi ⟨si,rfl,rfl,hfd⟩ ih
  rw[QKp (by simpa using hi)] at hfd
  simp only[List.getElem_range,QKg] at hfd;have hg:=h201 i hi;rw[Qa Qi5.eq_1];simp[hi];refine QgR _ _ _ _ _ _ _ _ ?_;simp;refine cK (by simpa using hg) ?_
  have hst:XD c.za pm i=[.agg (J5 c.za (ZD c.za i) (pm i))]:=rfl;rw[hst] at hfd;simp;cases hfd with
  | stop _ _ _ _ hg =>
    refine Q4 (by simpa using hg) rfl ?_
    simp
  | next _ _ _ s1 _ _ hg hr =>
    refine Q4 (by simpa using hg) rfl ?_
    simp
    (repeat' first | omega | (with_reducible apply And.intro) | intro _)
    exact ih _ _ ⟨s1,by simp,rfl,hr⟩
omit hK
section
variable {K:World->Prop}
def QS (c:Qr):List Nat:=(List.range (2 ^ ZN c.za)).filter fun n=>decide ((Zf c.za c.zg (ZD c.za n):Int)<=c.zh)
theorem Qbb (hK:∀ w w',K w->Below w.heap.size w w'->K w') {c:Qr} (hc:OkC c) {pm:Nat->IV} {ks:Env} (hks:ZC [2,3] [0,3] ks=[(2,.iv (.ptr (VL c))),(3,.loc 3 0)]) :
  ∀ (Ls:List Nat) (s:Ext) (b:Bool) (s':Ext),ZO prog K ((Ls.filter fun n=>decide ((Zf c.za c.zg (ZD c.za n):Int)<=c.zh)).map (XD c.za pm)) s b s' ->
   ∃ wy,(wy=.fall\/wy=.ret)/\Un prog K [7] WI Qce [2,3] [0,3] (ZC [2,3] [0,3] ks) (Ls.map (XD c.za pm)) [(0,.ext s),(3,.box [.cb 0])] wy [(0,.ext s'),(3,.box [.cb 0])]
 | [],s,b,s',h=>by
   cases h;exact ⟨.fall,.inl rfl,.nil _⟩
 | t::Ls,s,b,s',h=>by
   have hl:=hc.len;have hsl:=hc.slen;have hw:=Qn2 hK c.za (ZD c.za t) (pm t) c.zg hc.za (by omega) hc.zg (by omega)
   by_cases ht:(Zf c.za c.zg (ZD c.za t):Int)<=c.zh
   ·rw[QLk (by simpa using ht)] at h
    cases h with
    | stop _ _ _ _ hg =>
      refine ⟨.ret,.inr rfl,.stop _ _ _ _ _ (by simp) ?_⟩
      rw[hks];refine ⟨rfl,?_⟩;simp[XD,WI,Qce];refine cK (by simpa using hw) ?_
      simp[ht];refine Q4 (by simpa[XD] using hg) rfl ?_
      simp
    | next _ _ _ s1 _ _ hg hr =>
      obtain ⟨wy,h1,h2⟩:=Qbb hK hc hks Ls s1 b s' hr;refine ⟨wy,h1,.next _ _ _ _ _ _ ?_ h2⟩;rw[hks];refine ⟨rfl,?_⟩;simp[XD,WI,Qce];refine cK (by simpa using hw) ?_
      simp[ht];refine Q4 (by simpa[XD] using hg) rfl ?_
      simp
   ·rw[QLl (by simpa using ht)] at h
    obtain ⟨wy,h1,h2⟩:=Qbb hK hc hks Ls s b s' h;refine ⟨wy,h1,.next _ _ _ _ _ _ ?_ h2⟩;rw[hks];refine ⟨rfl,?_⟩;simp[XD,WI,Qce];refine cK (by simpa using hw) ?_
    simp[ht]
end
def QgS (K:World->Prop) (c:Qr) (pm:Nat->IV):Prop:=∀ n:Nat,n<2 ^ ZN c.za->Gd K 330 [QB c.za,.clo 331 [] [.ptr [.int .i64 n],.ptr (VL c)]] (.agg (J5 c.za (ZD c.za n) (pm n)))
theorem WU (ds:List Qx):ZN ds<=ds.length:=QKQ
include hK
theorem qe (c:Qr) (hc:OkC c) (pm:Nat->IV) (ht:QgS K c pm):Qam prog K 277 [.agg (VL c)] [] ((QS c).map (XD c.za pm)):=by
 intro s b s' hfd;have h12:=hc.len;have htw:=WU c.za;refine QL (fk func277 QGc (by kernel_rfl)) (by simp) hfd.v rfl ?_
 obtain ⟨wy,h1,h2⟩:=Qbb (pm:=pm) hK hc (ks:=[(2,.iv (.ptr (VL c))),(3,.loc 3 0)]) rfl (List.range (2 ^ ZN c.za)) s b s' hfd;simp;refine Q6 (wy:=wy) (o':=[(0,.ext s'),(3,.box [.cb 0])]) rfl (by kernel_rfl) (QnG hK c pm (by omega) ht) (by simpa using h2) ?_
 rcases h1 with rfl | rfl<;>simp
noncomputable def YW (c:Qr) (is:Bool):Int:=if OkC c then (if is=true then (if QS c=[] then 3 else 0) else 1) else 20
theorem Qwu (c:Qr) (pm:Nat->IV) (ht:OkC c->QgS K c pm) (g:FuncId) (fs cs:List IV) (is:Bool) (hg:OkC c->Gd K g (fs++[.int .i64 (XR c.za),.int .i64 (Qmg c.za)]++cs) (.bool is)) (hcg:callee prog g=true) (hl:c.za.length<=1000) (hs:c.zg.length<=1000) :
  Gd K 276 [chV c,.clo g fs cs] (.xh [if OkC c/\is=true then .agg (VL c) else .agg [.sl 5 [],.sl 5 [],.int .i64 0,.map []],.int .i64 (YW c is)]):=by
 refine Qb hK QpN (by simp) ?_
 simp;refine cK (QbV hK c hl hs) ?_;by_cases h1:OkC c
 ·simp[h1]
  refine cK (Qia hK c hl) ?_;simp;refine ⟨hcg,cK (by simpa using hg h1) ?_⟩
  cases is
  ·simp[YW,h1]
  simp;refine cK (by simpa using Qim hK c hl) ?_
  simp;cases hR:QS c with
  | nil =>
    refine Q6 (wy:=.fall) (o':=[(4,.box [.iv (.sl 5 []),.iv (.sl 5 []),.iv (.int .i64 0),.iv (.map [])]),(5,.box [.iv (.int .i64 0)]),(7,.box [.iv (QB c.za),.iv (Qw c.zg),.iv (.int .i64 c.zh),.iv (.map (Qcg (Ud c.za) 0))])]) rfl (by kernel_rfl) (qe hK c h1 pm (ht h1)) (by rw[hR];simpa using Un.nil _) ?_
    simp[YW,h1,hR]
  | cons a r =>
    refine Q6 (wy:=.ret) (o':=[(4,.box [.iv (QB c.za),.iv (Qw c.zg),.iv (.int .i64 c.zh),.iv (.map (Qcg (Ud c.za) 0))]),(5,.box [.iv (.int .i64 0)]),(7,.box [.iv (QB c.za),.iv (Qw c.zg),.iv (.int .i64 c.zh),.iv (.map (Qcg (Ud c.za) 0))])]) rfl (by kernel_rfl) (qe hK c h1 pm (ht h1)) (by
     rw[hR];refine .stop _ _ _ _ _ (by simp) ?_
     refine ⟨rfl,?_⟩;simp[XD,QeJ,Qi6]) ?_
    simp[YW,h1,hR]
 ·simp[h1,YW]
theorem QrG (c:Qr) (pm:Nat->IV) (ht:OkC c->QgS K c pm) (g:FuncId) (is:Bool) (hg:OkC c->Gd K g [.int .i64 (XR c.za),.int .i64 (Qmg c.za)] (.bool is)) (hcg:callee prog g=true) (hl:c.za.length<=1000) (hs:c.zg.length<=1000) :
  Gd K 276 [chV c,.fn g] (.xh [if OkC c/\is=true then .agg (VL c) else .agg [.sl 5 [],.sl 5 [],.int .i64 0,.map []],.int .i64 (YW c is)]):=by
 refine Qb hK QpN (by simp) ?_
 simp;refine cK (QbV hK c hl hs) ?_;by_cases h1:OkC c
 ·simp[h1]
  refine cK (Qia hK c hl) ?_;simp;refine ⟨hcg,cK (by simpa using hg h1) ?_⟩
  cases is
  ·simp[YW,h1]
  simp;refine cK (by simpa using Qim hK c hl) ?_
  simp;cases hR:QS c with
  | nil =>
    refine Q6 (wy:=.fall) (o':=[(4,.box [.iv (.sl 5 []),.iv (.sl 5 []),.iv (.int .i64 0),.iv (.map [])]),(5,.box [.iv (.int .i64 0)]),(7,.box [.iv (QB c.za),.iv (Qw c.zg),.iv (.int .i64 c.zh),.iv (.map (Qcg (Ud c.za) 0))])]) rfl (by kernel_rfl) (qe hK c h1 pm (ht h1)) (by rw[hR];simpa using Un.nil _) ?_
    simp[YW,h1,hR]
  | cons a r =>
    refine Q6 (wy:=.ret) (o':=[(4,.box [.iv (QB c.za),.iv (Qw c.zg),.iv (.int .i64 c.zh),.iv (.map (Qcg (Ud c.za) 0))]),(5,.box [.iv (.int .i64 0)]),(7,.box [.iv (QB c.za),.iv (Qw c.zg),.iv (.int .i64 c.zh),.iv (.map (Qcg (Ud c.za) 0))])]) rfl (by kernel_rfl) (qe hK c h1 pm (ht h1)) (by
     rw[hR];refine .stop _ _ _ _ _ (by simp) ?_
     refine ⟨rfl,?_⟩;simp[XD,QeJ,Qi6]) ?_
    simp[YW,h1,hR]
 ·simp[h1,YW]
theorem Qwb (c:Qr) (pm:Nat->IV) (ht:OkC c->QgS K c pm) (hl:c.za.length<=1000) (hs:c.zg.length<=1000):Gd K 336 [chV c] (.xh [.int .i64 (if YW c true=0 then (QS c).length else 0),.int .i64 (YW c true)]):=by
 refine Qb hK (fk func336 QFE (by kernel_rfl)) (by simp) ?_
 simp;refine cK (QrG hK c pm ht 371 true (fun _=>Qv3 hK _ _) (by kernel_rfl) hl hs) ?_
 by_cases he:YW c true=0;rotate_left
 ·by_cases h1:OkC c<;>simp[he,h1]
 ·have h1:OkC c:=by
   unfold YW at he
   grind
  have hlen:(QS c).length<=4096:=by
   have h1':=QKz (fun n=>decide ((Zf c.za c.zg (ZD c.za n):Int)<=c.zh)) (List.range (2 ^ ZN c.za))
   have h2':=U9 (n:=ZN c.za) (by have:=WU c.za;have:=h1.len;omega)
   simp at h1';unfold QS;omega
  simp[he,h1];refine Q6 (wy:=.fall) (o':=[(6,.box [.iv (.int .i64 ((QS c).length:Nat))])]) rfl (by kernel_rfl) (qe hK c h1 pm (ht h1)) ?_ ?_
  ·have:=Un.all (P:=prog) (K:=K) (ps:=[17]) (asn:=QeH) (body:=QiM) (ks:=[6]) (ids:=[6]) (eK:=[(6,.loc 6 0)]) ((QS c).map (XD c.za pm)) (fun i=>[(6,.box [.iv (.int .i64 (i:Int))])]) fun i x hi=>by
    simp only[QJ4,QJ0] at hi;obtain ⟨y,hy,rfl⟩:=hi;have xd:=(QJX.1 hy).1;refine ⟨rfl,?_⟩;simp[XD,QeH,QiM];omega
   simpa using this
  ·simp
theorem QnY (d:Qx):Gd K 335 [.agg (dC d)] (.bool (ZT d)):=by
 refine Qb hK (fk func335 QFF (by kernel_rfl)) (by simp) ?_
 simp[ZT]
omit hK
def XK (m:Machine) (n:Int):Machine:={ m with zu:=n,zw:=n }
noncomputable def qL (m:Machine) (k:Nat):List Machine:=if tE (XK m (m.zu+k)) true=0 then [XK m (m.zu+k)] else []
def Qgc (m:Machine):List IV:=[maV m]
include hK
theorem Qga (m:Machine) (hl:m.zd.length<=1000) (hb:m.zk.length<=1000) (hr:inR m.zu 0 m.zw) (hr2:m.zw<=20) (hs:∀ n,OkM (XK m n)->sets (XK m n) m.zd.length<=1000000) :
  Qal prog K 287 [maV m,.int .i64 m.zd.length] [] ((acc (qL m) (m.zw+1-m.zu).toNat).map Qgc) (fun b=>.bool b):=by
 intro s b s' hf;refine QL QpL (by simp) hf.v rfl ?_
 rw[QaO] at hf;simp only[inR] at hr;simp;intro _
 refine Yi (m.zw+1-m.zu).toNat (fun i e o=>∃ si x y,e=[(2,AV.cb 0),(3,AV.iv (.ptr [QT m.zd,.int .i64 m.zr,.int .i64 m.zu,.int .i64 m.zw,XN m.zk,.int .i64 m.zh])),(7,AV.loc 7 0),(8,AV.iv (.int .i64 (m.zu+(i:Nat))))] /\
  o=[(0,.ext si),(7,.box [.iv (QT m.zd),.iv (.int .i64 m.zr),.iv (.int .i64 x),.iv (.int .i64 y),.iv (XN m.zk),.iv (.int .i64 m.zh)])] /\
  ZO prog K ((XO (qL m) i ((m.zw+1-m.zu).toNat-i)).map Qgc) si b s') ?_ ?_ _ _ ⟨s,m.zu,m.zw,by simp,by simp,by simpa using hf⟩
 ·rintro e o ⟨si,x,y,rfl,rfl,hfd⟩
  have q1:m.zu+((m.zw+1-m.zu).toNat:Int)=m.zw+1:=by omega
  have q2:¬ m.zw+1<=m.zw:=by omega
  rw[Nat.sub_self] at hfd;cases hfd;rw[q1,Qa QiZ.eq_1];simp[q2]
 ·rintro i e o hi ⟨si,x,y,rfl,rfl,hfd⟩ ih
  have q1:m.zu+(i:Int)<=m.zw:=by omega
  have q3:m.zu+((i:Int)+1)=m.zu+i+1:=by omega
  have e1:(m.zw+1-m.zu).toNat-i=((m.zw+1-m.zu).toNat-(i+1))+1:=by omega
  rw[e1] at hfd;simp only[XO,QKf] at hfd;have hg:=Qv9 hK (XK m (m.zu+i)) hl hb (hs _);rw[Qa QiZ.eq_1];simp[q1];refine Qe (by simpa[XK] using hg) (.inr rfl) ?_
  by_cases he:tE (XK m (m.zu+i)) true=0
  ·have hp:qL m i=[XK m (m.zu+i)]:=by simp[qL,he]
   rw[hp] at hfd;simp only[QKg,List.map_nil,List.singleton_append] at hfd;have he':=he;simp only[XK] at he';simp[he'];cases hfd with
   | stop _ _ _ _ hg =>
     refine Q4 (by simpa[Qgc,XK] using hg) rfl ?_
     simp
   | next _ _ _ s1 _ _ hg hr2 =>
     refine Q4 (by simpa[Qgc,XK] using hg) rfl ?_
     simp
     (repeat' first | omega | (with_reducible apply And.intro) | intro _)
     exact ih _ _ ⟨s1,m.zu+i,m.zu+i,by simp[q3],by simp,hr2⟩
  ·have hp:qL m i=[]:=by simp[qL,he]
   rw[hp] at hfd;simp only[List.map_nil,QKe] at hfd;have he':=he;simp only[XK] at he';simp[he']
   (repeat' first | omega | (with_reducible apply And.intro) | intro _)
   exact ih _ _ ⟨si,m.zu+i,m.zu+i,by simp[q3],by simp,hfd⟩
end Go.Pf
namespace Go.Ev
open Go Go.RowKit Go.Sort
section
variable {P:Program} {K:World->Prop}
@[reducible] def Xa (zs:List Int) (mv:Nat):AO:=.arr 3 1 (zs.map fun z=>[AV.iv (.int .i64 z)]) mv
@[reducible] def Qqk (zs:List Int):IV:=.sl 1 (zs.map fun z=>[IV.int .i64 z])
theorem QhN {w:World} {g:Nat} {f:Array Value->Array Value} {c:Array Value} {e:TypeId} {fr:Nat × Nat} (h:w.heap[g]?=some (.cells c e fr)):(mapBlock w g f).heap[g]?=some (.cells (f c) e fr):=by
 simp only[mapBlock,Array.getElem?_modify,if_true,h,QLo,onCells]
theorem QhM {w:World} {g k:Nat} {f:Array Value->Array Value} (h:k≠g):(mapBlock w g f).heap[k]?=w.heap[k]?:=by
 simp only[mapBlock,Array.getElem?_modify,if_neg (Ne.symm h)]
theorem Qec {w:World} {g:Nat} {f:Array Value->Array Value}:(mapBlock w g f).heap.size=w.heap.size:=by
 simp only[mapBlock,Array.size_modify]
theorem JR {Fr:Nat->Prop} {w:World} {g:Nat} {f:Array Value->Array Value} (h:¬ Fr g):Zq Fr w (mapBlock w g f) :=
 ⟨rfl,rfl,rfl,by rw[Qec];omega,fun k hk=>QhM fun e=>h (e▸hk)⟩
theorem Z1 {Fr:Nat->Prop} {g:Nat} (h:¬ Fr g):∀ (vs:List Value) (o:Nat) (w:World),Zq Fr w (w.setCells g o vs)
 | [],_,w=>Zq.refl _ _
 | v::r,o,w=>by
   rw[World.setCells];have h1:Zq Fr w (w.setCell ⟨g,o,none⟩ v):=by rw[setCell_eq];exact JR h
   have h2:=Z1 h r (o+1) (w.setCell ⟨g,o,none⟩ v);exact ⟨h2.os.trans h1.os,h2.tape.trans h1.tape,h2.output.trans h1.output,QKG h1.size h2.size,fun k hk=>(h2.block k hk).trans (h1.block k hk)⟩
theorem QdB (w:World) (o:Obj):Zq (fun b=>b<w.heap.size) w (w.alloc o) :=
 ⟨rfl,rfl,rfl,by show _<=(w.heap.push o).size;grind,fun k hk=>by
  show (w.heap.push o)[k]?=_
  grind⟩
structure QcE (w:World) (v:Value) (zs:List Int) (g cap:Nat) (cur:Array Value):Prop where
 v:v=.slice (some ⟨g,0,none⟩) zs.length cap
 at_:w.heap[g]?=some (.cells cur 3 (0,0))
 le:zs.length<=cap
 max:cap<=maxLen
 size:cur.size=cap
 take:cur.toList.take zs.length=zs.map (.int .i64)
theorem QcE.cell {w:World} {v:Value} {zs:List Int} {g cap:Nat} {cur:Array Value} (h:QcE w v zs g cap cur) (j:Nat):w.cell? ⟨g,j,none⟩=cur[j]?:=by
 simp[World.cell?,h.at_]
theorem QcE.frozen {w:World} {v:Value} {zs:List Int} {g cap:Nat} {cur:Array Value} (h:QcE w v zs g cap cur) (j:Nat):w.frozen? ⟨g,j,none⟩=false:=by
 simp[World.frozen?,h.at_]
theorem QcE.get {w:World} {v:Value} {zs:List Int} {g cap:Nat} {cur:Array Value} (h:QcE w v zs g cap cur) (j:Nat) (hj:j<zs.length):cur[j]?=some (.int .i64 zs[j]):=by
 have h1:(cur.toList.take zs.length)[j]?=some (.int .i64 zs[j]):=by rw[h.take];simp[hj]
 grind
theorem QcE.holds {w:World} {v:Value} {zs:List Int} {g cap:Nat} {cur:Array Value} (h:QcE w v zs g cap cur):Holds (Value.int .i64) w g 0 zs.toArray:=by
 intro j hj;have hj':j<zs.length:=by simpa using hj
 refine ⟨?_,by rw[QKl];exact h.frozen j⟩
 rw[QKl,h.cell,h.get j hj',getElem!_pos _ j hj];simp
theorem QjZ {Fr ok:Nat->Prop} {w:World} {lo:Nat->Option AO} {L:Nat->Lay} {zs:List Int} {mv:Nat} {l:Lay} (h:QD Fr ok w lo L (Xa zs mv) l) :
  ∃ v xs,l=.arr v xs/\((v=.slice none 0 0/\zs=[])\/∃ g cap cur,QcE w v zs g cap cur/\¬ Fr g):=by
 cases l with
 | arr v xs =>
   obtain ⟨⟨⟨h1,h2⟩,h3⟩,h4,h5,h6,h7⟩:=h;refine ⟨v,xs,rfl,?_⟩;simp only[QJ9] at h1 h2;rcases h2 with ⟨h2,h8⟩ | ⟨g,cap,cur,h8,h9,h10,h11,h12,h13,h14⟩
   ·grind
   refine .inr ⟨g,cap,cur,⟨h8,h10,h11,h12,by omega,?_⟩,h3 g (by simp[h8,Value.ownBlock])⟩
   rw[QLw] at h14;rw[h14];refine QLI fun i=>?_
   by_cases hi:i<zs.length
   ·have hx:i<xs.length:=by omega
    rw[QJW hx];have:=h7 i 0 [AV.iv (.int .i64 zs[i])] (.iv (.int .i64 zs[i])) xs[i] (by simp[hi]) (by simp) (by simp[hx])
    cases this with
    | iv _ _ r =>
      generalize hz:xs[i]=z at r;cases r;simp[hi,hz]
   grind
 | _=>exact absurd h (by simp[QD])
theorem QkZ {ok:Nat->Prop} {w:World} {lo:Nat->Option AO} {L:Nat->Lay} {zs:List Int} {mv id n:Nat} {v u:Value} {xs:List Value} (hid:lo id=some (Xa zs mv)) (hL:L id=.arr v xs) (hn:n=zs.length) (h:QA ok w lo L (.yq id n) u):u=v:=by
 grind
theorem U2 {ok:Nat->Prop} {w:World} (zs:List Int) (b cap:Nat) (hcap:zs.length<=cap) (hmax:cap<=maxLen) (hb:ok b) (hc:∀ j z,zs[j]?=some z->w.cell? ⟨b,j,none⟩=some (.int .i64 z)) :
  QQ ok w (Qqk zs) (.slice (some ⟨b,0,none⟩) zs.length cap):=by
 have h:=QQ.sl (ok:=ok) (w:=w) 1 (zs.map fun z=>[IV.int .i64 z]) b 0 cap (fun k=>.int .i64 (zs.getD k 0)) (by simpa using hcap) hmax (by simp) (fun k hk=>?_) (fun i j c x hi hj=>?_)
 ·simpa using h
 ·simp only[QJ9,QLw] at hk
  refine ⟨hb,?_,rfl⟩
  grind
 ·rw[QJ4,QJ0] at hi
  obtain ⟨z,hz,rfl⟩:=hi;cases j with
  | zero =>
    simp at hj;subst hj;rw[QLw,QKT,List.getD_eq_getElem?_getD,hz];exact .int _ _
  | succ j=>simp at hj
theorem QbG {Fr ok:Nat->Prop} {w:World} {L:Nat->Lay}:Qml Fr ok w (Qc []) L:=⟨by simp[Qc],by simp[Qc]⟩
theorem QdZ {f:FuncId}
  (he:∀ (a:Option Addr) (cap:Nat) (w:World),Calls P f #[.slice a 0 cap] w fun e w'=>e=.returned (.tuple #[])/\w'=w)
  (hr:∀ (blk off cap:Nat) (zs:List Int) (w:World),Holds (Value.int .i64) w blk off zs.toArray->zs.length<=9223372036854775807 ->
    Calls P f #[.slice (some ⟨blk,off,none⟩) zs.length cap] w fun e w'=>e=.returned (.tuple #[])/\∃ n,w'=putRow (Value.int .i64) (Sort.ahead w n) blk off zs.reverse.toArray)
  (zs:List Int) (mv:Nat):Y0 P K f [.yq 0 zs.length] [(0,Xa zs mv)] [0] (.iv (.xh [])) [(0,Xa zs.reverse zs.length)]:=by
 intro w ok L vs hK hnew hown hlaid hvl hvs
 obtain ⟨v0,rfl⟩:∃ v0,vs=[v0]:=by
  match vs,hvl with
  | [v],_=>exact ⟨v,rfl⟩
 have hob:=hlaid.xc 0 (Xa zs mv) rfl;obtain ⟨v,xs,hL,hrow⟩:=QjZ hob;have hv:v0=v:=QkZ (id:=0) (zs:=zs) (mv:=mv) rfl hL rfl (hvs 0 _ v0 rfl rfl);subst hv
 have fin:∀ (w':World) (xs':List Value),Zq (FrO w (Qc [(0,Xa zs mv)]) L) w w'->Yg (FrO w (Qc [(0,Xa zs mv)]) L) w' 3 1 v0 zs.length xs'->xs'=zs.reverse.map (.int .i64) ->
   ∃ v1 L',(Ending.returned (.tuple #[]):Ending)=.returned v1/\Qml (FrO w (Qc [(0,Xa zs mv)]) L) ok w' (Qc [(0,Xa zs.reverse zs.length)]) L'/\QA (okL ok (Qc [(0,Xa zs.reverse zs.length)]) L') w' (Qc [(0,Xa zs.reverse zs.length)]) L' (.iv (.xh [])) v1/\Zq (FrO w (Qc [(0,Xa zs mv)]) L) w w' /\
    ∀ i∈[0],∀ o,Qc [(0,Xa zs mv)] i=some o->∃ o',Qc [(0,Xa zs.reverse zs.length)] i=some o'/\J2 o o' (L i) (L' i):=by
  intro w' xs' hk ho hx;refine ⟨.tuple #[],fun _=>.arr v0 xs',rfl,⟨fun id o hid=>?_,fun i j oi oj b hij hi hj=>?_⟩,.iv _ _ (.xh [] [] rfl (by simp)),hk,fun i hi o h=>?_⟩
  ·simp only[Qc] at hid
   split at hid
   ·injection hid with hid
    subst hid;refine ⟨by simpa using ho,by simp,by simp,fun u hu=>?_,fun i j c x u hi hj hu=>?_⟩
    ·rw[hx] at hu
     obtain ⟨z,_,rfl⟩:=QKh.1 hu;rfl
    rw[QJ4,QJ0] at hi;obtain ⟨z,hz,rfl⟩:=hi;cases j with
    | zero =>
      simp at hj;subst hj;rw[hx,QLw,QKT,QJ4,hz] at hu;simp at hu;subst hu;exact .iv _ _ (.int _ _)
    | succ j=>simp at hj
   cases hid
  ·simp only[Qc] at hi hj
   grind
  simp at hi;subst hi;simp only[Qc,if_true] at h;injection h with h
  subst h;refine ⟨Xa zs.reverse zs.length,by simp[Qc],?_⟩
  rw[hL];simp[J2]
 rcases hrow with ⟨rfl,rfl⟩ | ⟨g,cap,cur,hr1,hfr⟩
 ·refine (he none 0 w).mono fun e w' ⟨h1,h2⟩=>?_
  subst h1 h2;exact fin w' [] (Zq.refl _ _) ⟨⟨by simp,.inl ⟨rfl,rfl⟩⟩,by simp[Value.ownBlock]⟩ (by simp)
 ·have hv:=hr1.v
  subst hv;refine (hr g 0 cap zs w hr1.holds (by have:=hr1.max;have:=hr1.le;unfold maxLen at *;omega)).mono fun e w' ⟨h1,n,h2⟩=>?_
  subst h1
  have hk:Zq (FrO w (Qc [(0,Xa zs mv)]) L) w w':=by
   have h3:Zq (FrO w (Qc [(0,Xa zs mv)]) L) (Sort.ahead w n) w':=by rw[h2];exact JR hfr
   exact ⟨h3.os,h3.tape,h3.output,h3.size,h3.block⟩
  have hh:w'.heap[g]?=some (.cells (putCells (Value.int .i64) 0 zs.reverse.toArray cur) 3 (0,0)):=by
   rw[h2];exact QhN (w:=Sort.ahead w n) hr1.at_
  refine fin w' _ hk ⟨⟨?_,.inr ⟨g,cap,_,rfl,QLb _,hh,hr1.le,hr1.max,?_,rfl⟩⟩,fun b hb=>?_⟩ ?_
  ·simp[putCells,hr1.size,hr1.le]
  ·simp[putCells,hr1.size]
  ·simp[Value.ownBlock] at hb
   grind
  ·refine QLI fun i=>?_
   rw[QKI];by_cases hi:i<zs.length
   ·have h1:=hr1.size
    have h2:=hr1.le;have h3:i<cur.size:=by omega
    rw[QLw,if_pos hi];simp only[putCells,Array.getElem?_toList,Array.getElem?_mapIdx,QKH h3,QLo,QJ4]
    grind
   grind
theorem QgB {f:FuncId}
  (hd:∀ (blk off cap i j:Nat) (d:Array Int) (w:World),Holds (Value.int .i64) w blk off d->d.size<=cap->cap<=9223372036854775807->i<=j->j<=d.size ->
    Calls P f #[.slice (some ⟨blk,off,none⟩) d.size cap,.int .i64 i,.int .i64 j] w fun e w'=>e=.returned (.slice (some ⟨blk,off,none⟩) (d.size-(j-i)) cap)/\∃ q,w'=putRow (Value.int .i64) (Sort.ahead w q) blk off (d.toList.take i++d.toList.drop j++List.replicate (j-i) 0).toArray)
  (zs:List Int) (mv:Nat) (i:Nat) (hi:i<zs.length):Y0 P K f [.yq 0 zs.length,.iv (.int .i64 (i:Nat)),.iv (.int .i64 ((i+1:Nat):Int))] [(0,Xa zs mv)] [] (.iv (Qqk (zs.eraseIdx i))) []:=by
 intro w ok L vs hK hnew hown hlaid hvl hvs
 obtain ⟨v0,v1,v2,rfl⟩:∃ v0 v1 v2,vs=[v0,v1,v2]:=by
  match vs,hvl with
  | [v,u,z],_=>grind
 have hob:=hlaid.xc 0 (Xa zs mv) rfl;obtain ⟨v,xs,hL,hrow⟩:=QjZ hob;have hv:v0=v:=QkZ (id:=0) (zs:=zs) (mv:=mv) rfl hL rfl (hvs 0 _ v0 rfl rfl);subst hv
 have e1:v1=.int .i64 (i:Nat):=by
  have:=hvs 1 _ v1 rfl rfl;cases this with
  | iv _ _ r=>cases r;rfl
 have e2:v2=.int .i64 ((i+1:Nat):Int):=by
  have:=hvs 2 _ v2 rfl rfl;cases this with
  | iv _ _ r=>cases r;rfl
 subst e1 e2;rcases hrow with ⟨rfl,rfl⟩ | ⟨g,cap,cur,hr1,hfr⟩
 ·simp at hi
 ·have hv:=hr1.v
  subst hv;have hm:=hr1.max;have hle:=hr1.le;have:=hd g 0 cap i (i+1) zs.toArray w hr1.holds (by simpa using hle) (by unfold maxLen at *;omega) (by omega) (by simp;omega)
  have es:zs.toArray.size=zs.length:=by simp
  rw[es] at this;refine this.mono fun e w' ⟨h1,q,h2⟩=>?_
  have hgo:ok g:=hown g ⟨0,Xa zs mv,rfl,by rw[hL];simp[Lay.has,Value.ownBlock]⟩
  have hk:Zq (FrO w (Qc [(0,Xa zs mv)]) L) w w':=by
   have h3:Zq (FrO w (Qc [(0,Xa zs mv)]) L) (Sort.ahead w q) w':=by rw[h2];exact JR hfr
   exact ⟨h3.os,h3.tape,h3.output,h3.size,h3.block⟩
  have hnew:Holds (Value.int .i64) w' g 0 (zs.take i++zs.drop (i+1)++List.replicate (i+1-i) 0).toArray:=by
   have h3:=holds_putRow (Value.int .i64) (Sort.ahead w q) g 0 zs.toArray (zs.take i++zs.drop (i+1)++List.replicate (i+1-i) 0).toArray (holds_ahead _ w q g 0 _ hr1.holds) (by simp;omega)
   grind
  have hlen:(zs.eraseIdx i).length=zs.length-(i+1-i):=by grind
  subst h1;refine ⟨_,fun _=>.one 0,rfl,QbG,.iv _ _ ?_,hk,by simp⟩
  rw[<- hlen];refine U2 _ _ _ (by omega) hm ⟨hgo,by simp[Qc]⟩ fun j z hj=>?_
  rw[List.eraseIdx_eq_take_drop_succ] at hj;have hjl:=(QJX.1 hj).1;have h3:=(hnew j (by grind)).1
  grind
theorem Qgg {f:FuncId}
  (hshift:∀ (b n c i vb vc:Nat) (cs:List Value) (x:Value) (w:World),i<n->n+1<=c->c<=9223372036854775807->vb≠b->cs.length=n ->
    (∀ j v,cs[j]?=some v->w.cell? ⟨b,0+j,none⟩=some v)->(∀ j,j<n+1->(w.cell? ⟨b,0+j,none⟩).isSome=true)->(∀ j,j<n+1->w.frozen? ⟨b,0+j,none⟩=false) ->
    (∀ j v,[x][j]?=some v->w.cell? ⟨vb,0+j,none⟩=some v)->(∀ v∈cs,v.oneCell'=true)->(∀ v∈[x],v.oneCell'=true) ->
    ∀ (tA tB:TypeId) (kA kB:Nat),w.shape? vb=some (tA,kA)->w.shape? b=some (tB,kB)->kB≠0->w.frozen? ⟨vb,0,none⟩=false->w.frozen? ⟨vb,kA,none⟩=false ->
    Calls P f #[.slice (some ⟨b,0,none⟩) n c,.int .i64 i,.slice (some ⟨vb,0,none⟩) 1 vc] w fun e w' =>
     e=.returned (.slice (some ⟨b,0,none⟩) (n+1) c)/\w'=(w.drew.setCells b (0+(i+1)) (cs.drop i)).setCells b (0+i) [x])
  (hroom:∀ (b n c vb vc:Nat) (x:Value) (w:World),n+1<=c->c<=9223372036854775807->(∀ j,j<1->(w.cell? ⟨b,0+n+j,none⟩).isSome=true)->(∀ j,j<1->w.frozen? ⟨b,0+n+j,none⟩=false) ->
    (∀ j v,[x][j]?=some v->w.cell? ⟨vb,0+j,none⟩=some v)->(∀ v∈[x],v.oneCell'=true) ->
    Calls P f #[.slice (some ⟨b,0,none⟩) n c,.int .i64 n,.slice (some ⟨vb,0,none⟩) 1 vc] w fun e w' =>
     e=.returned (.slice (some ⟨b,0,none⟩) (n+1) c)/\w'=w.setCells b (0+n) [x])
  (hend:∀ (base:Option Addr) (n c vb vc:Nat) (cs:List Value) (x:Value) (w:World),n<=c->c<n+1->(n+1)*8<=140737488355328->cs.length=n->(base=none->n=0) ->
    (∀ a,base=some a->∀ j v,cs[j]?=some v->w.cell? (a.add j)=some v)->(∀ j v,[x][j]?=some v->w.cell? ⟨vb,0+j,none⟩=some v)->(∀ v∈[x],v.oneCell'=true) ->
    Calls P f #[.slice base n c,.int .i64 n,.slice (some ⟨vb,0,none⟩) 1 vc] w fun e w' =>
     e=.returned (.slice (some ⟨w.heap.size,0,none⟩) (n+1) (grownCap w (n+1) c 3)) /\
     w'=w.drew.alloc (.cells ((cs++[x]).toArray++Builtin.zeroCells (Value.int .i64 0).cells (grownCap w (n+1) c 3-(n+1))) 3))
  (hgrow:∀ (b n c i vb vc:Nat) (cs:List Value) (x:Value) (w:World),i<n->n<=c->c<n+1->(n+1)*8<=140737488355328->cs.length=n ->
    (∀ j v,cs[j]?=some v->w.cell? ⟨b,0+j,none⟩=some v)->(∀ j v,[x][j]?=some v->w.cell? ⟨vb,0+j,none⟩=some v)->(∀ v∈cs,v.oneCell'=true)->(∀ v∈[x],v.oneCell'=true) ->
    Calls P f #[.slice (some ⟨b,0,none⟩) n c,.int .i64 i,.slice (some ⟨vb,0,none⟩) 1 vc] w fun e w' =>
     e=.returned (.slice (some ⟨w.heap.size,0,none⟩) (n+1) (grownCap w (n+1) c 3)) /\
     w'=(((w.alloc (.cells ((cs.take i).toArray++Builtin.zeroCells (Value.int .i64 0).cells (n+1-i)++Builtin.zeroCells (Value.int .i64 0).cells (grownCap w (n+1) c 3-(n+1))) 3)).drew.setCells w.heap.size i [x]).drew).setCells w.heap.size (i+1) (cs.drop i))
  (zs:List Int) (mv:Nat) (i:Nat) (hi:i<=zs.length) (x:Int) (mv':Nat) (hlen:zs.length<=1000000):Y0 P K f [.yq 0 zs.length,.iv (.int .i64 (i:Nat)),.yq 1 1] [(0,Xa zs mv),(1,Xa [x] mv')] [] (.iv (Qqk (zs.take i++x::zs.drop i))) []:=by
 intro w ok L vs hK hnew hown hlaid hvl hvs
 obtain ⟨v0,v1,v2,rfl⟩:∃ v0 v1 v2,vs=[v0,v1,v2]:=by
  match vs,hvl with
  | [v,u,z],_=>grind
 obtain ⟨v,xs,hL,hrow⟩:=QjZ (hlaid.xc 0 (Xa zs mv) rfl);obtain ⟨v',xs',hL',hrow'⟩:=QjZ (zs:=[x]) (hlaid.xc 1 (Xa [x] mv') rfl);have hv:v0=v:=QkZ (id:=0) (zs:=zs) (mv:=mv) rfl hL rfl (hvs 0 _ v0 rfl rfl);have hv':v2=v':=QkZ (id:=1) (zs:=[x]) (mv:=mv') rfl hL' rfl (hvs 2 _ v2 rfl rfl)
 have e1:v1=.int .i64 (i:Nat):=by
  have:=hvs 1 _ v1 rfl rfl;cases this with
  | iv _ _ r=>cases r;rfl
 subst hv hv' e1;have hmax:maxLen=1099511627775\/2000000<=maxLen/\maxLen<=9223372036854775807:=by unfold maxLen;omega
 rcases hrow' with ⟨_,h⟩ | ⟨vb,vc,cur',hr2,hfr2⟩
 ·cases h
 have hv2:=hr2.v;subst hv2
 have hx:∀ j v,[Value.int .i64 x][j]?=some v->w.cell? ⟨vb,0+j,none⟩=some v:=fun j v hj=>by
  cases j with
  | zero =>
    simp at hj;subst hj;rw[hr2.cell,hr2.get 0 (by simp)]
    simp
  | succ j=>simp at hj
 have hone:∀ v∈[Value.int .i64 x],v.oneCell'=true:=by simp[Value.oneCell']
 have hvw:vb<w.heap.size:=(QJ6.1 hr2.at_).1;have hlen':(zs.take i++x::zs.drop i).length=zs.length+1:=by simp;omega
 have fresh:∀ (w':World) (cap:Nat),Zq (fun b=>b<w.heap.size) w w'->zs.length+1<=cap->cap<=maxLen->(∀ j z,(zs.take i++x::zs.drop i)[j]?=some z->w'.cell? ⟨w.heap.size,j,none⟩=some (.int .i64 z)) ->
   ∃ v1 L',(Ending.returned (.slice (some ⟨w.heap.size,0,none⟩) (zs.length+1) cap):Ending)=.returned v1/\Qml (FrO w (Qc [(0,Xa zs mv),(1,Xa [x] mv')]) L) ok w' (Qc []) L'/\QA (okL ok (Qc []) L') w' (Qc []) L' (.iv (Qqk (zs.take i++x::zs.drop i))) v1/\Zq (FrO w (Qc [(0,Xa zs mv),(1,Xa [x] mv')]) L) w w' /\
    ∀ i∈([]:List Nat),∀ o,Qc [(0,Xa zs mv),(1,Xa [x] mv')] i=some o->∃ o',Qc [] i=some o'/\J2 o o' (L i) (L' i):=fun w' cap hk h1 h2 h3=>by
  refine ⟨_,fun _=>.one 0,rfl,QbG,.iv _ _ ?_,⟨hk.os,hk.tape,hk.output,hk.size,fun k hkk=>hk.block k hkk.1⟩,by simp⟩
  rw[<- hlen'] at h1 |-;exact U2 _ _ _ h1 h2 ⟨hnew _ (QJ2 _),by simp[Qc]⟩ h3
 have inplace:∀ (g cap:Nat) (cur:Array Value) (w':World),QcE w v0 zs g cap cur->¬ FrO w (Qc [(0,Xa zs mv),(1,Xa [x] mv')]) L g->Zq (FrO w (Qc [(0,Xa zs mv),(1,Xa [x] mv')]) L) w w'->zs.length+1<=cap->(∀ j z,(zs.take i++x::zs.drop i)[j]?=some z->w'.cell? ⟨g,j,none⟩=some (.int .i64 z)) ->
   ∃ v1 L',(Ending.returned (.slice (some ⟨g,0,none⟩) (zs.length+1) cap):Ending)=.returned v1/\Qml (FrO w (Qc [(0,Xa zs mv),(1,Xa [x] mv')]) L) ok w' (Qc []) L'/\QA (okL ok (Qc []) L') w' (Qc []) L' (.iv (Qqk (zs.take i++x::zs.drop i))) v1/\Zq (FrO w (Qc [(0,Xa zs mv),(1,Xa [x] mv')]) L) w w' /\
    ∀ i∈([]:List Nat),∀ o,Qc [(0,Xa zs mv),(1,Xa [x] mv')] i=some o->∃ o',Qc [] i=some o'/\J2 o o' (L i) (L' i):=fun g cap cur w' hr1 _ hk h1 h3=>by
  have hgo:ok g:=hown g ⟨0,Xa zs mv,rfl,by rw[hL,hr1.v];simp[Lay.has,Value.ownBlock]⟩
  refine ⟨_,fun _=>.one 0,rfl,QbG,.iv _ _ ?_,hk,by simp⟩
  have h2:=hr1.max;rw[<- hlen'] at h1 |-;exact U2 _ _ _ h1 h2 ⟨hgo,by simp[Qc]⟩ h3
 have hcs:∀ j,j<zs.length->(zs.map (Value.int .i64))[j]?=some (.int .i64 zs[j]!):=fun j hj=>by simp[hj]
 have onev:∀ v∈zs.map (Value.int .i64),v.oneCell'=true:=fun v hv=>by
  obtain ⟨z,_,rfl⟩:=QKh.1 hv;rfl
 rcases QLa i zs.length with xd | hge;rotate_left
 ·
  have hie:i=zs.length:=by omega
  subst hie;have hsame:zs.take zs.length++x::zs.drop zs.length=zs++[x]:=by simp
  have grow:∀ (base:Option Addr) (c:Nat),v0=.slice base zs.length c->zs.length<=c->c<zs.length+1->(base=none->zs.length=0)->(∀ a,base=some a->∀ j v,(zs.map (Value.int .i64))[j]?=some v->w.cell? (a.add j)=some v) ->
    Calls P f [v0,Value.int .i64 (zs.length:Nat),Value.slice (some ⟨vb,0,none⟩) [x].length vc].toArray w (fun e w'=>∃ v1 L',e=.returned v1/\Qml (FrO w (Qc [(0,Xa zs mv),(1,Xa [x] mv')]) L) ok w' (Qc []) L'/\QA (okL ok (Qc []) L') w' (Qc []) L' (.iv (Qqk (zs.take zs.length++x::zs.drop zs.length))) v1/\Zq (FrO w (Qc [(0,Xa zs mv),(1,Xa [x] mv')]) L) w w' /\
     ∀ i∈([]:List Nat),∀ o,Qc [(0,Xa zs mv),(1,Xa [x] mv')] i=some o->∃ o',Qc [] i=some o'/\J2 o o' (L i) (L' i)):=fun base c hv h1 h2 h3 h4=>by
   have h0:=hend base zs.length c vb vc (zs.map (.int .i64)) (.int .i64 x) w h1 h2 (by omega) (by simp) h3 h4 hx hone
   rw[<- hv] at h0;have hgc1:=grownCap_ge w (zs.length+1) c 3;have hgc2:=grownCap_le_maxLen w (zs.length+1) c 3 (by omega)
   generalize grownCap w (zs.length+1) c 3=G at *;refine h0.mono fun e w' ⟨h5,h6⟩=>?_
   subst h5;obtain ⟨ROW,hROW⟩:∃ ROW:Array Value,ROW=(zs.map (Value.int .i64)++[Value.int .i64 x]).toArray++Builtin.zeroCells (Value.int .i64 0).cells (G-(zs.length+1)):=⟨_,rfl⟩
   rw[<- hROW] at h6;refine fresh w' G ?_ hgc1 hgc2 fun j z hj=>?_
   ·rw[h6]
    have:=QdB w.drew (.cells ROW 3);exact ⟨this.os,this.tape,this.output,this.size,this.block⟩
   rw[h6,World.cell?_alloc_at (w:=w.drew) ROW _ w.heap.size j rfl,hROW];rw[hsame] at hj;have hjl:=(QJX.1 hj).1;simp at hjl;rw[Array.getElem?_append_left (by simp;omega)]
   have:(zs.map (Value.int .i64)++[Value.int .i64 x])=(zs++[x]).map (.int .i64):=by simp
   rw[this,List.getElem?_toArray,QJ4,hj];rfl
  rcases hrow with ⟨h1,h2⟩ | ⟨g,cap,cur,hr1,hfr⟩
  ·subst h2
   grind
  have hv:=hr1.v;have hm:=hr1.max;have hle:=hr1.le;rcases QLa zs.length cap with hcap | hcap;rotate_left
  ·refine grow (some ⟨g,0,none⟩) cap hv hle (by omega) (by simp) (fun a ha j v hj=>?_)
   injection ha with ha
   subst ha;rw[QJ4,QJ0] at hj;obtain ⟨z,hz,rfl⟩:=hj;obtain ⟨h1,h2⟩:=QJX.1 hz;rw[Addr.add_lit,QKl,hr1.cell,hr1.get j h1,h2]
  have h0:=hroom g zs.length cap vb vc (.int .i64 x) w (by omega) (by omega) (fun j hj=>by
   rw[hr1.cell,QKH (by have:=hr1.size;omega)];rfl) (fun j _=>hr1.frozen _) hx hone
  rw[<- hv] at h0;refine h0.mono fun e w' ⟨h1,h2⟩=>?_
  subst h1
  have hk:Zq (FrO w (Qc [(0,Xa zs mv),(1,Xa [x] mv')]) L) w w':=by
   rw[h2];exact Z1 hfr _ _ _
  refine inplace g cap cur w' hr1 hfr hk (by omega) fun j z hj=>?_
  rw[hsame] at hj;rw[h2];rcases QLa j zs.length with h | h
  ·rw[QKm h] at hj
   rw[World.cell?_setCells_out g [_] (0+zs.length) _ ⟨g,j,none⟩ (fun _ _=>by grind),hr1.cell,hr1.get j h]
   obtain ⟨h3,h4⟩:=QJX.1 hj;rw[h4]
  have hj':j=zs.length:=by have:=(QJX.1 hj).1;grind
  subst hj';simp at hj;subst hj
  have:=World.cell?_setCells_in g [Value.int .i64 x] (0+zs.length) w (fun k hk=>by
   simp at hk;subst hk;rw[hr1.cell,QKH (by have:=hr1.size;omega)];rfl) 0 (by simp)
  simpa using this
 rcases hrow with ⟨_,h⟩ | ⟨g,cap,cur,hr1,hfr⟩
 ·grind
 have hv:=hr1.v;have hm:=hr1.max;have hle:=hr1.le;have hgw:g<w.heap.size:=(QJ6.1 hr1.at_).1;have hne:vb≠g:=fun e=>hlaid.apart 0 1 (Xa zs mv) (Xa [x] mv') g (by simp) rfl rfl (by rw[hL,hv];simp[Lay.has,Value.ownBlock]) (by rw[hL',e];simp[Lay.has,Value.ownBlock])
 have hc:∀ j v,(zs.map (Value.int .i64))[j]?=some v->w.cell? ⟨g,0+j,none⟩=some v:=fun j v hj=>by
  rw[QJ4,QJ0] at hj;obtain ⟨z,hz,rfl⟩:=hj;obtain ⟨h1,h2⟩:=QJX.1 hz;rw[QKl,hr1.cell,hr1.get j h1,h2]
 have hmid:∀ j z,(zs.take i++x::zs.drop i)[j]?=some z->(j<i/\zs[j]?=some z)\/(j=i/\z=x)\/(i+1<=j/\(zs.drop i)[j-(i+1)]?=some z):=fun j z hj=>by
  rcases Nat.lt_trichotomy j i with h | h | h
  ·rw[QKm (by simp;omega),QKI,if_pos h] at hj
   grind
  ·subst h
   rw[QKi (by simp;omega),QKV,QLO (by omega),Nat.sub_self] at hj
   grind
  rw[QKi (by simp;omega),QKV,QLO (by omega)] at hj
  obtain ⟨k,rfl⟩:∃ k,j=i+1+k:=⟨j-(i+1),by omega⟩
  rw[show i+1+k-i=k+1 by omega,List.getElem?_cons_succ] at hj
  exact .inr (.inr ⟨by omega,by rw[show i+1+k-(i+1)=k by omega];exact hj⟩)
 rcases QLa zs.length cap with hcap | hcap
 ·
  have hsome:∀ j,j<zs.length+1->(w.cell? ⟨g,0+j,none⟩).isSome=true:=fun j hj=>by
   rw[QKl,hr1.cell,QKH (by have:=hr1.size;omega)];rfl
  have h0:=hshift g zs.length cap i vb vc (zs.map (.int .i64)) (.int .i64 x) w xd (by omega) (by omega) hne (by simp) hc hsome (fun j _=>hr1.frozen _) hx onev hone 3 3 cur'.size cur.size
   (by simp[World.shape?,hr2.at_]) (by simp[World.shape?,hr1.at_]) (by have:=hr1.size;omega) (hr2.frozen _) (hr2.frozen _)
  rw[<- hv] at h0;refine h0.mono fun e w' ⟨h1,h2⟩=>?_
  subst h1
  have hk:Zq (FrO w (Qc [(0,Xa zs mv),(1,Xa [x] mv')]) L) w w':=by
   have k1:=Z1 (Fr:=FrO w (Qc [(0,Xa zs mv),(1,Xa [x] mv')]) L) hfr ((zs.map (Value.int .i64)).drop i) (0+(i+1)) w.drew;have k2:=Z1 (Fr:=FrO w (Qc [(0,Xa zs mv),(1,Xa [x] mv')]) L) hfr [Value.int .i64 x] (0+i) (w.drew.setCells g (0+(i+1)) ((zs.map (Value.int .i64)).drop i));rw[h2];exact ⟨k2.os.trans k1.os,k2.tape.trans k1.tape,k2.output.trans k1.output,QKG k1.size k2.size,fun k hk=>(k2.block k hk).trans (k1.block k hk)⟩
  refine inplace g cap cur w' hr1 hfr hk (by omega) fun j z hj=>?_
  have in1:∀ k,k<((zs.map (Value.int .i64)).drop i).length->(w.drew.cell? ⟨g,0+(i+1)+k,none⟩).isSome=true:=fun k hk=>by
   have:=hsome (i+1+k) (by simp at hk;omega)
   rw[show 0+(i+1)+k=0+(i+1+k) by omega]
   exact this
  have sm1:∀ k,(w.cell? ⟨g,k,none⟩).isSome=true->((w.drew.setCells g (0+(i+1)) ((zs.map (Value.int .i64)).drop i)).cell? ⟨g,k,none⟩).isSome=true:=fun k hk=>by
   by_cases hin:0+(i+1)<=k/\k<0+(i+1)+((zs.map (Value.int .i64)).drop i).length
   ·have:=World.cell?_setCells_in g _ (0+(i+1)) w.drew in1 (k-(0+(i+1))) (by omega)
    rw[show 0+(i+1)+(k-(0+(i+1)))=k by omega] at this
    rw[this];rfl
   rw[World.cell?_setCells_out g _ (0+(i+1)) w.drew ⟨g,k,none⟩ (fun _ _=>by grind)]
   exact hk
  rw[h2];rcases hmid j z hj with ⟨h3,h4⟩ | ⟨h3,h4⟩ | ⟨h3,h4⟩
  ·rw[World.cell?_setCells_out g [_] (0+i) _ ⟨g,j,none⟩ (fun _ _=>by grind),World.cell?_setCells_out g _ (0+(i+1)) w.drew ⟨g,j,none⟩ (fun _ _=>by grind)]
   have:=hc j (.int .i64 z) (by simp[h4])
   rw[QKl] at this;exact this
  ·subst h3 h4
   have:=World.cell?_setCells_in g [Value.int .i64 z] (0+j) (w.drew.setCells g (0+(j+1)) ((zs.map (Value.int .i64)).drop j)) (fun k hk=>sm1 _ (by
    have:=hsome j (by omega)
    simp at hk;subst hk;simpa using this)) 0 (by simp)
   simpa using this
  obtain ⟨k,rfl⟩:∃ k,j=i+1+k:=⟨j-(i+1),by omega⟩
  rw[show i+1+k-(i+1)=k by omega] at h4
  have hkl:=(QJX.1 h4).1;rw[World.cell?_setCells_out g [_] (0+i) _ ⟨g,i+1+k,none⟩ (fun _ _=>by show i+1+k<_\/_<=i+1+k;simp)]
  have:=World.cell?_setCells_in g ((zs.map (Value.int .i64)).drop i) (0+(i+1)) w.drew in1 k (by simpa using hkl)
  rw[QKl] at this;rw[QKl,this]
  have h5:(List.drop i (zs.map (Value.int .i64)))[k]?=some (.int .i64 z):=by
   rw[<- List.map_drop,QJ4,h4];rfl
  rw[QJW (by simpa using hkl)] at h5
  exact h5
 have hcap':cap=zs.length:=by omega
 have h0:=hgrow g zs.length cap i vb vc (zs.map (.int .i64)) (.int .i64 x) w xd (by omega) (by omega) (by omega) (by simp) hc hx onev hone
 rw[<- hv] at h0;have hgc1:=grownCap_ge w (zs.length+1) cap 3;have hgc2:=grownCap_le_maxLen w (zs.length+1) cap 3 (by omega)
 generalize grownCap w (zs.length+1) cap 3=G at *;refine h0.mono fun e w' ⟨h1,h2⟩=>?_
 subst h1;obtain ⟨ROW,hROW⟩:∃ ROW:Array Value,ROW=((zs.map (Value.int .i64)).take i).toArray++Builtin.zeroCells (Value.int .i64 0).cells (zs.length+1-i)++Builtin.zeroCells (Value.int .i64 0).cells (G-(zs.length+1)):=⟨_,rfl⟩
 rw[<- hROW] at h2
 have hRs:zs.length+1<=ROW.size:=by
  rw[hROW];simp[Builtin.zeroCells,Value.cells];omega
 have hRt:∀ j z,j<i->zs[j]?=some z->ROW[j]?=some (.int .i64 z):=fun j z hj hz=>by
  rw[hROW,Array.append_assoc,Array.getElem?_append_left (by simp;omega)]
  simp[QKI,hj,hz]
 have hN:∀ j,j<zs.length+1->((w.alloc (.cells ROW 3)).cell? ⟨w.heap.size,j,none⟩).isSome=true:=fun j hj=>by
  rw[World.cell?_alloc_at (w:=w) ROW _ w.heap.size j rfl,QKH (by omega)];rfl
 obtain ⟨W1,hW1⟩:∃ W1,W1=(w.alloc (.cells ROW 3)).drew.setCells w.heap.size i [Value.int .i64 x]:=⟨_,rfl⟩
 rw[<- hW1] at h2;have hkA:Zq (fun b=>b<w.heap.size) w (w.alloc (.cells ROW 3)):=QdB w _
 have hk1:Zq (fun b=>b<w.heap.size) w W1:=by
  have k2:=Z1 (Fr:=fun b=>b<w.heap.size) (g:=w.heap.size) (by simp) [Value.int .i64 x] i (w.alloc (.cells ROW 3)).drew
  rw[hW1];exact ⟨k2.os.trans hkA.os,k2.tape.trans hkA.tape,k2.output.trans hkA.output,QKG hkA.size k2.size,fun k hk=>(k2.block k hk).trans (hkA.block k hk)⟩
 have hk2:Zq (fun b=>b<w.heap.size) w w':=by
  have k2:=Z1 (Fr:=fun b=>b<w.heap.size) (g:=w.heap.size) (by simp) ((zs.map (Value.int .i64)).drop i) (i+1) W1.drew
  rw[h2];exact ⟨k2.os.trans hk1.os,k2.tape.trans hk1.tape,k2.output.trans hk1.output,QKG hk1.size k2.size,fun k hk=>(k2.block k hk).trans (hk1.block k hk)⟩
 have sm1:∀ k,k<zs.length+1->(W1.cell? ⟨w.heap.size,k,none⟩).isSome=true:=fun k hk=>by
  rw[hW1];by_cases hin:k=i
  ·subst hin
   have:=World.cell?_setCells_in w.heap.size [Value.int .i64 x] k (w.alloc (.cells ROW 3)).drew (fun t ht=>by simp at ht;subst ht;exact hN k hk) 0 (by simp)
   rw[QKT] at this;rw[this];rfl
  rw[World.cell?_setCells_out w.heap.size [_] i _ ⟨w.heap.size,k,none⟩ (fun _ _=>by show k<_\/_<=k;simp;omega)]
  exact hN k hk
 refine fresh w' G hk2 hgc1 hgc2 fun j z hj=>?_
 have in2:∀ k,k<((zs.map (Value.int .i64)).drop i).length->(W1.drew.cell? ⟨w.heap.size,i+1+k,none⟩).isSome=true:=fun k hk=>sm1 _ (by simp at hk;omega)
 rw[h2];rcases hmid j z hj with ⟨h3,h4⟩ | ⟨h3,h4⟩ | ⟨h3,h4⟩
 ·rw[World.cell?_setCells_out w.heap.size _ (i+1) W1.drew ⟨w.heap.size,j,none⟩ (fun _ _=>by grind)]
  show W1.cell? _=_
  rw[hW1,World.cell?_setCells_out w.heap.size [_] i _ ⟨w.heap.size,j,none⟩ (fun _ _=>by grind)]
  show (w.alloc (.cells ROW 3)).cell? _=_
  rw[World.cell?_alloc_at (w:=w) ROW _ w.heap.size j rfl];exact hRt j z h3 h4
 ·subst h3 h4
  rw[World.cell?_setCells_out w.heap.size _ (j+1) W1.drew ⟨w.heap.size,j,none⟩ (fun _ _=>by grind)]
  show W1.cell? _=_
  rw[hW1];have:=World.cell?_setCells_in w.heap.size [Value.int .i64 z] j (w.alloc (.cells ROW 3)).drew (fun t ht=>by simp at ht;subst ht;exact hN j (by omega)) 0 (by simp)
  simpa using this
 obtain ⟨k,rfl⟩:∃ k,j=i+1+k:=⟨j-(i+1),by omega⟩
 rw[show i+1+k-(i+1)=k by omega] at h4
 have hkl:=(QJX.1 h4).1;have:=World.cell?_setCells_in w.heap.size ((zs.map (Value.int .i64)).drop i) (i+1) W1.drew in2 k (by simpa using hkl)
 rw[this]
 have h5:(List.drop i (zs.map (Value.int .i64)))[k]?=some (.int .i64 z):=by
  rw[<- List.map_drop,QJ4,h4];rfl
 rw[QJW (by simpa using hkl)] at h5
 exact h5
end
end Go.Ev
namespace Go.Pf
open Go Go.Proofs Go.Shelf Go.RowKit Go.Lib Go.Proofs.Tryz
set_option linter.unusedVariables false
set_option linter.unusedSimpArgs false
theorem i3z:(prog.info? 3).map (fun i=>(i.zero,i.size,i.bytes))=some (some (Value.int IntKind.i64 0),1,8):=by kernel_rfl
theorem Qki:prog.follows .mixedOrders=true:=by kernel_rfl
set_option maxHeartbeats 4000000 in
set_option maxRecDepth 100000 in
theorem QbO (b off n c i vb voff m vc:Nat) (cs vs:List Value) (w:World) (hi:i<n) (hm:0<m) (hroom:n+m<=c) (hc63:c<=9223372036854775807) (hvb:vb≠b)
  (hcl:cs.length=n) (hvl:vs.length=m)
  (hcs:∀ j v,cs[j]?=some v->w.cell? ⟨b,off+j,none⟩=some v) (hsp:∀ j,j<n+m->(w.cell? ⟨b,off+j,none⟩).isSome=true) (hfz:∀ j,j<n+m->w.frozen? ⟨b,off+j,none⟩=false)
  (hvs:∀ j v,vs[j]?=some v->w.cell? ⟨vb,voff+j,none⟩=some v) (h1c:∀ v∈cs,v.oneCell'=true) (h1v:∀ v∈vs,v.oneCell'=true)
  (tA tB:TypeId) (kA kB:Nat) (hsa:w.shape? vb=some (tA,kA)) (hsb:w.shape? b=some (tB,kB)) (hkB:kB≠0) (hfa:w.frozen? ⟨vb,voff,none⟩=false) (hfe:w.frozen? ⟨vb,kA,none⟩=false) :
  Calls prog 366 #[.slice (some ⟨b,off,none⟩) n c,.int .i64 i,.slice (some ⟨vb,voff,none⟩) m vc] w fun e w' =>
   e=.returned (.slice (some ⟨b,off,none⟩) (n+m) c)/\w'=(w.drew.setCells b (off+(i+m)) (cs.drop i)).setCells b (off+i) vs:=by
 have t0:=underlying0;have a0:=isAgg0;have z0:=sizeOf0;have v0:=zeroValue0;have t3:=underlying3;have a3:=isAgg3;have z3:=sizeOf3;have v3:=zeroValue3;have t4:=underlying4;have a4:=isAgg4;have z4:=sizeOf4;have v4:=zeroValue4;have t186:=underlying217;have a186:=isAgg217;have z186:=sizeOf217;have v186:=zeroValue217;have t74:=underlying52;have a74:=isAgg52;have z74:=sizeOf52;have v74:=zeroValue52;have u0:=run_underlying t0;have u3:=run_underlying t3;have u4:=run_underlying t4;have u186:=run_underlying t186;have u74:=run_underlying t74;have hz1:¬ ((m:Int)=0):=by omega
 have hz2:¬ ((i:Int)=(n:Int)):=by omega
 have hsz:(prog.info? 3).map (·.size)=some 1:=by
  obtain ⟨i0,hi0,h0,h1,h2⟩:=info_parts i3z
  grind
 have hov:∀ lb cb,(callFunc 401 #[.slice (some ⟨vb,voff,none⟩) m vc,.slice (some ⟨b,off+(i+m),none⟩) lb cb]).run prog w=.ok (.value (.bool false)) w:=fun lb cb=>by
  rw[run_callFunc_extern func401 (by kernel_rfl) (by kernel_rfl) (by kernel_rfl) (e:=Extern.SlicesOverlaps.overlaps #[52,52] #[4]) (by kernel_rfl),
   Lib.run_overlaps_apart w 52 4 3 t74 1 z3 ⟨vb,voff,none⟩ ⟨b,off+(i+m),none⟩ m vc lb cb hvb tA tB kA kB hsa hsb hkB hfa hfe]
  rfl
 have hdl:(cs.drop i).length=n-i:=by grind
 have mixed:=Qki;have hw1:IntKind.i64.wrap ((i:Int)+(m:Int))=(i:Int)+(m:Int):=by rw[IntKind.wrap_i64];omega
 have hb1:(0:Int)<=(i:Int)+(m:Int):=by omega
 have hin:i<=n:=by omega
 have htn:((i:Int)+(m:Int)).toNat=i+m:=by omega
 have hb2:¬ (c=i+m):=by omega
 have hb3:(i:Int)<=(n:Int)+(m:Int):=by omega
 have hb4:¬ (c=i):=by omega
 have hcp1:∀ ty dc sc,(Builtin.copy_ #[217,217] ty #[.slice (some ⟨b,off+(i+m),none⟩) (n+m-(i+m)) dc,.slice (some ⟨b,off+i,none⟩) (n+m-i) sc]).run prog w.drew=.ok (goInt (cs.drop i).length) (w.drew.setCells b (off+(i+m)) (cs.drop i)):=fun ty dc sc =>
  run_copy_cells w.drew _ _ ty 3 b (off+(i+m)) (n+m-(i+m)) dc ⟨b,off+i,none⟩ (n+m-i) sc (cs.drop i) t186 hsz (by grind)
   (fun j v hj=>by rw[Addr.add_lit,QKZ];exact hcs (i+j) v (by grind))
   (fun j hj=>by rw[QKZ];exact hsp _ (by omega)) (fun j hj=>by rw[QKZ];exact hfz _ (by omega)) (fun v hv=>h1c v (QK9 hv))
 obtain ⟨W1,hW1⟩:∃ W1,W1=w.drew.setCells b (off+(i+m)) (cs.drop i):=⟨_,rfl⟩
 have hsp1:∀ k,k<n+m->(W1.cell? ⟨b,off+k,none⟩).isSome=true:=fun k hk=>by
  rw[hW1];exact isSome_setCells b _ _ _ (fun j hj=>by rw[QKZ];exact hsp _ (by omega)) _ (hsp k hk)
 have hcp2:∀ (W:World),(∀ x,W.cell? x=W1.cell? x)->(∀ x,W.frozen? x=W1.frozen? x)->∀ ty dc,(Builtin.copy_ #[217,52] ty #[.slice (some ⟨b,off+i,none⟩) (n+m-i) dc,.slice (some ⟨vb,voff,none⟩) m vc]).run prog W=.ok (goInt vs.length) (W.setCells b (off+i) vs):=fun W hWc hWf ty dc =>
  run_copy_cells W _ _ ty 3 b (off+i) (n+m-i) dc ⟨vb,voff,none⟩ m vc vs t186 hsz (by grind)
   (fun j v hj=>by
     rw[Addr.add_lit,hWc,hW1,World.cell?_setCells_out b _ _ _ _ (fun h _=>absurd h hvb)]
     exact hvs j v hj)
   (fun j hj=>by rw[hWc,QKZ];exact hsp1 _ (by omega)) (fun j hj=>by rw[hWf,hW1,World.frozen?_setCells,QKZ];exact hfz _ (by omega)) h1v
 rw[<- hW1] at hcp1
 go_enter func366,ntmps366
 go_wp2_with (simp only[hov])
 go_region_law_o (refine step_copy_runI rfl _ _ 217 217 rfl _ _ (by simp[Act.eval,Act.put]) (by simp[Act.eval,Act.put]) (hcp1 _ _ _) ?_)
 go_wp2_with (at_builtin;refine wpList_copy_runI _ rfl _ _ 217 52 rfl _ _ rfl rfl (hcp2 _ (fun _=>rfl) (fun _=>rfl) _ _) ?_)
 go_ret
 first | exact ⟨rfl,rfl⟩ | exact ⟨rfl,by rw[hW1]⟩
set_option maxHeartbeats 4000000 in
set_option maxRecDepth 100000 in
theorem Wm (b off n c vb voff m vc:Nat) (vs:List Value) (w:World) (hm:0<m) (hroom:n+m<=c) (hc63:c<=9223372036854775807)
  (hvl:vs.length=m) (hsp:∀ j,j<m->(w.cell? ⟨b,off+n+j,none⟩).isSome=true) (hfz:∀ j,j<m->w.frozen? ⟨b,off+n+j,none⟩=false)
  (hvs:∀ j v,vs[j]?=some v->w.cell? ⟨vb,voff+j,none⟩=some v) (h1v:∀ v∈vs,v.oneCell'=true) :
  Calls prog 366 #[.slice (some ⟨b,off,none⟩) n c,.int .i64 n,.slice (some ⟨vb,voff,none⟩) m vc] w fun e w' =>
   e=.returned (.slice (some ⟨b,off,none⟩) (n+m) c)/\w'=w.setCells b (off+n) vs:=by
 have t0:=underlying0;have a0:=isAgg0;have z0:=sizeOf0;have v0:=zeroValue0;have t3:=underlying3;have a3:=isAgg3;have z3:=sizeOf3;have v3:=zeroValue3;have t4:=underlying4;have a4:=isAgg4;have z4:=sizeOf4;have v4:=zeroValue4;have t186:=underlying217;have a186:=isAgg217;have z186:=sizeOf217;have v186:=zeroValue217;have t74:=underlying52;have a74:=isAgg52;have z74:=sizeOf52;have v74:=zeroValue52;have u0:=run_underlying t0;have u3:=run_underlying t3;have u4:=run_underlying t4;have u186:=run_underlying t186;have u74:=run_underlying t74;have mixed:=Qki;have hz1:¬ ((m:Int)=0):=by omega
 have hsrc:Src prog 1 52 (.slice (some ⟨vb,voff,none⟩) m vc) m vs w:=Src.ofSlice w t74 ⟨vb,voff,none⟩ m vc vs (by omega) (fun j u hj=>by rw[Addr.add_lit];exact hvs j u hj) h1v
 go_enter func366,ntmps366
 go_wp2_with (at_builtin;refine wpList_append_room1 _ rfl _ _ 217 52 rfl 3 _ _ t186 i3z b off n c rfl _ rfl m vs hsrc hroom (by grind) (by grind) ?_)
 go_ret
 exact ⟨rfl,rfl⟩
set_option maxHeartbeats 4000000 in
set_option maxRecDepth 100000 in
theorem Wn (base:Option Addr) (n c vb voff m vc:Nat) (cs vs:List Value) (w:World) (hm:0<m) (hnc:n<=c) (hroom:c<n+m) (hbig:(n+m)*8<=140737488355328)
  (hcl:cs.length=n) (hvl:vs.length=m) (hnil:base=none->n=0)
  (hcs:∀ a,base=some a->∀ j v,cs[j]?=some v->w.cell? (a.add j)=some v)
  (hvs:∀ j v,vs[j]?=some v->w.cell? ⟨vb,voff+j,none⟩=some v) (h1v:∀ v∈vs,v.oneCell'=true) :
  Calls prog 366 #[.slice base n c,.int .i64 n,.slice (some ⟨vb,voff,none⟩) m vc] w fun e w' =>
   e=.returned (.slice (some ⟨w.heap.size,0,none⟩) (n+m) (grownCap w (n+m) c 3)) /\
   w'=w.drew.alloc (.cells ((cs++vs).toArray++Builtin.zeroCells (Value.int .i64 0).cells (grownCap w (n+m) c 3-(n+m))) 3):=by
 have t0:=underlying0;have a0:=isAgg0;have z0:=sizeOf0;have v0:=zeroValue0;have t3:=underlying3;have a3:=isAgg3;have z3:=sizeOf3;have v3:=zeroValue3;have t4:=underlying4;have a4:=isAgg4;have z4:=sizeOf4;have v4:=zeroValue4;have t186:=underlying217;have a186:=isAgg217;have z186:=sizeOf217;have v186:=zeroValue217;have t74:=underlying52;have a74:=isAgg52;have z74:=sizeOf52;have v74:=zeroValue52;have u0:=run_underlying t0;have u3:=run_underlying t3;have u4:=run_underlying t4;have u186:=run_underlying t186;have u74:=run_underlying t74;have mixed:=Qki;obtain ⟨i0,hi0,hz0,hzs,hzb⟩:=info_parts i3z;have hz1:¬ ((m:Int)=0):=by omega
 have hsrc:Src prog i0.size 52 (.slice (some ⟨vb,voff,none⟩) m vc) m vs w:=by
  rw[hzs];exact Src.ofSlice w t74 ⟨vb,voff,none⟩ m vc vs (by omega) (fun j u hj=>by rw[Addr.add_lit];exact hvs j u hj) h1v
 have hold:(Builtin.firstCells i0.size n (.slice base n c)).run prog w.drew=.ok cs.toArray w.drew:=by
  rw[hzs];cases base with
  | none =>
    have h0:=hnil rfl;subst h0;rw[List.length_eq_zero_iff.1 hcl];exact run_firstCells_none w.drew 1 0 0 c
  | some a=>exact run_firstCells_some w.drew 1 n a n c cs (by omega) (fun j v hj=>hcs a rfl j v hj)
 have hrun:∀ ty,(Builtin.append_ #[217,52] ty #[.slice base n c,.slice (some ⟨vb,voff,none⟩) m vc]).run prog w=_:=fun ty =>
  run_append_grow_src w 217 52 ty 3 i0 _ t186 hi0 hz0 base n c cs hold _ m vs hsrc hroom (by omega) (by rw[hzb];exact growslice_fits hroom hbig)
 go_enter func366,ntmps366
 cases base with
 | none =>
   have h0:=hnil rfl;subst h0
   go_wp2_with (at_builtin;refine Lib.wpList_append_run _ rfl _ _ _ _ rfl _ _ rfl rfl _ _ (hrun _) ?_)
   go_ret
   exact ⟨rfl,rfl⟩
 | some a =>
   obtain ⟨ab,ao,asp⟩:=a
   go_wp2_with (at_builtin;refine Lib.wpList_append_run _ rfl _ _ _ _ rfl _ _ rfl rfl _ _ (hrun _) ?_)
   all_goals (go_ret;exact ⟨rfl,rfl⟩)
set_option maxHeartbeats 4000000 in
set_option maxRecDepth 100000 in
theorem Qcw (b off n c i vb voff m vc:Nat) (cs vs:List Value) (w:World) (hi:i<n) (hm:0<m) (hnc:n<=c) (hroom:c<n+m) (hbig:(n+m)*8<=140737488355328)
  (hcl:cs.length=n) (hvl:vs.length=m)
  (hcs:∀ j v,cs[j]?=some v->w.cell? ⟨b,off+j,none⟩=some v)
  (hvs:∀ j v,vs[j]?=some v->w.cell? ⟨vb,voff+j,none⟩=some v) (h1c:∀ v∈cs,v.oneCell'=true) (h1v:∀ v∈vs,v.oneCell'=true) :
  Calls prog 366 #[.slice (some ⟨b,off,none⟩) n c,.int .i64 i,.slice (some ⟨vb,voff,none⟩) m vc] w fun e w' =>
   e=.returned (.slice (some ⟨w.heap.size,0,none⟩) (n+m) (grownCap w (n+m) c 3)) /\
   w'=(((w.alloc (.cells ((cs.take i).toArray++Builtin.zeroCells (Value.int .i64 0).cells (n+m-i)++Builtin.zeroCells (Value.int .i64 0).cells (grownCap w (n+m) c 3-(n+m))) 3)).drew.setCells w.heap.size i vs).drew).setCells w.heap.size (i+m) (cs.drop i):=by
 have t0:=underlying0;have a0:=isAgg0;have z0:=sizeOf0;have v0:=zeroValue0;have t3:=underlying3;have a3:=isAgg3;have z3:=sizeOf3;have v3:=zeroValue3;have t4:=underlying4;have a4:=isAgg4;have z4:=sizeOf4;have v4:=zeroValue4;have t186:=underlying217;have a186:=isAgg217;have z186:=sizeOf217;have v186:=zeroValue217;have t74:=underlying52;have a74:=isAgg52;have z74:=sizeOf52;have v74:=zeroValue52;have u0:=run_underlying t0;have u3:=run_underlying t3;have u4:=run_underlying t4;have u186:=run_underlying t186;have u74:=run_underlying t74;have mixed:=Qki;obtain ⟨i0,hi0,hz0,hzs,hzb⟩:=info_parts i3z;have hz1:¬ ((m:Int)=0):=by omega
 have hz2:¬ ((i:Int)=(n:Int)):=by omega
 have hz3:(c:Int)<(n:Int)+(m:Int):=by omega
 have hsz:(prog.info? 3).map (·.size)=some 1:=by grind
 have hbw:b<w.heap.size:=block_lt_of_cell (hcs 0 _ (QJW (by omega)))
 have hvw:vb<w.heap.size:=block_lt_of_cell (hvs 0 _ (QJW (by omega)))
 have hkk:(n:Int)+(m:Int)-(i:Int)=((n+m-i:Nat):Int):=by omega
 have hik:i+(n+m-i)=n+m:=by omega
 have hold:(Builtin.firstCells i0.size i (.slice (some ⟨b,off,none⟩) i c)).run prog w.drew=.ok (cs.take i).toArray w.drew:=by
  rw[hzs]
  exact run_firstCells_some w.drew 1 i ⟨b,off,none⟩ i c (cs.take i) (by grind) (fun j v hj=>by
   rw[Addr.add_lit];rw[QKI] at hj;split at hj
   ·exact hcs j v hj
   cases hj)
 have hrz:∀ ty,(Builtin.append_ #[217,3] ty #[.slice (some ⟨b,off,none⟩) i c,.int .i64 ((n:Int)+(m:Int)-(i:Int))]).run prog w =
   .ok (.slice (some ⟨w.heap.size,0,none⟩) (n+m) (grownCap w (n+m) c 3)) (w.drew.alloc (.cells ((cs.take i).toArray++Builtin.zeroCells (Value.int .i64 0).cells (n+m-i)++Builtin.zeroCells (Value.int .i64 0).cells (grownCap w (n+m) c 3-(n+m))) 3)):=fun ty=>by
  have h:=Lib.run_append_grow_zeros w 217 3 ty 3 i0 _ .i64 .i64 t186 t3 hi0 hz0 (some ⟨b,off,none⟩) i c (cs.take i) hold (n+m-i) (by omega) (by omega) (by omega) (by omega) (by rw[hzb];omega) (by rw[hzb,hik];exact growslice_fits hroom hbig)
  grind
 obtain ⟨G,hG⟩:∃ G,G=grownCap w (n+m) c 3:=⟨_,rfl⟩
 obtain ⟨ROW,hROW⟩:∃ ROW:Array Value,ROW=(cs.take i).toArray++Builtin.zeroCells (Value.int .i64 0).cells (n+m-i)++Builtin.zeroCells (Value.int .i64 0).cells (G-(n+m)):=⟨_,rfl⟩
 rw[<- hG] at hrz |-;rw[<- hROW] at hrz |-
 have hRl:n+m<=ROW.size:=by
  rw[hROW];simp[Builtin.zeroCells,Value.cells];omega
 obtain ⟨W1,hW1⟩:∃ W1,W1=w.drew.alloc (.cells ROW 3):=⟨_,rfl⟩
 rw[<- hW1] at hrz
 have hN:∀ j,j<n+m->(W1.cell? ⟨w.heap.size,j,none⟩).isSome=true:=fun j hj=>by
  rw[hW1,World.cell?_alloc_at (w:=w.drew) ROW _ w.heap.size j rfl,QKH (by omega)];rfl
 have hNf:∀ j,W1.frozen? ⟨w.heap.size,j,none⟩=false:=fun j=>by rw[hW1];exact World.frozen?_alloc_at (w:=w.drew) ROW _ w.heap.size j rfl
 have hOb:∀ j v,w.cell? ⟨b,j,none⟩=some v->W1.cell? ⟨b,j,none⟩=some v:=fun j v h=>by rw[hW1,World.cell?_alloc_past (w:=w.drew) _ b j hbw];exact h
 have hOv:∀ j v,w.cell? ⟨vb,j,none⟩=some v->W1.cell? ⟨vb,j,none⟩=some v:=fun j v h=>by rw[hW1,World.cell?_alloc_past (w:=w.drew) _ vb j hvw];exact h
 have hcpA:∀ (W:World),(∀ x,W.cell? x=W1.cell? x)->(∀ x,W.frozen? x=W1.frozen? x)->∀ ty dc,(Builtin.copy_ #[217,52] ty #[.slice (some ⟨w.heap.size,i,none⟩) (n+m-i) dc,.slice (some ⟨vb,voff,none⟩) m vc]).run prog W=.ok (goInt vs.length) (W.setCells w.heap.size i vs):=fun W hWc hWf ty dc =>
  run_copy_cells W _ _ ty 3 w.heap.size i (n+m-i) dc ⟨vb,voff,none⟩ m vc vs t186 hsz (by grind)
   (fun j v hj=>by rw[Addr.add_lit,hWc];grind)
   (fun j hj=>by grind) (fun j hj=>by grind) h1v
 have hGn:n+m<=G:=by rw[hG];exact grownCap_ge w _ _ _
 have hG63:G<=9223372036854775807:=by
  have:=grownCap_le_maxLen w (n+m) c 3 (by unfold maxLen;omega)
  rw[<- hG] at this;unfold maxLen at this;omega
 have hGi:¬ (G=i):=by omega
 have hGim:¬ (G=i+m):=by omega
 have hci:¬ (c=i):=by omega
 have hbN:b≠w.heap.size:=by omega
 have hdl:(cs.drop i).length=n-i:=by grind
 have hcpB:∀ (W:World),(∀ x,W.cell? x=(W1.setCells w.heap.size i vs).cell? x)->(∀ x,W.frozen? x=(W1.setCells w.heap.size i vs).frozen? x)->∀ ty dc sc,(Builtin.copy_ #[217,217] ty #[.slice (some ⟨w.heap.size,i+m,none⟩) (n+m-(i+m)) dc,.slice (some ⟨b,off+i,none⟩) (n-i) sc]).run prog W=.ok (goInt (cs.drop i).length) (W.setCells w.heap.size (i+m) (cs.drop i)):=fun W hWc hWf ty dc sc =>
  run_copy_cells W _ _ ty 3 w.heap.size (i+m) (n+m-(i+m)) dc ⟨b,off+i,none⟩ (n-i) sc (cs.drop i) t186 hsz (by grind)
   (fun j v hj=>by
     rw[Addr.add_lit,hWc,World.cell?_setCells_out _ _ _ _ _ (fun h _=>absurd h hbN),QKZ]
     grind)
   (fun j hj=>by rw[hWc];exact isSome_setCells _ _ _ _ (fun t ht=>hN _ (by omega)) _ (hN _ (by omega)))
   (fun j hj=>by rw[hWf,World.frozen?_setCells];exact hNf _) (fun v hv=>h1c v (QK9 hv))
 subst hW1;have hE1:∀ x,((w.alloc (.cells ROW 3)).drew).cell? x=(w.drew.alloc (.cells ROW 3)).cell? x:=fun x=>rfl
 have hE2:∀ x,((w.alloc (.cells ROW 3)).drew).frozen? x=(w.drew.alloc (.cells ROW 3)).frozen? x:=fun x=>rfl
 have hF1:∀ x,(((w.alloc (.cells ROW 3)).drew.setCells w.heap.size i vs).drew).cell? x=((w.drew.alloc (.cells ROW 3)).setCells w.heap.size i vs).cell? x:=fun x=>rfl
 have hF2:∀ x,(((w.alloc (.cells ROW 3)).drew.setCells w.heap.size i vs).drew).frozen? x=((w.drew.alloc (.cells ROW 3)).setCells w.heap.size i vs).frozen? x:=fun x=>rfl
 have hw1:IntKind.i64.wrap ((i:Int)+(m:Int))=(i:Int)+(m:Int):=by rw[IntKind.wrap_i64];omega
 have hb1:(0:Int)<=(i:Int)+(m:Int):=by omega
 have hin:i<=n:=by omega
 have htn:((i:Int)+(m:Int)).toNat=i+m:=by omega
 have hb3:(i:Int)<=(n:Int):=by omega
 clear hkk hik hold hROW hG hRl
 go_enter func366,ntmps366
 go_wp2_with (first
  | (at_builtin;refine Lib.wpList_append_run _ rfl _ _ _ _ rfl _ _ rfl rfl _ _ (hrz _) ?_)
  | (at_builtin;refine wpList_copy_runI _ rfl _ _ 217 52 rfl _ _ rfl rfl (hcpA _ hE1 hE2 _ _) ?_)
  | (at_builtin;refine wpList_copy_runI _ rfl _ _ 217 217 rfl _ _ rfl rfl (hcpB _ (fun _=>rfl) (fun _=>rfl) _ _ _) ?_))
 go_region_law_o (refine step_copy_runI rfl _ _ 217 217 rfl (.slice (some ⟨w.heap.size,i+m,none⟩) (n+m-(i+m)) (G-(i+m))) (.slice (some ⟨b,off+i,none⟩) (n-i) (c-i)) (by simp[Act.eval,Act.put]) (by simp[Act.eval,Act.put]) (hcpB _ hF1 hF2 3 (G-(i+m)) (c-i)) ?_)
 go_wp2
 go_ret
 exact ⟨rfl,rfl⟩
end Go.Pf
namespace Go.Pf
open Go Go.Ev Go.Proofs Go.RowKit Go.Shelf Go.Proofs.Tryz
set_option maxRecDepth 8000
noncomputable def QDz:TypeInfo:=(prog.info? 3).get (by kernel_rfl)
section
variable {K:World->Prop}
theorem Qre (zs:List Int) (mv:Nat):Y0 prog K 369 [.yq 0 zs.length] [(0,Xa zs mv)] [0] (.iv (.xh [])) [(0,Xa zs.reverse zs.length)] :=
 QdZ (fun a cap w=>AnyE.slices_Reverse_empty Tryz.rev369 a cap w) (fun blk off cap zs w hh hl=>AnyE.slices_Reverse Tryz.rev369 (Value.int .i64) (fun _=>rfl) blk off cap zs w hh hl) zs mv
theorem Qrf (zs:List Int) (mv i:Nat) (hi:i<zs.length):Y0 prog K 368 [.yq 0 zs.length,.iv (.int .i64 (i:Nat)),.iv (.int .i64 ((i+1:Nat):Int))] [(0,Xa zs mv)] [] (.iv (Qqk (zs.eraseIdx i))) [] :=
 QgB (fun blk off cap i j d w hh h1 h2 h3 h4=>AnyE.slices_Delete Tryz.del368 (Value.int .i64) (fun _=>rfl) 0 zeroValue3 QDz (by kernel_rfl) (by kernel_rfl) blk off cap i j d w hh h1 h2 h3 h4) zs mv i hi
theorem Qrg (zs:List Int) (mv i:Nat) (hi:i<=zs.length) (x:Int) (mv':Nat) (hlen:zs.length<=1000000):Y0 prog K 366 [.yq 0 zs.length,.iv (.int .i64 (i:Nat)),.yq 1 1] [(0,Xa zs mv),(1,Xa [x] mv')] [] (.iv (Qqk (zs.take i++x::zs.drop i))) [] :=
 Qgg
  (fun b n c i vb vc cs x w h1 h2 h3 h4 h5 h6 h7 h8 h9 h10 h11 tA tB kA kB h12 h13 h14 h15 h16=>QbO b 0 n c i vb 0 1 vc cs [x] w h1 (by omega) h2 h3 h4 h5 rfl h6 h7 h8 h9 h10 h11 tA tB kA kB h12 h13 h14 h15 h16)
  (fun b n c vb vc x w h1 h2 h3 h4 h5 h6=>Wm b 0 n c vb 0 1 vc [x] w (by omega) h1 h2 rfl h3 h4 h5 h6)
  (fun base n c vb vc cs x w h1 h2 h3 h4 h5 h6 h7 h8=>Wn base n c vb 0 1 vc cs [x] w (by omega) h1 h2 h3 h4 rfl h5 h6 h7 h8)
  (fun b n c i vb vc cs x w h1 h2 h3 h4 h5 h6 h7 h8 h9=>Qcw b 0 n c i vb 0 1 vc cs [x] w h1 (by omega) h2 h3 h4 h5 rfl h6 h7 h8 h9)
  zs mv i hi x mv' hlen
end
end Go.Pf
namespace Go.Pf
open Go Go.Ev Go.Proofs Go.RowKit Go.Proofs.Tryz
set_option maxRecDepth 8000
def Qts (i:Nat) (kvs:List (MK × List (List IV))) (n:Nat):List (MK × List (List IV)):=zn (.int .i64 (n:Int)) (((Qn (.int .i64 (n:Int)) kvs).getD [])++[[.int .i64 (i:Nat)]]) kvs
def prf (ds:List Qx) (e:Nat->Int):Nat->List (MK × List (List IV))
 | 0=>[]
 | i+1=>match ds[i]? with
   | some d=>if d.zp=4 then (cab ds e i).foldl (Qts i) (prf ds e i) else prf ds e i
   | none=>prf ds e i
theorem Qj7 (ds:List Qx) (e:Nat->Int) (i:Nat) (h:i<ds.length):prf ds e (i+1)=if ds[i].zp=4 then (cab ds e i).foldl (Qts i) (prf ds e i) else prf ds e i:=by
 simp only[prf,QJW h]
theorem Jy (n:Int) (y:List (List IV)):∀ kvs:List (MK × List (List IV)),Zx (some .i64) kvs->Zx (some .i64) (zn (.int .i64 n) y kvs)
 | [],_=>⟨rfl,trivial⟩
 | p::r,h=>by
   unfold zn;split
   ·exact ⟨rfl,h.2⟩
   exact ⟨h.1,Jy n y r h.2⟩
theorem VG (k j:MK) (y:List (List IV)):∀ kvs:List (MK × List (List IV)),Qn j (zn k y kvs)=if k=j then some y else Qn j kvs
 | []=>by simp[zn,Qn]
 | p::r=>by
   unfold zn;split
   ·rename_i h
    simp only[Qn]
    grind
   rename_i h;simp only[Qn,VG k j y r]
   grind
def Low (m:Nat) (kvs:List (MK × List (List IV))):Prop:=Zx (some .i64) kvs/\∀ k rows,Qn k kvs=some rows->rows.length<=m
theorem Low.add {m i:Nat} {kvs:List (MK × List (List IV))} (h:Low m kvs) (n:Nat):Low (m+1) (Qts i kvs n):=by
 refine ⟨Jy _ _ _ h.1,fun k rows hk=>?_⟩
 unfold Qts at hk;rw[VG] at hk;split at hk
 ·injection hk with hk
  subst hk;cases hf:Qn (.int .i64 (n:Int)) kvs with
  | none=>simp
  | some r=>have:=h.2 _ _ hf;simp;omega
 have:=h.2 _ _ hk;omega
theorem Low.fold {i:Nat}:∀ (l:List Nat) {m:Nat} {kvs:List (MK × List (List IV))},Low m kvs->Low (m+l.length) (l.foldl (Qts i) kvs)
 | [],m,kvs,h=>h
 | n::l,m,kvs,h=>by
   have:=Low.fold (i:=i) l (h.add (i:=i) n)
   grind
theorem Low.mono {m m':Nat} {kvs:List (MK × List (List IV))} (h:Low m kvs) (hm:m<=m'):Low m' kvs:=⟨h.1,fun k rows hk=>QKG (h.2 k rows hk) hm⟩
theorem Qm3 (ds:List Qx) (e:Nat->Int) (hc:OkD ds ds.length):∀ i,i<=ds.length->Low (i*ds.length) (prf ds e i)
 | 0,_=>⟨trivial,fun k rows h=>by simp[prf,Qn] at h⟩
 | i+1,h=>by
   have ih:=Qm3 ds e hc i (by omega)
   rw[Qj7 ds e i (by omega)]
   have e1:(i+1)*ds.length=i*ds.length+ds.length:=by grind
   rw[e1];split
   ·have hcl:=Xo e hc i (by omega) (by omega)
    have hcb:=hc.cnt i (by omega) (by omega)
    exact (ih.fold _).mono (by omega)
   exact ih.mono (by omega)
theorem Low.len {m:Nat} {kvs:List (MK × List (List IV))} (h:Low m kvs) (k:MK):((Qn k kvs).getD []).length<=m:=by
 cases hf:Qn k kvs with
 | none=>simp
 | some r=>exact h.2 _ _ hf
theorem QhP (ds:List Qx) (i:Nat) (h:i<ds.length):XS (ds.take (i+1))=if ds[i].zp=1 then XS (ds.take i)++[ds[i]] else XS (ds.take i):=by
 rw[QJV h];unfold XS;rw[QKX];generalize List.filter ZS (List.take i ds)=l;by_cases hw:ds[i].zp=1<;>simp[ZS,hw]
theorem Qns (ds:List Qx) (i:Nat):(XS (ds.take i)).length=wn ds i:=by rw[Yz];rfl
@[simp] def QE2 (kvs:List (MK × List (List IV))):IV:=.map (kvs.map fun p=>(p.1,.sl 1 p.2))
theorem Qq8 (n:Nat) (z:IV):Qe0 (List.replicate n [AV.iv z])=some (List.replicate n [z]):=by
 have:=Qk (List.replicate n [z]);simpa[emb] using this
theorem Qay (l:List Nat) (mv:Nat):Xa (l.map fun (n:Nat)=>(n:Int)) mv=AO.arr 3 1 (emb (l.map fun (n:Nat)=>[IV.int .i64 (n:Int)])) mv:=by simp[Xa,emb]
theorem Qgf (l:List Nat):Qqk (l.map fun (n:Nat)=>(n:Int))=Xc l:=by simp[Qqk]
section
variable {K:World->Prop} {C:Env->Qs->Prop}
theorem Je (m:Nat->Nat) (e:TypeId) (sz:Nat) (xs:List (List IV)) (mv:Nat):rnO m (.arr e sz (emb xs) mv)=.arr e sz (emb xs) mv:=QmT m e sz xs mv
theorem XM (dom:List Nat) (e:TypeId) (sz:Nat) (xs:List (List IV)) (mv:Nat):clO dom (.arr e sz (emb xs) mv)=true:=Qo7 dom e sz xs mv
theorem Ql6 {id n mv:Nat} {d:Option Nat} {e:Env} {o:Qs} (l:List Nat) (hid:Qc o id=some (.arr 3 1 (emb (l.map fun (n:Nat)=>[IV.int .i64 (n:Int)])) mv)) (hn:n=l.length)
  (h:C (bnd d (.iv (.xh [])) (QqJ (YO [id] [0] o) e)) (Qvr [id] (YO [id] [0] o) o [(0,.arr 3 1 (emb (l.reverse.map fun (n:Nat)=>[IV.int .i64 (n:Int)])) n)])):HK prog K 369 [id] d C e o [.yq id n]:=by
 have hg:=Qre (K:=K) (l.map fun (n:Nat)=>(n:Int)) mv
 rw[<- List.map_reverse,Qay,Qay,QJ9] at hg;subst hn;refine Qj hg (by simp[rn,nth]) ?_ ?_
 ·refine ⟨by simp,by simp[clA],?_,?_,by simp[Zn]⟩
  ·intro p hp
   simp only[QKs] at hp;subst hp;exact ⟨by simp,by rw[Je];simpa[nth] using hid,XM _ _ _ _ _,rfl⟩
  intro i hi h;simp at hi;subst hi;simp[Qc] at h
 ·simpa[rn] using h
theorem Qdv {id n mv:Nat} {d:Option Nat} {e:Env} {o:Qs} (l:List Nat) (i:Nat) (hi:i<l.length) (hid:Qc o id=some (.arr 3 1 (emb (l.map fun (n:Nat)=>[IV.int .i64 (n:Int)])) mv)) (hn:n=l.length) {avs:List AV} (ha:avs=[.yq id n,.iv (.int .i64 (i:Nat)),.iv (.int .i64 ((i+1:Nat):Int))])
  (h:C (bnd d (.iv (Xc (l.eraseIdx i))) (QqJ (YO [id] [] o) e)) (Qvr [id] (YO [id] [] o) o [])):HK prog K 368 [id] d C e o avs:=by
 have hg:=Qrf (K:=K) (l.map fun (n:Nat)=>(n:Int)) mv i (by simpa using hi)
 have e1:(l.map fun (n:Nat)=>(n:Int)).eraseIdx i=(l.eraseIdx i).map fun (n:Nat)=>(n:Int):=by simp[List.eraseIdx_eq_take_drop_succ]
 rw[e1,Qay,Qgf,QJ9] at hg;subst hn;refine Qj hg (by rw[ha];simp[rn,nth]) ?_ ?_
 ·refine ⟨by simp,by simp[clA],?_,?_,by simp⟩
  ·intro p hp
   simp only[QKs] at hp;subst hp;exact ⟨by simp,by rw[Je];simpa[nth] using hid,XM _ _ _ _ _,rfl⟩
  intro i hi h;simp at hi;subst hi;simp[Qc] at h
 ·simpa[rn] using h
theorem Qdu {id id' n mv mv':Nat} {d:Option Nat} {e:Env} {o:Qs} (l:List Nat) (i:Nat) (hi:i<=l.length) (x:Nat) (hlen:l.length<=1000000) (hne:id≠id') (hid:Qc o id=some (.arr 3 1 (emb (l.map fun (n:Nat)=>[IV.int .i64 (n:Int)])) mv)) (hid':Qc o id'=some (.arr 3 1 [[.iv (.int .i64 (x:Nat))]] mv')) (hn:n=l.length)
  (h:C (bnd d (.iv (Xc (l.take i++x::l.drop i))) (QqJ (YO [id,id'] [] o) e)) (Qvr [id,id'] (YO [id,id'] [] o) o [])):HK prog K 366 [id,id'] d C e o [.yq id n,.iv (.int .i64 (i:Nat)),.yq id' 1]:=by
 have hg:=Qrg (K:=K) (l.map fun (n:Nat)=>(n:Int)) mv i (by simpa using hi) x mv' (by simpa using hlen)
 have e1:(l.map fun (n:Nat)=>(n:Int)).take i++(x:Int)::(l.map fun (n:Nat)=>(n:Int)).drop i=(l.take i++x::l.drop i).map fun (n:Nat)=>(n:Int):=by simp
 rw[e1,Qay,Qgf,QJ9] at hg;subst hn;refine Qj hg (by simp[rn,nth]) ?_ ?_
 ·refine ⟨by simpa using hne,by simp[clA],?_,?_,by simp⟩
  ·intro p hp
   simp only[QJ7,QKc,or_false] at hp;rcases hp with rfl | rfl
   ·exact ⟨by simp,by rw[Je];simpa[nth] using hid,XM _ _ _ _ _,rfl⟩
   exact ⟨by simp,by simpa[nth,rnO,rnL,rn] using hid',by simp[clO,clAL,clA],rfl⟩
  intro i hi h;simp at hi;have:i=0\/i=1:=by omega
  rcases this with rfl | rfl<;>simp[Qc] at h
 simpa[rn] using h
end
section
variable {K:World->Prop} (hK:∀ w w',K w->Below w.heap.size w w'->K w')
include hK
theorem Qwe (c:Qr) (n:Nat) (hn:n<2 ^ 63) (hc:OkD c.za c.za.length) (hl:c.za.length<=100) :
  Gd K 330 [QB c.za,.clo 331 [] [.ptr [.int .i64 n],.ptr (VL c)]] (.agg (J5 c.za (ZD c.za n) (QE2 (prf c.za (ZD c.za n) c.za.length)))):=by
 refine Qb hK (fk func330 QFK (by kernel_rfl)) (by simp) ?_
 simp;intros
 refine Qi (fun i=>[(1,AV.iv (.clo 331 [] [.ptr [.int .i64 n],.ptr (VL c)])),(4,.loc 4 0),(5,.loc 5 0),(16,AV.iv (QB c.za)),(17,AV.iv (.int .i64 c.za.length)),(18,AV.iv (IV.int IntKind.i64 (i:Nat)))])
  (fun i=>[(4,AO.box [.iv (.sl 1 []),.iv (.sl 2 []),.iv (.map [])]),(5,AO.box [.yq 13 (i+1),.yq 6001 (XS (c.za.take i)).length,.yo 14]),(13,AO.arr 217 1 (emb ((QiA c.za (ZD c.za n) i).map fun c=>[Xc c])) 0),
    (14,.yw 3 1 (prf c.za (ZD c.za n) i) none),(6001,.arr 392 2 (emb ((XS (c.za.take i)).map lkC)) 0)]) c.za.length (fun i=>True) trivial ?_ ?_
 ·intro _
  rw[Qa QiR.eq_1];simp[-List.map_map,Qt,QH,QC,Qk,QJZ]
 ·intro i hi _ ih
  have hcl:=Xo (ZD c.za n) hc i (by omega) (by omega)
  have hcb:=hc.cnt i (by omega) (by omega)
  have hd:=hc i hi hi;have hw:=Qg6 c.za i;have hlw:=Qns c.za i;have xf:=Qm3 c.za (ZD c.za n) hc i (by omega)
  have hg202:=Qwd hK c n i hn hi;have hei:=QkH c.za n i hi;have hii:i*c.za.length<=100*100:=Nat.mul_le_mul (by omega) (by omega)
  rw[QgF,QhP _ _ hi,QaG _ _ _ hi,Qj7 _ _ _ hi] at ih;rw[Qa QiR.eq_1]
  have hcg:(QiA c.za (ZD c.za n) i)[i]?=some (cab c.za (ZD c.za n) i):=by
   rw[QJW (by simp),QaF _ _ _ _ (by omega)]
  have hcl2:=QsQ c.za (ZD c.za n) i;generalize ZD c.za n i=ei at *;generalize QiA c.za (ZD c.za n) i=cs at *;generalize prf c.za (ZD c.za n) i=kvs at *;generalize XS (c.za.take i)=lk at *;generalize cab c.za (ZD c.za n) i=now at *
  have hcg2:cs[i]'(by omega)=now:=by
   grind
  have hnl:now.length<=100:=by omega
  simp[hi,hcl2,hcg2,-List.map_map,Qt,QH,QC,Qk];intro _;refine ⟨by omega,?_⟩
  refine QxO (rows:=List.replicate now.length [IV.int .i64 0]) (Qq8 _ _) (by simp) (by simp) ?_
  rcases hd with ⟨h1,h2,h3,h4⟩ | ⟨h1,h2,h3,h4⟩ | ⟨h1,h4⟩
  ·simp only[inR] at h3 h2
   have hp:(if ei=1 then (now.length:Int)+1-1-c.za[i].pos else c.za[i].pos)=(plc c.za[i].pos ei (now.length+1):Nat):=by
    unfold plc;omega
   have hpl:plc c.za[i].pos ei (now.length+1)<=now.length:=Qm5 (by omega)
   have hg214:=Qh9 hK c.za[i].pos ei (now.length+1) (by omega) (by omega)
   rw[hp] at hg214;simp[Jp,h1,<- hlw] at ih;generalize plc c.za[i].pos ei (now.length+1)=at_ at *;by_cases hf:c.za[i].z7=2
   ·have hg:=hg202 hf
    simp[hi,hf,h1,-List.map_map,Qt,QH,QC,Qk];refine ⟨by kernel_rfl,cK (by simpa using hg) ?_⟩
    simp[hi,hf,h1,-List.map_map,Qt,QH,QC,Qk];intro _;refine ⟨by omega,cK hg214 ?_⟩
    simp[hi,hf,h1,-List.map_map,Qt,QH,QC,Qk];intro _;refine Qdu (mv:=now.length) (mv':=0) now at_ hpl lk.length (by omega) (by simp) (by simp[emb,-List.map_map]) (by simp) rfl ?_
    simp[hi,hf,h1,-List.map_map,Qt,QH,QC,Qk]
    grind
   rw[if_neg hf] at hei;simp[hi,hf,h1,-List.map_map,Qt,QH,QC,Qk];rw[<- hei];intro _;refine ⟨by omega,cK hg214 ?_⟩
   simp[hi,hf,h1,-List.map_map,Qt,QH,QC,Qk];intro _;refine Qdu (mv:=now.length) (mv':=0) now at_ hpl lk.length (by omega) (by simp) (by simp[emb,-List.map_map]) (by simp) rfl ?_
   simp[hi,hf,h1,-List.map_map,Qt,QH,QC,Qk]
   grind
  ·have h11:¬ c.za[i].zp=1:=by omega
   simp only[inR] at h3 h2
   have hp:(if ei=1 then (now.length:Int)-1-c.za[i].pos else c.za[i].pos)=(plc c.za[i].pos ei now.length:Nat):=by
    unfold plc;split<;>omega
   have hpl:plc c.za[i].pos ei now.length<now.length:=Qj9 (by omega)
   have hg214:=Qh9 hK c.za[i].pos ei now.length (by omega) (by omega)
   rw[hp] at hg214;simp[Jp,h1] at ih;generalize plc c.za[i].pos ei now.length=at_ at *;have he:now.take at_++now.drop (at_+1)=now.eraseIdx at_:=by grind
   rw[<- List.map_take,<- List.map_drop,<- QKf,he] at ih;by_cases hf:c.za[i].z7=2
   ·have hg:=hg202 hf
    simp[hi,hf,h1,-List.map_map,Qt,QH,QC,Qk];refine ⟨by kernel_rfl,cK (by simpa using hg) ?_⟩
    simp[hi,hf,h1,-List.map_map,Qt,QH,QC,Qk];intro _;refine cK hg214 ?_;simp[hi,hf,h1,-List.map_map,Qt,QH,QC,Qk];refine ⟨by omega,?_⟩
    refine Qdv (mv:=now.length) now at_ hpl (by simp[emb,-List.map_map]) rfl (by simp) ?_
    simp[hi,hf,h1,-List.map_map,Qt,QH,QC,Qk]
    grind
   rw[if_neg hf] at hei;simp[hi,hf,h1,-List.map_map,Qt,QH,QC,Qk];rw[<- hei];intro _;refine cK hg214 ?_;simp[hi,hf,h1,-List.map_map,Qt,QH,QC,Qk];refine ⟨by omega,?_⟩
   refine Qdv (mv:=now.length) now at_ hpl (by simp[emb,-List.map_map]) rfl (by simp) ?_
   simp[hi,hf,h1,-List.map_map,Qt,QH,QC,Qk]
   grind
  ·have hf:¬ c.za[i].z7=2:=by omega
   rcases h1 with h1 | h1
   ·simp[Jp,h1] at ih
    simp[hi,hf,h1,-List.map_map,Qt,QH,QC,Qk];refine Ql6 (mv:=now.length) now (by simp[emb,-List.map_map]) rfl ?_
    simp[hi,hf,h1,-List.map_map,Qt,QH,QC,Qk,QJZ]
    grind
   ·simp[Jp,h1] at ih
    simp[hi,hf,h1,-List.map_map,Qt,QH,QC,Qk];intro _
    refine Qi (fun k=>[(1,AV.iv (.clo 331 [] [.ptr [.int .i64 n],.ptr (VL c)])),(4,.loc 4 0),(5,.loc 5 0),(6,AV.iv (IV.int IntKind.i64 (i:Nat))),(8,AV.yq 29 now.length),(16,AV.iv (QB c.za)),(17,AV.iv (.int .i64 c.za.length)),(18,AV.iv (IV.int IntKind.i64 (i:Nat))),(90,AV.yq 29 now.length),(91,AV.iv (.int .i64 now.length)),(92,AV.iv (.int .i64 (k:Nat)))])
     (fun k=>[(4,AO.box [.iv (.sl 1 []),.iv (.sl 2 []),.iv (.map [])]),(5,AO.box [.yq 13 (i+1),.yq 6001 lk.length,.yo 14]),(13,AO.arr 217 1 (emb (cs.map fun c=>[Xc c])) 0),
       (14,.yw 3 1 ((now.take k).foldl (Qts i) kvs) none),(29,AO.arr 3 1 (emb (now.map fun (n:Nat)=>[.int .i64 (n:Int)])) now.length),(6001,AO.arr 392 2 (emb (lk.map lkC)) 0)]) now.length (fun _=>True) trivial ?_ ?_
    ·intro _
     rw[Qa QiS.eq_1];simp[-List.map_map,Qt,QH,QC,Qk,QJZ]
     grind
    ·intro k hk _ ih2
     rw[Qa QiS.eq_1];have hlk:Low (i*c.za.length+(now.take k).length) ((now.take k).foldl (Qts i) kvs):=xf.fold _;rw[QJV hk,QLc] at ih2;generalize (now.take k).foldl (Qts i) kvs=kv at *;have hkl:(List.take k now).length<=100:=by simp;omega
     have hle:=hlk.len (.int .i64 (now[k]:Nat));have hkk:=hlk.1;have hkk2:=Jy (now[k]:Nat) (((Qn (.int .i64 ((now[k]:Nat):Int)) kv).getD [])++[[.int .i64 (i:Nat)]]) kv hkk;have hfm:=VG (.int .i64 ((now[k]:Nat):Int)) (.int .i64 ((now[k]:Nat):Int)) (((Qn (.int .i64 ((now[k]:Nat):Int)) kv).getD [])++[[.int .i64 (i:Nat)]]) kv;rw[if_pos rfl] at hfm;simp[Qts] at ih2;simp[hk,hkk,hkk2,hfm,-List.map_map,Qt,QH,QC,Qk]
     grind
def pmC (c:Qr) (n:Nat):IV:=QE2 (prf c.za (ZD c.za n) c.za.length)
theorem QjN (c:Qr) (hc:OkC c):QgS K c (pmC c):=fun n hn=>by
 have h:=hc.len;have h2:=WU c.za;have h3:=U9 (show ZN c.za<=12 by omega)
 exact Qwe hK c n (by omega) hc.za (by omega)
end
end Go.Pf
namespace Go.Pf
open Go Go.Proofs Go.RowKit Go.Maps Go.Sort Go.Shelf
variable {P:Program} {ρ:Ren}
set_option maxRecDepth 100000 in
set_option maxHeartbeats 1000000 in
theorem QeW (L:SlLaysZI.n10 P ρ) {H:Type} (F:Fence) (n:Nat) (h10:F.fn (ρ.f 10)) (hro:F.round=none) (hn:1<=n) (l Bm om b nn:Nat) (D0:DataW H) {R:Value->Option (DataW H × List MemPlace)} (J:List Int->World->Prop)
  (hY:∀ pre x W,J pre W->pre.length<Maps.size D0->YieldAt F (n-1) P l #[encZ x] W fun e W'=>e=.returned (.bool true)/\J (pre++[x]) W'/\KeepsWalks W W')
  (W:World) (hJ:AbidesFrom W.heap.size J) (hm:W.cell? ⟨Bm,om,none⟩=some (.map (some b))) (hown:W.ownsMap P (ρ.t 26) R b nn D0) (h0:J [] W) :
  CallsIn F n P (ρ.f 10) #[.func (.yield l) #[] #[],.pointer (some ⟨Bm,om,none⟩)] W fun e W'=>(∃ v,e=.returned v)/\∃ ss:List Int,ss.Perm (intKeys D0)/\J ss W':=by
 have mixed:=L.mixed;have t0:=L.t0;have a0:=L.a0;have z0:=L.z0;have v0:=L.v0;have t4:=L.t4;have a4:=L.a4;have z4:=L.z4;have v4:=L.v4;have t23:=L.t23;have a23:=L.a23;have z23:=L.z23;have v23:=L.v23;have t26:=L.t26;have a26:=L.a26;have z26:=L.z26;have v26:=L.v26;have t33:=L.t33;have a33:=L.a33;have z33:=L.z33;have v33:=L.v33;have u0:=run_underlying L.t0;have u4:=run_underlying L.t4;have u23:=run_underlying L.t23;have u26:=run_underlying L.t26;have u33:=run_underlying L.t33;obtain ⟨_,_,FG⟩:=L.f10;refine callsIn_of_wp FG rfl h10 ?_ hro;simp only[SlBodyZ.n10_ntmps ρ,QLm,QKk,QKy,Nat.reduceAdd,Nat.reduceSub,Array.replicate_succ,Array.replicate_zero,List.push_toArray,List.append_toArray,QKe,QJ8]
 gi_wp2_with (first
  | (gi_at_range;refine wpListIn_range_own _ rfl _ (ρ.t 23) rfl (ρ.t 26) (ρ.t 3) (int_keyed L.t26) L.t23 _ b nn _ rfl hown ?_;intro w0 hrg0 hg0 hs0)
  | gi_in)
 go_frame
 gi_loopw [3] (fun _ wr=>∃ (left:Lit->Bool) (cnt:Nat) (ss:List Int),wr.ranges P (ρ.t 26) R b W.heap.size nn D0 left cnt/\ss.length+cnt<=Maps.size D0/\CollectedI D0 left ss/\J ss wr)
  (fun _ wr=>wr.rangeLeft b W.heap.size)
 case atStart =>
  exact ⟨_,_,[],hrg0,by simp,CollectedI.start D0,hJ [] W w0 none h0 hg0 (fun r e=>by cases e)⟩
 case round =>
  obtain ⟨left,cnt,ss,hrg,hcs,hC,hJs⟩:=hrel
  gi_wp2_with (first
   | (gi_at_next;refine wpListIn_next_ranges _ rfl _ rfl (ρ.t 26) (int_keyed L.t26) R encZ id (fun key kl hk=>by obtain ⟨x,hx,_⟩:=Maps.keyOf_i64 L.t26 hk;exact ⟨x,hx⟩) (fun v _ _=>⟨v,rfl⟩) b W.heap.size nn _ _ _ rfl hrg ?_ ?_)
   | gi_in)
  ·
   intro hc0 hl0
   gi_wp2
   go_end0
   exact ⟨⟨_,rfl⟩,ss,hC.perm hown (int_keyed L.t26) L.t26 hl0,hJs⟩
  ·
   intro x c kl yd yp w2 cnt2 hkey hlk hv hat hrg2 xd hg2 hs2 hen;obtain ⟨x',ex,rfl,_⟩:=Maps.keyOf_i64 L.t26 hkey;obtain rfl:x=x':=encZ_inj ex;have hJ2:J ss w2:=hJ ss wr w2 (some W.heap.size) hJs hg2 (fun r e=>by cases e;exact ⟨QJ2 _,hrg.iter_walk⟩)
   obtain ⟨fn,tmps,assign,body,hy,hR⟩:=hY ss x w2 hJ2 (by omega)
   clear hs2
   gi_wp2
   refine hR.mono ?_
   rintro e W3 ⟨rfl,hJ3,hk3⟩
   gi_wp2
   have hrg3:=hrg2.of_walks hk3
   go_roundw
   case rel=>exact ⟨_,cnt2,ss++[x],hrg3,by simp;omega,hC.step hlk hat,hJ3⟩
   case measure=>rw[hrg3.left_eq,hrg.left_eq];exact xd
set_option maxRecDepth 100000 in
set_option maxHeartbeats 1000000 in
theorem Um (L:SlLaysZI.n10 P ρ) {H:Type} (F:Fence) (n:Nat) (h10:F.fn (ρ.f 10)) (hro:F.round=none) (hn:1<=n) (Bm om b nn:Nat) (D0:DataW H) {R:Value->Option (DataW H × List MemPlace)} (w:World) (hBm:Bm<w.heap.size)
  (hm:w.cell? ⟨Bm,om,none⟩=some (.map (some b))) (hown:w.ownsMap P (ρ.t 26) R b nn D0) :
  SeqGives F n P (ρ.f 10) #[.pointer (some ⟨Bm,om,none⟩)] encZ (fun ss=>ss.Perm (intKeys D0)) (Maps.size D0) w:=fun l J W hW hJ hY h0=>by
 have hown':W.ownsMap P (ρ.t 26) R b nn D0:=by
  have hbl:=hown.lt;obtain ⟨es,clock,hb,Ft,hs,hD⟩:=hown;exact ⟨es,clock,(hW.block b hbl).trans hb,Ft,hs,hD⟩
 exact QeW { L with } F n h10 hro hn l Bm om b nn D0 J hY W hJ ((hW.cell (p:=⟨Bm,om,none⟩) hBm).trans hm) hown' h0
set_option maxRecDepth 100000 in
set_option maxHeartbeats 1000000 in
theorem Qah (L:SlLaysZI.n10 P ρ) (F:Fence) (n:Nat) (h10:F.fn (ρ.f 10)) (hro:F.round=none) (l Bm om:Nat) (J:List Int->World->Prop) (W:World) (hJ:AbidesFrom W.heap.size J)
  (hm:W.cell? ⟨Bm,om,none⟩=some (.map none)) (h0:J [] W) :
  CallsIn F n P (ρ.f 10) #[.func (.yield l) #[] #[],.pointer (some ⟨Bm,om,none⟩)] W fun e W'=>(∃ v,e=.returned v)/\∃ ss:List Int,ss=[]/\J ss W':=by
 have mixed:=L.mixed;have t0:=L.t0;have a0:=L.a0;have z0:=L.z0;have v0:=L.v0;have t4:=L.t4;have a4:=L.a4;have z4:=L.z4;have v4:=L.v4;have t23:=L.t23;have a23:=L.a23;have z23:=L.z23;have v23:=L.v23;have t26:=L.t26;have a26:=L.a26;have z26:=L.z26;have v26:=L.v26;have t33:=L.t33;have a33:=L.a33;have z33:=L.z33;have v33:=L.v33;have u0:=run_underlying L.t0;have u4:=run_underlying L.t4;have u23:=run_underlying L.t23;have u26:=run_underlying L.t26;have u33:=run_underlying L.t33;obtain ⟨_,_,FG⟩:=L.f10;refine callsIn_of_wp FG rfl h10 ?_ hro;simp only[SlBodyZ.n10_ntmps ρ,QLm,QKk,QKy,Nat.reduceAdd,Nat.reduceSub,Array.replicate_succ,Array.replicate_zero,List.push_toArray,List.append_toArray,QKe,QJ8];have hrg:=run_range_nilMap (P:=P) W (ρ.t 23) (ρ.t 26) (ρ.t 3) L.t23;have hnx:∀ ty,(Instr.next (.pointer (some ⟨W.heap.size,0,none⟩)) false ty).run P (W.alloc (.mapIter none 0 #[] 0))=_:=fun ty=>run_next_nilMap _ ty 0 0 #[]
 gi_wp2
 refine wpIn_loop_rounds 1 ?_;rw[roundsIn_succ]
 gi_wp2
 go_end0
 exact ⟨⟨_,rfl⟩,[],rfl,hJ [] W _ none h0 (World.grownBy_alloc W _ none) (fun r e=>by cases e)⟩
set_option maxRecDepth 100000 in
set_option maxHeartbeats 1000000 in
theorem Ja (L:SlLaysZI.n10 P ρ) (F:Fence) (n:Nat) (h10:F.fn (ρ.f 10)) (hro:F.round=none) (Bm om:Nat) (w:World) (hBm:Bm<w.heap.size) (hm:w.cell? ⟨Bm,om,none⟩=some (.map none)) :
  SeqGives F n P (ρ.f 10) #[.pointer (some ⟨Bm,om,none⟩)] encZ (fun ss:List Int=>ss=[]) 0 w:=fun l J W hW hJ _ h0 =>
 Qah { L with } F n h10 hro l Bm om J W hJ ((hW.cell (p:=⟨Bm,om,none⟩) hBm).trans hm) h0
end Go.Pf
namespace Go.Proofs
open Go.Proofs.Tryz
open Go.Shelf Go.RowKit Go.Maps Go.Sort
theorem Tryz.sorts290 (m:Nat):AnyZI.SortsIn prog Tryz.sorted206_ren Fence.wide m :=
 ⟨fun blk off cap ss W hH hblk hsz=>callsIn_wide.2 (AnyM.slices_Sort_int Tryz.sort290 blk off cap ss W hH hblk hsz),
  fun p cap W=>callsIn_wide.2 (AnyM.slices_Sort_int_none Tryz.sort290 p cap W)⟩
end Go.Proofs
namespace Go.Pf
open Go Go.Ev Go.Proofs Go.RowKit Go.Shelf Go.Proofs.Tryz
set_option maxRecDepth 8000
theorem qx (lb:Array Value) (S:List Int->Prop) (N:Nat) (hN:N<=1000000) (w:World) (hseq:SeqGives Fence.wide 2 prog 291 lb encZ S N w) :
  Calls prog 206 #[.func (.func 291) #[] lb] w fun e w'=>∃ (v:Value) (ss:List Int),e=.returned v/\S ss /\
   w'.ownsRow w.heap.size 3 1 v ss.length ((ss.mergeSort (fun x y=>decide (x<=y))).map encZ)/\(v=.slice none 0 0↔ss=[])/\Below w.heap.size w w':=by
 refine (callsIn_wide (n:=5)).1 ?_;exact AnyZI.sorted_in Tryz.sorted206 Fence.wide 5 trivial trivial trivial trivial rfl (by omega) (Tryz.sorts290 _) (enters_of func290 (by kernel_rfl) rfl) 291 lb trivial (enters_of func291 (by kernel_rfl) rfl) S N (by unfold maxLen;omega) (by omega) w hseq
theorem insert_perm {H:Type} (x:Lit × DataW H):∀ l:List (Lit × DataW H),(DataW.insert x l).Perm (x::l)
 | []=>List.Perm.refl _
 | y::r=>by
   unfold DataW.insert;split
   ·exact List.Perm.refl _
   exact ((insert_perm x r).cons y).trans (List.Perm.swap x y r)
theorem sorted_perm {H:Type}:∀ l:List (Lit × DataW H),(l.foldr DataW.insert []).Perm l
 | []=>List.Perm.refl _
 | x::r=>by
   rw[List.foldr_cons];exact (insert_perm x _).trans ((sorted_perm r).cons x)
def QgX:Value->Option (DataW Nat × List MemPlace):=fun _=>some (.nil,[])
theorem QtT {x:MapEntry} {n:Int} (h:x.key=.int .i64 n) (hn : -9223372036854775808<=n/\n<9223372036854775808):WideElems.rd prog 3 QgX x=some (.int .i64 n,.nil):=by
 have hw:(Lit.int .i64 n).wf=true:=by
  have h1:=hn.1;have h2:=hn.2;simp[Lit.wf,IntKind.inR,IntKind.min,IntKind.max,IntKind.bits,IntKind.signed];omega
 simp[WideElems.rd,h,QgX,keyOf,underlying3,mapKey,hw]
section
variable {K:World->Prop}
theorem QwS (kvs:List (MK × IV)) (ks:List Int) (hk:kvs.map (·.1)=ks.map (fun x=>MK.int .i64 x)) (hwf:∀ x∈ks,-9223372036854775808<=x/\x<9223372036854775808) (hlen:ks.length<=1000000) :
  Gd K 206 [.clo 291 [] [.ptr [.map kvs]]] (QW (ks.mergeSort fun x y=>decide (x<=y))):=by
 intro w ok vs hK hnew hl hvs
 obtain ⟨v0,rfl⟩:∃ v0,vs=[v0]:=by
  match vs,hl with
  | [v],_=>exact ⟨v,rfl⟩
 have hrep:=hvs 0 _ v0 rfl rfl
 have fin:∀ (v:Value) (w':World) (ss:List Int),ss.Perm ks->w'.ownsRow w.heap.size 3 1 v ss.length ((ss.mergeSort (fun x y=>decide (x<=y))).map encZ)->Below w.heap.size w w' ->
   ∃ v1,Ending.returned v=.returned v1/\QQ ok w' (QW (ks.mergeSort fun x y=>decide (x<=y))) v1/\Below w.heap.size w w':=fun v w' ss hp ho hb=>by
  refine ⟨v,rfl,?_,hb⟩;have e1:ss.mergeSort (fun x y=>decide (x<=y))=ks.mergeSort fun x y=>decide (x<=y):=mergeSort_of_perm_i hp
  rw[e1] at ho;have hl2:ss.length=ks.length:=hp.length_eq;have e3:(ks.mergeSort fun x y=>decide (x<=y)).length=ss.length:=by simp[hl2]
  generalize (ks.mergeSort fun x y=>decide (x<=y))=zs at *
  obtain ⟨h1,h2 | ⟨g,cap,cur,h2,h3,h4,h5,h6,h7,h8⟩⟩:=ho
  ·obtain ⟨rfl,h2⟩:=h2
   have:zs=[]:=QJ3 (by omega)
   subst this;exact .nils _
  subst h2;rw[<- e3];refine U2 zs g cap (by omega) h6 (hnew g h3) fun j z hj=>?_
  have hjl:=(QJX.1 hj).1;have:(cur.toList.take (ss.length*1))[j]?=some (.int .i64 z):=by grind
  rw[QKI,if_pos (by omega)] at this
  simp only[World.cell?,h4];simpa using this
 cases hrep with
 | clo _ _ _ us vs' h1 h2 hf hc =>
   obtain rfl:us=[]:=QJ3 h1
   obtain ⟨p,rfl⟩:∃ p,vs'=[p]:=by
    match vs',h2 with
    | [v],_=>exact ⟨v,rfl⟩
   have hp:=hc 0 _ p rfl rfl;cases hp with
   | ptr _ b off u hu hx =>
     have hcell:=(hu 0 (by simp)).2.1
     rw[QKT] at hcell;have hbw:b<w.heap.size:=QKR w ⟨b,off,none⟩ hcell;have hm:=hx 0 _ rfl;generalize u 0=u0 at hcell hm;cases hm with
     | mapn =>
       have hk0:ks=[]:=by simpa using hk.symm
       subst hk0;refine (qx _ _ 0 (by omega) w (Ja (ρ:=Tryz.keys207_ren) { Tryz.keys207 with } Fence.wide 2 trivial rfl b off w hbw hcell)).mono ?_
       grind
     | map _ r es clock hok hr hmr hd hxx =>
       have hks:kvs.length=ks.length:=by simpa using congrArg List.length hk
       have hkey:∀ (i:Nat) (x:MapEntry),es[i]?=some x->∃ n:Int,ks[i]?=some n/\x.key=.int .i64 n:=fun i x hx=>by
        obtain ⟨k,h3,h4⟩:=hmr.keys i x hx;rw[<- QJ4,hk,QJ4,QJ0] at h3;obtain ⟨n,h5,rfl⟩:=h3;exact ⟨n,h5,h4⟩
       have hrd:∀ (i:Nat) (x:MapEntry),es[i]?=some x->∃ n:Int,ks[i]?=some n/\x.key=.int .i64 n/\WideElems.rd prog 3 QgX x=some (.int .i64 n,.nil):=fun i x hx=>by
        obtain ⟨n,h3,h4⟩:=hkey i x hx;exact ⟨n,h3,h4,QtT h4 (hwf n (QKd h3))⟩
       have hlist:es.toList.map (fun x=>intOf (WideElems.rg prog 3 QgX x).1)=ks:=by
        refine QLI fun i=>?_
        rw[QJ4];cases hx:es[i]? with
        | none =>
          have:es.size<=i:=by
           grind
          have hz:=hmr.size
          grind
        | some x =>
          obtain ⟨n,h3,h4,h5⟩:=hrd i x hx;rw[Array.getElem?_toList,hx,h3];simp[WideElems.rg,h5,intOf]
       have hown:w.ownsMap prog 3 QgX r ks.length (DataW.map ((es.toList.map (WideElems.rg prog 3 QgX)).foldr DataW.insert [])):=by
        refine ⟨es,clock,hr,⟨by have:=hmr.size;unfold maxLen;omega,⟨fun x hx=>?_,?_,?_⟩,fun x hx=>?_⟩,by grind,rfl⟩
        ·obtain ⟨i,hi⟩:=QKv hx
         exact hmr.born i x (by simpa using hi)
        ·rw[List.nodup_iff_pairwise_ne] at *
         refine QLd.2 fun i j hi hj hij heq=>?_
         simp at hi hj heq;have:=hmr.apart i j es[i] es[j] (by simp[hi]) (by simp[hj]) heq
         omega
        ·refine QLd.2 fun i j hi hj hij heq=>?_
         simp at hi hj heq;obtain ⟨k1,h3,h4⟩:=hmr.keys i es[i] (by simp[hi])
         obtain ⟨k2,h5,h6⟩:=hmr.keys j es[j] (by simp[hj])
         rw[QJ0] at h3 h5;obtain ⟨p,h7,rfl⟩:=h3;obtain ⟨q,h8,rfl⟩:=h5;rw[h4,h6] at heq
         have:p.1=q.1:=by
          cases hp1:p.1<;>cases hq1:q.1<;>rw[hp1,hq1] at heq<;>simp[MK.val] at heq |-<;>simp_all
         grind
        obtain ⟨i,hi⟩:=QKv hx
        grind
       have hperm:(intKeys (DataW.map ((es.toList.map (WideElems.rg prog 3 QgX)).foldr DataW.insert []))).Perm ks:=by
        have:=(sorted_perm (es.toList.map (WideElems.rg prog 3 QgX))).map fun p=>intOf p.1
        rw[List.map_map] at this;refine this.trans ?_;rw[show es.toList.map ((fun p=>intOf p.1)∘WideElems.rg prog 3 QgX)=ks from hlist]
       have hsz:=hown.size_le;refine (qx _ _ _ (by omega) w (Um (ρ:=Tryz.keys207_ren) { Tryz.keys207 with } Fence.wide 2 trivial rfl (by omega) b off r _ _ w hbw hcell hown)).mono ?_
       grind
end
end Go.Pf
namespace Go.Pf
open Go Go.Ev Go.Proofs Go.RowKit Go.Proofs.Tryz
variable {K:World->Prop} (hK:∀ w w',K w->Below w.heap.size w w'->K w')
set_option maxRecDepth 8000
theorem X7 {α:Type} {p:List α->Prop} (h0:p []) (h1:∀ l x,p l->p (l++[x])) (l:List α):p l:=by
 have:∀ r:List α,p r.reverse:=by
  intro r
  induction r with
  | _=>grind
 have h:=this l.reverse
 grind
def QbP:List (Int × Nat)->Int->List (Int × Nat)
 | [],x=>[(x,1)]
 | p::r,x=>if p.1=x then (x,p.2+1)::r else p::QbP r x
def QbX:List (Int × Nat)->Int->Nat
 | [],_=>0
 | p::r,x=>if p.1=x then p.2 else QbX r x
def Qaf (l:List (Int × Nat)):List (MK × IV):=l.map fun p=>(.int .i64 p.1,.int .i64 (p.2:Nat))
theorem JB (x:Int):∀ l,(Qn (.int .i64 x) (Qaf l)).getD (.int .i64 0)=.int .i64 (QbX l x:Nat)
 | []=>rfl
 | p::r=>by
   by_cases h:p.1=x
   ·simp[Qaf,Qn,QbX,h]
   have:=JB x r;simp[Qaf,Qn,QbX,h] at this |-;exact this
theorem Ww (x:Int):∀ l,zn (.int .i64 x) (.int .i64 ((QbX l x:Nat)+1)) (Qaf l)=Qaf (QbP l x)
 | []=>by simp[Qaf,zn,QbX,QbP]
 | p::r=>by
   by_cases h:p.1=x
   ·simp[Qaf,zn,QbX,QbP,h]
   have:=Ww x r;simp[Qaf,zn,QbX,QbP,h] at this |-;exact this
theorem YC:∀ l,Zx (some .i64) (Qaf l)
 | []=>trivial
 | _::r=>⟨rfl,YC r⟩
theorem Qky (x y:Int):∀ l,QbX (QbP l x) y<=QbX l y+1
 | []=>by simp[QbP,QbX];split<;>omega
 | p::r=>by
   unfold QbP;split
   ·simp only[QbX];grind
   simp only[QbX];split
   ·omega
   exact Qky x y r
def XT (l:List Int):List (Int × Nat):=l.foldl QbP []
theorem XL (l:List Int) (x:Int):XT (l++[x])=QbP (XT l) x:=by simp[XT]
theorem Qeu (y:Int):∀ l:List Int,QbX (XT l) y<=l.length:=by
 refine X7 (by simp[XT,QbX]) fun l x ih=>?_
 rw[XL];have:=Qky x y (XT l);simp;omega
def Jd (l:List Int):List Int:=((XT l).map (·.1)).mergeSort fun x y=>decide (x<=y)
theorem Qek (x y:Int):∀ l,y∈(QbP l x).map (·.1)↔y∈l.map (·.1)\/y=x
 | []=>by simp[QbP]
 | p::r=>by
   unfold QbP;split
   ·grind
   have:=Qek x y r
   grind
theorem Qdd (x:Int):∀ l,(l.map (·.1)).Nodup->((QbP l x).map (·.1)).Nodup
 | [],_=>by simp[QbP]
 | p::r,h=>by
   rw[QKg,QLB] at h;unfold QbP;split
   ·grind
   rename_i hp;rw[QKg,QLB];refine ⟨fun hb=>?_,Qdd x r h.2⟩
   rcases (Qek x p.1 r).1 hb with hb | hb
   all_goals grind
theorem QkN (y:Int):∀ l:List Int,y∈(XT l).map (·.1)↔y∈l:=by
 refine X7 (by simp[XT]) fun l x ih=>?_
 rw[XL,Qek,ih];simp
theorem Ql4:∀ l:List Int,((XT l).map (·.1)).Nodup:=by
 refine X7 (by simp[XT]) fun l x ih=>?_
 rw[XL];exact Qdd x _ ih
theorem Qks (x:Int):∀ k,(QbP k x).length<=k.length+1
 | []=>by simp[QbP]
 | p::r=>by
   have:=Qks x r;unfold QbP
   grind
theorem QkO:∀ l:List Int,(XT l).length<=l.length:=by
 refine X7 (by simp[XT]) fun l x ih=>?_
 rw[XL];have:=Qks x (XT l);simp;omega
theorem Vl (y:Int) (l:List Int):y∈Jd l↔y∈l:=by
 unfold Jd;rw[List.mem_mergeSort,QkN]
theorem VS (l:List Int):(Jd l).Pairwise (·<·):=by
 have h1:=List.pairwise_mergeSort (le:=fun x y:Int=>decide (x<=y)) (fun a b c h1 h2=>by simp at *;omega) (fun a b=>by simp;omega) ((XT l).map (·.1))
 have h2:(((XT l).map (·.1)).mergeSort (fun x y:Int=>decide (x<=y))).Nodup:=(List.mergeSort_perm ((XT l).map (·.1)) (fun x y:Int=>decide (x<=y))).nodup_iff.2 (Ql4 l)
 have h3:=h1.and h2;refine h3.imp fun {a b} h=>?_
 grind
theorem QhC:∀ {l l':List Int},l.Pairwise (·<·)->l'.Pairwise (·<·)->(∀ x,x∈l↔x∈l')->l=l'
 | [],[],_,_,_=>rfl
 | [],b::l',_,_,h=>absurd ((h b).2 (by simp)) (by simp)
 | a::l,[],_,_,h=>absurd ((h a).1 (by simp)) (by simp)
 | a::l,b::l',h1,h2,h=>by
   rw[List.pairwise_cons] at h1 h2
   have hab:a=b:=by
    have p1:=(h a).1 (by simp)
    have p2:=(h b).2 (by simp)
    grind
   subst hab;refine congrArg (a::·) (QhC h1.2 h2.2 fun x=>?_)
   grind
include hK
theorem Qii (kvs:List (MK × IV)):Gd K 207 [.map kvs] (.clo 291 [] [.ptr [.map kvs]]):=by
 refine Qb hK (fk func207 QGN (by kernel_rfl)) (by simp) ?_
 simp
omit hK in
theorem qj (l:List Int) (hw:∀ x∈l,-1000000<=x/\x<=1000000) (hl:l.length<=1000000):Gd K 206 [.clo 291 [] [.ptr [.map (Qaf (XT l))]]] (QW (Jd l)):=by
 have hlen:(XT l).length<=l.length:=by
  exact QkO l
 refine QwS (K:=K) (Qaf (XT l)) ((XT l).map (·.1)) (by simp[Qaf]) (fun x hx=>?_) (by simp;omega)
 have:=hw x ((QkN x l).1 hx);omega
theorem Qn9 (c:Qr) (hl:c.za.length<=1000) (hs:c.zg.length<=1000) (g1:FuncId) (cs1:List IV) (is:Bool) (hg1:OkC c->Gd K g1 ([.int .i64 (XR c.za),.int .i64 (Qmg c.za)]++cs1) (.bool is)) (hc1:callee prog g1=true)
  (g2:FuncId) (cs2:List IV) (v:Nat->Int) (hg2:OkC c->is=true->∀ n∈QS c,Gd K g2 ([.agg (J5 c.za (ZD c.za n) (pmC c n))]++cs2) (.int .i64 (v n))) (hc2:callee prog g2=true) (hv:OkC c->is=true->∀ n∈QS c,-1000000<=v n/\v n<=1000000) :
  Gd K 191 [chV c,.clo g1 [] cs1,.clo g2 [] cs2] (.xh [QW (if YW c is=0 then Jd ((QS c).map v) else []),.int .i64 (YW c is)]):=by
 refine Qb hK (fk func191 QG2 (by kernel_rfl)) (by simp) ?_
 simp;refine cK (by simpa using Qwu hK c (pmC c) (QjN hK c) g1 [] cs1 is (fun h=>by simpa using hg1 h) hc1 hl hs) ?_
 by_cases he:YW c is=0;rotate_left
 ·by_cases h1:OkC c<;>cases is<;>simp[he,h1]
 ·have h1:OkC c:=by
   unfold YW at he
   grind
  have h2:is=true:=by
   unfold YW at he
   grind
  have hlen:(QS c).length<=4096:=by
   have h1':=QKz (fun n=>decide ((Zf c.za c.zg (ZD c.za n):Int)<=c.zh)) (List.range (2 ^ ZN c.za))
   have h2':=U9 (n:=ZN c.za) (by have:=WU c.za;have:=h1.len;omega)
   simp at h1';unfold QS;omega
  have hG:=hg2 h1 h2;have hV:=hv h1 h2;clear hg2 hv hg1;subst h2;simp[he,h1];refine Q6 (wy:=.fall) (o':=[(10,.box [.yo 21]),(21,.xj (Qaf (XT ((QS c).map v))))]) rfl (by kernel_rfl) (qe hK c h1 (pmC c) (QjN hK c h1)) ?_ ?_
  ·have:=Un.all (P:=prog) (K:=K) (ps:=[24]) (asn:=QeN) (body:=Qjm) (ks:=[5,10]) (ids:=[10,21]) (eK:=[(5,.iv (.ptr [.clo g2 [] cs2])),(10,.loc 10 0)]) ((QS c).map (XD c.za (pmC c)))
    (fun i=>[(10,.box [.yo 21]),(21,.xj (Qaf (XT (((QS c).map v).take i))))]) fun i x hi=>by
    simp only[QJ4,QJ0] at hi;obtain ⟨y,hy,rfl⟩:=hi;have xd:=(QJX.1 hy).1
    have hyv:((QS c).map v)[i]'(by simpa using xd)=v y:=by
     grind
    have hg:=hG y (QKd hy);refine ⟨rfl,?_⟩;rw[QJV (by simpa using xd),XL,hyv]
    have hle:=Qeu (v y) (((QS c).map v).take i);have hkk:=YC (XT (((QS c).map v).take i));have hf:=JB (v y) (XT (((QS c).map v).take i));have hi:=Ww (v y) (XT (((QS c).map v).take i));have hle2:(((QS c).map v).take i).length<=4096:=by simp;omega
    generalize XT (((QS c).map v).take i)=kv at *;simp[XD,QeN,Qjm];refine ⟨hc2,cK (by simpa using hg) ?_⟩
    simp[hkk,hf,hi];omega
   simpa[XT,Qaf,QJZ] using this
  ·simp
   refine cK (by simpa using Qii hK (Qaf (XT ((QS c).map v)))) ?_
   simp;refine cK (qj ((QS c).map v) (fun x hx=>?_) (by simp;omega)) ?_
   ·grind
   ·simp
def Qqj (c:Qr) (pos:Int) (n:Nat):Int:=((cab c.za (ZD c.za n) c.za.length).getD pos.toNat 0:Nat)
theorem Qoj (c:Qr) (pos:Int) (hl:c.za.length<=1000) (hs:c.zg.length<=1000) :
  Gd K 102 [chV c,.int .i64 pos] (.xh [QW (if YW c (decide (inR pos 0 (XR c.za-1)))=0 then Jd ((QS c).map (Qqj c pos)) else []),.int .i64 (YW c (decide (inR pos 0 (XR c.za-1))))]):=by
 refine Qb hK (fk func102 QHB (by kernel_rfl)) (by simp) ?_
 simp;refine cK (by simpa using QwY hK pos) ?_
 simp
 have hcl:∀ n,OkC c->((cab c.za (ZD c.za n) c.za.length).length:Int)=XR c.za:=fun n h=>by
  rw[Xo _ h.za _ (QJ2 _) (QJ2 _)];rfl
 have hg:=Qn9 hK c hl hs 278 [.ptr [.int .i64 pos]] (decide (inR pos 0 (XR c.za-1))) (fun h=>by
   have:=hcl 0 h;have h2:=h.za.cnt c.za.length (QJ2 _) (QJ2 _);have h3:=Xo (ZD c.za 0) h.za c.za.length (QJ2 _) (QJ2 _);simpa using Qwt hK (XR c.za) (Qmg c.za) pos (by omega)) (by kernel_rfl) 193 [.ptr [.int .i64 pos]] (Qqj c pos) (fun h hi n _=>by
   have h3:=hcl n h;have hi:=of_decide_eq_true hi;simp only[inR] at hi;have h4:pos=((pos.toNat:Nat):Int):=by omega
   have h5:pos.toNat<(cab c.za (ZD c.za n) c.za.length).length:=by omega
   have h6:=QwX hK c.za (ZD c.za n) (pmC c n) hl pos.toNat h5;rw[<- h4] at h6;have h7:(cab c.za (ZD c.za n) c.za.length).getD pos.toNat 0=(cab c.za (ZD c.za n) c.za.length)[pos.toNat]:=by grind
   unfold Qqj
   grind) (by kernel_rfl) (fun h hi n _=>by
   have h3:=hcl n h;have hi:=of_decide_eq_true hi;simp only[inR] at hi;have h5:pos.toNat<(cab c.za (ZD c.za n) c.za.length).length:=by omega
   have h7:(cab c.za (ZD c.za n) c.za.length).getD pos.toNat 0=(cab c.za (ZD c.za n) c.za.length)[pos.toNat]:=by grind
   have h8:=qS c.za (ZD c.za n) c.za.length _ (QJ1 h5);have h9:=Qg6 c.za c.za.length;unfold Qqj;omega)
 refine cK (by simpa using hg) ?_
 simp
omit hK in
theorem QmG (x:Int):Jd [x]=[x]:=by simp[Jd,XT,QbP]
omit hK in
theorem Qlp (c:Qr) (hc:OkC c) (h2:ZN c.za=0) (hs:c.zg=[]):QS c=[0]:=by
 have:=hc.zh;simp only[inR] at this;simp[QS,h2,hs,Zf,this]
theorem Qwa (c:Qr) (hc:OkC c) (h2:ZN c.za=0) (hs:c.zg=[]):Gd K 337 [chV c] (Xc (cab c.za (ZD c.za 0) c.za.length)):=by
 have hl:=hc.len;have hr:=Qlp c hc h2 hs;have hcl:=Xo (ZD c.za 0) hc.za c.za.length (QJ2 _) (QJ2 _);have hcb:=hc.za.cnt c.za.length (QJ2 _) (QJ2 _);have hcl2:XR c.za=((cab c.za (ZD c.za 0) c.za.length).length:Int):=hcl.symm
 have hw:∀ i:Nat,i<(cab c.za (ZD c.za 0) c.za.length).length->Gd K 102 [chV c,.int .i64 i] (.xh [QW [((cab c.za (ZD c.za 0) c.za.length).getD i 0:Nat)],.int .i64 0]):=fun i hi=>by
  have:=Qoj hK c i (by omega) (by simp[hs])
  have h3:inR (i:Int) 0 (XR c.za-1):=by simp only[inR];omega
  have h4:YW c true=0:=by simp[YW,hc,hr]
  rw[decide_eq_true h3,h4,hr] at this;simpa[QmG,Qqj] using this
 refine Qb hK (fk func337 QFD (by kernel_rfl)) (by simp) ?_
 have hg83:=Qin hK c (by omega) (by simp[hs])
 simp[hc] at hg83;simp;refine cK hg83 ?_;rw[hcl2];generalize cab c.za (ZD c.za 0) c.za.length=now at *;simp
 refine Qi (fun i=>[(1,AV.iv (.ptr [QB c.za,Qw c.zg,.int .i64 c.zh])),(5,AV.yq 5 i),(14,AV.iv (.int .i64 now.length)),(15,AV.iv (IV.int IntKind.i64 (i:Nat)))])
  (fun i=>[(5,AO.arr 3 1 (emb ((now.take i).map fun (n:Nat)=>[.int .i64 (n:Int)])) 0)]) now.length (fun i=>True) trivial ?_ ?_
 ·intro _
  rw[Qa QiL.eq_1];simp[QJZ]
 intro i hi _ ih;rw[Qa QiL.eq_1];rw[QJV hi,QKf] at ih;have hg:=hw i hi;have h7:now.getD i 0=now[i]:=by grind
 rw[h7] at hg;simp[hi] at ih |-;refine cK (by simpa using hg) ?_
 simp
 grind
omit hK
def qW (d:Qx) (x:Int):Qx:={ d with z7:=x }
def Us:List Qx->List (List Qx)
 | []=>[[]]
 | d::r=>if d.z7=2 then (Us r).map (qW d 0::·)++(Us r).map (qW d 1::·) else (Us r).map (d::·)
theorem Qvq (ds:List Qx) (h:ZN ds=0):∀ x∈ds,ZT x=false:=by
 intro x hx;have:=QLN.1 h x hx;simpa[ZT] using this
theorem QcR:∀ ds:List Qx,ZN ds=0->Us ds=[ds]
 | [],_=>rfl
 | d::r,h=>by
   by_cases hd:d.z7=2
   ·simp[ZN,QLM,hd] at h
   have:=QcR r (by simpa[ZN,QLM,hd] using h)
   simp[Us,hd,this]
theorem Qoo:∀ ds:List Qx,ZN ds≠0->∃ i:Nat,(∀ x∈ds.take i,ZT x=false)/\∃ h:i<ds.length,ds[i].z7=2/\Us ds=Us (ds.set i (qW ds[i] 0))++Us (ds.set i (qW ds[i] 1))/\∀ x:Int,x≠2->ZN (ds.set i (qW ds[i] x))+1=ZN ds
 | [],h=>absurd rfl h
 | d::r,h=>by
   by_cases hd:d.z7=2
   ·refine ⟨0,by simp,by simp,hd,?_,fun x hx=>?_⟩
    ·simp[Us,hd,qW]
    simp[ZN,QLM,qW,hx,hd]
   ·have h':ZN r≠0:=by simpa[ZN,QLM,hd] using h
    obtain ⟨i,h1,h2,h3,h4,h5⟩:=Qoo r h';refine ⟨i+1,?_,by simpa using h2,by simpa using h3,?_,fun x hx=>?_⟩
    ·intro x hx
     rw[List.take_succ_cons,QJ7] at hx;rcases hx with rfl | hx
     ·simp[ZT,hd]
     exact h1 x hx
    ·simp only[List.set_cons_succ,List.getElem_cons_succ,Us,hd,if_false]
     grind
    ·have:=h5 x hx
     simp only[List.set_cons_succ,List.getElem_cons_succ];simp[ZN,hd] at this |-;omega
noncomputable def YN (c:Qr):List Qr:=((Us c.za).map fun ds=>{ c with za:=ds }).filter fun c'=>decide (YW c' true=0)
def Qh0 (c:Qr):List IV:=[chV c]
theorem QhU (c:Qr) (h:ZN c.za=0):YN c=if YW c true=0 then [c] else []:=by
 unfold YN;rw[QcR _ h];by_cases h1:YW c true=0<;>simp[h1]
include hK
theorem QhY:∀ (n:Nat) (c:Qr),ZN c.za=n->c.za.length<=1000->c.zg.length<=1000->Qal prog K 284 [chV c] [] ((YN c).map Qh0) (fun b=>.bool b)
 | 0,c,hn,hl,hs=>by
   intro s b s' hf;refine QL QpM (by simp) hf.v rfl ?_
   have hfi:=UH ZT c.za (Qvq _ hn);have hg:=QnZ hK c.za 335 ZT (QnY hK) (by kernel_rfl) hl
   rw[hfi] at hg;rw[QhU c hn] at hf;simp;refine cK (by simpa using hg) ?_
   simp;refine cK (Qwb hK c (pmC c) (QjN hK c) hl hs) ?_;by_cases h1:YW c true=0
   ·simp[h1] at hf |-
    cases hf with
    | stop _ _ _ _ hg =>
      refine Q4 (by simpa[Qh0] using hg) rfl ?_
      simp
    | next _ _ _ s1 _ _ hg hr =>
      cases hr;refine Q4 (by simpa[Qh0] using hg) rfl ?_
      simp
   simp[h1] at hf |-;cases hf
   grind
 | n+1,c,hn,hl,hs=>by
   intro s b s' hf;refine QL QpM (by simp) hf.v rfl ?_
   obtain ⟨i,h1,h2,h3,h4,h5⟩:=Qoo c.za (by omega)
   have hg:=QnZ hK c.za 335 ZT (QnY hK) (by kernel_rfl) hl
   rw[Qit ZT c.za i h2 (by simp[ZT,h3]) h1] at hg
   have hne:c.za≠[]:=fun e=>by grind
   have hgc:=clone85 (K:=K) c.za hl hne;have ih0:=QhY n { c with za:=c.za.set i (qW c.za[i] 0) } (by grind) (by simpa using hl) hs
   have ih1:=QhY n { c with za:=c.za.set i (qW c.za[i] 1) } (by grind) (by simpa using hl) hs
   have hkn:YN c=YN { c with za:=c.za.set i (qW c.za[i] 0) }++YN { c with za:=c.za.set i (qW c.za[i] 1) }:=by
    unfold YN
    grind
   rw[hkn,QKf] at hf;generalize hL0:YN { c with za:=c.za.set i (qW c.za[i] 0) }=L0 at *
   generalize hL1:YN { c with za:=c.za.set i (qW c.za[i] 1) }=L1 at *
   simp;refine cK hg ?_;simp
   refine Yi 2 (fun k e o=>∃ si,e=[(1,AV.cb 0),(2,AV.iv (.ptr [QB c.za,Qw c.zg,.int .i64 c.zh])),(5,AV.iv (.int .i64 (i:Nat))),(25,AV.iv (.int .i64 (k:Nat)))]/\o=[(0,.ext si)] /\
    ZO prog K (if k=0 then L0.map Qh0++L1.map Qh0 else if k=1 then L1.map Qh0 else []) si b s') ?_ ?_ _ _ ⟨s,by simp,by simp,by simpa using hf⟩
   ·rintro e o ⟨si,rfl,rfl,hfd⟩
    cases hfd;rw[Qa Qi2.eq_1];simp
   rintro k e o hk ⟨si,rfl,rfl,hfd⟩ ih
   have hk2:k=0\/k=1:=by omega
   rw[Qa Qi2.eq_1]
   have hset:∀ x:Int,(List.map (List.map AV.iv∘dC) c.za).set i [AV.iv (.int .i64 c.za[i].zp),AV.iv (.int .i64 c.za[i].pos),AV.iv (.int .i64 x),AV.iv (.int .i64 c.za[i].bar),AV.iv (.int .i64 c.za[i].z6)]=emb ((c.za.set i (qW c.za[i] x)).map dC):=fun x=>by
    simp[emb,List.map_set,qW]
   rcases hk2 with rfl | rfl
   ·simp only[if_true] at hfd
    simp;refine Yc hgc (by simp) ?_
    simp[h2,hset,QJZ];rcases hfd.append with ⟨s1,hf1,hf2⟩ | ⟨rfl,hf1⟩
    ·refine ZH (by simpa[QJZ] using ih0 _ _ _ hf1) rfl ?_
     simp;exact ih _ _ ⟨s1,by simp,by simp,by simpa using hf2⟩
    refine ZH (by simpa[QJZ] using ih0 _ _ _ hf1) rfl ?_
    simp
   simp only[if_true] at hfd;simp at hfd;simp;refine Yc hgc (by simp) ?_
   simp[h2,hset,QJZ];refine ZH (by simpa[QJZ] using ih1 _ _ _ hfd) rfl ?_
   cases b
   ·simp
   simp;exact ih _ _ ⟨s',by simp,by simp,by simpa using ZO.nil _⟩
omit hK
theorem QfO {α:Type} (f:α->Int):∀ (l:List α) (k:Nat) (a:α),(∀ x∈l,1<=f x)->(∀ h:k<l.length,1<=f a/\f a<=f l[k])->Q9 f (l.set k a)<=Q9 f l
 | [],k,a,_,_=>by simp[Q9]
 | b::l,0,a,h,ha=>by
   have h1:=ha (by simp)
   have h2:=U7 f l fun x hx=>h x (by simp[hx])
   simp only[List.set_cons_zero,Q9];exact QKo h1.2 (by omega)
 | b::l,k+1,a,h,ha=>by
   have ih:=QfO f l k a (fun x hx=>h x (by simp[hx])) (fun hk=>ha (by simpa using hk))
   have h1:=h b (by simp)
   simp only[List.set_cons_succ,Q9];exact QK0 ih (by omega)
def QcS (l:ZE) (n:Int):ZE:={ l with lo:=n,hi:=n }
def YR (m:Machine) (k:Nat) (l:ZE) (n:Int):Machine:={ m with zd:=m.zd.set k (QcS l n) }
noncomputable def Uk:Nat->Machine->Nat->List Machine
 | 0,m,_=>acc (qL m) (m.zw+1-m.zu).toNat
 | r+1,m,k=>match m.zd[k]? with
   | some l=>acc (fun i=>Uk r (YR m k l (l.lo+(i:Nat))) (k+1)) (l.hi+1-l.lo).toNat
   | none=>[]
structure QCk (m:Machine):Prop where
 len:m.zd.length<=3
 blen:m.zk.length<=6
 zx:inR m.zu 0 m.zw
 zw:m.zw<=20
 span:∀ l∈m.zd,1<=Xj l
 lo:∀ l∈m.zd,0<=l.lo/\l.hi<=100000
 sets:sets m m.zd.length<=1000000
theorem QCk.fix {m:Machine} (h:QCk m) {k:Nat} (hk:k<m.zd.length) {n:Int} (hn:m.zd[k].lo<=n/\n<=m.zd[k].hi):QCk (YR m k m.zd[k] n):=by
 have hs:=h.span _ (QJ1 hk);have hl:=h.lo _ (QJ1 hk);refine ⟨by simpa[YR] using h.len,h.blen,h.zx,h.zw,fun l hl=>?_,fun l hl'=>?_,?_⟩
 ·rcases List.mem_or_eq_of_mem_set hl with h1 | h1
  ·exact h.span l h1
  rw[h1];simp[Xj,QcS]
 ·rcases List.mem_or_eq_of_mem_set hl' with h1 | h1
  ·exact h.lo l h1
  rw[h1];simp only[QcS];omega
 ·refine Int.le_trans ?_ h.sets
  have e1:(YR m k m.zd[k] n).zd.length=m.zd.length:=by simp[YR]
  have h2:=h.zx;simp only[inR] at h2;unfold Pf.sets;rw[e1,QJZ (QJ2 _),QJZ (by omega)]
  refine QK0 (QfO Xj _ _ _ h.span fun hk'=>?_) (by simp only[YR];omega)
  have:Xj (QcS m.zd[k] n)=1:=by simp[Xj,QcS]
  omega
include hK
theorem QnF:∀ (r:Nat) (m:Machine) (k:Nat),k+r=m.zd.length->QCk m->Qal prog K 287 [maV m,.int .i64 k] [] ((Uk r m k).map Qgc) (fun b=>.bool b)
 | 0,m,k,hk,ht=>by
   have:k=m.zd.length:=by omega
   subst this;have h1:=ht.len;have h2:=ht.blen;refine Qga hK m (by omega) (by omega) ht.zx ht.zw (fun n _=>?_)
   have h3:=ht.sets;have h4:=ht.zx;have h5:=U7 Xj m.zd ht.span;simp only[inR] at h4;unfold Pf.sets at h3 |-;simp only[XK] at h3 |-;rw[QJZ (QJ2 _)] at h3 |-;have h6:(m.zw-m.zu+1)*Q9 Xj m.zd≥1*Q9 Xj m.zd:=QKo (by omega) (by omega)
   omega
 | r+1,m,k,hk,ht=>by
   have xd:k<m.zd.length:=by omega
   have ih:=QnF r;intro s b s' hf;refine QL QpL (by simp) hf.v rfl ?_
   simp only[Uk,QJW xd] at hf;rw[QaO] at hf;have hne:¬ (k:Int)=m.zd.length:=by omega
   have xf:=ht.lo _ (QJ1 xd);have hln:=ht.len;have hnn:m.zd≠[]:=fun e=>by grind
   have hgc:=clone87 (K:=K) m.zd (by omega) hnn
   have hsp:=ht.span _ (QJ1 xd);simp only[Xj] at hsp
   have hit:∀ i:Nat,i<(m.zd[k].hi+1-m.zd[k].lo).toNat->Qal prog K 287 [maV (YR m k m.zd[k] (m.zd[k].lo+i)),.int .i64 ((k+1:Nat):Int)] [] ((Uk r (YR m k m.zd[k] (m.zd[k].lo+i)) (k+1)).map Qgc) (fun b=>.bool b):=fun i hi =>
    ih _ _ (by simp[YR];omega) (ht.fix xd (by omega))
   generalize hpc:(fun i:Nat=>Uk r (YR m k m.zd[k] (m.zd[k].lo+i)) (k+1))=pc at hf
   have hpc':∀ i:Nat,Uk r (YR m k m.zd[k] (m.zd[k].lo+i)) (k+1)=pc i:=fun i=>by rw[<- hpc]
   simp only[hpc'] at hit;simp[hne,xd];intros
   refine Yi (m.zd[k].hi+1-m.zd[k].lo).toNat (fun i e o=>∃ si ls,e=[(1,AV.iv (.int .i64 (k:Nat))),(2,AV.cb 0),(3,AV.iv (.ptr [QT m.zd,.int .i64 m.zr,.int .i64 m.zu,.int .i64 m.zw,XN m.zk,.int .i64 m.zh])),(7,AV.loc 7 0),(11,AV.iv (.int .i64 (m.zd[k].lo+(i:Nat))))] /\
    o=[(0,.ext si),(7,.box [.iv (QT ls),.iv (.int .i64 m.zr),.iv (.int .i64 m.zu),.iv (.int .i64 m.zw),.iv (XN m.zk),.iv (.int .i64 m.zh)])] /\
    ZO prog K ((XO pc i ((m.zd[k].hi+1-m.zd[k].lo).toNat-i)).map Qgc) si b s') ?_ ?_ _ _ ⟨s,m.zd,by simp,by simp,by simpa using hf⟩
   ·rintro e o ⟨si,ls,rfl,rfl,hfd⟩
    rw[Nat.sub_self] at hfd;cases hfd;have q1:m.zd[k].lo+((m.zd[k].hi+1-m.zd[k].lo).toNat:Int)=m.zd[k].hi+1:=by omega
    have q2:¬ m.zd[k].hi+1<=m.zd[k].hi:=by omega
    rw[q1,Qa QiY.eq_1];simp[q2,xd]
   rintro i e o hi ⟨si,ls,rfl,rfl,hfd⟩ ihl
   have q1:m.zd[k].lo+(i:Int)<=m.zd[k].hi:=by omega
   have q3:m.zd[k].lo+((i:Int)+1)=m.zd[k].lo+i+1:=by omega
   have e1:(m.zd[k].hi+1-m.zd[k].lo).toNat-i=((m.zd[k].hi+1-m.zd[k].lo).toNat-(i+1))+1:=by omega
   rw[e1] at hfd;simp only[XO,QKf] at hfd
   have hset:(List.map (List.map AV.iv∘leC) m.zd).set k [AV.iv (.int .i64 m.zd[k].long),AV.iv (.int .i64 (m.zd[k].lo+i)),AV.iv (.int .i64 (m.zd[k].lo+i))]=emb ((m.zd.set k (QcS m.zd[k] (m.zd[k].lo+i))).map leC):=by
    simp[emb,List.map_set,QcS]
   rw[Qa QiY.eq_1];simp[q1,xd];refine Yc hgc (by simp) ?_
   simp[xd,hset,QJZ];refine ⟨by omega,?_⟩
   have hiti:=hit i hi;rcases hfd.append with ⟨s1,hf1,hf2⟩ | ⟨rfl,hf1⟩
   ·refine ZH (by simpa[YR] using hiti _ _ _ hf1) rfl ?_
    simp
    (repeat' first | omega | (with_reducible apply And.intro) | intro _)
    exact ihl _ _ ⟨s1,m.zd.set k (QcS m.zd[k] (m.zd[k].lo+i)),by simp[q3],by simp,hf2⟩
   refine ZH (by simpa[YR] using hiti _ _ _ hf1) rfl ?_
   simp
omit hK
theorem Jn (a:Nat) (h:a<2 ^ 64):(BitVec.ofInt 64 (a:Int)).toNat=a:=by
 grind
theorem US (a:Nat) (h:a<2 ^ 64):IntKind.wrap .u64 (a:Int)=(a:Int):=by
 have h':a<18446744073709551616:=h;simp only[IntKind.wrap,IntKind.bits,IntKind.signed];simp;omega
theorem Qkd (a b:Nat) (ha:a<2 ^ 64) (hb:b<2 ^ 64):qq .or .u64 (a:Int) (b:Int)=((a ||| b:Nat):Int):=by
 show IntKind.wrap .u64 (((BitVec.ofInt 64 (a:Int)) ||| (BitVec.ofInt 64 (b:Int))).toNat:Int)=_
 rw[BitVec.toNat_or,Jn a ha,Jn b hb,US _ (QLG ha hb)]
theorem Qp9 (a b:Nat) (ha:a<2 ^ 64) (hb:b<2 ^ 64):qq .and .u64 (a:Int) (b:Int)=((a &&& b:Nat):Int):=by
 show IntKind.wrap .u64 (((BitVec.ofInt 64 (a:Int)) &&& (BitVec.ofInt 64 (b:Int))).toNat:Int)=_
 rw[BitVec.toNat_and,Jn a ha,Jn b hb,US _ (Nat.and_lt_two_pow _ hb)]
def Quz (a b:Nat):Nat:=a &&& (2 ^ 64-1-b)
theorem Qqa {a b:Nat} (ha:a<2 ^ 64):Quz a b<2 ^ 64:=QLy Nat.and_le_left ha
theorem Qmf (a b:Nat) (ha:a<2 ^ 64) (hb:b<2 ^ 64):qq .andNot .u64 (a:Int) (b:Int)=(Quz a b:Int):=by
 show IntKind.wrap .u64 (((BitVec.ofInt 64 (a:Int)) &&& ~~~(BitVec.ofInt 64 (b:Int))).toNat:Int)=_
 rw[BitVec.toNat_and,BitVec.toNat_not,Jn a ha,Jn b hb];exact US _ (Qqa ha)
theorem Qtr {a b i:Nat} (hb:b<2 ^ 64) (hi:i<64):(Quz a b).testBit i=(a.testBit i&&!b.testBit i):=by
 unfold Quz;rw[Nat.testBit_and,show 2 ^ 64-1-b=2 ^ 64-(b+1) by omega,Nat.testBit_two_pow_sub_succ hb]
 simp[hi]
theorem Qhf {n:Nat} (h:n<64):Qu6 .u64 1 (n:Int)=((2 ^ n:Nat):Int):=by
 have h2:(2:Nat) ^ n<2 ^ 64:=QLJ (by decide) h
 unfold Qu6;rw[show min ((n:Int)).toNat IntKind.u64.bits=n by simp[IntKind.bits];omega,Int.one_mul]
 have:((2:Int) ^ n)=((2 ^ n:Nat):Int):=by push_cast;rfl
 rw[this];exact US _ h2
theorem Qu3 (a n:Nat) (h:n<64):QtL .u64 (a:Int) (n:Int)=((a >>> n:Nat):Int):=by
 unfold QtL;rw[show min ((n:Int)).toNat IntKind.u64.bits=n by simp[IntKind.bits];omega,Nat.shiftRight_eq_div_pow]
 grind
theorem QvL (a n:Nat) (h:n<64) (ha:a<2 ^ 64):qq .and .u64 (QtL .u64 (a:Int) (n:Int)) 1=if a.testBit n then 1 else 0:=by
 rw[Qu3 a n h];have h1:a >>> n<2 ^ 64:=QLy (Nat.shiftRight_le _ _) ha;have:=Qp9 (a >>> n) 1 h1 (by decide)
 rw[show ((1:Nat):Int)=1 from rfl] at this
 rw[this]
 have e:a.testBit n=(decide ((a >>> n) &&& 1=1)):=by
  rw[Nat.testBit,Nat.and_comm]
  grind
 grind
def Xm (l:List Nat):Nat:=l.foldl (fun m n=>m ||| 2 ^ n) 0
theorem W9 (l:List Nat) (n:Nat):Xm (l++[n])=Xm l ||| 2 ^ n:=by simp[Xm]
theorem QfX (i:Nat):∀ l:List Nat,(Xm l).testBit i=decide (i∈l):=by
 refine X7 (by simp[Xm]) fun l n ih=>?_
 rw[W9,Nat.testBit_or,ih,Nat.testBit_two_pow]
 grind
theorem Qkl (k:Nat):∀ l:List Nat,(∀ n∈l,n<k)->Xm l<2 ^ k:=by
 refine X7 (fun _=>by simp[Xm];grind) fun l n ih h=>?_
 rw[W9];exact QLG (ih fun m hm=>h m (by simp[hm])) (QLJ (by decide) (h n (by simp)))
theorem QgG (ds:List Qx) {e e':Nat->Int}:∀ k,(∀ i<k,e i=e' i)->cab ds e k=cab ds e' k
 | 0,_=>rfl
 | k+1,h=>by
   have ih:=QgG ds k fun i hi=>h i (by omega)
   have hk:=h k (by omega)
   simp only[cab,ih,hk]
theorem QuH (ds:List Qx) (k:Nat) {j:Nat} (h:j<=k):wn (ds.take k) j=wn ds j:=by
 unfold wn
 grind
theorem QkP (ds:List Qx) (e:Nat->Int) (k:Nat):∀ j,j<=k->cab (ds.take k) e j=cab ds e j
 | 0,_=>rfl
 | j+1,h=>by
   have ih:=QkP ds e k j (by omega)
   have hj:(ds.take k)[j]?=ds[j]?:=by grind
   simp only[cab,hj,ih,QuH ds k (show j<=k by omega)]
theorem QoN (ds:List Qx) (k i:Nat) (h:i<k):ZD (ds.take k) 0 i=ZD ds 0 i:=by
 have hj:(ds.take k)[i]?=ds[i]?:=by grind
 unfold ZD
 grind
theorem Ql8 (ds:List Qx) (k:Nat):cab (ds.take k) (ZD (ds.take k) 0) k=cab ds (ZD ds 0) k:=by
 rw[QkP ds _ k k (QJ2 _)];exact QgG ds k fun i hi=>QoN ds k i hi
theorem Qcq (ds:List Qx) (k:Nat) (h:ZN ds=0):ZN (ds.take k)=0:=by
 rw[ZN,QLN] at *
 grind
def ZW (p:Qf) (e:Nat->Int):List IV :=
 [.sl 1 ((List.range p.zf.length).map fun i=>[.int .u64 (Xm (Zz p i e):Nat)]),.sl 1 ((List.range p.zf.length).map fun i=>[.int .i64 (QG p i e)]),Xc (Jf p e)]
include hK
theorem QfF (c:Qr) (hc:OkD c.za c.za.length) (hl:c.za.length<=12) (h2:ZN c.za=0) (k:Nat) (hk:k<=c.za.length):Gd K 337 [chV (ZB c k)] (Xc (cab c.za (ZD c.za 0) k)):=by
 have hC:OkC (ZB c k):=W4 hc hl hk;have:=Qwa hK (ZB c k) hC (Qcq _ _ h2) rfl;have e:(ZB c k).za=c.za.take k:=rfl;have e2:(c.za.take k).length=k:=by simp;omega
 rw[e,e2,Ql8] at this;exact this
theorem Qwq (p:Qf) (hp:OkP p) (h2:ZN p.zc.za=0):Gd K 286 [chV p.zc,Xi p.zf] (.agg (ZW p (ZD p.zc.za 0))):=by
 have hl:=hp.deedsLen;have htl:=hp.trialsLen;have hd:=hp.zc.za;refine Qb hK (fk func286 QF4 (by kernel_rfl)) (by simp) ?_
 simp;intro _;refine cK (by simpa using Qep hK p.zc p.zc.za.length (QJ2 _)) ?_
 simp;refine cK (by simpa using QfF hK p.zc hd hl h2 p.zc.za.length (QJ2 _)) ?_
 simp;refine cK (by simpa using Qoa hK p.zc) ?_
 simp
 refine Q6 (wy:=.fall) (o':=[(4,.box [.iv (.sl 1 []),.iv (.sl 1 []),.iv (.sl 1 [])]),(5,.box [.yq 6000 p.zf.length,.yq 6001 p.zf.length,.iv (Xc (Jf p (ZD p.zc.za 0)))]),
  (6000,.arr 259 1 (emb ((List.range p.zf.length).map fun i=>[.int .u64 (Xm (Zz p i (ZD p.zc.za 0)):Nat)])) 0),(6001,.arr 3 1 (emb ((List.range p.zf.length).map fun i=>[.int .i64 (QG p i (ZD p.zc.za 0))])) 0)]) rfl (by kernel_rfl) (QhZ p.zc (by omega)) ?_ ?_
 ·have htrs:(trs (pv p.zc.za) 0).length=p.zf.length:=by
   have:∀ (l:List Nat) (t:Nat),(trs l t).length=l.length:=by
    intro l
    induction l with
    | nil=>intro t;rfl
    | cons a l ih=>intro t;simp[trs,ih]
   rw[this,hp.many]
  have:=Un.all (P:=prog) (K:=K) (ps:=[22,23]) (asn:=QeI) (body:=Qi0) (ks:=[2,3,4,5]) (ids:=[4,5,6000,6001]) (eK:=[(2,.iv (.ptr [QB p.zc.za,Qw p.zc.zg,.int .i64 p.zc.zh])),(3,.iv (.ptr [Xi p.zf])),(4,.loc 4 0),(5,.loc 5 0)]) (trs (pv p.zc.za) 0)
   (fun i=>[(4,.box [.iv (.sl 1 []),.iv (.sl 1 []),.iv (.sl 1 [])]),(5,.box [.yq 6000 i,.yq 6001 i,.iv (Xc (Jf p (ZD p.zc.za 0)))]),
     (6000,.arr 259 1 (emb ((List.range i).map fun i=>[.int .u64 (Xm (Zz p i (ZD p.zc.za 0)):Nat)])) 0),(6001,.arr 3 1 (emb ((List.range i).map fun i=>[.int .i64 (QG p i (ZD p.zc.za 0))])) 0)]) fun i x hx=>by
   obtain ⟨hi,rfl⟩:=QdL _ _ _ _ hx;have hit:i<p.zf.length:=by grind
   have xd:=QfN hi;have hthen:Zz p i (ZD p.zc.za 0)=cab p.zc.za (ZD p.zc.za 0) (pv p.zc.za)[i]:=by simp[Zz,List.getD_eq_getElem?_getD,hi]
   have hrow:=QfF hK p.zc hd hl h2 (pv p.zc.za)[i] (by omega)
   rw[<- hthen] at hrow;have htr:=Qmy hit;have hok:=hp.trial hit;have hbr:QG p i (ZD p.zc.za 0)=if 0<=(tr p i).z8 then (((Zz p i (ZD p.zc.za 0)).getD (tr p i).z8.toNat 0:Nat):Int) else -1:=rfl
   have hcl:((Zz p i (ZD p.zc.za 0)).length:Int)=cnt p.zc.za (pv p.zc.za)[i]:=by rw[hthen];exact Xo _ hd _ (by omega) (by omega)
   have hcb:=hd.cnt (pv p.zc.za)[i] (by omega) (by omega)
   have hmem:∀ n∈Zz p i (ZD p.zc.za 0),n<12:=fun n hn=>by
    rw[hthen] at hn;have:=qS _ _ _ n hn;have:=Qg6 p.zc.za (pv p.zc.za)[i];omega
   have hpd:(pv p.zc.za).getD i 0=(pv p.zc.za)[i]:=by grind
   rw[hpd] at hok;rw[QKn,QKf,QKf];refine ⟨rfl,?_⟩;generalize hnow:Zz p i (ZD p.zc.za 0)=now at *;simp[QeI,Qi0,-List.map_map,Qt,QH,QC,Qk];refine cK (by simpa using Qep hK p.zc (pv p.zc.za)[i] (by omega)) ?_
   simp;refine cK (by simpa using hrow) ?_
   simp;intro _
   refine Qi (fun k=>[(2,.iv (.ptr [QB p.zc.za,Qw p.zc.zg,.int .i64 p.zc.zh])),(3,.iv (.ptr [Xi p.zf])),(4,.loc 4 0),(5,.loc 5 0),(6,.iv (.int .i64 (i:Nat))),(8,.iv (Xc now)),(9,.iv (.int .u64 (Xm (now.take k):Nat))),(28,.iv (Xc now)),(29,.iv (.int .i64 now.length)),(30,.iv (.int .i64 (k:Nat)))])
    (fun _=>[(4,.box [.iv (.sl 1 []),.iv (.sl 1 []),.iv (.sl 1 [])]),(5,.box [.yq 6000 i,.yq 6001 i,.iv (Xc (Jf p (ZD p.zc.za 0)))]),
    (6000,.arr 259 1 (emb ((List.range i).map fun i=>[.int .u64 (Xm (Zz p i (ZD p.zc.za 0)):Nat)])) 0),(6001,.arr 3 1 (emb ((List.range i).map fun i=>[.int .i64 (QG p i (ZD p.zc.za 0))])) 0)]) now.length (fun _=>True) trivial ?_ ?_
   ·intro _
    rw[Qa Qi1.eq_1];by_cases hb:0<=(tr p i).z8
    ·have hb2:(tr p i).z8.toNat<now.length:=by
      have:=hok.2.2;simp only[inR] at this;omega
     have hgd:now.getD (tr p i).z8.toNat 0=now[(tr p i).z8.toNat]:=by grind
     rw[if_pos hb,hgd] at hbr;simp[hit,htr,hb,hb2,hbr,hnow,-List.map_map,Qt,QH,QC,Qk,QJZ];omega
    rw[if_neg hb] at hbr;simp[hit,htr,hb,hbr,hnow,-List.map_map,Qt,QH,QC,Qk,QJZ];omega
   intro k hk _ ih;rw[Qa Qi1.eq_1];have hn:=hmem now[k] (QJ1 hk);have hm1:Xm (now.take k)<2 ^ 12:=Qkl 12 _ fun n hn=>hmem n (QKF hn)
   have hm2:(2:Nat) ^ now[k]<2 ^ 12:=QLJ (by decide) hn
   have hor:=Qkd (Xm (now.take k)) (2 ^ now[k]) (by omega) (by omega)
   rw[<- Qhf (n:=now[k]) (by omega)] at hor
   rw[QJV hk,W9] at ih;simp at ih;simp[hk,hor]
   grind
  rw[htrs] at this;simpa[emb,Jf] using this
 simp[ZW,QJZ]
 trace_state
omit hK
def Zm (p:Qf) (s:Ql):List (List IV):=(List.range p.zf.length).map fun i=>[.int .i64 (Qbz p.zb (tr p i).zm (tr p i).zn s),.int .i64 (upS p.zb (tr p i).zm (tr p i).zn s)]
def ZJ (p:Qf) (t:Q1):List IV:=ZW p (QN t.ends)++[.sl 2 (Zm p t.set)]
def nd (p:Qf) (zo:Int):Qf:={ p with zo:=zo }
theorem Uq {a b c:Int} (ha:0<=a) (hb:1<=b):(a+b-1).tdiv b<=c↔a<=c*b:=by
 rw[QKD (by omega)]
 constructor
 ·intro h
  have h1:=Int.mul_ediv_add_emod (a+b-1) b;have h2:=Int.emod_lt_of_pos (a+b-1) (show 0<b by omega)
  have h3:b*((a+b-1) / b)<=b*c:=QK0 h (by omega)
  grind
 intro h
 have:(a+b-1) / b<c+1:=by
  rw[Int.ediv_lt_iff_lt_mul (by omega),Int.add_mul]
  omega
 omega
theorem Uz {a b c:Int} (ha:0<=a) (hb:1<=b):c<=a.tdiv b↔c*b<=a:=by
 rw[QKD ha];exact Int.le_ediv_iff_mul_le (by omega)
include hK
theorem Qwp (p:Qf) (t:Q1) (zo:Int) (hp:OkP p) (hs:okS p.zb t.set) (i:Nat) (hi:i<p.zf.length):Gd K 292 [.agg (ZJ p t),.int .i64 i,.int .i64 zo] (.bool (X4 (nd p zo) i t)):=by
 refine Qb hK (fk func292 QF2 (by kernel_rfl)) (by simp) ?_
 have hbr:QG p i (QN t.ends)=if 0<=(tr p i).z8 then (((Zz p i (QN t.ends)).getD (tr p i).z8.toNat 0:Nat):Int) else -1:=rfl
 have hfd:X4 (nd p zo) i t=(decide (0<=(tr p i).z8)&&decide (num p.zb t.set (tr p i).zm (tr p i).zn<=zo*den t.set)):=rfl;have hnum:0<=num p.zb t.set (tr p i).zm (tr p i).zn:=(hp.zb.numB hs (hp.trial hi).1 (hp.trial hi).2.1).1;have hden:1<=den t.set:=(hp.zb.denB hs).1;have hup:=Uq (c:=zo) hnum hden;rw[hfd];by_cases hb:0<=(tr p i).z8
 ·rw[if_pos hb] at hbr
  by_cases h2:num p.zb t.set (tr p i).zm (tr p i).zn<=zo*den t.set
  ·have h3:=hup.2 h2
   simp[ZJ,ZW,Zm,hi,hbr,hb,upS,h2,h3]
  have h3:=fun h=>h2 (hup.1 h)
  simp[ZJ,ZW,Zm,hi,hbr,hb,upS,h2,h3];omega
 ·rw[if_neg hb] at hbr
  simp[ZJ,ZW,Zm,hi,hbr,hb]
omit hK in
theorem QlR (p:Qf) (t:Q1) (n:Nat):(List.range (n+1)).countP (fun i=>X4 p i t)=(List.range n).countP (fun i=>X4 p i t)+if X4 p n t then 1 else 0:=by
 rw[QKn,QLf]
 grind
theorem Qih (p:Qf) (t:Q1) (zo:Int) (hp:OkP p) (hs:okS p.zb t.set):Gd K 209 [.agg (ZJ p t),.int .i64 zo] (.int .i64 (Xf (nd p zo) t:Nat)):=by
 refine Qb hK (fk func209 QGL (by kernel_rfl)) (by simp) ?_
 have htl:=hp.trialsLen;have hll:(Zm p t.set).length=p.zf.length:=by simp[Zm]
 have hf:Xf (nd p zo) t=(List.range p.zf.length).countP (fun i=>X4 (nd p zo) i t):=rfl
 have hsv:ZJ p t=[.sl 1 ((List.range p.zf.length).map fun i=>[.int .u64 (Xm (Zz p i (QN t.ends)):Nat)]),.sl 1 ((List.range p.zf.length).map fun i=>[.int .i64 (QG p i (QN t.ends))]),Xc (Jf p (QN t.ends)),.sl 2 (Zm p t.set)]:=rfl
 rw[hsv];have hg:=fun i hi=>Qwp hK p t zo hp hs i hi
 rw[hsv] at hg;simp[hll];intro _
 refine Qi (fun i=>[(1,AV.iv (.int .i64 zo)),(2,.iv (.ptr [.sl 1 ((List.range p.zf.length).map fun i=>[.int .u64 (Xm (Zz p i (QN t.ends)):Nat)]),.sl 1 ((List.range p.zf.length).map fun i=>[.int .i64 (QG p i (QN t.ends))]),Xc (Jf p (QN t.ends)),.sl 2 (Zm p t.set)])),
   (5,.iv (.int .i64 ((List.range i).countP (fun i=>X4 (nd p zo) i t):Nat))),(9,.iv (.int .i64 p.zf.length)),(10,.iv (.int .i64 (i:Nat)))]) (fun _=>[]) p.zf.length (fun _=>True) trivial ?_ ?_
 ·intro _
  rw[Qa Qjg.eq_1];simp[hf]
 ·intro i hi _ ih
  have hle:(List.range i).countP (fun i=>X4 (nd p zo) i t)<=i:=by
   have:=QKQ (p:=fun i=>X4 (nd p zo) i t) (l:=List.range i)
   simpa using this
  rw[Qa Qjg.eq_1];rw[QlR] at ih;simp[hi] at ih |-;refine cK (by simpa using hg i hi) ?_
  cases hb:X4 (nd p zo) i t
  ·simp[hb] at ih |-
   grind
  ·simp[hb] at ih |-
   grind
omit hK in
theorem Qkm {p:Qf} (hp:OkP p) (i:Nat) (e:Nat->Int):Xm (Zz p i e)<2 ^ 12:=Qkl 12 _ fun n hn=>by
 have h1:=OkP.thenLt (p:=p) e i hn;have h2:=Yz p.zc.za;have h3:(XS p.zc.za).length<=p.zc.za.length:=QKz _ _;have:=hp.deedsLen;omega
def QqS (p:Qf) (t:Q1) (m i:Nat):Nat :=
 if p.zo<=Qbz p.zb (tr p i).zm (tr p i).zn t.set then m ||| (if 0<=QG p i (QN t.ends) then Quz (Xm (Zz p i (QN t.ends))) (2 ^ (QG p i (QN t.ends)).toNat) else Xm (Zz p i (QN t.ends))) else m
def pmN (p:Qf) (t:Q1) (n:Nat):Nat:=(List.range n).foldl (QqS p t) 0
omit hK in
theorem Wa (p:Qf) (t:Q1) (n:Nat):pmN p t (n+1)=QqS p t (pmN p t n) n:=by simp[pmN,QKn]
omit hK in
theorem QaK {p:Qf} (hp:OkP p) (e:Nat->Int) {i:Nat} (hi:i<p.zf.length) : -1<=QG p i e/\QG p i e<12:=by
 by_cases hb:0<=(tr p i).z8
 ·obtain ⟨h1,h2⟩:=hp.brokeIn e hi hb
  have h3:=OkP.thenLt (p:=p) e i (QJ1 h1);have h4:=Yz p.zc.za;have h5:(XS p.zc.za).length<=p.zc.za.length:=QKz _ _;have:=hp.deedsLen;omega
 simp[QG,hb]
omit hK in
theorem Qm4 {p:Qf} (hp:OkP p) {t:Q1} (hs:okS p.zb t.set) (zo:Int) (m:Nat) {i:Nat} (hi:i<p.zf.length) {k:Nat} (hk:k<64):(QqS (nd p zo) t m i).testBit k=(m.testBit k||U6 (nd p zo) k t i):=by
 have hnum:=(hp.zb.numB hs (hp.trial hi).1 (hp.trial hi).2.1).1;have hden:=(hp.zb.denB hs).1;have hbb:=QaK hp (QN t.ends) hi;have hiff:=Uz (c:=zo) hnum hden
 have hin:inN (Zz p i (QN t.ends)) k=decide (k∈Zz p i (QN t.ends)):=by
  unfold inN
  grind
 have e1:U6 (nd p zo) k t i=(decide (zo*den t.set<=num p.zb t.set (tr p i).zm (tr p i).zn)&&inN (Zz p i (QN t.ends)) k&&!decide (QG p i (QN t.ends)=k)):=rfl;have e2:QqS (nd p zo) t m i=if zo<=Qbz p.zb (tr p i).zm (tr p i).zn t.set then m ||| (if 0<=QG p i (QN t.ends) then Quz (Xm (Zz p i (QN t.ends))) (2 ^ (QG p i (QN t.ends)).toNat) else Xm (Zz p i (QN t.ends))) else m:=rfl
 rw[e1,e2,hin];by_cases h1:zo<=Qbz p.zb (tr p i).zm (tr p i).zn t.set
 ·have h2:zo*den t.set<=num p.zb t.set (tr p i).zm (tr p i).zn:=hiff.1 h1
  rw[if_pos h1,Nat.testBit_or];by_cases h3:0<=QG p i (QN t.ends)
  ·rw[if_pos h3,Qtr (QLJ (by decide) (by omega)) hk,QfX,Nat.testBit_two_pow]
   grind
  rw[if_neg h3,QfX]
  grind
 have h2:¬ zo*den t.set<=num p.zb t.set (tr p i).zm (tr p i).zn:=fun h=>h1 (hiff.2 h)
 grind
omit hK in
theorem Qd4 {p:Qf} (hp:OkP p) {t:Q1} (hs:okS p.zb t.set) {zo:Int} {k:Nat} (hk:k<64):(pmN (nd p zo) t p.zf.length).testBit k=Zs (nd p zo) k t:=by
 have hat:∀ (m:Nat) {i:Nat},i<p.zf.length->(QqS (nd p zo) t m i).testBit k=(m.testBit k||U6 (nd p zo) k t i):=fun m i hi=>Qm4 hp hs zo m hi hk
 have:∀ n,n<=p.zf.length->(pmN (nd p zo) t n).testBit k=(List.range n).any (U6 (nd p zo) k t):=by
  intro n
  induction n with
  | zero=>intro _;simp[pmN]
  | succ n ih=>intro h;rw[Wa,hat _ (by omega),ih (by omega),QcC]
 exact this _ (QJ2 _)
omit hK in
theorem Qj8 {p:Qf} (hp:OkP p) (t:Q1) {zo:Int} (n:Nat):pmN (nd p zo) t n<2 ^ 64:=by
 have:∀ n,pmN (nd p zo) t n<2 ^ 12:=fun n=>by
  induction n with
  | zero=>simp[pmN]
  | succ n ih =>
    rw[Wa];have h:=Qkm hp n (QN t.ends);unfold QqS;split
    ·refine QLG ih ?_
     split
     ·exact QLy Nat.and_le_left h
     exact h
    exact ih
 grind
theorem Qif (p:Qf) (t:Q1) (zo:Int) (hp:OkP p):Gd K 214 [.agg (ZJ p t),.int .i64 zo] (.int .u64 (pmN (nd p zo) t p.zf.length:Nat)):=by
 refine Qb hK (fk func214 QGJ (by kernel_rfl)) (by simp) ?_
 have htl:=hp.trialsLen
 have hpl:∀ i,pmN (nd p zo) t i<2 ^ 12:=fun i=>by
  have:∀ n,pmN (nd p zo) t n<2 ^ 12:=fun n=>by
   induction n with
   | zero=>simp[pmN]
   | succ n ih =>
     rw[Wa];have h:=Qkm hp n (QN t.ends);unfold QqS;split
     ·refine QLG ih ?_
      split
      ·exact QLy Nat.and_le_left h
      exact h
     exact ih
  exact this i
 have hsv:ZJ p t=[.sl 1 ((List.range p.zf.length).map fun i=>[.int .u64 (Xm (Zz p i (QN t.ends)):Nat)]),.sl 1 ((List.range p.zf.length).map fun i=>[.int .i64 (QG p i (QN t.ends))]),Xc (Jf p (QN t.ends)),.sl 2 (Zm p t.set)]:=rfl
 rw[hsv];simp;intros
 refine Qi (fun i=>[(1,AV.iv (.int .i64 zo)),(2,.iv (.ptr [.sl 1 ((List.range p.zf.length).map fun i=>[.int .u64 (Xm (Zz p i (QN t.ends)):Nat)]),.sl 1 ((List.range p.zf.length).map fun i=>[.int .i64 (QG p i (QN t.ends))]),Xc (Jf p (QN t.ends)),.sl 2 (Zm p t.set)])),
   (5,.iv (.int .u64 (pmN (nd p zo) t i:Nat))),(11,.iv (.sl 1 ((List.range p.zf.length).map fun i=>[.int .u64 (Xm (Zz p i (QN t.ends)):Nat)]))),(12,.iv (.int .i64 p.zf.length)),(13,.iv (.int .i64 (i:Nat)))]) (fun _=>[]) p.zf.length (fun _=>True) trivial ?_ ?_
 ·intro _
  rw[Qa Qje.eq_1];simp
 ·intro i hi _ ih
  have hm:=Qkm hp i (QN t.ends);have hbb:=QaK hp (QN t.ends) hi;have hpi:=hpl i;rw[Qa Qje.eq_1];rw[Wa] at ih;have hat:∀ m,QqS (nd p zo) t m i=if zo<=Qbz p.zb (tr p i).zm (tr p i).zn t.set then m ||| (if 0<=QG p i (QN t.ends) then Quz (Xm (Zz p i (QN t.ends))) (2 ^ (QG p i (QN t.ends)).toNat) else Xm (Zz p i (QN t.ends))) else m:=fun m=>rfl
  rw[hat] at ih;have hld:(Zm p t.set)[i]?=some [.int .i64 (Qbz p.zb (tr p i).zm (tr p i).zn t.set),.int .i64 (upS p.zb (tr p i).zm (tr p i).zn t.set)]:=by simp[Zm,hi]
  have hll:(Zm p t.set).length=p.zf.length:=by simp[Zm]
  generalize Qbz p.zb (tr p i).zm (tr p i).zn t.set=lo at *;generalize upS p.zb (tr p i).zm (tr p i).zn t.set=up at *;generalize pmN (nd p zo) t i=m at *
  have hld2:(Zm p t.set)[i]'(by omega)=[.int .i64 lo,.int .i64 up]:=by
   grind
  by_cases h1:zo<=lo
  ·have h1':¬ lo<zo:=by omega
   by_cases h3:0<=QG p i (QN t.ends)
   ·obtain ⟨b,hb⟩:∃ b:Nat,QG p i (QN t.ends)=b:=⟨(QG p i (QN t.ends)).toNat,by omega⟩
    have hb12:b<12:=by omega
    have h2b:(2:Nat) ^ b<2 ^ 12:=QLJ (by decide) hb12
    have q1:=Qmf (Xm (Zz p i (QN t.ends))) (2 ^ b) (by omega) (by omega)
    rw[<- Qhf (n:=b) (by omega)] at q1
    have q2:=Qkd m (Quz (Xm (Zz p i (QN t.ends))) (2 ^ b)) (by omega) (Qqa (by omega))
    simp[h1,hb] at ih;simp[hi,hll,hld2,h1',hb,q1,q2]
    grind
   have q2:=Qkd m (Xm (Zz p i (QN t.ends))) (by omega) (by omega)
   simp[h1,h3] at ih;simp[hi,hll,hld2,h1',h3,q2]
   grind
  ·have h1':lo<zo:=by omega
   simp[h1] at ih;simp[hi,hll,hld2,h1']
   grind
theorem Qie (s k:Nat) (hs:s<2 ^ 64) (hk:k<64):Gd K 215 [.int .u64 s,.int .i64 k] (.bool (s.testBit k)):=by
 refine Qb hK (fk func215 QGI (by kernel_rfl)) (by simp) ?_
 have:=QvL s k hk hs;cases hb:s.testBit k<;>simp[hb] at this<;>simp[this]
theorem Qwo (s k:Nat) (hs:s<2 ^ 64) (hk:k<64):Gd K 293 [.int .i64 k,.ptr [.int .u64 s]] (.bool (!s.testBit k)):=by
 refine Qb hK (fk func293 QF1 (by kernel_rfl)) (by simp) ?_
 simp;refine cK (Qie hK s k hs hk) ?_;simp
theorem Qn6 (p:Qf) (t:Q1) (zo:Int) (hp:OkP p) (hs:okS p.zb t.set):Gd K 219 [.agg (ZJ p t),.int .i64 zo,.int .i64 p.ya] (.bool (Ub (nd p zo) t)):=by
 refine Qb hK (fk func219 QGE (by kernel_rfl)) (by simp) ?_
 have hl:=hp.deedsLen;have hsv:ZJ p t=[.sl 1 ((List.range p.zf.length).map fun i=>[.int .u64 (Xm (Zz p i (QN t.ends)):Nat)]),.sl 1 ((List.range p.zf.length).map fun i=>[.int .i64 (QG p i (QN t.ends))]),Xc (Jf p (QN t.ends)),.sl 2 (Zm p t.set)]:=rfl
 have hg70:=Qif hK p t zo hp;have hg65:=Qih hK p t zo hp hs;rw[hsv] at hg70 hg65 |-
 have xd:∀ n,pmN (nd p zo) t n<2 ^ 12:=fun n=>by
  induction n with
  | zero=>simp[pmN]
  | succ n ih =>
    rw[Wa];have h:=Qkm hp n (QN t.ends);unfold QqS;split
    ·refine QLG ih ?_
     split
     ·exact QLy Nat.and_le_left h
     exact h
    exact ih
 have hpm:=xd p.zf.length
 have hnow:∀ n∈Jf p (QN t.ends),n<12:=fun n hn=>by
  have:=qS _ _ _ n hn;have:=Qg6 p.zc.za p.zc.za.length;omega
 have hbit:∀ n∈Jf p (QN t.ends),(pmN (nd p zo) t p.zf.length).testBit n=Zs (nd p zo) n t:=fun n hn=>Qd4 hp hs (by grind)
 have hnl:(Jf p (QN t.ends)).length<=1000:=by
  have h1:=Xo (QN t.ends) hp.zc.za p.zc.za.length (QJ2 _) (QJ2 _);have h2:=hp.zc.za.cnt p.zc.za.length (QJ2 _) (QJ2 _);show (cab p.zc.za (QN t.ends) p.zc.za.length).length<=1000
  omega
 have hgood:Ub (nd p zo) t=(((Jf p (QN t.ends)).all fun (k:Nat)=>Zs (nd p zo) k t)&&decide ((Xf (nd p zo) t:Int)<p.ya)):=rfl
 have xg:((Jf p (QN t.ends)).all fun (k:Nat)=>Zs (nd p zo) k t)=!(((Jf p (QN t.ends)).map fun (n:Nat)=>(n:Int)).any fun x=>!(pmN (nd p zo) t p.zf.length).testBit x.toNat):=by
  rw[QLE];simp only[QKw,QKu,QLv,QKh];constructor
  ·rintro h x ⟨n,hn,rfl⟩
   have h1:=h n hn;rw[<- hbit n hn] at h1;simp[h1]
  intro h n hn;have:=h n ⟨n,hn,rfl⟩
  grind
 have hg129:=Qwn hK ((Jf p (QN t.ends)).map fun (n:Nat)=>(n:Int)) 293 [] [.ptr [.int .u64 (pmN (nd p zo) t p.zf.length)]] (fun x=>!(pmN (nd p zo) t p.zf.length).testBit x.toNat) (fun x hx=>by
  obtain ⟨n,hn,rfl⟩:=QKh.1 hx;have:=hnow n hn;simpa using Qwo hK (pmN (nd p zo) t p.zf.length) n (by omega) (by omega)) (by kernel_rfl) (by simpa using hnl)
 rw[hgood,xg];clear xg hgood;generalize ((Jf p (QN t.ends)).map fun (n:Nat)=>(n:Int)).any (fun x=>!(pmN (nd p zo) t p.zf.length).testBit x.toNat)=A at *
 simp;refine cK (by simpa using hg70) ?_
 simp;refine cK (by simpa using hg65) ?_
 by_cases h1:(Xf (nd p zo) t:Int)<p.ya
 ·simp[h1]
  refine Qe (by simpa[Function.comp_def] using hg129) (.inr rfl) ?_
  simp
 simp[h1]
omit hK
noncomputable def QV (p:Qf):List (List IV):=(Xn p.zc [] p.zc.za).map fun e=>ZW p (QN e)
noncomputable def XI (p:Qf):List (List IV):=(Q2 p.zb [] p.zb.zd).map fun s=>[.sl 2 (Zm p s)]
def prC (p:Qf):List IV:=[QB p.zc.za,Qw p.zc.zg,.int .i64 p.zc.zh,QT p.zb.zd,.int .i64 p.zb.zr,.int .i64 p.zb.zu,.int .i64 p.zb.zw,XN p.zb.zk,.int .i64 p.zb.zh,
 Xi p.zf,.int .i64 p.zo,.int .i64 p.ya]
noncomputable def Uc (p:Qf):List IV:=prC p++[.sl 3 (QV p),.sl 1 (XI p)]
def Qcu (p:Qf) (t:Q1):List IV:=[.agg (ZJ p t)]
include hK
theorem QnH (p:Qf) (hE:(Xn p.zc [] p.zc.za).length<=1000000) (hS:(Q2 p.zb [] p.zb.zd).length<=1000000):Qam prog K 208 [.ptr (Uc p)] [] ((QK p).map (Qcu p)):=by
 intro s b s' hf;refine QL (fk func208 QGM (by kernel_rfl)) (by simp) hf.v rfl ?_
 unfold QK at hf;have hfile:Uc p=prC p++[.sl 3 ((Xn p.zc [] p.zc.za).map fun e=>ZW p (QN e)),.sl 1 ((Q2 p.zb [] p.zb.zd).map fun s=>[.sl 2 (Zm p s)])]:=rfl
 rw[hfile];generalize Xn p.zc [] p.zc.za=E at *;generalize Q2 p.zb [] p.zb.zd=S at *;obtain ⟨q0,q1,q2,q3,q4,q5,q6,q7,q8,q9,q10,q11,hpr⟩:∃ q0 q1 q2 q3 q4 q5 q6 q7 q8 q9 q10 q11,prC p=[q0,q1,q2,q3,q4,q5,q6,q7,q8,q9,q10,q11]:=⟨_,_,_,_,_,_,_,_,_,_,_,_,rfl⟩
 rw[hpr];rw[QLL] at hf;simp only[List.map_map] at hf;simp;intro _
 refine Yi E.length (fun i e o=>∃ si,e=[(0,AV.iv (.ptr [q0,q1,q2,q3,q4,q5,q6,q7,q8,q9,q10,q11,.sl 3 (E.map fun e=>ZW p (QN e)),.sl 1 (S.map fun s=>[.sl 2 (Zm p s)])])),(1,AV.cb 0),(11,.iv (.sl 3 (E.map fun e=>ZW p (QN e)))),(12,.iv (.int .i64 E.length)),(13,.iv (.int .i64 (i:Nat)))]/\o=[(0,.ext si)] /\
  ZO prog K ((E.drop i).flatMap fun e=>S.map (Qcu p∘fun s=>⟨e,s⟩)) si b s') ?_ ?_ _ _ ⟨s,by simp,by simp,by simpa using hf⟩
 ·rintro e o ⟨si,rfl,rfl,hfd⟩
  rw[QKN (QJ2 _)] at hfd;cases hfd;rw[Qa Qjh.eq_1];simp
 ·rintro i e o hi ⟨si,rfl,rfl,hfd⟩ ih
  rw[QKp hi,QK4] at hfd;have hst:∃ s0 s1 s2,ZW p (QN E[i])=[s0,s1,s2]:=⟨_,_,_,rfl⟩
  obtain ⟨s0,s1,s2,hst⟩:=hst;rw[Qa Qjh.eq_1];simp[hi,hst];intros
  refine Yi S.length (fun j e o=>∃ sj,e=[(0,AV.iv (.ptr [q0,q1,q2,q3,q4,q5,q6,q7,q8,q9,q10,q11,.sl 3 (E.map fun e=>ZW p (QN e)),.sl 1 (S.map fun s=>[.sl 2 (Zm p s)])])),(1,AV.cb 0),(5,.loc 5 0),(11,.iv (.sl 3 (E.map fun e=>ZW p (QN e)))),(12,.iv (.int .i64 E.length)),(13,.iv (.int .i64 (i:Nat))),
    (20,.iv (.sl 1 (S.map fun s=>[.sl 2 (Zm p s)]))),(21,.iv (.int .i64 S.length)),(22,.iv (.int .i64 (j:Nat)))]/\o=[(0,.ext sj),(5,.box [.iv s0,.iv s1,.iv s2])] /\
   ZO prog K ((S.drop j).map (Qcu p∘fun s=>⟨E[i],s⟩)++(E.drop (i+1)).flatMap fun e=>S.map (Qcu p∘fun s=>⟨e,s⟩)) sj b s') ?_ ?_ _ _ ⟨si,by simp,by simp,by simpa using hfd⟩
  ·rintro e o ⟨sj,rfl,rfl,hfj⟩
   rw[QKN (QJ2 _)] at hfj;rw[Qa Qji.eq_1];simp
   grind
  ·rintro j e o hj ⟨sj,rfl,rfl,hfj⟩ ihj
   rw[QKp hj,QKg,QJ8] at hfj
   have hitem:(Qcu p∘fun s=>(⟨E[i],s⟩:Q1)) S[j]=[.agg [s0,s1,s2,.sl 2 (Zm p S[j])]]:=by
    simp[Qcu,ZJ,hst]
   rw[hitem] at hfj;rw[Qa Qji.eq_1];simp[hj];cases hfj with
   | stop _ _ _ _ hg =>
     refine Q4 (by simpa using hg) rfl ?_
     simp
   | next _ _ _ s3 _ _ hg hr =>
     refine Q4 (by simpa using hg) rfl ?_
     simp
     (repeat' first | omega | (with_reducible apply And.intro) | intro _)
     exact ihj _ _ ⟨s3,by simp,by simp,hr⟩
theorem Qid (p:Qf) (hE:(Xn p.zc [] p.zc.za).length<=1000000) (hS:(Q2 p.zb [] p.zb.zd).length<=1000000) (hT:(QK p).length<=1000000000)
  (g:FuncId) (fs cs:List IV) (B:Q1->Bool) (hg:∀ t∈QK p,Gd K g (fs++[.agg (ZJ p t)]++cs) (.bool (B t))) (hc:callee prog g=true) :
  Gd K 216 [.ptr (Uc p),.clo g fs cs] (.int .i64 (XV ((QK p).countP B) (QK p).length)):=by
 refine Qb hK (fk func216 QGH (by kernel_rfl)) (by simp) ?_
 have hit:=QnH hK p hE hS;generalize Uc p=F at *;generalize QK p=T at *;simp;refine Q6 (wy:=.fall) (o':=[(5,.box [.iv (.int .i64 (T.countP B:Nat))]),(6,.box [.iv (.int .i64 (T.countP (fun t=>!B t):Nat))])]) rfl (by kernel_rfl) hit ?_ ?_
 ·have:=Un.all (P:=prog) (K:=K) (ps:=[10]) (asn:=QeL) (body:=Qjd) (ks:=[3,5,6]) (ids:=[5,6]) (eK:=[(3,.iv (.ptr [.clo g fs cs])),(5,.loc 5 0),(6,.loc 6 0)]) (T.map (Qcu p))
   (fun i=>[(5,.box [.iv (.int .i64 ((T.take i).countP B:Nat))]),(6,.box [.iv (.int .i64 ((T.take i).countP (fun t=>!B t):Nat))])]) fun i x hx=>by
   simp only[QJ4,QJ0] at hx;obtain ⟨t,ht,rfl⟩:=hx;obtain ⟨xd,hget⟩:=QJX.1 ht;have hgt:=hg t (QKd ht);have hl1:(T.take i).countP B<=1000000000:=QKG QKQ (by simp;omega)
   have hl2:(T.take i).countP (fun t=>!B t)<=1000000000:=QKG QKQ (by simp;omega)
   refine ⟨rfl,?_⟩;rw[QJV xd,QLf,QLf,hget];obtain ⟨v0,v1,v2,v3,hv⟩:∃ v0 v1 v2 v3,ZJ p t=[v0,v1,v2,v3]:=⟨_,_,_,_,rfl⟩
   rw[hv] at hgt;simp[Qcu,hv,QeL,Qjd];refine ⟨hc,cK (by simpa using hgt) ?_⟩
   cases hb:B t
   ·simp[hb]
    omega
   simp[hb];omega
  simpa using this
 have hsum:T.countP B+T.countP (fun t=>!B t)=T.length:=by
  have:=List.length_eq_countP_add_countP B (l:=T)
  grind
 have htold:XV (T.countP B:Nat) T.length=if T.countP (fun t=>!B t)=0 then 1 else if T.countP B=0 then 2 else 3:=by
  unfold XV;omega
 rw[htold];clear htold hg hit;generalize T.countP B=a at *;generalize T.countP (fun t=>!B t)=d at *
 by_cases h1:d=0
 ·simp[h1]
 by_cases h2:a=0
 ·simp[h1,h2]
 simp[h1,h2]
omit hK
def QkL (d:Qx):Qx:=qW d 0
theorem Wp (p:Qx->Bool) (hp:∀ d,p (QkL d)=p d):∀ (ds:List Qx) (i:Nat),XQ p (ds.map QkL) i=XQ p ds i
 | [],_=>rfl
 | d::r,i=>by simp only[QKg,XQ,hp,Wp p hp r]
theorem QuI (ds:List Qx) (i:Nat):wn (ds.map QkL) i=wn ds i:=by
 unfold wn;rw[<- List.map_take,Wp ZS fun d=>rfl]
theorem Qm2 (ds:List Qx):pv (ds.map QkL)=pv ds:=Wp QX (fun _=>rfl) ds 0
theorem Qk4 (ds:List Qx):Vj (ds.map QkL)=Vj ds:=Wp ZS (fun _=>rfl) ds 0
theorem QkM (ds:List Qx) (i:Nat):cnt (ds.map QkL) i=cnt ds i:=by
 unfold cnt;rw[<- List.map_take,List.map_map];rfl
theorem QaH (ds:List Qx) (e:Nat->Int):∀ i,cab (ds.map QkL) e i=cab ds e i
 | 0=>rfl
 | i+1=>by
   have ih:=QaH ds e i;simp only[cab,QJ4,ih,QuI];cases ds[i]?<;>rfl
theorem QlC (ds:List Qx) (k:Nat):Qeb (ds.map QkL) k=QkL (Qeb ds k):=by
 unfold Qeb;rw[Qk4];simp only[List.getD_eq_getElem?_getD,QJ4];cases ds[(Vj ds)[k]?.getD 0]?<;>rfl
theorem qu (ds:List Qx) (ss:List Xh) (e:Nat->Int):Zf (ds.map QkL) ss e=Zf ds ss e:=by
 unfold Zf
 congr 1
 funext s
 simp only[QcZ,QaH,Qj2,QlC];rfl
section
variable {ds ds':List Qx} (h:ds'.map QkL=ds.map QkL)
include h
theorem QjW:ds'.length=ds.length:=by simpa using congrArg List.length h
theorem QdV:pv ds'=pv ds:=by rw[<- Qm2 ds',h,Qm2]
theorem QdW (i:Nat):cnt ds' i=cnt ds i:=by rw[<- QkM ds',h,QkM]
theorem QjX (e:Nat->Int) (i:Nat):cab ds' e i=cab ds e i:=by rw[<- QaH ds',h,QaH]
theorem Qhh (ss:List Xh) (e:Nat->Int):Zf ds' ss e=Zf ds ss e:=by rw[<- qu ds',h,qu]
theorem Qlh (p:Qf) (hp:p.zc.za=ds) (c:Qr) (hc:c.za=ds') (e:Nat->Int):ZW { p with zc:=c } e=ZW p e:=by
 have h1:∀ i,Zz { p with zc:=c } i e=Zz p i e:=fun i=>by
  show cab c.za e ((pv c.za).getD i 0)=cab p.zc.za e ((pv p.zc.za).getD i 0)
  rw[hc,hp,QdV h,QjX h]
 have h2:Jf { p with zc:=c } e=Jf p e:=by
  show cab c.za e c.za.length=cab p.zc.za e p.zc.za.length
  rw[hc,hp,QjW h,QjX h]
 have h3:∀ i,QG { p with zc:=c } i e=QG p i e:=fun i=>by
  unfold QG;rw[h1];rfl
 simp only[ZW,h1,h2,h3]
end
def QdD:List Qx->List Int->List Qx
 | d::r,x::e=>qW d x::QdD r e
 | _,_=>[]
theorem YD:∀ {ds:List Qx} {e:List Int},e.length=ds.length->(QdD ds e).map QkL=ds.map QkL
 | [],[],_=>rfl
 | d::r,x::e,h=>by
   have:=YD (ds:=r) (e:=e) (by simpa using h)
   simp only[QdD,QKg,this];rfl
theorem QjG:∀ {ds:List Qx} {e:List Int} (hl:e.length=ds.length) (i:Nat) (h:i<ds.length),(QdD ds e)[i]?=some (qW ds[i] (e[i]'(by omega)))
 | d::r,x::e,hl,0,_=>rfl
 | d::r,x::e,hl,i+1,h=>by
   have:=QjG (ds:=r) (e:=e) (by simpa using hl) i (by simpa using h)
   simpa[QdD] using this
theorem Zg:∀ {ds:List Qx} {e:List Int},e∈Zu ds->e.length=ds.length/\∀ i (h:i<ds.length) (h':i<e.length),e[i]∈Qb5 ds[i]
 | [],e,h=>by simp[Zu] at h;subst h;simp
 | d::r,e,h=>by
   simp only[Zu,QKC,QKh] at h;obtain ⟨x,hx,e',he',rfl⟩:=h;obtain ⟨h1,h2⟩:=Zg he'
   grind
theorem UZ:∀ {ds:List Qx},(∀ d∈ds,d.z7=0\/d.z7=1\/d.z7=2)->Us ds=(Zu ds).map (QdD ds)
 | [],_=>rfl
 | d::r,h=>by
   have ih:=UZ (ds:=r) fun d hd=>h d (by simp[hd])
   have hd:=h d (by simp)
   have hself:∀ x,d.z7=x->qW d x=d:=fun x hx=>by subst hx;rfl
   rcases hd with hd | hd | hd
   ·simp[Us,Zu,Qb5,hd,ih,QdD,hself 0 hd,List.map_map,Function.comp_def]
   ·simp[Us,Zu,Qb5,hd,ih,QdD,hself 1 hd,List.map_map,Function.comp_def]
   ·simp[Us,Zu,Qb5,hd,ih,QdD,List.map_map,Function.comp_def]
theorem Qb4 {d:Qx} {x:Int} (h:x∈Qb5 d):(x=0\/x=1)/\(d.z7=2\/x=d.z7):=by
 unfold Qb5 at h
 grind
theorem OkD.z7 {ds:List Qx} {n:Nat} (h:OkD ds n) (hn:ds.length<=n):∀ d∈ds,d.z7=0\/d.z7=1\/d.z7=2:=by
 intro d hd;obtain ⟨i,hi,rfl⟩:=QKK hd;have:=h i hi (by omega)
 rcases this with ⟨_,h2,_⟩ | ⟨_,h2,_⟩ | ⟨_,_,h2,_⟩
 ·simp only[inR] at h2;omega
 ·simp only[inR] at h2;omega
 ·omega
section
variable {c:Qr} (hc:OkC c) {e:List Int} (he:e∈Zu c.za)
include hc he
theorem QdC:(QdD c.za e).length=c.za.length:=QjW (YD (Zg he).1)
theorem Qg1 (i:Nat) (h:i<c.za.length):∃ x,(QdD c.za e)[i]?=some (qW c.za[i] x)/\(x=0\/x=1)/\(c.za[i].z7=2\/x=c.za[i].z7)/\QN e i=x:=by
 obtain ⟨h1,h2⟩:=Zg he;have h3:=Qb4 (h2 i h (by omega))
 refine ⟨e[i]'(by omega),QjG h1 i h,h3.1,h3.2,?_⟩
 simp[QN,List.getD_eq_getElem?_getD,QJW (show i<e.length by omega)]
theorem QuD:OkD (QdD c.za e) (QdD c.za e).length:=by
 intro i h _;have hlen:=QdC hc he;have hi:i<c.za.length:=by omega
 obtain ⟨x,h1,h2,h3,_⟩:=Qg1 hc he i hi;rw[QJW h] at h1;injection h1 with h1
 rw[h1,QdW (YD (Zg he).1)];rcases hc.za i hi hi with ⟨a1,a2,a3⟩ | ⟨a1,a2,a3⟩ | ⟨a1,a2,a3,a4⟩
 ·exact .inl ⟨a1,by simp only[inR,qW];omega,a3⟩
 ·exact .inr (.inl ⟨a1,by simp only[inR,qW];omega,a3⟩)
 exact .inr (.inr ⟨a1,a2,by simp only[qW];omega,a4⟩)
theorem Qmm:OkC { c with za:=QdD c.za e }:=by
 have hlen:=QdC hc he;refine ⟨by simp only[hlen];exact hc.len,hc.slen,hc.zh,QuD hc he,fun s hs=>?_⟩
 have:=hc.zg s hs;unfold ZG at *;simp only[hlen,QdW (YD (Zg he).1)];exact this
theorem QjF:ZN (QdD c.za e)=0:=by
 rw[ZN,QLN];intro d hd;obtain ⟨i,hi,rfl⟩:=QKK hd;have hlen:=QdC hc he;obtain ⟨x,h1,h2,_⟩:=Qg1 hc he i (by omega)
 rw[QJW hi] at h1;injection h1 with h1
 have h3:¬ x=2:=by omega
 rw[h1];simp[qW,h3]
theorem Qao:ZD (QdD c.za e) 0=QN e:=by
 funext i
 have hlen:=QdC hc he;unfold ZD;rcases QLa i c.za.length with h | h
 ·obtain ⟨x,h1,h2,_,h4⟩:=Qg1 hc he i h
  have h5:¬ (qW c.za[i] x).z7=2:=by show ¬ x=2;omega
  rw[h1,h4];simp only;rw[if_neg h5];rfl
 rw[QLD (by omega)]
 have:=(Zg he).1;simp[QN,List.getD_eq_getElem?_getD,QLD (show e.length<=i by omega)]
theorem Qqs:QCF c.za e:=by
 obtain ⟨h1,h2⟩:=Zg he;refine ⟨h1,fun i h h'=>?_⟩
 have h3:=Qb4 (h2 i h h');simp only[inR];omega
theorem QuE:YW { c with za:=QdD c.za e } true=0↔Qt1 c e:=by
 have h1:=Qmm hc he
 have h2:QS { c with za:=QdD c.za e }=if (Zf c.za c.zg (QN e):Int)<=c.zh then [0] else []:=by
  have hw:=Qhh (YD (Zg he).1) c.zg (QN e);unfold QS;simp only[QjF hc he,Qao hc he,Nat.pow_zero];rw[show List.range 1=[0] from rfl]
  by_cases h:(Zf c.za c.zg (QN e):Int)<=c.zh
  ·rw[if_pos h,QLk (by simpa[Qao hc he,hw] using h)];rfl
  rw[if_neg h,QLl (by simpa[Qao hc he,hw] using h)];rfl
 unfold YW Qt1;rw[if_pos h1,if_pos rfl,h2];have:=Qqs hc he
 grind
end
theorem qc (c:Qr) (hc:OkC c):YN c=(Xn c [] c.za).map fun e=>{ c with za:=QdD c.za e }:=by
 unfold YN Xn;rw[UZ (hc.za.z7 (QJ2 _)),List.map_map,List.filter_map];have e1:((Zu c.za).map fun x=>[]++x)=Zu c.za:=by simp
 rw[e1]
 congr 1
 refine QLn fun e he=>?_
 simp only[Function.comp_apply];rw[QLE];simpa using QuE hc he
theorem Qeg (p:Qf) (hc:OkC p.zc):(YN p.zc).map (fun c'=>ZW { p with zc:=c' } (ZD c'.za 0))=QV p:=by
 unfold QV;rw[qc _ hc,List.map_map];refine QLp fun e he=>?_
 have he':e∈Zu p.zc.za:=by
  simp only[Xn,QKx] at he;simpa using he.1
 simp only[Function.comp_apply];rw[Qao hc he'];exact Qlh (YD (Zg he').1) p rfl _ rfl _
def Qap:List ZE->List Int->List ZE
 | l::r,x::e=>QcS l x::Qap r e
 | l,[]=>l
 | [],_=>[]
theorem QdE (ls:List ZE):Qap ls []=ls:=by cases ls<;>rfl
theorem UP:∀ (ls:List ZE) (e:List Int),(Qap ls e).length=ls.length
 | [],[]=>rfl
 | [],_::_=>rfl
 | _::_,[]=>rfl
 | l::r,x::e=>by simp[Qap,UP r e]
theorem Qe1:∀ (ls:List ZE) (e:List Int) (n:Int) (h:e.length<ls.length),Qap ls (e++[n])=(Qap ls e).set e.length (QcS ls[e.length] n)
 | l::r,[],n,_=>by simp[Qap,QdE]
 | l::r,x::e,n,h=>by
   have:=Qe1 r e n (by simpa using h)
   simp[Qap,this]
theorem QcG:∀ (ls:List ZE) (e:List Int) (h:e.length<ls.length),(Qap ls e)[e.length]?=some ls[e.length]
 | l::r,[],_=>by simp[QdE]
 | l::r,x::e,h=>by
   have:=QcG r e (by simpa using h)
   simpa[Qap] using this
def Z2 (m:Machine) (s:Ql):Machine:={ m with zd:=Qap m.zd s.zy,zu:=s.zx,zw:=s.zx }
def Qed (m:Machine) (first:List Int):Machine:={ m with zd:=Qap m.zd first }
theorem QgQ:∀ (ls:List ZE) (e:List Int),Q9 (·.long) (Qap ls e)=Q9 (·.long) ls
 | [],[]=>rfl
 | [],_::_=>rfl
 | _::_,[]=>rfl
 | l::r,x::e=>by simp only[Qap,Q9,QgQ r e];rfl
theorem Qkg (m:Machine) (s s':Ql) (w mn:Int):num (Z2 m s) s' w mn=num m s' w mn:=by
 unfold num Vg;rw[show (Z2 m s).zd=Qap m.zd s.zy from rfl,QgQ]
 rfl
theorem Qg2 (m:Machine) (s s':Ql):ZV (Z2 m s) m.zk s'=ZV m m.zk s':=by
 unfold ZV
 congr 1
 funext b
 simp only[QcY,Qkg]
theorem UX:∀ (ls:List ZE) (e:List Int),e.length=ls.length->Q7 (Qap ls e)=[e]
 | [],[],_=>rfl
 | l::r,x::e,h=>by
   have ih:=UX r e (by simpa using h)
   have h1:(QcS l x).hi+1-(QcS l x).lo=1:=by simp only[QcS];omega
   simp only[Qap,Q7,ih,h1];simp[acc,QcS]
theorem Qm9 {m:Machine} {s:Ql} (h:okS m s) (i:Nat) (hi:i<m.zd.length):(Qap m.zd s.zy)[i]?=some (QcS m.zd[i] (s.zy[i]'(by rw[h.1];exact hi))):=by
 have:∀ (ls:List ZE) (e:List Int) (i:Nat) (h1:e.length=ls.length) (hi:i<ls.length),(Qap ls e)[i]?=some (QcS ls[i] (e[i]'(by omega))):=by
  intro ls
  induction ls with
  | cons l r ih =>
    intro e i h1 hi;cases e with
    | nil=>simp at h1
    | cons x e =>
      cases i with
      | zero=>simp[Qap]
      | succ i=>simpa[Qap] using ih e i (by simpa using h1) (by simpa using hi)
  | _=>grind
 exact this _ _ i h.1 hi
theorem QqU {m:Machine} {s:Ql} (h:okS m s):okS (Z2 m s) s:=by
 refine ⟨by simp only[Z2,UP];exact h.1,by simp[Z2,inR],fun i h1 h2=>?_⟩
 have hi:i<m.zd.length:=by simpa[Z2,UP] using h1
 have:=Qm9 h i hi
 have h3:(Z2 m s).zd[i]=QcS m.zd[i] (s.zy[i]'(by rw[h.1];exact hi)):=by
  rw[show (Z2 m s).zd=Qap m.zd s.zy from rfl] at h1
  rw[QJW h1] at this;injection this
 rw[h3];simp[QcS,inR]
theorem qV (l:ZE):Zd l=false↔inR l.long 1 1000/\inR l.lo 1 l.hi/\l.hi<=1000:=by
 unfold Zd
 grind
theorem Qd6 {m:Machine} (hm:OkM m) {s:Ql} (h:okS m s):OkM (Z2 m s):=by
 have h2:=h.2.1;have h3:=hm.zx;have h4:=hm.zw;simp only[inR] at h2 h3;refine ⟨by simp only[Z2,UP];exact hm.len,fun l hl=>?_,hm.zr,by simp only[Z2,inR];omega,by simp only[Z2];omega,hm.blen,hm.zk,hm.zh⟩
 obtain ⟨i,hi,rfl⟩:=QKK hl;have hi':i<m.zd.length:=by simpa[Z2,UP] using hi
 have h5:=Qm9 h i hi'
 have h6:(Z2 m s).zd[i]=QcS m.zd[i] (s.zy[i]'(by grind)):=by
  rw[show (Z2 m s).zd=Qap m.zd s.zy from rfl] at hi
  rw[QJW hi] at h5;injection h5
 have h7:=h.2.2 i hi' (by grind)
 have h8:=hm.zd _ (QJ1 hi');rw[h6];rw[qV] at h8 |-;simp only[inR,QcS] at h7 h8 |-;omega
theorem QcP {m:Machine} {s:Ql} (h:okS m s):Q2 (Z2 m s) [] (Z2 m s).zd=if (ZV m m.zk s:Int)<=m.zh then [s] else []:=by
 have h1:Zk (Z2 m s) [] (Z2 m s).zd=[s]:=by
  unfold Zk;rw[show (Z2 m s).zd=Qap m.zd s.zy from rfl,UX _ _ h.1]
  have:((Z2 m s).zw+1-(Z2 m s).zu).toNat=1:=by simp only[Z2];omega
  rw[this];simp[Z2]
 unfold Q2;rw[h1]
 have h2:Wk (Z2 m s) s↔(ZV m m.zk s:Int)<=m.zh:=by
  unfold Wk;rw[show (Z2 m s).zk=m.zk from rfl,Qg2]
  exact ⟨fun h=>h.2,fun h'=>⟨QqU h,h'⟩⟩
 grind
theorem QuS {m:Machine} (hm:OkM m) {s:Ql} (h:okS m s):tE (Z2 m s) true=0↔Wk m s:=by
 unfold tE;rw[if_pos (Qd6 hm h),if_pos rfl,QcP h];unfold Wk
 grind
theorem Qqc {α β:Type} (f:α->β) (pc:Nat->List α) (n:Nat):(acc pc n).map f=acc (fun i=>(pc i).map f) n:=by simp[acc,QLL]
theorem QgP {α:Type} {pc pc':Nat->List α} {n:Nat} (h:∀ i<n,pc i=pc' i):acc pc n=acc pc' n:=by
 induction n with
 | zero=>rfl
 | succ n ih=>rw[QaN,QaN,ih fun i hi=>h i (by omega),h n (by omega)]
theorem Qdp {m:Machine} (hm:OkM m):∀ (r k:Nat) (first:List Int),k+r=m.zd.length->first.length=k->(∀ i (h:i<m.zd.length) (h':i<first.length),inR first[i] m.zd[i].lo m.zd[i].hi) ->
  Uk r (Qed m first) k=(Q2 m first (m.zd.drop k)).map (Z2 m)
 | 0,k,first,hk,hf,hr=>by
   have hd:m.zd.drop k=[]:=QKN (by omega)
   have h1:Q2 m first (m.zd.drop k)=acc (fun i=>if Wk m ⟨first,m.zu+(i:Nat)⟩ then [⟨first,m.zu+(i:Nat)⟩] else []) (m.zw+1-m.zu).toNat:=by
    rw[hd];simp only[Q2,Zk,Q7,QK4,List.flatMap_nil,QKj,acc];generalize (m.zw+1-m.zu).toNat=n;generalize List.range n=L
    induction L with
    | _=>grind
   rw[h1,Qqc];simp only[Uk];refine QgP fun i hi=>?_
   have hleak:inR (m.zu+(i:Nat)) m.zu m.zw:=by
    have hi':i<(m.zw+1-m.zu).toNat:=hi;simp only[inR];omega
   have hok:okS m ⟨first,m.zu+(i:Nat)⟩:=⟨by simp only;omega,hleak,hr⟩
   have hmach:XK (Qed m first) ((Qed m first).zu+(i:Nat))=Z2 m ⟨first,m.zu+(i:Nat)⟩:=rfl
   unfold qL;rw[hmach];have:=QuS hm hok
   grind
 | r+1,k,first,hk,hf,hr=>by
   have xd:k<m.zd.length:=by omega
   have hget:(Qed m first).zd[k]?=some m.zd[k]:=by
    have:=QcG m.zd first (by omega)
    simp only[hf] at this;exact this
   rw[QKp xd,QcQ,Qqc];simp only[Uk,hget];refine QgP fun i hi=>?_
   have hfix:YR (Qed m first) k m.zd[k] (m.zd[k].lo+(i:Nat))=Qed m (first++[m.zd[k].lo+(i:Nat)]):=by
    unfold YR Qed;rw[Qe1 m.zd first _ (by omega)]
    simp only[hf]
   rw[hfix];refine Qdp hm r (k+1) (first++[m.zd[k].lo+(i:Nat)]) (by omega) (by simp[hf]) fun j h h'=>?_
   rcases QLa j first.length with hj | hj
   ·grind
   have hjk:j=k:=by simp at h';omega
   subst hjk;rw[List.getElem_append_right hj];simp only[hf,Nat.sub_self,QLx,inR];omega
theorem Qor {m:Machine} (hm:OkM m):Uk m.zd.length m 0=(Q2 m [] m.zd).map (Z2 m):=by
 have:=Qdp hm m.zd.length 0 [] (by omega) rfl (by simp)
 have e:Qed m []=m:=by unfold Qed;rw[QdE]
 grind
theorem Qlu {m:Machine} (hm:OkM m) {s:Ql} (h:Wk m s) {w mn:Int} (ha:QaM w mn 0=true):Jw (Z2 m s) w mn=(Qbz m w mn s,upS m w mn s):=by
 unfold Jw tL;rw[ha,if_pos ⟨Qd6 hm h.1,rfl⟩,QcP h.1,if_pos h.2];simp only[QKg,List.map_nil,span,List.foldl_nil,Qbz,upS,Qkg]
theorem QuP {m:Machine} (hm:OkM m) (hs:sets m m.zd.length<=1000000):QCk m:=by
 have hl:∀ l∈m.zd,1<=l.lo/\l.lo<=l.hi/\l.hi<=1000:=fun l hl=>by
  have:=(qV l).1 (hm.zd l hl);simp only[inR] at this;omega
 exact ⟨hm.len,hm.blen,hm.zx,hm.zw,fun l h=>by have:=hl l h;simp only[Xj];omega,fun l h=>by grind,hs⟩
@[reducible] def Jj (p:Qf) (SS LL:List (List IV)):Qs :=
 [(0,.box [.loc 1 0]),(1,.box ((prC p).map AV.iv++[.yq 2 SS.length,.yq 3 LL.length])),(2,.arr 245 3 (emb SS) 0),(3,.arr 250 1 (emb LL) 0)]
def QEX (pe:List (Nat × Nat × Nat)) (o1:Qs):Env->Qs->Prop:=Qg0 [Qcp.tmp 4] [0,1,2,3] pe (.iv (.bool true)) o1
theorem QoL (p:Qf) (SS LL:List (List IV)) {s:Nat} {e:Env} {o:Qs} (h1:Ev.look e 4=.iv (.bool true)) (h2:Ev.look e s=.loc 0 0) (h3:∀ q∈Jj p SS LL,Qc o q.1=some q.2):QEX [(s,0,0)] (Jj p SS LL) e o:=by
 refine ⟨⟨.iv (.bool true),?_,rfl⟩,fun q hq=>?_,fun q hq=>?_⟩
 ·simp[Qzg,QtU,h1]
 ·have:=h3 q hq
  simp only[QJ7,QKc,or_false] at hq;rcases hq with rfl | rfl | rfl | rfl
  ·exact this
  ·refine this.trans ?_
   simp[rnO,rnL,rn,prC,nth]
  ·rw[Je];exact this
  rw[Je];exact this
 grind
theorem Yu (p:Qf) (SS LL:List (List IV)):∀ q∈Jj p SS LL,q.1<4/\Zn q.2=true/\clO ((Jj p SS LL).map (·.1)) q.2=true:=by
 intro q hq;simp only[QJ7,QKc,or_false] at hq;rcases hq with rfl | rfl | rfl | rfl
 ·exact ⟨by omega,rfl,by simp[clO,clAL,clA]⟩
 ·exact ⟨by omega,rfl,by simp[clO,clAL,clA,prC]⟩
 ·exact ⟨by omega,rfl,XM _ _ _ _ _⟩
 ·exact ⟨by omega,rfl,XM _ _ _ _ _⟩
include hK
omit hK in
theorem QsS:ZL prog 285 QCY [1]:=⟨_,func285,by kernel_rfl⟩
omit hK in
theorem QsR:ZL prog 288 QCX [2]:=⟨_,func288,by kernel_rfl⟩
theorem Qrk (p:Qf) (c:Qr) (s0 s1 s2:IV) (SS LL:List (List IV)) (hn:SS.length<=1000000) (hg:Gd K 286 [chV c,Xi p.zf] (.agg [s0,s1,s2])) :
  Gh K 285 [.iv (chV c),.loc 0 0,.iv (.ptr (prC p))] (Jj p SS LL) [0] (.iv (.bool true)) (Jj p (SS++[[s0,s1,s2]]) LL):=by
 refine Q0 [0,1,2,3] [0] [1] [(1,0,0)] QsS (by simp[QCY]) (by simp) ?_ ?_ ?_ ?_
 ·exact Yu p _ _
 ·simp[clA]
 ·simp[nth,Qc]
  grind
 ·show WpF _ _ (FnF (QEX [(1,0,0)] (Jj p (SS++[[s0,s1,s2]]) LL))) _ _ _
  simp[prC];refine cK (by simpa using hg) ?_
  simp[prC,-List.map_map,Qt,QH,QC,Qk];refine ⟨by omega,QoL p _ _ rfl rfl fun q hq=>?_⟩
  simp only[QJ7,QKc,or_false] at hq;rcases hq with rfl | rfl | rfl | rfl<;>simp[Qc,prC]
def QAm (p:Qf) (lo up:Nat->Int):List IV:=[.sl 2 ((List.range p.zf.length).map fun i=>[.int .i64 (lo i),.int .i64 (up i)])]
theorem Qri (p:Qf) (m:Machine) (hl:m.zd.length<=1000) (hb:m.zk.length<=1000) (ht:p.zf.length<=1000) (lo up:Nat->Int) (hr:∀ i,i<p.zf.length->Jw m (tr p i).zm (tr p i).zn=(lo i,up i)) (SS LL:List (List IV)) (hn:LL.length<=1000000) :
  Gh K 288 [.iv (maV m),.iv (.ptr (prC p)),.loc 0 0] (Jj p SS LL) [0] (.iv (.bool true)) (Jj p SS (LL++[QAm p lo up])):=by
 refine Q0 [0,1,2,3] [0] [2] [(2,0,0)] QsR (by simp[QCX]) (by simp) ?_ ?_ ?_ ?_
 ·exact Yu p _ _
 ·simp[clA]
 ·simp[nth,Qc]
  grind
 ·show WpF _ _ (FnF (QEX [(2,0,0)] (Jj p SS (LL++[QAm p lo up])))) _ _ _
  generalize hG:Jj p SS (LL++[QAm p lo up])=G;simp[prC];intro _
  refine Qi (fun i=>[(2,AV.loc 0 0),(3,.iv (.ptr [QT m.zd,.int .i64 m.zr,.int .i64 m.zu,.int .i64 m.zw,XN m.zk,.int .i64 m.zh])),(5,.yq 5 i),(11,.iv (Xi p.zf)),(12,.iv (.int .i64 p.zf.length)),(13,.iv (.int .i64 (i:Nat)))])
   (fun i=>[(0,.box [.loc 1 0]),(1,.box ((prC p).map AV.iv++[.yq 2 SS.length,.yq 3 LL.length])),(2,.arr 245 3 (emb SS) 0),(3,.arr 250 1 (emb LL) 0),(5,.arr 28 2 (emb ((List.range i).map fun i=>[.int .i64 (lo i),.int .i64 (up i)])) 0)]) p.zf.length (fun _=>True) trivial ?_ ?_
  ·intro _
   rw[Qa QiX.eq_1];simp[prC,-List.map_map,Qt,QH,QC,Qk,QJZ];rw[<- hG];refine ⟨by omega,QoL p _ _ rfl rfl fun q hq=>?_⟩
   simp only[QJ7,QKc,or_false] at hq;rcases hq with rfl | rfl | rfl | rfl<;>simp[Qc,prC,QAm]
  ·intro i hi _ ih
   have hg:=Qoi hK m (tr p i).zm (tr p i).zn hl hb;rw[hr i hi] at hg;have htr:=Qmy hi;rw[Qa QiX.eq_1];rw[QKn,QKf] at ih;simp at ih;simp[hi,htr,-List.map_map,Qt,QH,QC,Qk];refine cK (by simpa using hg) ?_
   have hsc:scrL [0,1,2,3,5] ((prC p).map AV.iv++[.yq 2 SS.length,.yq 3 LL.length])=(prC p).map AV.iv++[.yq 2 SS.length,.yq 3 LL.length]:=by simp[prC,scrL,scr]
   simp[hsc,-List.map_map,Qt,QH,QC,Qk]
   grind
omit hK in
theorem Qvn {p:Qf} (hp:OkP p) {c:Qr} (hc:c∈YN p.zc):OkP { p with zc:=c }/\ZN c.za=0:=by
 rw[qc _ hp.zc] at hc;obtain ⟨e,he,rfl⟩:=QKh.1 hc
 have he':e∈Zu p.zc.za:=by
  simp only[Xn,QKx] at he;simpa using he.1
 have hcore:=YD (Zg he').1;refine ⟨⟨Qmm hp.zc he',hp.zb,hp.zo,hp.ya,?_,fun i h h'=>?_⟩,QjF hp.zc he'⟩
 ·simp only[QdV hcore];exact hp.many
 ·simp only[QdV hcore] at h
  have:=hp.zf i h h';simp only[QdV hcore,QdW hcore];exact this
theorem QfI (p:Qf) (hp:OkP p):∀ (L:List Qr) (SS LL:List (List IV)),(∀ c∈L,c∈YN p.zc)->SS.length+L.length<=1000000 ->
  YX prog K 285 [] [.loc 0 0,.iv (.ptr (prC p))] [0] (L.map Qh0) (Jj p SS LL) true (Jj p (SS++L.map fun c'=>ZW { p with zc:=c' } (ZD c'.za 0)) LL)
 | [],SS,LL,_,_=>by simpa using YX.nil _
 | c::L,SS,LL,h,hn=>by
   have hc:=Qvn hp (h c (by simp))
   have hg:=Qwq hK { p with zc:=c } hc.1 hc.2
   have ih:=QfI p hp L (SS++[ZW { p with zc:=c } (ZD c.za 0)]) LL (fun c' hc'=>h c' (by simp[hc'])) (by grind)
   refine .next _ _ _ _ _ _ (Qrk hK p c _ _ _ SS LL (by simp at hn;omega) hg) (fun q hq=>(Yu p _ _ q hq).2.1) ?_
   simpa[ZW] using ih
theorem QfH (p:Qf) (hp:OkP p) (SS:List (List IV)):∀ (L:List Ql) (LL:List (List IV)),(∀ s∈L,Wk p.zb s)->LL.length+L.length<=1000000 ->
  YX prog K 288 [] [.iv (.ptr (prC p)),.loc 0 0] [0] ((L.map (Z2 p.zb)).map Qgc) (Jj p SS LL) true (Jj p SS (LL++L.map fun s=>[.sl 2 (Zm p s)]))
 | [],LL,_,_=>by simpa using YX.nil _
 | s::L,LL,h,hn=>by
   have hs:=h s (by simp)
   have hm:=Qd6 hp.zb hs.1;have ih:=QfH p hp SS L (LL++[[.sl 2 (Zm p s)]]) (fun c' hc'=>h c' (by simp[hc'])) (by grind)
   have htl:=hp.trialsLen;have h1:=hm.len;have h2:=hm.blen
   have hg:=Qri hK p (Z2 p.zb s) (by omega) (by omega) (by omega) (fun i=>Qbz p.zb (tr p i).zm (tr p i).zn s) (fun i=>upS p.zb (tr p i).zm (tr p i).zn s) (fun i hi=>by
    have ht:=hp.trial hi;refine Qlu hp.zb hs ?_;simp only[QaM,inR];have a1:=ht.1;have a2:=ht.2.1;simp only[inR] at a1 a2;simp;omega) SS LL (by simp at hn;omega)
   refine .next _ _ _ _ _ _ hg (fun q hq=>(Yu p _ _ q hq).2.1) ?_
   simpa[QAm,Zm] using ih
theorem Qrl (p:Qf) (hp:OkP p):Gh K 284 [.iv (chV p.zc),.clo 285 [] [.loc 0 0,.iv (.ptr (prC p))]] (Jj p [] []) [0] (.iv (.bool true)) (Jj p (QV p) []):=by
 have hl:=hp.deedsLen;have hs:=hp.zc.slen;have hit:=QhY hK (ZN p.zc.za) p.zc rfl (by omega) (by omega)
 have hr:=QfI hK p hp (YN p.zc) [] [] (fun c hc=>hc) (by
  rw[qc _ hp.zc,QJ9];have:=QrY hp.zc;simp;omega)
 rw[QKe,Qeg p hp.zc] at hr
 have:=Wr hit (by kernel_rfl) (by simp[clAL]) (by simp[clAL,clA]) (fun i hi=>by
  simp at hi;subst hi;exact ⟨_,rfl⟩) (fun q hq=>(Yu p _ _ q hq).2.1) hr
 simpa using this
theorem Qrj (p:Qf) (hp:OkP p) (hs:sets p.zb p.zb.zd.length<=1000000) (SS:List (List IV)):Gh K 287 [.iv (maV p.zb),.iv (.int .i64 0),.clo 288 [] [.iv (.ptr (prC p)),.loc 0 0]] (Jj p SS []) [0] (.iv (.bool true)) (Jj p SS (XI p)):=by
 have hit:=QnF hK p.zb.zd.length p.zb 0 (by omega) (QuP hp.zb hs)
 rw[Qor hp.zb] at hit
 have hr:=QfH hK p hp SS (Q2 p.zb [] p.zb.zd) [] (fun s h=>by
  simp only[Q2,QKx,decide_eq_true_eq] at h;exact h.2) (by
  have:=QjT hp.zb;simp;omega)
 rw[QKe] at hr
 have:=Wr hit (by kernel_rfl) (by simp[clAL]) (by simp[clAL,clA]) (fun i hi=>by
  simp at hi;subst hi;exact ⟨_,rfl⟩) (fun q hq=>(Yu p _ _ q hq).2.1) hr
 simpa[XI] using this
omit hK in
theorem QkD (p:Qf) (SS LL SS' LL':List (List IV)) (args0:List AV) (ha:args0.all (clA [0,1,2,3])=true) (o:Qs) (h7:Qc o 7=some (.box [.loc 17 0])) (h17:Qc o 17=some (.box ((prC p).map AV.iv++[.yq 18012 SS.length,.yq 18013 LL.length])))
  (h12:Qc o 18012=some (.arr 245 3 (emb SS) 0)) (h13:Qc o 18013=some (.arr 250 1 (emb LL) 0)):HOk [7,17,18012,18013] args0 o (Jj p SS LL) (Jj p SS' LL'):=by
 refine ⟨by decide,ha,fun q hq=>?_,fun i hi h=>?_,fun q hq=>⟨(Yu p _ _ q hq).1,(Yu p _ _ q hq).2.1⟩⟩
 ·have h1:=Yu p _ _ q hq
  refine ⟨h1.1,?_,h1.2.2,h1.2.1⟩;simp only[QJ7,QKc,or_false] at hq;rcases hq with rfl | rfl | rfl | rfl
  ·exact h7
  ·refine h17.trans ?_
   simp[rnO,rnL,rn,prC,nth]
  ·rw[Je];exact h12
  rw[Je];exact h13
 ·simp at hi
  have:i=0\/i=1\/i=2\/i=3:=by omega
  rcases this with rfl | rfl | rfl | rfl<;>simp[Qc] at h
theorem UD (p:Qf) (is:Bool) (hf:QHE p):Gd K 204 [prV p,.bool is] (.xh [if kE p is=0 then .ptr (Uc p) else .nilp,.int .i64 (kE p is)]):=by
 refine Qb hK (fk func204 QGP (by kernel_rfl)) (by simp) ?_
 simp;refine cK (by simpa using Qt4 hK p hf.small) ?_
 by_cases hp:OkP p
 ·cases is
  ·simp[hp,kE]
  have hg1:=Qrl hK p hp;have hg2:=Qrj hK p hp (hf.sets hp) (QV p);simp[hp];refine Qj hg1 ?_ ?_ ?_
  ·simp[rn,rnL,nth,prC]
  ·exact QkD p [] [] _ _ _ (by simp[clA,clAL]) _ (by simp[Qc]) (by simp[Qc,prC]) (by simp[Qc,emb]) (by simp[Qc,emb])
  have hrn:rnL (nth [7,17,18012,18013]) ((prC p).map AV.iv++[.yq 2 (QV p).length,.yq 3 0])=(prC p).map AV.iv++[.yq 18012 (QV p).length,.yq 18013 0]:=by simp[rnL,rn,prC,nth]
  simp[hrn];refine Qj hg2 ?_ ?_ ?_
  ·simp[rn,rnL,nth,prC]
  ·exact QkD p _ [] _ _ _ (by simp[clA,clAL]) _ (by simp[Qc]) (by simp[Qc,prC]) (by simp[Qc,emb]) (by simp[Qc,emb])
  have hrn2:rnL (nth [7,17,18012,18013]) ((prC p).map AV.iv++[.yq 2 (QV p).length,.yq 3 (XI p).length])=(prC p).map AV.iv++[.yq 18012 (QV p).length,.yq 18013 (XI p).length]:=by simp[rnL,rn,prC,nth]
  have hE1:QK p=[]↔QV p=[]\/XI p=[]:=by
   unfold QK QV XI;rw[List.flatMap_eq_nil_iff];simp only[List.map_eq_nil_iff];constructor
   ·intro h
    cases hE:Xn p.zc [] p.zc.za with
    | nil=>exact .inl rfl
    | cons a r=>exact .inr (h a (by rw[hE];simp))
   grind
  have hk:kE p true=if QV p=[]\/XI p=[] then 3 else 0:=by
   unfold kE
   grind
  have hfile:Uc p=prC p++[.sl 3 (QV p),.sl 1 (XI p)]:=rfl;rw[hk,hfile];generalize QV p=SS at *;generalize XI p=LL at *;simp[hrn2];cases SS with
  | nil=>simp[prC]
  | cons a r =>
    cases LL with
    | nil=>simp[prC]
    | cons a2 r2 =>
      simp[prC];omega
 simp[hp,kE]
omit hK
theorem Yj {p:Qf} {t:Q1} (h:t∈QK p):okS p.zb t.set:=(Qny h).set
theorem Qa3 (p:Qf):(QV p).length=(Xn p.zc [] p.zc.za).length:=by simp[QV]
theorem QbC (p:Qf):(XI p).length=(Q2 p.zb [] p.zb.zd).length:=by simp[XI]
theorem QbI (p:Qf):(QK p).length=(QV p).length*(XI p).length:=by
 rw[Qa3,QbC];unfold QK;generalize Xn p.zc [] p.zc.za=E;generalize Q2 p.zb [] p.zb.zd=S
 induction E with
 | _=>grind
theorem Qnz {p:Qf} {is:Bool} (he:¬ kE p is=0):kL p is=[]:=by
 unfold kL kE at *
 grind
structure Few (p:Qf):Prop where
 fine:QHE p
 ends:OkP p->(Xn p.zc [] p.zc.za).length<=1000000
 sets:OkP p->(Q2 p.zb [] p.zb.zd).length<=1000000
 all:OkP p->(QK p).length<=100000
include hK
theorem Qig (p:Qf) (is:Bool) (hf:Few p) (g:FuncId) (fs cs:List IV) (B:Q1->Bool) (hg:kE p is=0->∀ t∈QK p,Gd K g (fs++[.agg (ZJ p t)]++cs) (.bool (B t))) (hc:callee prog g=true) :
  Gd K 210 [prV p,.bool is,.clo g fs cs] (.xh [.int .i64 (if kE p is=0 then XV ((kL p is).countP B) (kL p is).length else 0),.int .i64 (kE p is)]):=by
 refine Qb hK (fk func210 c210 (by kernel_rfl)) (by simp) ?_
 have hg63:=UD hK p is hf.fine;simp;refine cK (by simpa using hg63) ?_
 by_cases he:kE p is=0
 ·obtain ⟨hp,_,hk,_⟩:=Jz he
  have hg75:=Qid hK p (hf.ends hp) (hf.sets hp) (by have:=hf.all hp;omega) g fs cs B (hg he) hc
  rw[hk];generalize Uc p=F at *;simp[he];refine cK (by simpa using hg75) ?_
  simp
 ·simp[he]
theorem QwR (p:Qf) (t:Q1) (hp:OkP p) (hs:okS p.zb t.set):Gd K 211 [.agg (ZJ p t),.ptr (prC p)] (.bool (decide (p.ya<=(Xf p t:Int)))):=by
 refine Qb hK (fk func211 QGK (by kernel_rfl)) (by simp) ?_
 have hg:=Qih hK p t p.zo hp hs;obtain ⟨v0,v1,v2,v3,hv⟩:∃ v0 v1 v2 v3,ZJ p t=[v0,v1,v2,v3]:=⟨_,_,_,_,rfl⟩
 rw[hv] at hg |-;simp[prC];refine cK (by simpa using hg) ?_
 have hnd:nd p p.zo=p:=rfl;simp[hnd]
theorem QwN (p:Qf) (t:Q1) (hp:OkP p) (hs:okS p.zb t.set):Gd K 218 [.agg (ZJ p t),.ptr (prC p)] (.bool (Ub p t)):=by
 refine Qb hK (fk func218 QGF (by kernel_rfl)) (by simp) ?_
 have hg:=Qn6 hK p t p.zo hp hs;obtain ⟨v0,v1,v2,v3,hv⟩:∃ v0 v1 v2 v3,ZJ p t=[v0,v1,v2,v3]:=⟨_,_,_,_,rfl⟩
 rw[hv] at hg |-;simp[prC];refine cK (by simpa using hg) ?_
 have hnd:nd p p.zo=p:=rfl;simp[hnd]
theorem QwP (p:Qf) (t:Q1) (k:Nat) (hk:k<64) (hp:OkP p) (hs:okS p.zb t.set):Gd K 213 [.agg (ZJ p t),.ptr (prC p),.ptr [.int .i64 k]] (.bool (Zs p k t)):=by
 refine Qb hK (fk func213 c213 (by kernel_rfl)) (by simp) ?_
 have hg:=Qif hK p t p.zo hp;have hb:=Qd4 hp hs (zo:=p.zo) hk;have xd:∀ n,pmN (nd p p.zo) t n<2 ^ 64:=fun n=>Qj8 hp t n
 have hg2:=Qie hK (pmN (nd p p.zo) t p.zf.length) k (xd _) hk;have hnd:nd p p.zo=p:=rfl;rw[hb,hnd] at hg2;rw[hnd] at hg;obtain ⟨v0,v1,v2,v3,hv⟩:∃ v0 v1 v2 v3,ZJ p t=[v0,v1,v2,v3]:=⟨_,_,_,_,rfl⟩
 rw[hv] at hg |-;simp[prC];refine cK (by simpa using hg) ?_
 simp;refine cK (by simpa using hg2) ?_
 simp
theorem Qxk (p:Qf) (hf:Few p):Gd K 119 [prV p] (.xh [.int .i64 (rCond p),.int .i64 (kE p true)]):=by
 refine Qb hK (fk func119 QHr (by kernel_rfl)) (by simp) ?_
 have hg:=Qig hK p true hf 211 [] [.ptr (prC p)] (fun t=>decide (p.ya<=(Xf p t:Int))) (fun he t ht=>by
  have hp:=(Jz he).1;simpa using QwR hK p t hp (Yj ht)) (by kernel_rfl)
 simp;refine cK (by simpa[prC] using hg) ?_
 simp[rCond]
theorem Qxh (p:Qf) (hf:Few p):Gd K 125 [prV p] (.xh [.int .i64 (rGood p),.int .i64 (kE p true)]):=by
 refine Qb hK (fk func125 QHo (by kernel_rfl)) (by simp) ?_
 have hg:=Qig hK p true hf 218 [] [.ptr (prC p)] (Ub p) (fun he t ht=>by
  have hp:=(Jz he).1;simpa using QwN hK p t hp (Yj ht)) (by kernel_rfl)
 simp;refine cK (by simpa[prC] using hg) ?_
 simp[rGood]
theorem Qxf (p:Qf) (hf:Few p):Gd K 129 [prV p] (.xh [.int .i64 (if kE p true=0 then (JL p.zb 0 p.zo).1 else 0),.int .i64 (if kE p true=0 then (JL p.zb 0 p.zo).2 else kE p true)]):=by
 refine Qb hK (fk func129 QHn (by kernel_rfl)) (by simp) ?_
 have hg:=UD hK p true hf.fine;have hg2:=QwK hK p.zb 0 p.zo hf.fine.small.zd hf.fine.small.zk;generalize Uc p=F at *;simp;refine cK (by simpa using hg) ?_
 by_cases he:kE p true=0
 ·simp[he]
  refine cK (by simpa using hg2) ?_
  simp
 simp[he]
omit hK
theorem Qcy (l:List Int) (n0:Int) (hne:l≠[]) (h:∀ x∈l,x<=n0):l.foldl min n0=(span l).1:=by
 cases l with
 | cons a r =>
   have:=h a (by simp)
   show r.foldl min (min n0 a)=r.foldl min a
   grind
 | _=>grind
theorem Qcz (l:List Int) (n0:Int) (hne:l≠[]) (h:∀ x∈l,n0<=x):l.foldl max n0=(span l).2:=by
 cases l with
 | cons a r =>
   have:=h a (by simp)
   show r.foldl max (max n0 a)=r.foldl max a
   grind
 | _=>grind
theorem V3 {α β:Type} (f:β->α->β) (b:β) (l:List α) (i:Nat) (h:i<l.length):(l.take (i+1)).foldl f b=f ((l.take i).foldl f b) l[i]:=by
 rw[QJV h,QLc];rfl
include hK
theorem Qxj (p:Qf) (link:Int) (hf:Few p):Gd K 121 [prV p,.int .i64 link] (.xh [.int .i64 (rProved p link),.int .i64 (kE p (qa p link))]):=by
 refine Qb hK (fk func121 QHq (by kernel_rfl)) (by simp) ?_
 have hd:=hf.fine.small.za
 have hsl:(Ym p.zc.za).length=(Vj p.zc.za).length:=by
  rw[<- Yz];simp[Ym,XS]
 have hwl:(Vj p.zc.za).length<=p.zc.za.length:=Wo ZS p.zc.za 0
 have hg:=Qig hK p (qa p link) hf 213 [] [.ptr (prC p),.ptr [.int .i64 link]] (Zs p link) (fun he t ht=>by
  obtain ⟨hp,his,_⟩:=Jz he;have his:=of_decide_eq_true his;simp only[inR] at his;have:=hp.deedsLen;have h1:link=((link.toNat:Nat):Int):=by omega
  rw[h1];simpa using QwP hK p t link.toNat (by omega) hp (Yj ht)) (by kernel_rfl)
 have hg67:=Ji hK link 0 ((Vj p.zc.za).length-1);simp;refine cK (by simpa using QwQ hK p.zc hd) ?_
 have hsl2:=hsl;generalize Ym p.zc.za=S at *;simp[hsl]
 (repeat' first | omega | (with_reducible apply And.intro) | intro _)
 refine cK (by simpa using hg67) ?_
 simp;refine cK (by simpa[prC,qa] using hg) ?_
 simp[rProved,qa]
theorem Qxl (p:Qf) (hf:Few p):Gd K 116 [prV p] (.xh [.agg [.int .i64 (rFail p).1,.int .i64 (rFail p).2],.int .i64 (kE p true)]):=by
 refine Qb hK (fk func116 QHt (by kernel_rfl)) (by simp) ?_
 have hg:=UD hK p true hf.fine;have htl:=hf.fine.small.zf;simp;refine cK (by simpa using hg) ?_
 by_cases he:kE p true=0;rotate_left
 ·have hk:kL p true=[]:=Qnz he
  simp[he,rFail,hk,span]
 obtain ⟨hp,_,hk,hne⟩:=Jz he;have hit:=QnH hK p (hf.ends hp) (hf.sets hp);have hset:∀ t∈QK p,okS p.zb t.set:=fun t ht=>Yj ht
 have hg65:∀ t∈QK p,Gd K 209 [.agg (ZJ p t),.int .i64 p.zo] (.int .i64 (Xf p t:Nat)):=fun t ht=>Qih hK p t p.zo hp (hset t ht)
 have hmin:=Qcy ((QK p).map fun t=>(Xf p t:Int)) p.zf.length (by simpa using hne) (fun x hx=>by
  obtain ⟨t,_,rfl⟩:=QKh.1 hx;have:=QkF p t;omega)
 have hmax:=Qcz ((QK p).map fun t=>(Xf p t:Int)) 0 (by simpa using hne) (fun x hx=>by
  grind)
 have hr:rFail p=span ((QK p).map fun t=>(Xf p t:Int)):=by unfold rFail;rw[hk]
 rw[hr,<- hmin,<- hmax];generalize Uc p=F at *;generalize QK p=T at *;simp[he];intro _;refine Q6 (wy:=.fall) (o':=[(2,.box [.iv (.int .i64 0),.iv (.int .i64 0)]),(6,.box [.iv (.int .i64 ((T.map fun t=>(Xf p t:Int)).foldl min p.zf.length)),.iv (.int .i64 ((T.map fun t=>(Xf p t:Int)).foldl max 0))])]) rfl (by kernel_rfl) hit ?_ ?_
 ·have:=Un.all (P:=prog) (K:=K) (ps:=[24]) (asn:=QeP) (body:=Qjs) (ks:=[1,2,6]) (ids:=[2,6]) (eK:=[(1,.iv (.ptr (prC p))),(2,.loc 2 0),(6,.loc 6 0)]) (T.map (Qcu p))
   (fun i=>[(2,.box [.iv (.int .i64 0),.iv (.int .i64 0)]),(6,.box [.iv (.int .i64 (((T.map fun t=>(Xf p t:Int)).take i).foldl min p.zf.length)),.iv (.int .i64 (((T.map fun t=>(Xf p t:Int)).take i).foldl max 0))])]) fun i x hx=>by
   simp only[QJ4,QJ0] at hx;obtain ⟨t,ht,rfl⟩:=hx;obtain ⟨xd,hget⟩:=QJX.1 ht;have hgt:=hg65 t (QKd ht);refine ⟨rfl,?_⟩;rw[V3 _ _ _ i (by simpa using xd),V3 _ _ _ i (by simpa using xd)]
   obtain ⟨v0,v1,v2,v3,hv⟩:∃ v0 v1 v2 v3,ZJ p t=[v0,v1,v2,v3]:=⟨_,_,_,_,rfl⟩
   rw[hv] at hgt;simp[Qcu,hv,QeP,Qjs,prC];refine cK (by simpa using hgt) ?_
   simp[hget,Qc6,Qc7]
  simpa[prC] using this
 simp
end Go.Pf
