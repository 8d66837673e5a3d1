/- All truths of a ze: the reference. -/
import Derived.Test.YtenlhiebmnojhaaGreatDoorPartThree
import Derived.Ground.SlgnProg
import Derived.Shelf.SlicesE.Clone
import Derived.Shelf.SlicesE.Reverse
import Derived.Shelf.SlicesE.Delete
import Derived.Lib.SliceRun
import Derived.Lib.JoinLaws
import Derived.Test.YtenlhiebmnojhaaGreatDoorProg
import Derived.KernelRfl
import Derived.Shelf.Spec.SlicesInsertGrow
import Derived.Shelf.SlIterI.Nil
import Derived.Shelf.SortM.Plain
import Derived.Shelf.SortM.SortNone
import Derived.Ground.GgzProg
import Derived.Ground.SlgmProg
set_option linter.all false
namespace Go.Pf
open Go Go.Ev Go.Proofs Go.RowKit Go.Proofs.Tryz
variable {K:World->Prop} (hK:∀ w w',K w->Below w.heap.size w w'->K w')
set_option maxRecDepth 8000
def QaY (d:Qv):List Int:=(if d.z2=0\/d.z2=2 then [0] else [])++(if d.z2=1\/d.z2=2 then [1] else [])
def Q6:List Qv->List (List Int)
 | []=>[[]]
 | d::r=>(QaY d).flatMap fun e=>(Q6 r).map (e::·)
noncomputable def ZS (c:Qf) (first:List Int) (rest:List Qv):List (List Int):=((Q6 rest).map (first++·)).filter fun e=>decide (QvH c e)
theorem QnG (c:Qf) (first:List Int) (d:Qv) (r:List Qv):ZS c first (d::r)=(QaY d).flatMap fun e=>ZS c (first++[e]) r:=by
 simp only[ZS,Q6,QMg,List.filter_flatMap,List.map_map];congr 1;funext e;congr 2;grind
def acc {α:Type} (pc:Nat->List α) (i:Nat):List α:=(List.range i).flatMap pc
theorem Qu6 {α:Type} (pc:Nat->List α):acc pc 0=[]:=rfl
theorem Qbw {α:Type} (pc:Nat->List α) (i:Nat):acc pc (i+1)=acc pc i++pc i:=by simp[acc,QLs]
noncomputable def QF2 (c:Qf) (first:List Int) (d:Qv) (r:List Qv) (i:Nat):List (List Int):=if d.z2=i\/d.z2=2 then ZS c (first++[(i:Int)]) r else []
theorem Qqn (d:Qv):(QaY d).length<=2:=by unfold QaY;grind
theorem ZZ {α β:Type} (f:α->List β) (n:Nat):∀ l:List α,(∀ a∈l,(f a).length<=n)->(l.flatMap f).length<=l.length*n
 | [],_=>by simp
 | a::l,h=>by
   have h1:=h a (by simp);have h2:=ZZ f n l fun b hb=>h b (by simp[hb]);simp only[QLx,QKP,QKV,Nat.succ_mul];omega
theorem Qf4 {α:Type} (pc:Nat->List α) (n:Nat) (h:∀ i,(pc i).length<=n) (i:Nat):(acc pc i).length<=i*n:=by
 have:=ZZ pc n (List.range i) fun a _=>h a;simpa[acc] using this
theorem QhM (c:Qf):∀ (rest:List Qv) (first:List Int),(ZS c first rest).length<=2 ^ rest.length
 | [],first=>by
   have:=QK5 (fun e=>decide (QvH c e)) ([[]].map (first++·));simpa[ZS,Q6] using this
 | d::r,first=>by
   rw[QnG];have h1:=ZZ (fun e=>ZS c (first++[e]) r) (2 ^ r.length) (QaY d) fun e _=>QhM c r (first++[e]);have h2:=QLc (2 ^ r.length) (Qqn d);grind
theorem Va {n:Nat} (h:n<=12):2 ^ n<=4096:=QLS (by omega) h
include hK
omit hK
def QJ:List ZC->List (List Int)
 | []=>[[]]
 | l::r=>acc (fun i=>(QJ r).map ((l.lo+(i:Nat))::·)) (l.hi+1-l.lo).toNat
def QX (m:Machine) (first:List Int) (rest:List ZC):List Qd:=(QJ rest).flatMap fun s=>(List.range (m.zw+1-m.zu).toNat).map fun k:Nat=>⟨first++s,m.zu+k⟩
noncomputable def Q3 (m:Machine) (first:List Int) (rest:List ZC):List Qd:=(QX m first rest).filter fun s=>decide (W5 m s)
theorem QdF (m:Machine) (first:List Int) (l:ZC) (r:List ZC):Q3 m first (l::r)=acc (fun i=>Q3 m (first++[l.lo+(i:Nat)]) r) (l.hi+1-l.lo).toNat:=by
 simp only[Q3,QX,QJ,acc,List.flatMap_assoc,List.filter_flatMap];congr 1;funext i;simp[List.flatMap_map]
theorem Qgq (m:Machine):∀ (rest:List ZC) (first:List Int),(∀ l∈rest,1<=YY l)->1<=m.zw-m.zu+1->((Q3 m first rest).length:Int)<=(m.zw-m.zu+1)*Q4 YY rest
 | [],first,_,h=>by
   have:=QK5 (fun s=>decide (W5 m s)) (QX m first []);simp[QX,QJ] at this;simp only[Q3,Q4];simp only[QX,QJ] at this |-
   grind
 | l::r,first,hs,h=>by
   rw[QdF];have ih:=fun e:Int=>Qgq m r (first++[e]) (fun l hl=>hs l (by simp[hl])) h;have hl:=hs l (by simp);have hp:=Qb6 YY r fun l hl=>hs l (by simp[hl]);have hpp:=QLC (a:=m.zw-m.zu+1) (b:=Q4 YY r) (by omega) (by omega);have h1:=Qf4 (fun i=>Q3 m (first++[l.lo+(i:Nat)]) r) ((m.zw-m.zu+1)*Q4 YY r).toNat (fun i=>by grind) (l.hi+1-l.lo).toNat;have e1:((l.hi+1-l.lo).toNat:Int)=YY l:=by unfold YY at *;omega
   have e2:(((m.zw-m.zu+1)*Q4 YY r).toNat:Int)=(m.zw-m.zu+1)*Q4 YY r:=by omega
   have h2:=Int.ofNat_le.2 h1;rw[Int.natCast_mul,e1,e2] at h2;simp only[Q4];grind
noncomputable def QF1 (m:Machine) (first:List Int) (k:Nat):List Qd:=if W5 m ⟨first,m.zu+k⟩ then [⟨first,m.zu+k⟩] else []
include hK
omit hK
noncomputable def QK (p:Qe):List Q7:=(ZS p.zc [] p.zc.za).flatMap fun e=>(Q3 p.zb [] p.zb.zd).map fun s=>⟨e,s⟩
noncomputable def kL (p:Qe) (is:Bool):List Q7:=if OkP p/\is=true then QK p else []
noncomputable def kE (p:Qe) (is:Bool):Int:=if OkP p then (if is=true then (if QK p=[] then 3 else 0) else 1) else 60
theorem QcL {c:Qf} {e:List Int} (h:e∈ZS c [] c.za):QvH c e:=by
 simp only[ZS,QK9,decide_eq_true_eq] at h;exact h.2
theorem J9 {m:Machine} {s:Qd} (h:s∈Q3 m [] m.zd):W5 m s:=by
 simp only[Q3,QK9,decide_eq_true_eq] at h;exact h.2
theorem Qi9 {p:Qe} {t:Q7} (h:t∈QK p):Qfk p t:=by
 simp only[QK,QK6,QKT] at h;obtain ⟨e,he,s,hs,rfl⟩:=h;exact ⟨QcL he,J9 hs⟩
theorem Qfk.fit {p:Qe} {t:Q7} (h:Qfk p t):Fit p t:=⟨by rw[h.1.1.1];omega,h.2.1⟩
theorem QoZ {p:Qe} {t:Q7} (h:t∈QK p):Fit p t:=(Qi9 h).fit
theorem JX {p:Qe} {is:Bool} (h:kE p is=0):OkP p/\is=true/\kL p is=QK p/\QK p≠[]:=by
 unfold kE at h;split at h
 ·rename_i h1;split at h
  ·rename_i h2;split at h
   ·cases h
   rename_i h3;exact ⟨h1,h2,by simp[kL,h1,h2],h3⟩
  cases h
 cases h
theorem QtB {c:Qf} (h:OkC c):(ZS c [] c.za).length<=4096:=QLv (QhM c _ _) (Va h.len)
theorem Qlw {m:Machine} (h:OkM m):((Q3 m [] m.zd).length:Int)<=sets m m.zd.length:=by
 have h1:=h.zx;simp only[inR] at h1;have:=Qgq m m.zd [] (fun l hl=>(h.span hl).1) (by omega)
 rwa [sets,QK0]
include hK
omit hK
structure QJT (p:Qe):Prop where
 small:Qva p
 sets:OkP p->sets p.zb p.zb.zd.length<=1000000
def qN (p:Qe) (link:Int):Bool:=decide (inR link 0 ((VK p.zc.za).length-1))
def Xn (p:Qe) (n:Int):Bool:=decide (inR n 0 (p.zf.length-1))
noncomputable def rProved (p:Qe) (link:Int):Int:=if kE p (qN p link)=0 then X5 ((kL p (qN p link)).countP (Zo p link)) (kL p (qN p link)).length else 0
noncomputable def rCond (p:Qe):Int:=if kE p true=0 then X5 ((kL p true).countP fun t=>decide (p.z6<=(Xt p t:Int))) (kL p true).length else 0
noncomputable def rGood (p:Qe):Int:=if kE p true=0 then X5 ((kL p true).countP (UR p)) (kL p true).length else 0
noncomputable def JQ (p:Qe):Int:=(kL p true).foldl (fun b t=>min b (Qgf p t)) 999999999
noncomputable def VB (p:Qe):Int × Int:=if kE p true=0 then (if JQ p<0 then (0,3) else (JQ p,0)) else (0,kE p true)
def span (l:List Int):Int × Int:=match l with
 | []=>(0,0)
 | a::r=>(r.foldl min a,r.foldl max a)
theorem QbM (l:List Int) (a:Int):span (l++[a])=if l=[] then (a,a) else (min (span l).1 a,max (span l).2 a):=by
 cases l with
 | nil=>rfl
 | cons b r=>simp[span]
noncomputable def rFail (p:Qe):Int × Int:=span ((kL p true).map fun t=>(Xt p t:Int))
noncomputable def QEf (p:Qe):List Int:=if kE p true=0 then acc (fun s:Nat=>if (kL p true).all (QAe p s) then [(s:Int)] else []) 100 else []
noncomputable def Qe3 (p:Qe):List Int:=if kE p true=0 then acc (fun at_:Nat=>if (kL p true).all (fun t=>Zo p ((JB p (QI t.ends)).getD at_ 0) t) then [] else [(at_:Int)]) (Ql p.zc.za).toNat else []
noncomputable def QaB (p:Qe) (n:Int):List Int:=Jw ((kL p (Xn p n)).map fun t=>QM p n.toNat (QI t.ends)) 0 12
include hK
end Go.Pf
namespace Go.Ev
theorem QvF {P:Program} {K:World->Prop} {F:Way->Env->Qm->Prop} {c:AC} {ks ids:List Nat} {k:List AI} {S:Type} (st:S->Env) (so:S->Qm) (I:S->Prop) (μ:S->Nat)
  (h:∀ s,I s->(∀ s',I s'->μ s'<μ s->Xa P K F c ks ids k (st s') (so s'))->Xa P K F c ks ids k (st s) (so s)):∀ s,I s->Xa P K F c ks ids k (st s) (so s):=by
 have:∀ n s,μ s<n->I s->Xa P K F c ks ids k (st s) (so s):=by
  intro n;induction n with
  | _=>grind
 grind
end Go.Ev
namespace Go.Pf
open Go Go.Ev Go.Proofs Go.RowKit Go.Proofs.Tryz
variable {K:World->Prop} (hK:∀ w w',K w->Below w.heap.size w w'->K w')
set_option maxRecDepth 8000
theorem WH:∀ (r:List ZC) (s:List Int),s∈QJ r->s.length=r.length
 | [],s,h=>by simp[QJ] at h;simp[h]
 | l::r,s,h=>by
   simp only[QJ,acc,QK6,QKT] at h;obtain ⟨i,_,x,hx,rfl⟩:=h;simp[WH r x hx]
theorem Qas:∀ (r:List ZC) (s:List Int),s∈QJ r->∀ i (h:i<r.length) (h':i<s.length),inR s[i] r[i].lo r[i].hi
 | [],s,h,i,hi,_=>by simp at hi
 | l::r,s,h,i,hi,hi'=>by
   simp only[QJ,acc,QK6,QKT,QLa] at h;obtain ⟨j,hj,x,hx,rfl⟩:=h;cases i with
   | zero=>simp only[QLF,inR];omega
   | succ i=>simp only[List.getElem_cons_succ];exact Qas r x hx i (by simpa using hi) (by simpa using hi')
theorem QdI {m:Machine} {s:Qd} (h:s∈QX m [] m.zd):okS m s:=by
 simp only[QX,QK6,QKT,QLa,QLm] at h;obtain ⟨x,hx,k,hk,rfl⟩:=h;exact ⟨WH _ _ hx,by simp only[inR];omega,Qas _ _ hx⟩
theorem Qat (m:Machine) (first:List Int) (l:ZC) (r:List ZC):QX m first (l::r)=acc (fun i=>QX m (first++[l.lo+(i:Nat)]) r) (l.hi+1-l.lo).toNat:=by
 simp only[QX,QJ,acc,List.flatMap_assoc];congr 1;funext i;simp[List.flatMap_map]
def QgZ (m:Machine) (first:List Int) (k:Nat):List Qd:=[⟨first,m.zu+k⟩]
theorem QbO (m:Machine) (first:List Int):QX m first []=acc (QgZ m first) (m.zw+1-m.zu).toNat:=by
 simp only[QX,QJ,acc,QLx,List.flatMap_nil,QLY];generalize (m.zw+1-m.zu).toNat=n;induction n with
 | zero=>rfl
 | succ n ih=>rw[QLs,QK3,ih,QMs];rfl
noncomputable def tL (m:Machine) (is:Bool):List Qd:=if OkM m/\is=true then Q3 m [] m.zd else []
noncomputable def tE (m:Machine) (is:Bool):Int:=if OkM m then (if is=true then (if Q3 m [] m.zd=[] then 3 else 0) else 1) else 30
theorem QD8 {m:Machine} {is:Bool} {s:Qd} (h:s∈tL m is):OkM m/\is=true/\okS m s:=by
 unfold tL at h;split at h
 ·rename_i h1;exact ⟨h1.1,h1.2,(J9 h).1⟩
 cases h
def qr (w mn load:Int):Bool:=decide (inR w 0 9999/\inR mn 0 99/\inR load 0 999999999)
def Qcl (m:Machine) (w mn:Int) (s:Qd):Int:=(num m s w mn).tdiv (den s)
def upS (m:Machine) (w mn:Int) (s:Qd):Int:=(num m s w mn+den s-1).tdiv (den s)
noncomputable def JR (m:Machine) (w mn:Int):Int × Int:=((span ((tL m (qr w mn 0)).map (Qcl m w mn))).1,(span ((tL m (qr w mn 0)).map (upS m w mn))).2)
include hK
def Xk (m:Machine) (l:List Qd) (w mn load:Int):Prop:=∀ s∈l,load*den s<=num m s w mn
omit hK
noncomputable def VD (m:Machine) (l:List Qd) (mn load:Int):Int:=open Classical in ((List.range 10000).findIdx fun (n:Nat)=>decide (Xk m l n mn load):Nat)
theorem Qhg {m:Machine} {l:List Qd} {mn load r:Int} (h0:0<=r/\r<=10000) (h1:r<=9999->Xk m l r mn load) (h2:∀ w,0<=w->w<r->¬ Xk m l w mn load):VD m l mn load=r:=by
 classical
 unfold VD;have hp:∀ n:Nat,n<10000->((List.range 10000).findIdx fun (n:Nat)=>decide (Xk m l n mn load))<=n\/¬ Xk m l n mn load:=by
  intro n hn;by_cases h:Xk m l n mn load
  ·left;apply QLW.1;intro xa;have:=List.not_of_lt_findIdx xa;simp[h] at this
  exact .inr h
 have hl:((List.range 10000).findIdx fun (n:Nat)=>decide (Xk m l n mn load))<=10000:=by
  have:=List.findIdx_le_length (p:=fun (n:Nat)=>decide (Xk m l n mn load)) (xs:=List.range 10000);simpa using this
 have hg:((List.range 10000).findIdx fun (n:Nat)=>decide (Xk m l n mn load))<10000->Xk m l (((List.range 10000).findIdx fun (n:Nat)=>decide (Xk m l n mn load)):Nat) mn load:=by
  intro xa;have:=List.findIdx_getElem (p:=fun (n:Nat)=>decide (Xk m l n mn load)) (xs:=List.range 10000) (w:=by simpa using xa);simpa using this
 generalize ((List.range 10000).findIdx fun (n:Nat)=>decide (Xk m l n mn load))=q at *
 rcases Int.lt_trichotomy (q:Int) r with h | h | h
 ·grind
 ·exact h
 ·have hr:=h1 (by omega);rcases hp r.toNat (by omega) with h3 | h3
  all_goals grind
noncomputable def JA (m:Machine) (mn load:Int):Int × Int:=if tE m (qr 0 mn load)=0 then (if 9999<VD m (tL m (qr 0 mn load)) mn load then (0,3) else (VD m (tL m (qr 0 mn load)) mn load,0)) else (0,tE m (qr 0 mn load))
theorem Qwq {m:Machine} {is:Bool} (h:tE m is=0):OkM m/\is=true/\tL m is=Q3 m [] m.zd/\Q3 m [] m.zd≠[]:=by
 unfold tE at h;split at h
 ·rename_i h1;split at h
  ·rename_i h2;split at h
   ·cases h
   rename_i h3;exact ⟨h1,h2,by simp[tL,h1,h2],h3⟩
  cases h
 cases h
include hK
omit hK
@[simp] def stC (s:List Int) (zx below:Int):List IV:=[.int .i64 (s.getD 0 0),.int .i64 (s.getD 1 0),.int .i64 (s.getD 2 0),.int .i64 zx,.int .i64 below]
@[simp] def wkC (m:Machine):List IV:=[Zt m.zd,.int .i64 m.zr,.int .i64 m.zu,.int .i64 m.zw,J1 m.zk,.int .i64 m.zh,.int .i64 (VG m)]
def Zu {α:Type} (pc:Nat->List α):Nat->Nat->List α
 | _,0=>[]
 | i,k+1=>pc i++Zu pc (i+1) k
theorem Qc6 {α:Type} (pc:Nat->List α):∀ k i,acc pc i++Zu pc i k=acc pc (i+k)
 | 0,i=>by simp[Zu]
 | k+1,i=>by
   have:=Qc6 pc k (i+1);rw[Qbw] at this;have e:i+(k+1)=i+1+k:=by omega
   rw[Zu,<- QK8,this,e]
theorem Vy {α:Type} (pc:Nat->List α) (n:Nat):acc pc n=Zu pc 0 n:=by
 have:=Qc6 pc n 0;simp only[Qu6,QLm,QKY] at this;exact this.symm
def qR (m:Machine) (s:Qd):List IV:=[.agg (stC s.zy s.zx (den s)),.int .i64 (ZT m m.zk s)]
include hK
theorem Qjz (m:Machine) (s:Qd) (w mn:Int) (hm:OkM m) (hl:inR s.zx m.zu m.zw) (hw:inR w 0 9999) (hmn:inR mn 0 99):Gd K 197 [.ptr (wkC m),.agg (stC s.zy s.zx (den s)),.int .i64 w,.int .i64 mn] (.int .i64 (Wc m s.zx w mn)):=by
 refine Qb hK (fk func197 QII (by kernel_rfl)) (by simp) ?_;have hp:=hm.zq hl hw hmn;have h3:=hm.zr;simp only[inR] at h3 hw;have e0:(w+if mn*s.zx<m.zr then m.zr-mn*s.zx else 0)=Wc m s.zx w mn:=by
  simp only[Wc];split<;>omega
 simp[e0];omega
theorem Qya (m:Machine) (hm:OkM m):Gd K 274 [maV m] (.ptr (wkC m)):=by
 refine Qb hK (fk func274 QHB (by kernel_rfl)) (by simp) ?_;have hl:=hm.len;simp
 (repeat' first|omega|with_reducible apply And.intro|intro)
 refine Qi (fun i=>[(3,AV.loc 8 0),(10,AV.iv (Zt m.zd)),(11,AV.iv (.int .i64 m.zd.length)),(12,AV.iv (IV.int IntKind.i64 (i:Nat)))])
  (fun i=>[(8,AO.box [.iv (Zt m.zd),.iv (.int .i64 m.zr),.iv (.int .i64 m.zu),.iv (.int .i64 m.zw),.iv (J1 m.zk),.iv (.int .i64 m.zh),.iv (.int .i64 (Q4 (·.long) (m.zd.take i)))])]) m.zd.length (fun i=>True) trivial ?_ ?_
 ·intro _;rw[Qa Qkz.eq_1];rw[QK0];simp[VG]
 ·intro i hi _ ih;have l1:=hm.longs (i+1);rw[QdQ _ _ _ hi] at ih l1;rw[Qa Qkz.eq_1];simp[hi] at ih l1 |-
  grind
theorem Qxy (m:Machine) (s:Qd) (b:ZD) (hm:OkM m) (hs:okS m s) (hb:b∈m.zk):Gd K 383 [.ptr (wkC m),.agg (stC s.zy s.zx (den s)),.agg (baC b)] (.bool (QdO m s b)):=by
 refine Qb hK (fk func383 QGE (by kernel_rfl)) (by simp) ?_;have h:=hm.bal hb;simp;refine cK (Qjz hK m s b.zm b.zn hm hs.2.1 h.1 h.2.1) ?_;have h1:=hm.numB hs h.1 h.2.1;have h2:=hm.denB hs;have h3:=h.2.2;simp only[inR] at h3;have h4:=QLz h3.1.2 h2.2 (by omega) (by omega);have h5:=QLC h3.1.1 (Int.le_trans (by omega) h2.1);have hr:QdO m s b=decide (num m s b.zm b.zn-b.load*den s<=b.off*den s /\ -(num m s b.zm b.zn-b.load*den s)<=b.off*den s):=rfl;have hnum:Wc m s.zx b.zm b.zn*VG m=num m s b.zm b.zn:=rfl;rw[hr];simp[hnum];have key:∀ d:Int,0<=d->(d<=b.off*den s↔(d.tdiv (den s)<b.off\/(d.tdiv (den s)=b.off/\d.tmod (den s)=0))):=fun d hd=>by
  rw[QLe hd,Int.tmod_eq_emod_of_nonneg hd];have e1:=Int.emod_def d (den s);have e2:=Int.emod_nonneg d (b:=den s) (by omega);have e3:=Int.emod_lt_of_pos d (b:=den s) (by omega);constructor
  ·intro hle;have h6:d / den s<=b.off:=by
    have:=Int.ediv_le_ediv (c:=den s) (by omega) hle
    rwa [Int.mul_ediv_cancel _ (by omega)] at this
   grind
  rintro (h7 | ⟨h7,h8⟩)
  ·have h9:(d / den s+1)*den s<=b.off*den s:=QLE (by omega) (by omega);grind
  grind
 have hd0:¬ den s=0:=by omega
 generalize num m s b.zm b.zn=N at *;generalize b.load*den s=L at *;have hD : -1000000000000000000<=N-L/\N-L<=1000000000000000000:=by omega
 generalize hDe:N-L=D at *;have hO:=QLC h3.2.1 (show 0<=den s by omega);by_cases hneg:D<0
 ·have hk:=key (-D) (by omega);have htd:=QbI (a := -D) (b:=den s) (by omega) h2.1;have ht2:=Int.tmod_nonneg (den s) (a := -D) (by omega);generalize b.off*den s=O at *;rw[Int.neg_tdiv] at htd hk;rw[Int.neg_tmod] at ht2 hk;grind
 ·have hk:=key D (by omega);have htd:=QbI (a:=D) (b:=den s) (by omega) h2.1;grind
theorem Qhl (m:Machine) (hm:OkM m) (first:List Int) (leak0:Int) (hlen:first.length=m.zd.length) (hr:∀ i (h:i<m.zd.length) (h':i<first.length),inR first[i] m.zd[i].lo m.zd[i].hi) :
  qu prog K 342 [.ptr (wkC m),.agg (stC first leak0 (Q4 id first)),.int .i64 first.length] [] ((QX m first []).map (qR m)) (fun b=>.bool b):=by
 intro s b s' hf;refine Qy Qrf (by simp) hf.v rfl ?_;rw[QbO,Vy] at hf;have hlk:=hm.zx;have hlh:=hm.zw;simp only[inR] at hlk;simp[hlen]
 (repeat' first|omega|with_reducible apply And.intro|intro)
 have e0:AV.iv (IV.int .i64 m.zu)=AV.iv (.int .i64 (m.zu+((0:Nat):Int))):=by simp
 refine Xd (m.zw+1-m.zu).toNat (fun i e o=>∃ si,e=[(0,AV.iv (.ptr (wkC m))),(3,AV.cb 0),(5,AV.loc 5 0)]/\o=[(0,.ext si),(5,.box [.iv (.int .i64 (first.getD 0 0)),.iv (.int .i64 (first.getD 1 0)),.iv (.int .i64 (first.getD 2 0)),.iv (.int .i64 (m.zu+(i:Nat))),.iv (.int .i64 (Q4 id first))])] /\
  Q9 prog K ((Zu (QgZ m first) i ((m.zw+1-m.zu).toNat-i)).map (qR m)) si b s') ?_ ?_ _ _ ⟨s,rfl,by simp,by simpa using hf⟩
 ·rintro e o ⟨si,rfl,rfl,hfd⟩;have q1:m.zu+((m.zw+1-m.zu).toNat:Int)=m.zw+1:=by omega
  have q2:¬ m.zw+1<=m.zw:=by omega
  rw[QL7] at hfd;cases hfd;rw[q1,Qa Qke.eq_1];simp[q2]
 ·rintro i e o hi ⟨si,rfl,rfl,hfd⟩ ih;have q1:m.zu+(i:Int)<=m.zw:=by omega
  have q3:m.zu+((i:Int)+1)=m.zu+i+1:=by omega
  have hos:okS m ⟨first,m.zu+i⟩:=⟨hlen,by simp only[inR];omega,hr⟩;have e1:(m.zw+1-m.zu).toNat-i=((m.zw+1-m.zu).toNat-(i+1))+1:=by omega
  rw[e1] at hfd;simp only[Zu,QgZ,QK3,QKZ,QL8,List.singleton_append] at hfd;have hbl:=hm.blen;rw[Qa Qke.eq_1];simp[q1]
  (repeat' first|omega|with_reducible apply And.intro|intro)
  refine Qi (fun k=>[(0,AV.iv (.ptr (wkC m))),(3,AV.cb 0),(5,AV.loc 5 0),(11,AV.iv (IV.int IntKind.i64 (ZT m (m.zk.take k) ⟨first,m.zu+i⟩:Nat))),(87,AV.iv (J1 m.zk)),(88,AV.iv (.int .i64 m.zk.length)),(89,AV.iv (IV.int IntKind.i64 (k:Nat)))])
   (fun k=>[(0,.ext si),(5,.box [.iv (.int .i64 (first.getD 0 0)),.iv (.int .i64 (first.getD 1 0)),.iv (.int .i64 (first.getD 2 0)),.iv (.int .i64 (m.zu+(i:Nat))),.iv (.int .i64 (Q4 id first))])]) m.zk.length (fun i=>True) trivial ?_ ?_
  ·intro _;rw[Qa Qkf.eq_1];simp;have hit:qR m ⟨first,m.zu+i⟩=[.agg (stC first (m.zu+i) (Q4 id first)),.int .i64 (ZT m m.zk ⟨first,m.zu+i⟩)]:=rfl;rw[hit] at hfd;cases hfd with
   | stop _ _ _ _ hg =>
     refine QR (by simpa using hg) rfl ?_;simp
   | next _ _ _ s1 _ _ hg hr2 =>
     refine QR (by simpa using hg) rfl ?_;simp
     (repeat' first|omega|with_reducible apply And.intro|intro)
     exact ih _ _ ⟨s1,rfl,by simp[q3],hr2⟩
  ·intro k hk _ ih2;have hle:=QmR m (m.zk.take k) ⟨first,m.zu+i⟩;simp at hle;rw[Qa Qkf.eq_1];rw[Qf9 _ _ _ _ hk] at ih2;simp[hk] at ih2 |-;have hg:=Qxy hK m ⟨first,m.zu+i⟩ m.zk[k] hm hos (QKL hk);refine cK (by simpa[den] using hg) ?_;cases hrr:QdO m ⟨first,m.zu+i⟩ m.zk[k]
   ·simp[hrr] at ih2 |-
    grind
   ·simp[hrr] at ih2 |-
    grind
theorem Qo6 (m:Machine) (hm:OkM m):∀ (n:Nat) (first:List Int),first.length+n=m.zd.length->(∀ i (h:i<m.zd.length) (h':i<first.length),inR first[i] m.zd[i].lo m.zd[i].hi) ->
  qu prog K 342 [.ptr (wkC m),.agg (stC first 0 (Q4 id first)),.int .i64 first.length] [] ((QX m first (m.zd.drop first.length)).map (qR m)) (fun b=>.bool b)
 | 0,first,hn,hr=>by
   have e1:m.zd.drop first.length=[]:=QLu (by omega)
   rw[e1];exact Qhl hK m hm first 0 (by omega) hr
 | n+1,first,hn,hr=>by
   have ihn:=Qo6 m hm n;have xa:first.length<m.zd.length:=by omega
   have hl3:=hm.len;have e1:m.zd.drop first.length=m.zd[first.length]::m.zd.drop (first.length+1):=QLg xa
   have hlv:=hm.lever (QKL xa);rw[e1,Qat];have hpb:∀ x:Int,inR x m.zd[first.length].lo m.zd[first.length].hi->1<=Q4 id (first++[x])/\Q4 id (first++[x])<=1000000000:=fun x hx=>by
    refine Qb7 _ _ (fun a ha=>?_) (by simp;omega);simp only[inR] at hx;rcases QK2.1 ha with ha | ha
    ·obtain ⟨k,hk,rfl⟩:=QLh ha;have h1:=hr k (by omega) hk;have h2:=hm.lever (QKL (show k<m.zd.length by omega));simp only[inR,id] at *;omega
    grind
   have ih2:∀ i:Nat,m.zd[first.length].lo+(i:Int)<=m.zd[first.length].hi->qu prog K 342 [.ptr (wkC m),.agg (stC (first++[m.zd[first.length].lo+(i:Int)]) 0 (Q4 id (first++[m.zd[first.length].lo+(i:Int)]))),.int .i64 (first.length+1:Nat)] []
     (((fun i:Nat=>QX m (first++[m.zd[first.length].lo+(i:Nat)]) (m.zd.drop (first.length+1))) i).map (qR m)) (fun b=>.bool b):=fun i hi=>by
    have:=ihn (first++[m.zd[first.length].lo+(i:Int)]) (by simp;omega) (fun k h h'=>by
     rcases QLU k first.length with hk | hk
     ·grind
     have:k=first.length:=by simp at h';omega
     subst this;simp only[List.getElem_append_right (QKJ _),QL7,QLF,inR];omega)
    grind
   generalize (fun i:Nat=>QX m (first++[m.zd[first.length].lo+(i:Nat)]) (m.zd.drop (first.length+1)))=pc at *
   intro s b s' hf;refine Qy Qrf (by simp) hf.v rfl ?_;rw[Vy] at hf;have hlt':(first.length:Int)<m.zd.length:=by omega
   simp[xa]
   (repeat' first|omega|with_reducible apply And.intro|intro)
   refine Xd (m.zd[first.length].hi+1-m.zd[first.length].lo).toNat (fun i e o=>∃ si,e=[(0,AV.iv (.ptr (wkC m))),(2,AV.iv (IV.int IntKind.i64 (first.length:Nat))),(3,AV.cb 0),(5,AV.loc 5 0),(9,AV.iv (.int .i64 (m.zd[first.length].lo+(i:Nat))))] /\
    o=[(0,.ext si),(5,.box [.iv (.int .i64 (first.getD 0 0)),.iv (.int .i64 (first.getD 1 0)),.iv (.int .i64 (first.getD 2 0)),.iv (.int .i64 0),.iv (.int .i64 (Q4 id first))])] /\
    Q9 prog K ((Zu pc i ((m.zd[first.length].hi+1-m.zd[first.length].lo).toNat-i)).map (qR m)) si b s') ?_ ?_ _ _ ⟨s,by simp,by simp,by simpa using hf⟩
   ·rintro e o ⟨si,rfl,rfl,hfd⟩;have q1:m.zd[first.length].lo+((m.zd[first.length].hi+1-m.zd[first.length].lo).toNat:Int)=m.zd[first.length].hi+1:=by omega
    have q2:¬ m.zd[first.length].hi+1<=m.zd[first.length].hi:=by omega
    rw[QL7] at hfd;cases hfd;rw[q1,Qa Qkg.eq_1];simp[xa,q2]
   ·rintro i e o hi ⟨si,rfl,rfl,hfd⟩ ih;have q1:m.zd[first.length].lo+(i:Int)<=m.zd[first.length].hi:=by omega
    have q3:m.zd[first.length].lo+((i:Int)+1)=m.zd[first.length].lo+i+1:=by omega
    have e1:(m.zd[first.length].hi+1-m.zd[first.length].lo).toNat-i=((m.zd[first.length].hi+1-m.zd[first.length].lo).toNat-(i+1))+1:=by omega
    rw[e1] at hfd;simp only[Zu,QK3] at hfd;have hg:=ih2 i q1;have hb:=hpb (m.zd[first.length].lo+(i:Int)) (by simp only[inR];omega);have hpr:Q4 id (first++[m.zd[first.length].lo+(i:Int)])=Q4 id first*(m.zd[first.length].lo+(i:Int)):=QgX _ _ _
    rw[hpr] at hg hb;rw[Qa Qkg.eq_1];have hcase:(∃ s1 b1,Q9 prog K ((pc i).map (qR m)) si b1 s1/\(b1=true->Q9 prog K ((Zu pc (i+1) ((m.zd[first.length].hi+1-m.zd[first.length].lo).toNat-(i+1))).map (qR m)) s1 b s')/\(b1=false->b=false/\s1=s')):=by
     rcases Q9.append hfd with ⟨s1,h1,h2⟩ | ⟨h1,h2⟩
     all_goals grind
    obtain ⟨s1,b1,f1,f2,f3⟩:=hcase;have hgx:=hg _ _ _ f1;have hfl:first=[]\/(∃ a,first=[a])\/∃ a c,first=[a,c]:=by
     match first,xa,hl3 with
     | [],_,_=>exact .inl rfl
     | [a],_,_=>grind
     | [a,c],_,_=>grind
     | _::_::_::_,h,h'=>simp at h;omega
    rcases hfl with rfl | ⟨a,rfl⟩ | ⟨a,c,rfl⟩
    all_goals
     try simp only[QK4,QKV,QKY,Nat.reduceAdd] at xa
     try simp only[QK4,QKV,QKY,Nat.reduceAdd] at q1
     try simp only[QK4,QKV,QKY,Nat.reduceAdd] at q3
     try simp only[QK4,QKV,QKY,Nat.reduceAdd] at hb
     try simp only[QK4,QKV,QKY,Nat.reduceAdd] at hgx
     try simp only[QK4,QKV,QKY,Nat.reduceAdd] at ih
     try simp only[QK4,QKV,QKY,Nat.reduceAdd] at f2
     try simp only[QK4,QKV,QKY,Nat.reduceAdd] at hlt'
     try simp only[QK4,QKV,QKY,Nat.reduceAdd] at hlv
     try simp only[QK4,QKV,QKY,Nat.reduceAdd]
     simp[q1,xa]
     (repeat' first|omega|with_reducible apply And.intro|intro)
     refine Zg (by simpa using hgx) rfl ?_;cases b1
     ·obtain ⟨rfl,rfl⟩:=f3 rfl;simp
     ·simp
      (repeat' first|omega|with_reducible apply And.intro|intro)
      exact ih _ _ ⟨s1,by simp[q3],by simp,f2 rfl⟩
omit hK
section
variable {K:World->Prop}
def stI (s:Qd):List IV:=[.agg (stC s.zy s.zx (den s))]
theorem QbW {m:Machine} {ks:Env} (hks:Q5 [2,3] [0,3] ks=[(2,.iv (.ptr [.ptr (wkC m)])),(3,.loc 3 0)]) :
  ∀ (Ls:List Qd) (s:Ext) (b:Bool) (s':Ext),Q9 prog K ((Ls.filter fun t=>decide ((ZT m m.zk t:Int)<=m.zh)).map stI) s b s' ->
   ∃ wy,(wy=.fall\/wy=.ret)/\VI prog K [8,9] qp QcX [2,3] [0,3] (Q5 [2,3] [0,3] ks) (Ls.map (qR m)) [(0,.ext s),(3,.box [.cb 0])] wy [(0,.ext s'),(3,.box [.cb 0])]
 | [],s,b,s',h=>by
   cases h;exact ⟨.fall,.inl rfl,.nil _⟩
 | t::Ls,s,b,s',h=>by
   by_cases ht:(ZT m m.zk t:Int)<=m.zh
   ·rw[QLQ (by simpa using ht)] at h;cases h with
    | stop _ _ _ _ hg =>
      refine ⟨.ret,.inr rfl,.stop _ _ _ _ _ (by simp) ?_⟩;rw[hks];refine ⟨rfl,?_⟩;simp[qR,qp,QcX,ht];refine QR (by simpa[stI] using hg) rfl ?_;simp
    | next _ _ _ s1 _ _ hg hr =>
      obtain ⟨wy,h1,h2⟩:=QbW hks Ls s1 b s' hr;refine ⟨wy,h1,.next _ _ _ _ _ _ ?_ h2⟩;rw[hks];refine ⟨rfl,?_⟩;simp[qR,qp,QcX,ht];refine QR (by simpa[stI] using hg) rfl ?_;simp
   ·rw[QLR (by simpa using ht)] at h;obtain ⟨wy,h1,h2⟩:=QbW hks Ls s b s' h;refine ⟨wy,h1,.next _ _ _ _ _ _ ?_ h2⟩;rw[hks];refine ⟨rfl,?_⟩;simp[qR,qp,QcX,ht]
theorem Qgr (m:Machine):Q3 m [] m.zd=(QX m [] m.zd).filter fun t=>decide ((ZT m m.zk t:Int)<=m.zh):=by
 unfold Q3;refine List.filter_congr fun s hs=>?_;have:=QdI hs;simp[W5,this]
end
include hK
theorem Qxb (m:Machine) (hm:OkM m):qv prog K 275 [.ptr (wkC m)] [] ((QX m [] m.zd).map (qR m)):=by
 intro s b s' hf;have h:=Qo6 hK m hm m.zd.length [] (by simp) (fun i h h'=>by simp at h');simp only[QK4,List.drop_zero] at h;have hgx:=h _ _ _ hf;refine Qy (fk func275 QHA (by kernel_rfl)) (by simp) hf.v rfl ?_;simp;refine Zg (by simpa[Q4] using hgx) rfl ?_;simp
theorem Qcw (m:Machine) (hm:OkM m):qv prog K 196 [.ptr (wkC m)] [] ((Q3 m [] m.zd).map stI):=by
 intro s b s' hfd;refine Qy (fk func196 QIJ (by kernel_rfl)) (by simp) hfd.v rfl ?_;rw[Qgr] at hfd;obtain ⟨wy,h1,h2⟩:=QbW (m:=m) (ks:=[(2,.iv (.ptr [.ptr (wkC m)])),(3,.loc 3 0)]) rfl (QX m [] m.zd) s b s' hfd;simp;refine QS (wy:=wy) (o':=[(0,.ext s'),(3,.box [.cb 0])]) rfl (by kernel_rfl) (Qxb hK m hm) (by simpa using h2) ?_;rcases h1 with rfl | rfl<;>simp
theorem QjB (m:Machine) (is:Bool) (hl:m.zd.length<=1000) (hb:m.zk.length<=1000):Gd K 194 [maV m,.bool is] (.xd [if tE m is=0 then .ptr (wkC m) else .nilp,.int .i64 (tE m is)]):=by
 refine Qb hK (fk func194 QIL (by kernel_rfl)) (by simp) ?_;simp;refine cK (QpO hK m hl hb) ?_;by_cases h1:OkM m
 ·cases is
  ·simp[h1,tE]
  simp[h1];refine cK (Qya hK m h1) ?_;simp;cases hL:Q3 m [] m.zd with
  | nil =>
    refine QS (wy:=.fall) (o':=[(4,.box [.iv .nilp]),(5,.box [.iv (.int .i64 0)]),(7,.box [.iv (.ptr (wkC m))])]) rfl (by kernel_rfl) (Qcw hK m h1) (by rw[hL];simpa using VI.nil _) ?_;simp[tE,h1,hL]
  | cons a r =>
    refine QS (wy:=.ret) (o':=[(4,.box [.iv (.ptr (wkC m))]),(5,.box [.iv (.int .i64 0)]),(7,.box [.iv (.ptr (wkC m))])]) rfl (by kernel_rfl) (Qcw hK m h1) (by
     rw[hL];refine .stop _ _ _ _ _ (by simp) ?_;refine ⟨rfl,?_⟩;simp[stI,QmH,Qrv]) ?_
    simp[tE,h1,hL]
 ·simp[h1,tE]
theorem QxH (m:Machine) (hl:m.zd.length<=1000) (hb:m.zk.length<=1000) (hs:OkM m->sets m m.zd.length<=1000000):Gd K 347 [maV m] (.xd [.int .i64 (tL m true).length,.int .i64 (tE m true)]):=by
 refine Qb hK (fk func347 QGQ (by kernel_rfl)) (by simp) ?_;simp;refine cK (QjB hK m true hl hb) ?_;by_cases he:tE m true=0
 ·obtain ⟨hm,_,htl,hne⟩:=Qwq he;have hln:=Qlw hm;have hln2:=hs hm;simp[he,htl];refine QS (wy:=.fall) (o':=[(2,.box [.iv (.int .i64 ((Q3 m [] m.zd).length:Nat))])]) rfl (by kernel_rfl) (Qcw hK m hm) ?_ ?_
  ·have:=VI.all (P:=prog) (K:=K) (ps:=[15]) (asn:=QfO) (body:=Qka) (ks:=[2]) (ids:=[2]) (eK:=[(2,.loc 2 0)]) ((Q3 m [] m.zd).map stI) (fun i=>[(2,.box [.iv (.int .i64 (i:Int))])]) fun i x hi=>by
    simp only[QKN,QKK] at hi;obtain ⟨y,hy,rfl⟩:=hi;have xa:=(QKG.1 hy).1;refine ⟨rfl,?_⟩;simp[stI,QfO,Qka];omega
   simpa using this
  simp
 ·have:tL m true=[]:=by
   unfold tE at he;unfold tL;grind
  simp[he,this]
omit hK
@[simp] theorem QDr:span []=(0,0):=rfl
theorem QAM {m:Machine} {is:Bool} (h:¬ tE m is=0):tL m is=[]:=by
 unfold tE at h;unfold tL;grind
def Qi8 (m:Machine) (mn load:Int) (s:Qd):Int:=(load*den s+VG m-1).tdiv (VG m)-Wc m s.zx 0 mn
def UO (m:Machine) (mn load:Int) (l:List Qd):Int:=l.foldl (fun b s=>max b (Qi8 m mn load s)) 0
theorem Qst (m:Machine) (mn load:Int) (l:List Qd) (w:Int) (hw:0<=w):UO m mn load l<=w↔∀ s∈l,Qi8 m mn load s<=w:=by
 have:∀ (l:List Qd) (b:Int),(l.foldl (fun b s=>max b (Qi8 m mn load s)) b<=w↔b<=w/\∀ s∈l,Qi8 m mn load s<=w):=by
  intro l;induction l with
  | _=>grind
 have h:=this l 0;simpa[UO,hw] using h
theorem QaG (m:Machine) (mn load:Int) (l:List Qd):0<=UO m mn load l:=by
 have:∀ (l:List Qd) (b:Int),b<=l.foldl (fun b s=>max b (Qi8 m mn load s)) b:=by
  intro l;induction l with
  | _=>grind
 exact this l 0
theorem Ql1 {m:Machine} (hm:OkM m) {s:Qd} (hs:okS m s) {mn load w:Int} (hmn:inR mn 0 99) (hld:inR load 0 999999999):Qi8 m mn load s<=w↔load*den s<=num m s w mn:=by
 have ha:=hm.aboveB;have hd:=hm.denB hs;simp only[inR] at hld;have hn:=QLC hld.1 (Int.le_trans (by omega) hd.1);have e1:num m s w mn=(w+Wc m s.zx 0 mn)*VG m:=by
  unfold num Wc;congr 1;omega
 unfold Qi8;rw[e1,QLe (by omega)];generalize Wc m s.zx 0 mn=r;generalize load*den s=N at *;generalize VG m=A at *;have e2:=Int.emod_def (N+A-1) A;have e3:=Int.emod_nonneg (N+A-1) (b:=A) (by omega);have e4:=Int.emod_lt_of_pos (N+A-1) (b:=A) (by omega);generalize (N+A-1) / A=Q at *;constructor
 ·intro h;have h1:Q*A<=(w+r)*A:=QLE (by omega) (by omega);grind
 ·intro h;apply Int.not_lt.1;intro xa;have h1:(w+r+1)*A<=Q*A:=QLE (by omega) (by omega);grind
theorem Qi0 {m:Machine} (hm:OkM m) {l:List Qd} (hs:∀ s∈l,okS m s) {mn load:Int} (hmn:inR mn 0 99) (hld:inR load 0 999999999):VD m l mn load=min (UO m mn load l) 10000:=by
 have h0:=QaG m mn load l;have xc:∀ w,0<=w->(Xk m l w mn load↔UO m mn load l<=w):=fun w hw=>by
  rw[Qst m mn load l w hw];exact ⟨fun h s hsl=>(Ql1 hm (hs s hsl) hmn hld).2 (h s hsl),fun h s hsl=>(Ql1 hm (hs s hsl) hmn hld).1 (h s hsl)⟩
 refine Qhg (by omega) (fun h=>(xc _ (by omega)).2 (by omega)) (fun w h1 h2=>fun c=>?_);grind
include hK
theorem QpV (m:Machine) (w mn:Int) (hl:m.zd.length<=1000) (hb:m.zk.length<=1000):Gd K 109 [maV m,.int .i64 w,.int .i64 mn] (.xd [.agg [.int .i64 (JR m w mn).1,.int .i64 (JR m w mn).2],.int .i64 (tE m (qr w mn 0))]):=by
 refine Qb hK (fk func109 QJK (by kernel_rfl)) (by simp) ?_;simp;refine cK (QjA hK w mn 0) ?_;have hask:decide (inR w 0 9999/\inR mn 0 99/\inR 0 0 999999999)=qr w mn 0:=rfl;rw[hask];simp;refine cK (QjB hK m (qr w mn 0) hl hb) ?_;unfold JR;by_cases he:tE m (qr w mn 0)=0;rotate_left
 ·have:=QAM he;simp[he,this]
 ·obtain ⟨hm,ha,htl,hne⟩:=Qwq he;have ha:=of_decide_eq_true ha;rw[htl];simp[he];refine QS (wy:=.fall) (o':=[(6,.box [.iv (.int .i64 0),.iv (.int .i64 0)]),(8,.box [.iv (.ptr (wkC m))]),(10,.box [.iv (.int .i64 (span ((Q3 m [] m.zd).map (Qcl m w mn))).1),.iv (.int .i64 (span ((Q3 m [] m.zd).map (upS m w mn))).2)]),(11,.box [.iv (.bool (decide ((Q3 m [] m.zd).length=0)))])]) rfl (by kernel_rfl) (Qcw hK m hm) ?_ ?_
  ·have hok:∀ s∈Q3 m [] m.zd,okS m s:=fun s h=>(J9 h).1;generalize Q3 m [] m.zd=l at *
   have:=VI.all (P:=prog) (K:=K) (ps:=[30]) (asn:=Qbs) (body:=Qf1) (ks:=[4,5,6,8,10,11]) (ids:=[6,8,10,11]) (eK:=[(4,.iv (.ptr [.int .i64 w])),(5,.iv (.ptr [.int .i64 mn])),(6,.loc 6 0),(8,.loc 8 0),(10,.loc 10 0),(11,.loc 11 0)]) (l.map stI)
    (fun i=>[(6,.box [.iv (.int .i64 0),.iv (.int .i64 0)]),(8,.box [.iv (.ptr (wkC m))]),(10,.box [.iv (.int .i64 (span ((l.take i).map (Qcl m w mn))).1),.iv (.int .i64 (span ((l.take i).map (upS m w mn))).2)]),(11,.box [.iv (.bool (decide (i=0)))])]) fun i x hi=>by
    simp only[QKN,QKK] at hi;obtain ⟨y,hy,rfl⟩:=hi;obtain ⟨xa,rfl⟩:=QKG.1 hy;have hsi:=hok _ (QKL xa);have hn:=hm.numB hsi ha.1 ha.2.1;have hd:=hm.denB hsi;have td1:=QbI hn.1 hd.1;have td2:=QbI (a:=num m l[i] w mn+den l[i]-1) (b:=den l[i]) (by omega) (by omega);have hd0:¬ den l[i]=0:=by omega
    have hlow:Qcl m w mn l[i]=(num m l[i] w mn).tdiv (den l[i]):=rfl;have hup:upS m w mn l[i]=(num m l[i] w mn+den l[i]-1).tdiv (den l[i]):=rfl;have hnum:Wc m l[i].zx w mn*VG m=num m l[i] w mn:=rfl;rw[QKH xa,QK3,QMj,QbM,QK3,QMj,QbM];refine ⟨rfl,?_⟩;have hg:=Qjz hK m l[i] w mn hm hsi.2.1 ha.1 ha.2.1;by_cases h0:i=0
    ·subst h0;simp[stI,Qbs,Qf1];refine cK (by simpa using hg) ?_;simp[hnum,hd0,hlow,hup];omega
    have hne1:¬ (l.take i).map (Qcl m w mn)=[]:=by
     intro c;have hli:((l.take i).map (Qcl m w mn)).length=i:=by simp;omega
     grind
    have hne2:¬ (l.take i).map (upS m w mn)=[]:=by
     intro c;have hli:((l.take i).map (upS m w mn)).length=i:=by simp;omega
     grind
    rw[if_neg hne1,if_neg hne2];generalize span ((l.take i).map (Qcl m w mn))=A at *;generalize span ((l.take i).map (upS m w mn))=B at *;simp[stI,Qbs,Qf1,h0];refine cK (by simpa using hg) ?_;simp[hnum,hd0,hlow,hup,QdW,QdX];omega
   simpa using this
  ·simp
theorem QyA (m:Machine) (mn load:Int) (hl:m.zd.length<=1000) (hb:m.zk.length<=1000):Gd K 216 [maV m,.int .i64 mn,.int .i64 load] (.xd [.int .i64 (JA m mn load).1,.int .i64 (JA m mn load).2]):=by
 refine Qb hK (fk func216 QIp (by kernel_rfl)) (by simp) ?_;simp;refine cK (QjA hK 0 mn load) ?_;have hask:decide (inR 0 0 9999/\inR mn 0 99/\inR load 0 999999999)=qr 0 mn load:=rfl;rw[hask];simp;refine cK (QjB hK m (qr 0 mn load) hl hb) ?_;unfold JA;by_cases he:tE m (qr 0 mn load)=0;rotate_left
 ·simp[he]
 ·obtain ⟨hm,ha,htl,hne⟩:=Qwq he;have ha:=of_decide_eq_true ha;have hok:∀ s∈Q3 m [] m.zd,okS m s:=fun s h=>(J9 h).1;have hml:=Qi0 hm hok ha.2.1 ha.2.2;have hmn:=QaG m mn load (Q3 m [] m.zd);rw[htl,hml];simp[he];refine QS (wy:=.fall) (o':=[(8,.box [.iv (.ptr (wkC m))]),(10,.box [.iv (.int .i64 (UO m mn load (Q3 m [] m.zd)))])]) rfl (by kernel_rfl) (Qcw hK m hm) ?_ ?_
  ·clear hml hmn hne htl;generalize Q3 m [] m.zd=l at *
   have:=VI.all (P:=prog) (K:=K) (ps:=[26]) (asn:=QfU) (body:=QkN) (ks:=[4,5,8,10]) (ids:=[8,10]) (eK:=[(4,.iv (.ptr [.int .i64 mn])),(5,.iv (.ptr [.int .i64 load])),(8,.loc 8 0),(10,.loc 10 0)]) (l.map stI)
    (fun i=>[(8,.box [.iv (.ptr (wkC m))]),(10,.box [.iv (.int .i64 (UO m mn load (l.take i)))])]) fun i x hi=>by
    simp only[QKN,QKK] at hi;obtain ⟨y,hy,rfl⟩:=hi;obtain ⟨xa,rfl⟩:=QKG.1 hy;have hsi:=hok _ (QKL xa);have hd:=hm.denB hsi;have hab:=hm.aboveB;have hld:=ha.2.2;simp only[inR] at hld;have h4:=QLz hld.2 hd.2 (by omega) (by omega);have h5:=QLC hld.1 (Int.le_trans (by omega) hd.1);have td:=QbI (a:=load*den l[i]+VG m-1) (b:=VG m) (by omega) (by omega);have ha0:¬ VG m=0:=by omega
    have hp:=(hm.zq (w:=0) hsi.2.1 (by simp[inR]) ha.2.1).2;have hst:UO m mn load (l.take (i+1))=max (UO m mn load (l.take i)) ((load*den l[i]+VG m-1).tdiv (VG m)-Wc m l[i].zx 0 mn):=by
     unfold UO;rw[QKH xa,QL3];rfl
    rw[hst];refine ⟨rfl,?_⟩;have hg:=Qjz hK m l[i] 0 mn hm hsi.2.1 (by simp[inR]) ha.2.1;generalize UO m mn load (l.take i)=A at *;simp[stI,QfU,QkN,ha0]
    (repeat' first|omega|with_reducible apply And.intro|intro)
    refine cK (by simpa using hg) ?_;simp[QdX];omega
   simpa[UO] using this
  ·by_cases h9:9999<UO m mn load (Q3 m [] m.zd)
   ·have:9999<min (UO m mn load (Q3 m [] m.zd)) 10000:=by omega
    simp[h9,this]
   ·have:min (UO m mn load (Q3 m [] m.zd)) 10000=UO m mn load (Q3 m [] m.zd):=by omega
    simp[h9,this]
omit hK
def Xe (ds:List Qv):List Qv:=ds.filter ZJ
@[simp] def lkC (d:Qv):List IV:=[.int .i64 d.bar,.int .i64 d.z1]
@[simp] def YL (ds:List Qv) (e:Nat->Int) (pm:IV):List IV:=[QzR (QjS ds e ds.length),.sl 2 ((Xe ds).map lkC),pm]
theorem QcA (p:Qv->Bool):∀ (l:List Qv) (i k:Nat),(l.filter p)[k]?=((Yn p l i)[k]?).bind fun j=>l[j-i]?
 | [],i,k=>by simp[Yn]
 | d::l,i,k=>by
   have ih:=QcA p l (i+1);have hge:∀ j∈Yn p l (i+1),i+1<=j:=fun j hj=>(qS p l (i+1) j hj).1;have sh:∀ k:Nat,((Yn p l (i+1))[k]?).bind (fun j=>l[j-(i+1)]?)=((Yn p l (i+1))[k]?).bind (fun j=>(d::l)[j-i]?):=fun k=>by
    cases hk:(Yn p l (i+1))[k]? with
    | none=>rfl
    | some j =>
      have:=hge j (QKW hk);grind
   by_cases hp:p d=true
   ·simp only[QLQ hp,Yn,hp,if_true];grind
   simp only[QLR hp,Yn,hp];grind
theorem Yd (ds:List Qv):(Xe ds).length=(VK ds).length:=by
 have:∀ (l:List Qv) (i:Nat),(l.filter ZJ).length=(Yn ZJ l i).length:=by
  intro l;induction l with
  | nil=>intro i;rfl
  | cons d l ih =>
    intro i;by_cases hp:ZJ d=true
    ·simp only[QLQ hp,Yn,hp,if_true,QKV,ih (i+1)]
    simp only[QLR hp,Yn,hp,ih (i+1)];simp
 exact this ds 0
theorem qM (ds:List Qv) (k:Nat) (h:k<(Xe ds).length):(Xe ds)[k]=JU ds k:=by
 have h':k<(VK ds).length:=by rw[<- Yd];exact h
 have h1:=QcA ZJ ds 0 k;have h2:(VK ds)[k]<ds.length:=Qr5 (QKL h');have e:(Yn ZJ ds 0)[k]?=some (VK ds)[k]:=QKF h';rw[e] at h1;simp only[Option.bind_some,Nat.sub_zero,QKF h2] at h1;have h3:(Xe ds)[k]?=some ds[(VK ds)[k]]:=h1;rw[QKF h] at h3;injection h3 with h3;rw[h3];simp[JU,List.getD_eq_getElem?_getD,h',h2]
include hK
theorem QxJ (ds:List Qv) (e:Nat->Int) (pm:IV) (s:XB) (hc:OkD ds ds.length) (hl:ds.length<=1000) (hs:ZG s ds):Gd K 341 [.agg (YL ds e pm),.agg (sC s)] (.bool (WM ds e s)):=by
 refine Qb hK (fk func341 QGW (by kernel_rfl)) (by simp) ?_;obtain ⟨s1,s2,s3,s4,s5⟩:=hs;simp only[inR] at s1 s2 s3;have xa:s.after.toNat<ds.length+1:=by omega
 have hcl:=ZI e hc s.after.toNat (by omega) (by omega);have hcg:=Qbo ds e ds.length s.after.toNat (by omega);have hcb:=hc.cnt s.after.toNat (by omega) (by omega);have hclt:=ql ds e s.after.toNat;have hww:=QeE ds s.after.toNat;have hp:(if s.z2=1 then ((cab ds e s.after.toNat).length:Int)-1-s.pos else s.pos)=(plc s.pos s.z2 (cab ds e s.after.toNat).length:Nat):=by
  unfold plc;split<;>omega
 have hpl:plc s.pos s.z2 (cab ds e s.after.toNat).length<(cab ds e s.after.toNat).length:=QlJ (by omega);simp[xa,hcg]
 (repeat' first|omega|with_reducible apply And.intro|intro)
 refine cK (Qjm hK s.pos s.z2 (cab ds e s.after.toNat).length (by omega) (by omega)) ?_;rw[hp];have hr:WM ds e s=QgQ ds s (cab ds e s.after.toNat):=rfl;rw[hr];unfold QgQ;generalize plc s.pos s.z2 (cab ds e s.after.toNat).length=at_ at *;generalize cab ds e s.after.toNat=now at *
 have h1:now[at_]<(Xe ds).length:=by
  have:=hclt now[at_] (QKL hpl);rw[Yd];omega
 have hm:JU ds (now.getD at_ 0)=(Xe ds)[now[at_]]:=by
  rw[qM ds _ h1]
  grind
 rw[hm];simp[hpl,h1];grind
theorem QpC (ds:List Qv) (e:Nat->Int) (pm:IV) (ss:List XB) (hc:OkD ds ds.length) (hl:ds.length<=1000) (hs:∀ s∈ss,ZG s ds) (hsl:ss.length<=1000):Gd K 273 [.agg (YL ds e pm),Qu ss] (.int .i64 (QN ds ss e)):=by
 refine Qb hK (fk func273 QHC (by kernel_rfl)) (by simp) ?_;simp;intro _;refine Qi (fun i=>[(2,AV.iv (.ptr (YL ds e pm))),(5,AV.iv (IV.int IntKind.i64 (QN ds (ss.take i) e:Nat))),(8,AV.iv (Qu ss)),(9,AV.iv (.int .i64 ss.length)),(10,AV.iv (IV.int IntKind.i64 (i:Nat)))]) (fun _=>[]) ss.length (fun i=>True) trivial ?_ ?_
 ·intro _;rw[Qa QkA.eq_1];simp
 ·intro i hi _ ih;have hle:=Qdv ds (ss.take i) e;simp at hle;rw[Qa QkA.eq_1];rw[Qgb _ _ _ _ hi] at ih;simp[hi] at ih |-;have hg:=QxJ hK ds e pm ss[i] hc hl (hs _ (QKL hi));refine cK (by simpa using hg) ?_;cases hr:WM ds e ss[i]
  ·simp[hr] at ih |-
   grind
  ·simp[hr] at ih |-
   grind
theorem QjD (ds:List Qv) (e:Nat->Int) (pm:IV) (hl:ds.length<=1000):Gd K 188 [.agg (YL ds e pm)] (Xh (cab ds e ds.length)):=by
 refine Qb hK (fk func188 QIR (by kernel_rfl)) (by simp) ?_;have hcg:=Qbo ds e ds.length ds.length (by omega);simp[hcg];omega
theorem Qjp (left all n:Int) (h : -1000000<=left/\left<=1000000):Gd K 270 [.int .i64 left,.int .i64 all,.ptr [.int .i64 n]] (.bool (decide (inR n 0 (left-1)))):=by
 refine Qb hK (fk func270 QHF (by kernel_rfl)) (by simp) ?_;simp
 (repeat' first|omega|with_reducible apply And.intro|intro)
 exact cK (YJ hK _ _ _) (by simp)
theorem QjE (n:Int):Gd K 186 [.int .i64 n] (.clo 270 [] [.ptr [.int .i64 n]]):=by
 refine Qb hK (fk func186 QIT (by kernel_rfl)) (by simp) ?_;simp
theorem Qxx (a b:Int):Gd K 384 [.int .i64 a,.int .i64 b] (.bool true):=by
 refine Qb hK (fk func384 QGD (by kernel_rfl)) (by simp) ?_;simp
theorem QyM (ds:List Qv) (e:Nat->Int) (pm:IV) (hl:ds.length<=1000) (n:Nat) (hn:n<(cab ds e ds.length).length):Gd K 187 [.agg (YL ds e pm),.ptr [.int .i64 n]] (.int .i64 ((cab ds e ds.length)[n]:Nat)):=by
 refine Qb hK (fk func187 QIS (by kernel_rfl)) (by simp) ?_;simp;have hg:=QjD hK ds e pm hl;refine cK (by simpa using hg) ?_;simp[hn]
omit hK
def ZF (d:Qv):Bool:=decide (d.z2=2)
def Qc0:List Nat->Nat->List (MK × IV)
 | [],_=>[]
 | j::t,r=>(.int .i64 (j:Nat),.int .i64 (r:Nat))::Qc0 t (r+1)
theorem QmM (j:Nat):∀ (l:List Nat) (r:Nat),Qc0 (l++[j]) r=Qc0 l r++[(.int .i64 (j:Nat),.int .i64 ((r+l.length:Nat):Int))]
 | [],r=>by simp[Qc0]
 | a::l,r=>by
   have e:r+1+l.length=r+(l.length+1):=by omega
   simp only[QLp,Qc0,QmM j l (r+1),QKV,e]
@[simp] theorem QmL:∀ (l:List Nat) (r:Nat),(Qc0 l r).length=l.length
 | [],_=>rfl
 | _::l,r=>by simp[Qc0,QmL l (r+1)]
theorem Qev (j:Nat):∀ (l:List Nat) (r:Nat),j ∉ l->∀ y:IV,zn (.int .i64 (j:Nat)) y (Qc0 l r)=Qc0 l r++[(.int .i64 (j:Nat),y)]
 | [],_,_,y=>rfl
 | a::l,r,h,y=>by
   have h1:¬ a=j:=fun c=>h (by simp[c]);have h2:=Qev j l (r+1) (fun c=>h (by simp[c])) y;have h3:¬ (MK.int .i64 (a:Nat)=MK.int .i64 (j:Nat)):=by simp;omega
   simp only[Qc0,zn,h3,if_false,h2,QLp]
theorem Qh0 (j:Nat):∀ (l:List Nat) (r:Nat),j∈l->Qh (.int .i64 (j:Nat)) (Qc0 l r)=some (.int .i64 ((r+l.idxOf j:Nat):Int))
 | a::l,r,h=>by
   by_cases h1:a=j
   ·subst h1;simp[Qc0,Qh]
   have h2:j∈l:=by
    grind
   have h3:¬ (MK.int .i64 (a:Nat)=MK.int .i64 (j:Nat)):=by simp;omega
   have e:r+1+l.idxOf j=r+(l.idxOf j+1):=by omega
   have hi:(a::l).idxOf j=l.idxOf j+1:=by
    grind
   simp only[Qc0,Qh,h3,if_false,Qh0 j l (r+1) h2,hi,e]
theorem Qae:∀ (l:List Nat) (r:Nat),QP (.int .i64) (Qc0 l r)
 | [],_=>trivial
 | _::l,r=>⟨rfl,Qae l (r+1)⟩
def Ui (ds:List Qv):List Nat:=Yn ZF ds 0
theorem Qeq (ds:List Qv):(Ui ds).length=Z2 ds:=by
 have:∀ (l:List Qv) (i:Nat),(Yn ZF l i).length=Z2 l:=by
  intro l;induction l with
  | nil=>intro i;rfl
  | cons d l ih =>
    intro i;by_cases h:d.z2=2
    ·simp[Yn,ZF,h,ih,Z2,QL0]
    simp[Yn,ZF,h,ih,Z2,QL0]
 exact this ds 0
@[simp] def Um (c:Qf):List IV:=[Qz c.za,Qu c.zg,.int .i64 c.zh,.map (Qc0 (Ui c.za) 0)]
include hK
theorem QjC (c:Qf) (hl:c.za.length<=1000):Gd K 192 [chV c] (.agg (Um c)):=by
 refine Qb hK (fk func192 QIN (by kernel_rfl)) (by simp) ?_;simp;intro _
 refine Qi (fun i=>[(2,AV.loc 2 0),(3,AV.loc 3 0),(10,AV.iv (Qz c.za)),(11,AV.iv (.int .i64 c.za.length)),(12,AV.iv (IV.int IntKind.i64 (i:Nat)))])
  (fun i=>[(2,.box [.iv (.sl 5 []),.iv (.sl 5 []),.iv (.int .i64 0),.iv (.map [])]),(3,.box [.iv (Qz c.za),.iv (Qu c.zg),.iv (.int .i64 c.zh),.yk 7]),(7,.xg (Qc0 (Yn ZF (c.za.take i) 0) 0))]) c.za.length (fun i=>True) trivial ?_ ?_
 ·intro _;rw[Qa QkV.eq_1];simp[Ui]
 ·intro i hi _ ih;rw[Qcz _ _ _ hi] at ih;rw[Qa QkV.eq_1];have hnm:i ∉ Yn ZF (c.za.take i) 0:=fun h=>by
   have:=qS ZF (c.za.take i) 0 i h;grind
  have hfr:=Qev i (Yn ZF (c.za.take i) 0) 0 hnm;by_cases hw:c.za[i].z2=2
  ·rw[if_pos (by simp[ZF,hw]),QmM] at ih;simp[hi,hw] at ih |-;rw[hfr];have hkd:=Qae (Yn ZF (c.za.take i) 0) 0;grind
  ·simp[hi,ZF,hw] at ih |-
   grind
end Go.Pf
namespace Go.Ev
open Go Go.RowKit
section
variable {P:Program} {K:World->Prop}
theorem Vv {f:FuncId} {e:TypeId} {sz bytes:Nat}
  (hcl:∀ (b off n c:Nat) (news:List Value) (w:World),news.length=n*sz->n<=maxLen->n*bytes<=140737488355328->(∀ (j:Nat) (u:Value),news[j]?=some u->w.cell? ⟨b,off+j,none⟩=some u)->(∀ u∈news,u.oneCell'=true) ->
    Calls P f #[.slice (some ⟨b,off,none⟩) n c] w fun x w'=>∃ v',x=.returned v'/\w'.ownsRow w.heap.size e sz v' n news/\v'≠.slice none 0 0/\Below w.heap.size w w')
  (rows:List (List IV)) (hb:rows.length*bytes<=140737488355328) (hsz:∀ c∈rows,c.length=sz) (hne:rows≠[]):Qh7 P K f [.sl sz rows] (.yl 0 rows.length) e sz rows 0:=by
 intro w ok vs hk hnew hl hvs;obtain ⟨v0,rfl⟩:∃ v0,vs=[v0]:=by
  match vs,hl with
  | [v],_=>exact ⟨v,rfl⟩
 have hrep:=hvs 0 _ v0 rfl rfl
 have fin:∀ (v':Value) (w':World) (news:List Value),w'.ownsRow w.heap.size e sz v' rows.length news->Below w.heap.size w w'->(∀ u∈news,u.oneCell'=true) ->
   (∀ (i j:Nat) (c:List IV) (x:IV) (u:Value),rows[i]?=some c->c[j]?=some x->news[i*sz+j]?=some u->QF ok w x u) ->
   ∃ v l,Ending.returned v'=.returned v/\QG (fun b=>b<w.heap.size) (okL ok (one (XE e sz rows 0)) (fun _=>l)) w' (one (XE e sz rows 0)) (fun _=>l) (XE e sz rows 0) l /\
    QA (okL ok (one (XE e sz rows 0)) (fun _=>l)) w' (one (XE e sz rows 0)) (fun _=>l) (ren 0 (.yl 0 rows.length)) v/\Below w.heap.size w w':=by
  intro v' w' news hown hbel hone hcx;have hsl:=Jm hown;have hge:∀ b,v'.ownBlock=some b->w.heap.size<=b:=fun b h=>(hown.lt b h).1;have hown0:w'.ownsRow 0 e sz v' rows.length news:=by
   obtain ⟨h1,h2⟩:=hown;refine ⟨h1,?_⟩;grind
  refine ⟨v',.arr v' news,rfl,⟨⟨by grind,fun b h1 h2=>by grind⟩,QLV _,fun c hc=>?_,hone,fun i j c x u hi hj hu=>?_⟩,?_,hbel⟩
  ·grind
  ·rw[QKN,QKK] at hi;obtain ⟨d,hd,rfl⟩:=hi;rw[QKN,QKK] at hj;obtain ⟨y,hy,rfl⟩:=hj;refine .iv _ _ ((hcx i j d y u hd hy hu).mono fun b hb xa=>⟨⟨hb,fun id o _ hh=>?_⟩,hbel.block b xa⟩);grind
  have:=QA.yl (ok:=okL ok (one (XE e sz rows 0)) (fun _=>.arr v' news)) (w:=w') (lo:=one (XE e sz rows 0)) (L:=fun _=>.arr v' news) 0 e sz (rows.map (List.map AV.iv)) 0 v' news (by simp[one,XE]) rfl hsl;rw[QKX] at this;exact this
 cases hrep with
 | sl _ _ b off cap u hlc hc hs hu hx =>
   refine (hcl b off rows.length cap ((List.range (rows.length*sz)).map u) w (by simp) (by omega) hb (fun j v hj=>?_) (fun v hv=>?_)).mono fun x w' ⟨v',hx',hown,_,hbel⟩=>?_
   all_goals grind
 | _=>grind
end
end Go.Ev
namespace Go.Pf
open Go Go.Ev Go.Proofs Go.RowKit Go.Shelf Go.Proofs.Tryz
set_option maxRecDepth 8000
noncomputable def QE2:TypeInfo:=(prog.info? 91).get (by kernel_rfl)
noncomputable def QvG:TypeInfo:=(prog.info? 178).get (by kernel_rfl)
noncomputable def QBp:Value:=QvG.zero.get (by kernel_rfl)
section
variable {K:World->Prop}
theorem clone84 (l:List Qv) (hl:l.length<=1000) (hne:l≠[]):Gp K 84 [Qz l] (.yl 0 l.length) 91 5 (l.map dC) 0:=by
 have h:=Vv (P:=prog) (K:=K) (f:=84) (e:=91) (sz:=5) (bytes:=40) (AnyE.slices_Clone Tryz.clone84 QE2 (.agg #[.int .i64 0,.int .i64 0,.int .i64 0,.int .i64 0,.int .i64 0]) 5 40 (by kernel_rfl) (by kernel_rfl) (by kernel_rfl) (by kernel_rfl) rfl (by decide) sizeOf91) (l.map dC) (by simp;omega) (by simp) (by simpa using hne);simpa using h
theorem clone86 (l:List ZC) (hl:l.length<=1000) (hne:l≠[]):Gp K 86 [Zt l] (.yl 0 l.length) 178 3 (l.map leC) 0:=by
 have h:=Vv (P:=prog) (K:=K) (f:=86) (e:=178) (sz:=3) (bytes:=24) (AnyE.slices_Clone Tryz.clone86 QvG QBp 3 24 (by kernel_rfl) (by kernel_rfl) (by kernel_rfl) (by kernel_rfl) (by kernel_rfl) (by decide) sizeOf178) (l.map leC) (by simp;omega) (by simp) (by simpa using hne);simpa using h
end
end Go.Pf
namespace Go.Pf
open Go Go.Ev Go.Proofs Go.RowKit Go.Proofs.Tryz
variable {K:World->Prop} (hK:∀ w w',K w->Below w.heap.size w w'->K w')
set_option maxRecDepth 8000
def Q1 (ds:List Qv) (n:Nat) (i:Nat):Int:=match ds[i]? with
 | some d=>if d.z2=2 then ((n.testBit ((Ui ds).idxOf i)).toNat:Int) else d.z2
 | none=>0
theorem QfE (ds:List Qv) (n i:Nat) (h:i<ds.length):Q1 ds n i=if ds[i].z2=2 then ((n.testBit ((Ui ds).idxOf i)).toNat:Int) else ds[i].z2:=by
 simp[Q1,h]
theorem Qqr (ds:List Qv) (i:Nat) (h:i<ds.length) (h2:ds[i].z2=2):i∈Ui ds:=by
 have:∀ (l:List Qv) (k i:Nat) (h:i<l.length),l[i].z2=2->k+i∈Yn ZF l k:=by
  intro l;induction l with
  | cons d l ih =>
    intro k i h h2;cases i with
    | zero =>
      have h3:d.z2=2:=h2;simp[Yn,ZF,h3]
    | succ i =>
      have:=ih (k+1) i (by simpa using h) (by simpa using h2);have e:k+1+i=k+(i+1):=by omega
      rw[e] at this;simp only[Yn];grind
  | _=>grind
 simpa[Ui] using this ds 0 i h h2
include hK
theorem QxK (c:Qf) (n i:Nat) (hn:n<2 ^ 63) (hi:i<c.za.length) (h2:c.za[i].z2=2):Gd K 340 [.int .i64 i,.ptr [.int .i64 n],.ptr (Um c)] (.int .i64 (Q1 c.za n i)):=by
 refine Qb hK (fk func340 QGX (by kernel_rfl)) (by simp) ?_;have hf:=Qh0 i (Ui c.za) 0 (Qqr c.za i hi h2);have hkk:=Qae (Ui c.za) 0;rw[QfE _ _ _ hi,if_pos h2];simp only[QKY] at hf;simp[hkk,hf];exact QAf n _ hn
omit hK
def XJ (ds:List Qv) (pm:Nat->IV) (n:Nat):List IV:=[.agg (YL ds (Q1 ds n) (pm n))]
theorem QwF {n:Nat} (h:n<=12):QwG IntKind.i64 1 (n:Int)=((2 ^ n:Nat):Int):=by
 have:n=0\/n=1\/n=2\/n=3\/n=4\/n=5\/n=6\/n=7\/n=8\/n=9\/n=10\/n=11\/n=12:=by omega
 rcases this with rfl | rfl | rfl | rfl | rfl | rfl | rfl | rfl | rfl | rfl | rfl | rfl | rfl<;>decide
include hK
theorem Qo8 (c:Qf) (pm:Nat->IV) (ht:Z2 c.za<=12) (h201:∀ n:Nat,n<2 ^ Z2 c.za->Gd K 339 [Qz c.za,.clo 340 [] [.ptr [.int .i64 n],.ptr (Um c)]] (.agg (YL c.za (Q1 c.za n) (pm n)))) :
  qv prog K 272 [.agg (Um c)] [] ((List.range (2 ^ Z2 c.za)).map (XJ c.za pm)):=by
 intro s b s' hf;have hp:=Va ht;refine Qy (fk func272 QHD (by kernel_rfl)) (by simp) hf.v rfl ?_;have hlen:(Qc0 (Ui c.za) 0).length=Z2 c.za:=by rw[QmL,Qeq]
 simp[Qeq,QwF ht];have hN:0<2 ^ Z2 c.za:=Nat.pos_of_ne_zero (by simp);have hcast:((2:Int) ^ Z2 c.za)=((2 ^ Z2 c.za:Nat):Int):=by push_cast;rfl
 rw[hcast];generalize 2 ^ Z2 c.za=N at *
 refine Xd N (fun i e o=>∃ si,e=[(1,AV.cb 0),(2,AV.iv (.ptr (Um c))),(8,AV.iv (.int .i64 (N:Nat))),(9,AV.iv (.int .i64 (i:Nat)))]/\o=[(0,.ext si)] /\
  Q9 prog K (((List.range N).drop i).map (XJ c.za pm)) si b s') ?_ ?_ _ _ ⟨s,rfl,rfl,by simpa using hf⟩
 ·rintro e o ⟨si,rfl,rfl,hfd⟩;rw[QLu (by simp)] at hfd;cases hfd;rw[Qa QkB.eq_1];simp
 ·rintro i e o hi ⟨si,rfl,rfl,hfd⟩ ih;rw[QLg (by simpa using hi)] at hfd;simp only[List.getElem_range,QKZ] at hfd;have hg:=h201 i hi;rw[Qa QkB.eq_1];simp[hi];refine Qh4 _ _ _ _ _ _ _ _ ?_;simp;refine cK (by simpa using hg) ?_;have hst:XJ c.za pm i=[.agg (YL c.za (Q1 c.za i) (pm i))]:=rfl;rw[hst] at hfd;simp;cases hfd with
  | stop _ _ _ _ hg =>
    refine QR (by simpa using hg) rfl ?_;simp
  | next _ _ _ s1 _ _ hg hr =>
    refine QR (by simpa using hg) rfl ?_;simp
    (repeat' first|omega|with_reducible apply And.intro|intro)
    exact ih _ _ ⟨s1,by simp,rfl,hr⟩
omit hK
section
variable {K:World->Prop}
def Qn (c:Qf):List Nat:=(List.range (2 ^ Z2 c.za)).filter fun n=>decide ((QN c.za c.zg (Q1 c.za n):Int)<=c.zh)
theorem QbV (hK:∀ w w',K w->Below w.heap.size w w'->K w') {c:Qf} (hc:OkC c) {pm:Nat->IV} {ks:Env} (hks:Q5 [2,3] [0,3] ks=[(2,.iv (.ptr (Um c))),(3,.loc 3 0)]) :
  ∀ (Ls:List Nat) (s:Ext) (b:Bool) (s':Ext),Q9 prog K ((Ls.filter fun n=>decide ((QN c.za c.zg (Q1 c.za n):Int)<=c.zh)).map (XJ c.za pm)) s b s' ->
   ∃ wy,(wy=.fall\/wy=.ret)/\VI prog K [7] qo QcV [2,3] [0,3] (Q5 [2,3] [0,3] ks) (Ls.map (XJ c.za pm)) [(0,.ext s),(3,.box [.cb 0])] wy [(0,.ext s'),(3,.box [.cb 0])]
 | [],s,b,s',h=>by
   cases h;exact ⟨.fall,.inl rfl,.nil _⟩
 | t::Ls,s,b,s',h=>by
   have hl:=hc.len;have hsl:=hc.slen;have hw:=QpC hK c.za (Q1 c.za t) (pm t) c.zg hc.za (by omega) hc.zg (by omega);by_cases ht:(QN c.za c.zg (Q1 c.za t):Int)<=c.zh
   ·rw[QLQ (by simpa using ht)] at h;cases h with
    | stop _ _ _ _ hg =>
      refine ⟨.ret,.inr rfl,.stop _ _ _ _ _ (by simp) ?_⟩;rw[hks];refine ⟨rfl,?_⟩;simp[XJ,qo,QcV];refine cK (by simpa using hw) ?_;simp[ht];refine QR (by simpa[XJ] using hg) rfl ?_;simp
    | next _ _ _ s1 _ _ hg hr =>
      obtain ⟨wy,h1,h2⟩:=QbV hK hc hks Ls s1 b s' hr;refine ⟨wy,h1,.next _ _ _ _ _ _ ?_ h2⟩;rw[hks];refine ⟨rfl,?_⟩;simp[XJ,qo,QcV];refine cK (by simpa using hw) ?_;simp[ht];refine QR (by simpa[XJ] using hg) rfl ?_;simp
   ·rw[QLR (by simpa using ht)] at h;obtain ⟨wy,h1,h2⟩:=QbV hK hc hks Ls s b s' h;refine ⟨wy,h1,.next _ _ _ _ _ _ ?_ h2⟩;rw[hks];refine ⟨rfl,?_⟩;simp[XJ,qo,QcV];refine cK (by simpa using hw) ?_;simp[ht]
end
def Qh5 (K:World->Prop) (c:Qf) (pm:Nat->IV):Prop:=∀ n:Nat,n<2 ^ Z2 c.za->Gd K 339 [Qz c.za,.clo 340 [] [.ptr [.int .i64 n],.ptr (Um c)]] (.agg (YL c.za (Q1 c.za n) (pm n)))
theorem U6 (ds:List Qv):Z2 ds<=ds.length:=QLq
include hK
theorem qQ (c:Qf) (hc:OkC c) (pm:Nat->IV) (ht:Qh5 K c pm):qv prog K 269 [.agg (Um c)] [] ((Qn c).map (XJ c.za pm)):=by
 intro s b s' hfd;have h12:=hc.len;have htw:=U6 c.za;refine Qy (fk func269 QHG (by kernel_rfl)) (by simp) hfd.v rfl ?_;obtain ⟨wy,h1,h2⟩:=QbV (pm:=pm) hK hc (ks:=[(2,.iv (.ptr (Um c))),(3,.loc 3 0)]) rfl (List.range (2 ^ Z2 c.za)) s b s' hfd;simp;refine QS (wy:=wy) (o':=[(0,.ext s'),(3,.box [.cb 0])]) rfl (by kernel_rfl) (Qo8 hK c pm (by omega) ht) (by simpa using h2) ?_;rcases h1 with rfl | rfl<;>simp
noncomputable def Xu (c:Qf) (is:Bool):Int:=if OkC c then (if is=true then (if Qn c=[] then 3 else 0) else 1) else 20
theorem Qyb (c:Qf) (pm:Nat->IV) (ht:OkC c->Qh5 K c pm) (g:FuncId) (fs cs:List IV) (is:Bool) (hg:OkC c->Gd K g (fs++[.int .i64 (Ql c.za),.int .i64 (Qbv c.za)]++cs) (.bool is)) (hcg:callee prog g=true) (hl:c.za.length<=1000) (hs:c.zg.length<=1000) :
  Gd K 268 [chV c,.clo g fs cs] (.xd [if OkC c/\is=true then .agg (Um c) else .agg [.sl 5 [],.sl 5 [],.int .i64 0,.map []],.int .i64 (Xu c is)]):=by
 refine Qb hK Qrq (by simp) ?_;simp;refine cK (qV hK c hl hs) ?_;by_cases h1:OkC c
 ·simp[h1];refine cK (Qjq hK c hl) ?_;simp;refine ⟨hcg,cK (by simpa using hg h1) ?_⟩;cases is
  ·simp[Xu,h1]
  simp;refine cK (by simpa using QjC hK c hl) ?_;simp;cases hR:Qn c with
  | nil =>
    refine QS (wy:=.fall) (o':=[(4,.box [.iv (.sl 5 []),.iv (.sl 5 []),.iv (.int .i64 0),.iv (.map [])]),(5,.box [.iv (.int .i64 0)]),(7,.box [.iv (Qz c.za),.iv (Qu c.zg),.iv (.int .i64 c.zh),.iv (.map (Qc0 (Ui c.za) 0))])]) rfl (by kernel_rfl) (qQ hK c h1 pm (ht h1)) (by rw[hR];simpa using VI.nil _) ?_;simp[Xu,h1,hR]
  | cons a r =>
    refine QS (wy:=.ret) (o':=[(4,.box [.iv (Qz c.za),.iv (Qu c.zg),.iv (.int .i64 c.zh),.iv (.map (Qc0 (Ui c.za) 0))]),(5,.box [.iv (.int .i64 0)]),(7,.box [.iv (Qz c.za),.iv (Qu c.zg),.iv (.int .i64 c.zh),.iv (.map (Qc0 (Ui c.za) 0))])]) rfl (by kernel_rfl) (qQ hK c h1 pm (ht h1)) (by
     rw[hR];refine .stop _ _ _ _ _ (by simp) ?_;refine ⟨rfl,?_⟩;simp[XJ,QfS,QkC]) ?_
    simp[Xu,h1,hR]
 ·simp[h1,Xu]
theorem Qte (c:Qf) (pm:Nat->IV) (ht:OkC c->Qh5 K c pm) (g:FuncId) (is:Bool) (hg:OkC c->Gd K g [.int .i64 (Ql c.za),.int .i64 (Qbv c.za)] (.bool is)) (hcg:callee prog g=true) (hl:c.za.length<=1000) (hs:c.zg.length<=1000) :
  Gd K 268 [chV c,.fn g] (.xd [if OkC c/\is=true then .agg (Um c) else .agg [.sl 5 [],.sl 5 [],.int .i64 0,.map []],.int .i64 (Xu c is)]):=by
 refine Qb hK Qrq (by simp) ?_;simp;refine cK (qV hK c hl hs) ?_;by_cases h1:OkC c
 ·simp[h1];refine cK (Qjq hK c hl) ?_;simp;refine ⟨hcg,cK (by simpa using hg h1) ?_⟩;cases is
  ·simp[Xu,h1]
  simp;refine cK (by simpa using QjC hK c hl) ?_;simp;cases hR:Qn c with
  | nil =>
    refine QS (wy:=.fall) (o':=[(4,.box [.iv (.sl 5 []),.iv (.sl 5 []),.iv (.int .i64 0),.iv (.map [])]),(5,.box [.iv (.int .i64 0)]),(7,.box [.iv (Qz c.za),.iv (Qu c.zg),.iv (.int .i64 c.zh),.iv (.map (Qc0 (Ui c.za) 0))])]) rfl (by kernel_rfl) (qQ hK c h1 pm (ht h1)) (by rw[hR];simpa using VI.nil _) ?_;simp[Xu,h1,hR]
  | cons a r =>
    refine QS (wy:=.ret) (o':=[(4,.box [.iv (Qz c.za),.iv (Qu c.zg),.iv (.int .i64 c.zh),.iv (.map (Qc0 (Ui c.za) 0))]),(5,.box [.iv (.int .i64 0)]),(7,.box [.iv (Qz c.za),.iv (Qu c.zg),.iv (.int .i64 c.zh),.iv (.map (Qc0 (Ui c.za) 0))])]) rfl (by kernel_rfl) (qQ hK c h1 pm (ht h1)) (by
     rw[hR];refine .stop _ _ _ _ _ (by simp) ?_;refine ⟨rfl,?_⟩;simp[XJ,QfS,QkC]) ?_
    simp[Xu,h1,hR]
 ·simp[h1,Xu]
theorem Qpt (c:Qf) (pm:Nat->IV) (ht:OkC c->Qh5 K c pm) (hl:c.za.length<=1000) (hs:c.zg.length<=1000):Gd K 345 [chV c] (.xd [.int .i64 (if Xu c true=0 then (Qn c).length else 0),.int .i64 (Xu c true)]):=by
 refine Qb hK (fk func345 QGS (by kernel_rfl)) (by simp) ?_;simp;refine cK (Qte hK c pm ht 384 true (fun _=>Qxx hK _ _) (by kernel_rfl) hl hs) ?_;by_cases he:Xu c true=0;rotate_left
 ·by_cases h1:OkC c<;>simp[he,h1]
 ·have h1:OkC c:=by
   unfold Xu at he;grind
  have hlen:(Qn c).length<=4096:=by
   have h1':=QK5 (fun n=>decide ((QN c.za c.zg (Q1 c.za n):Int)<=c.zh)) (List.range (2 ^ Z2 c.za));have h2':=Va (n:=Z2 c.za) (by have:=U6 c.za;have:=h1.len;omega);simp at h1';unfold Qn;omega
  simp[he,h1];refine QS (wy:=.fall) (o':=[(6,.box [.iv (.int .i64 ((Qn c).length:Nat))])]) rfl (by kernel_rfl) (qQ hK c h1 pm (ht h1)) ?_ ?_
  ·have:=VI.all (P:=prog) (K:=K) (ps:=[17]) (asn:=QfP) (body:=Qkc) (ks:=[6]) (ids:=[6]) (eK:=[(6,.loc 6 0)]) ((Qn c).map (XJ c.za pm)) (fun i=>[(6,.box [.iv (.int .i64 (i:Int))])]) fun i x hi=>by
    simp only[QKN,QKK] at hi;obtain ⟨y,hy,rfl⟩:=hi;have xa:=(QKG.1 hy).1;refine ⟨rfl,?_⟩;simp[XJ,QfP,Qkc];omega
   simpa using this
  ·simp
theorem Qpu (d:Qv):Gd K 344 [.agg (dC d)] (.bool (ZF d)):=by
 refine Qb hK (fk func344 QGT (by kernel_rfl)) (by simp) ?_;simp[ZF]
omit hK
def XY (m:Machine) (n:Int):Machine:={ m with zu:=n,zw:=n }
noncomputable def QaC (m:Machine) (k:Nat):List Machine:=if tE (XY m (m.zu+k)) true=0 then [XY m (m.zu+k)] else []
def Qhn (m:Machine):List IV:=[maV m]
include hK
theorem Qhm (m:Machine) (hl:m.zd.length<=1000) (hb:m.zk.length<=1000) (hr:inR m.zu 0 m.zw) (hr2:m.zw<=20) (hs:∀ n,OkM (XY m n)->sets (XY m n) m.zd.length<=1000000) :
  qu prog K 279 [maV m,.int .i64 m.zd.length] [] ((acc (QaC m) (m.zw+1-m.zu).toNat).map Qhn) (fun b=>.bool b):=by
 intro s b s' hf;refine Qy Qrn (by simp) hf.v rfl ?_;rw[Vy] at hf;simp only[inR] at hr;simp;intro _
 refine Xd (m.zw+1-m.zu).toNat (fun i e o=>∃ si x y,e=[(2,AV.cb 0),(3,AV.iv (.ptr [Zt m.zd,.int .i64 m.zr,.int .i64 m.zu,.int .i64 m.zw,J1 m.zk,.int .i64 m.zh])),(7,AV.loc 7 0),(8,AV.iv (.int .i64 (m.zu+(i:Nat))))] /\
  o=[(0,.ext si),(7,.box [.iv (Zt m.zd),.iv (.int .i64 m.zr),.iv (.int .i64 x),.iv (.int .i64 y),.iv (J1 m.zk),.iv (.int .i64 m.zh)])] /\
  Q9 prog K ((Zu (QaC m) i ((m.zw+1-m.zu).toNat-i)).map Qhn) si b s') ?_ ?_ _ _ ⟨s,m.zu,m.zw,by simp,by simp,by simpa using hf⟩
 ·rintro e o ⟨si,x,y,rfl,rfl,hfd⟩;have q1:m.zu+((m.zw+1-m.zu).toNat:Int)=m.zw+1:=by omega
  have q2:¬ m.zw+1<=m.zw:=by omega
  rw[QL7] at hfd;cases hfd;rw[q1,Qa Qkv.eq_1];simp[q2]
 ·rintro i e o hi ⟨si,x,y,rfl,rfl,hfd⟩ ih;have q1:m.zu+(i:Int)<=m.zw:=by omega
  have q3:m.zu+((i:Int)+1)=m.zu+i+1:=by omega
  have e1:(m.zw+1-m.zu).toNat-i=((m.zw+1-m.zu).toNat-(i+1))+1:=by omega
  rw[e1] at hfd;simp only[Zu,QK3] at hfd;have hg:=QxH hK (XY m (m.zu+i)) hl hb (hs _);rw[Qa Qkv.eq_1];simp[q1];refine YQ (by simpa[XY] using hg) (.inr rfl) ?_;by_cases he:tE (XY m (m.zu+i)) true=0
  ·have hp:QaC m i=[XY m (m.zu+i)]:=by simp[QaC,he]
   rw[hp] at hfd;simp only[QKZ,QL8,List.singleton_append] at hfd;have he':=he;simp only[XY] at he';simp[he'];cases hfd with
   | stop _ _ _ _ hg =>
     refine QR (by simpa[Qhn,XY] using hg) rfl ?_;simp
   | next _ _ _ s1 _ _ hg hr2 =>
     refine QR (by simpa[Qhn,XY] using hg) rfl ?_;simp
     (repeat' first|omega|with_reducible apply And.intro|intro)
     exact ih _ _ ⟨s1,m.zu+i,m.zu+i,by simp[q3],by simp,hr2⟩
  ·have hp:QaC m i=[]:=by simp[QaC,he]
   rw[hp] at hfd;simp only[QL8,QLm] at hfd;have he':=he;simp only[XY] at he';simp[he']
   (repeat' first|omega|with_reducible apply And.intro|intro)
   exact ih _ _ ⟨si,m.zu+i,m.zu+i,by simp[q3],by simp,hfd⟩
end Go.Pf
namespace Go.Ev
open Go Go.RowKit Go.Sort
section
variable {P:Program} {K:World->Prop}
@[reducible] def Zr (zs:List Int) (mv:Nat):AO:=.arr 3 1 (zs.map fun z=>[AV.iv (.int .i64 z)]) mv
@[reducible] def QnW (zs:List Int):IV:=.sl 1 (zs.map fun z=>[IV.int .i64 z])
theorem Qck {w:World} {g:Nat} {f:Array Value->Array Value} {c:Array Value} {e:TypeId} {fr:Nat × Nat} (h:w.heap[g]?=some (.cells c e fr)):(mapBlock w g f).heap[g]?=some (.cells (f c) e fr):=by
 simp only[mapBlock,QL9,if_true,h,QLO,onCells]
theorem Qi5 {w:World} {g k:Nat} {f:Array Value->Array Value} (h:k≠g):(mapBlock w g f).heap[k]?=w.heap[k]?:=by
 simp only[mapBlock,QL9,if_neg (Ne.symm h)]
theorem Qfe {w:World} {g:Nat} {f:Array Value->Array Value}:(mapBlock w g f).heap.size=w.heap.size:=by
 simp only[mapBlock,Array.size_modify]
theorem XT {Fr:Nat->Prop} {w:World} {g:Nat} {f:Array Value->Array Value} (h:¬ Fr g):Q8 Fr w (mapBlock w g f) :=
 ⟨rfl,rfl,rfl,by rw[Qfe];omega,fun k hk=>Qi5 fun e=>h (e▸hk)⟩
theorem Z4 {Fr:Nat->Prop} {g:Nat} (h:¬ Fr g):∀ (vs:List Value) (o:Nat) (w:World),Q8 Fr w (w.setCells g o vs)
 | [],_,w=>Q8.refl _ _
 | v::r,o,w=>by
   rw[World.setCells];have h1:Q8 Fr w (w.setCell ⟨g,o,none⟩ v):=by rw[setCell_eq];exact XT h
   have h2:=Z4 h r (o+1) (w.setCell ⟨g,o,none⟩ v);exact ⟨h2.os.trans h1.os,h2.tape.trans h1.tape,h2.output.trans h1.output,QLv h1.size h2.size,fun k hk=>(h2.block k hk).trans (h1.block k hk)⟩
theorem Qey (w:World) (o:Obj):Q8 (fun b=>b<w.heap.size) w (w.alloc o) :=
 ⟨rfl,rfl,rfl,by show _<=(w.heap.push o).size;grind,fun k hk=>by
  show (w.heap.push o)[k]?=_;grind⟩
structure Qdr (w:World) (v:Value) (zs:List Int) (g cap:Nat) (cur:Array Value):Prop where
 v:v=.slice (some ⟨g,0,none⟩) zs.length cap
 at_:w.heap[g]?=some (.cells cur 3 (0,0))
 le:zs.length<=cap
 max:cap<=maxLen
 size:cur.size=cap
 take:cur.toList.take zs.length=zs.map (.int .i64)
theorem Qdr.cell {w:World} {v:Value} {zs:List Int} {g cap:Nat} {cur:Array Value} (h:Qdr w v zs g cap cur) (j:Nat):w.cell? ⟨g,j,none⟩=cur[j]?:=by
 simp[World.cell?,h.at_]
theorem Qdr.frozen {w:World} {v:Value} {zs:List Int} {g cap:Nat} {cur:Array Value} (h:Qdr w v zs g cap cur) (j:Nat):w.frozen? ⟨g,j,none⟩=false:=by
 simp[World.frozen?,h.at_]
theorem Qdr.get {w:World} {v:Value} {zs:List Int} {g cap:Nat} {cur:Array Value} (h:Qdr w v zs g cap cur) (j:Nat) (hj:j<zs.length):cur[j]?=some (.int .i64 zs[j]):=by
 have h1:(cur.toList.take zs.length)[j]?=some (.int .i64 zs[j]):=by rw[h.take];simp[hj]
 grind
theorem Qdr.holds {w:World} {v:Value} {zs:List Int} {g cap:Nat} {cur:Array Value} (h:Qdr w v zs g cap cur):Holds (Value.int .i64) w g 0 zs.toArray:=by
 intro j hj;have hj':j<zs.length:=by simpa using hj
 refine ⟨?_,by rw[QKY];exact h.frozen j⟩;rw[QKY,h.cell,h.get j hj',getElem!_pos _ j hj];simp
theorem QdN {Fr ok:Nat->Prop} {w:World} {lo:Nat->Option AO} {L:Nat->Lay} {zs:List Int} {mv:Nat} {l:Lay} (h:QG Fr ok w lo L (Zr zs mv) l) :
  ∃ v xs,l=.arr v xs/\((v=.slice none 0 0/\zs=[])\/∃ g cap cur,Qdr w v zs g cap cur/\¬ Fr g):=by
 cases l with
 | arr v xs =>
   obtain ⟨⟨⟨h1,h2⟩,h3⟩,h4,h5,h6,h7⟩:=h;refine ⟨v,xs,rfl,?_⟩;simp only[QKX] at h1 h2;rcases h2 with ⟨h2,h8⟩ | ⟨g,cap,cur,h8,h9,h10,h11,h12,h13,h14⟩
   ·grind
   refine .inr ⟨g,cap,cur,⟨h8,h10,h11,h12,by omega,?_⟩,h3 g (by simp[h8,Value.ownBlock])⟩;rw[QL4] at h14;rw[h14];refine QMc fun i=>?_;by_cases hi:i<zs.length
   ·have hx:i<xs.length:=by omega
    rw[QKF hx];have:=h7 i 0 [AV.iv (.int .i64 zs[i])] (.iv (.int .i64 zs[i])) xs[i] (by simp[hi]) (by simp) (by simp[hx]);cases this with
    | iv _ _ r =>
      generalize hz:xs[i]=z at r;cases r;simp[hi,hz]
   grind
 | _=>exact absurd h (by simp[QG])
theorem Qex {ok:Nat->Prop} {w:World} {lo:Nat->Option AO} {L:Nat->Lay} {zs:List Int} {mv id n:Nat} {v u:Value} {xs:List Value} (hid:lo id=some (Zr zs mv)) (hL:L id=.arr v xs) (hn:n=zs.length) (h:QA ok w lo L (.yl id n) u):u=v:=by
 grind
theorem Ux {ok:Nat->Prop} {w:World} (zs:List Int) (b cap:Nat) (hcap:zs.length<=cap) (hmax:cap<=maxLen) (hb:ok b) (hc:∀ j z,zs[j]?=some z->w.cell? ⟨b,j,none⟩=some (.int .i64 z)) :
  QF ok w (QnW zs) (.slice (some ⟨b,0,none⟩) zs.length cap):=by
 have h:=QF.sl (ok:=ok) (w:=w) 1 (zs.map fun z=>[IV.int .i64 z]) b 0 cap (fun k=>.int .i64 (zs.getD k 0)) (by simpa using hcap) hmax (by simp) (fun k hk=>?_) (fun i j c x hi hj=>?_)
 ·simpa using h
 ·simp only[QKX,QL4] at hk;refine ⟨hb,?_,rfl⟩;grind
 ·rw[QKN,QKK] at hi;obtain ⟨z,hz,rfl⟩:=hi;cases j with
  | zero =>
    simp at hj;subst hj;rw[QL4,QLX,List.getD_eq_getElem?_getD,hz];exact .int _ _
  | succ j=>simp at hj
theorem WX {Fr ok:Nat->Prop} {w:World} {L:Nat->Lay}:Qlk Fr ok w (Qc []) L:=⟨by simp[Qc],by simp[Qc]⟩
theorem QeY {f:FuncId}
  (he:∀ (a:Option Addr) (cap:Nat) (w:World),Calls P f #[.slice a 0 cap] w fun e w'=>e=.returned (.tuple #[])/\w'=w)
  (hr:∀ (blk off cap:Nat) (zs:List Int) (w:World),Holds (Value.int .i64) w blk off zs.toArray->zs.length<=9223372036854775807 ->
    Calls P f #[.slice (some ⟨blk,off,none⟩) zs.length cap] w fun e w'=>e=.returned (.tuple #[])/\∃ n,w'=putRow (Value.int .i64) (Sort.ahead w n) blk off zs.reverse.toArray)
  (zs:List Int) (mv:Nat):YD P K f [.yl 0 zs.length] [(0,Zr zs mv)] [0] (.iv (.xd [])) [(0,Zr zs.reverse zs.length)]:=by
 intro w ok L vs hK hnew hown hlaid hvl hvs;obtain ⟨v0,rfl⟩:∃ v0,vs=[v0]:=by
  match vs,hvl with
  | [v],_=>exact ⟨v,rfl⟩
 have hob:=hlaid.y9 0 (Zr zs mv) rfl;obtain ⟨v,xs,hL,hrow⟩:=QdN hob;have hv:v0=v:=Qex (id:=0) (zs:=zs) (mv:=mv) rfl hL rfl (hvs 0 _ v0 rfl rfl);subst hv
 have fin:∀ (w':World) (xs':List Value),Q8 (FrO w (Qc [(0,Zr zs mv)]) L) w w'->YH (FrO w (Qc [(0,Zr zs mv)]) L) w' 3 1 v0 zs.length xs'->xs'=zs.reverse.map (.int .i64) ->
   ∃ v1 L',(Ending.returned (.tuple #[]):Ending)=.returned v1/\Qlk (FrO w (Qc [(0,Zr zs mv)]) L) ok w' (Qc [(0,Zr zs.reverse zs.length)]) L'/\QA (okL ok (Qc [(0,Zr zs.reverse zs.length)]) L') w' (Qc [(0,Zr zs.reverse zs.length)]) L' (.iv (.xd [])) v1/\Q8 (FrO w (Qc [(0,Zr zs mv)]) L) w w' /\
    ∀ i∈[0],∀ o,Qc [(0,Zr zs mv)] i=some o->∃ o',Qc [(0,Zr zs.reverse zs.length)] i=some o'/\Jj o o' (L i) (L' i):=by
  intro w' xs' hk ho hx;refine ⟨.tuple #[],fun _=>.arr v0 xs',rfl,⟨fun id o hid=>?_,fun i j oi oj b hij hi hj=>?_⟩,.iv _ _ (.xd [] [] rfl (by simp)),hk,fun i hi o h=>?_⟩
  ·simp only[Qc] at hid;split at hid
   ·injection hid with hid;subst hid;refine ⟨by simpa using ho,by simp,by simp,fun u hu=>?_,fun i j c x u hi hj hu=>?_⟩
    ·rw[hx] at hu;obtain ⟨z,_,rfl⟩:=QKT.1 hu;rfl
    rw[QKN,QKK] at hi;obtain ⟨z,hz,rfl⟩:=hi;cases j with
    | zero =>
      simp at hj;subst hj;rw[hx,QL4,QLX,QKN,hz] at hu;simp at hu;subst hu;exact .iv _ _ (.int _ _)
    | succ j=>simp at hj
   cases hid
  ·simp only[Qc] at hi hj;grind
  simp at hi;subst hi;simp only[Qc,if_true] at h;injection h with h;subst h;refine ⟨Zr zs.reverse zs.length,by simp[Qc],?_⟩;rw[hL];simp[Jj]
 rcases hrow with ⟨rfl,rfl⟩ | ⟨g,cap,cur,hr1,hfr⟩
 ·refine (he none 0 w).mono fun e w' ⟨h1,h2⟩=>?_;subst h1 h2;exact fin w' [] (Q8.refl _ _) ⟨⟨by simp,.inl ⟨rfl,rfl⟩⟩,by simp[Value.ownBlock]⟩ (by simp)
 ·have hv:=hr1.v;subst hv;refine (hr g 0 cap zs w hr1.holds (by have:=hr1.max;have:=hr1.le;unfold maxLen at *;omega)).mono fun e w' ⟨h1,n,h2⟩=>?_;subst h1;have hk:Q8 (FrO w (Qc [(0,Zr zs mv)]) L) w w':=by
   have h3:Q8 (FrO w (Qc [(0,Zr zs mv)]) L) (Sort.ahead w n) w':=by rw[h2];exact XT hfr
   exact ⟨h3.os,h3.tape,h3.output,h3.size,h3.block⟩
  have hh:w'.heap[g]?=some (.cells (putCells (Value.int .i64) 0 zs.reverse.toArray cur) 3 (0,0)):=by
   rw[h2];exact Qck (w:=Sort.ahead w n) hr1.at_
  refine fin w' _ hk ⟨⟨?_,.inr ⟨g,cap,_,rfl,QLV _,hh,hr1.le,hr1.max,?_,rfl⟩⟩,fun b hb=>?_⟩ ?_
  ·simp[putCells,hr1.size,hr1.le]
  ·simp[putCells,hr1.size]
  ·simp[Value.ownBlock] at hb;grind
  ·refine QMc fun i=>?_;rw[QLr];by_cases hi:i<zs.length
   ·have h1:=hr1.size;have h2:=hr1.le;have h3:i<cur.size:=by omega
    rw[QL4,if_pos hi];simp only[putCells,QMl,Array.getElem?_mapIdx,QK7 h3,QLO,QKN];grind
   grind
theorem QhR {f:FuncId}
  (hd:∀ (blk off cap i j:Nat) (d:Array Int) (w:World),Holds (Value.int .i64) w blk off d->d.size<=cap->cap<=9223372036854775807->i<=j->j<=d.size ->
    Calls P f #[.slice (some ⟨blk,off,none⟩) d.size cap,.int .i64 i,.int .i64 j] w fun e w'=>e=.returned (.slice (some ⟨blk,off,none⟩) (d.size-(j-i)) cap)/\∃ q,w'=putRow (Value.int .i64) (Sort.ahead w q) blk off (d.toList.take i++d.toList.drop j++List.replicate (j-i) 0).toArray)
  (zs:List Int) (mv:Nat) (i:Nat) (hi:i<zs.length):YD P K f [.yl 0 zs.length,.iv (.int .i64 (i:Nat)),.iv (.int .i64 ((i+1:Nat):Int))] [(0,Zr zs mv)] [] (.iv (QnW (zs.eraseIdx i))) []:=by
 intro w ok L vs hK hnew hown hlaid hvl hvs;obtain ⟨v0,v1,v2,rfl⟩:∃ v0 v1 v2,vs=[v0,v1,v2]:=by
  match vs,hvl with
  | [v,u,z],_=>grind
 have hob:=hlaid.y9 0 (Zr zs mv) rfl;obtain ⟨v,xs,hL,hrow⟩:=QdN hob;have hv:v0=v:=Qex (id:=0) (zs:=zs) (mv:=mv) rfl hL rfl (hvs 0 _ v0 rfl rfl);subst hv;have e1:v1=.int .i64 (i:Nat):=by
  have:=hvs 1 _ v1 rfl rfl;cases this with
  | iv _ _ r=>cases r;rfl
 have e2:v2=.int .i64 ((i+1:Nat):Int):=by
  have:=hvs 2 _ v2 rfl rfl;cases this with
  | iv _ _ r=>cases r;rfl
 subst e1 e2;rcases hrow with ⟨rfl,rfl⟩ | ⟨g,cap,cur,hr1,hfr⟩
 ·simp at hi
 ·have hv:=hr1.v;subst hv;have hm:=hr1.max;have hle:=hr1.le;have:=hd g 0 cap i (i+1) zs.toArray w hr1.holds (by simpa using hle) (by unfold maxLen at *;omega) (by omega) (by simp;omega);have es:zs.toArray.size=zs.length:=by simp
  rw[es] at this;refine this.mono fun e w' ⟨h1,q,h2⟩=>?_;have hgo:ok g:=hown g ⟨0,Zr zs mv,rfl,by rw[hL];simp[Lay.has,Value.ownBlock]⟩;have hk:Q8 (FrO w (Qc [(0,Zr zs mv)]) L) w w':=by
   have h3:Q8 (FrO w (Qc [(0,Zr zs mv)]) L) (Sort.ahead w q) w':=by rw[h2];exact XT hfr
   exact ⟨h3.os,h3.tape,h3.output,h3.size,h3.block⟩
  have hnew:Holds (Value.int .i64) w' g 0 (zs.take i++zs.drop (i+1)++List.replicate (i+1-i) 0).toArray:=by
   have h3:=holds_putRow (Value.int .i64) (Sort.ahead w q) g 0 zs.toArray (zs.take i++zs.drop (i+1)++List.replicate (i+1-i) 0).toArray (holds_ahead _ w q g 0 _ hr1.holds) (by simp;omega);grind
  have hlen:(zs.eraseIdx i).length=zs.length-(i+1-i):=by grind
  subst h1;refine ⟨_,fun _=>.one 0,rfl,WX,.iv _ _ ?_,hk,by simp⟩;rw[<- hlen];refine Ux _ _ _ (by omega) hm ⟨hgo,by simp[Qc]⟩ fun j z hj=>?_;rw[List.eraseIdx_eq_take_drop_succ] at hj;have hjl:=(QKG.1 hj).1;have h3:=(hnew j (by grind)).1;grind
theorem Qhp {f:FuncId}
  (hshift:∀ (b n c i vb vc:Nat) (cs:List Value) (x:Value) (w:World),i<n->n+1<=c->c<=9223372036854775807->vb≠b->cs.length=n ->
    (∀ j v,cs[j]?=some v->w.cell? ⟨b,0+j,none⟩=some v)->(∀ j,j<n+1->(w.cell? ⟨b,0+j,none⟩).isSome=true)->(∀ j,j<n+1->w.frozen? ⟨b,0+j,none⟩=false) ->
    (∀ j v,[x][j]?=some v->w.cell? ⟨vb,0+j,none⟩=some v)->(∀ v∈cs,v.oneCell'=true)->(∀ v∈[x],v.oneCell'=true) ->
    ∀ (tA tB:TypeId) (kA kB:Nat),w.shape? vb=some (tA,kA)->w.shape? b=some (tB,kB)->kB≠0->w.frozen? ⟨vb,0,none⟩=false->w.frozen? ⟨vb,kA,none⟩=false ->
    Calls P f #[.slice (some ⟨b,0,none⟩) n c,.int .i64 i,.slice (some ⟨vb,0,none⟩) 1 vc] w fun e w' =>
     e=.returned (.slice (some ⟨b,0,none⟩) (n+1) c)/\w'=(w.drew.setCells b (0+(i+1)) (cs.drop i)).setCells b (0+i) [x])
  (hroom:∀ (b n c vb vc:Nat) (x:Value) (w:World),n+1<=c->c<=9223372036854775807->(∀ j,j<1->(w.cell? ⟨b,0+n+j,none⟩).isSome=true)->(∀ j,j<1->w.frozen? ⟨b,0+n+j,none⟩=false) ->
    (∀ j v,[x][j]?=some v->w.cell? ⟨vb,0+j,none⟩=some v)->(∀ v∈[x],v.oneCell'=true) ->
    Calls P f #[.slice (some ⟨b,0,none⟩) n c,.int .i64 n,.slice (some ⟨vb,0,none⟩) 1 vc] w fun e w' =>
     e=.returned (.slice (some ⟨b,0,none⟩) (n+1) c)/\w'=w.setCells b (0+n) [x])
  (hend:∀ (base:Option Addr) (n c vb vc:Nat) (cs:List Value) (x:Value) (w:World),n<=c->c<n+1->(n+1)*8<=140737488355328->cs.length=n->(base=none->n=0) ->
    (∀ a,base=some a->∀ j v,cs[j]?=some v->w.cell? (a.add j)=some v)->(∀ j v,[x][j]?=some v->w.cell? ⟨vb,0+j,none⟩=some v)->(∀ v∈[x],v.oneCell'=true) ->
    Calls P f #[.slice base n c,.int .i64 n,.slice (some ⟨vb,0,none⟩) 1 vc] w fun e w' =>
     e=.returned (.slice (some ⟨w.heap.size,0,none⟩) (n+1) (grownCap w (n+1) c 3)) /\
     w'=w.drew.alloc (.cells ((cs++[x]).toArray++Builtin.zeroCells (Value.int .i64 0).cells (grownCap w (n+1) c 3-(n+1))) 3))
  (hgrow:∀ (b n c i vb vc:Nat) (cs:List Value) (x:Value) (w:World),i<n->n<=c->c<n+1->(n+1)*8<=140737488355328->cs.length=n ->
    (∀ j v,cs[j]?=some v->w.cell? ⟨b,0+j,none⟩=some v)->(∀ j v,[x][j]?=some v->w.cell? ⟨vb,0+j,none⟩=some v)->(∀ v∈cs,v.oneCell'=true)->(∀ v∈[x],v.oneCell'=true) ->
    Calls P f #[.slice (some ⟨b,0,none⟩) n c,.int .i64 i,.slice (some ⟨vb,0,none⟩) 1 vc] w fun e w' =>
     e=.returned (.slice (some ⟨w.heap.size,0,none⟩) (n+1) (grownCap w (n+1) c 3)) /\
     w'=(((w.alloc (.cells ((cs.take i).toArray++Builtin.zeroCells (Value.int .i64 0).cells (n+1-i)++Builtin.zeroCells (Value.int .i64 0).cells (grownCap w (n+1) c 3-(n+1))) 3)).drew.setCells w.heap.size i [x]).drew).setCells w.heap.size (i+1) (cs.drop i))
  (zs:List Int) (mv:Nat) (i:Nat) (hi:i<=zs.length) (x:Int) (mv':Nat) (hlen:zs.length<=1000000):YD P K f [.yl 0 zs.length,.iv (.int .i64 (i:Nat)),.yl 1 1] [(0,Zr zs mv),(1,Zr [x] mv')] [] (.iv (QnW (zs.take i++x::zs.drop i))) []:=by
 intro w ok L vs hK hnew hown hlaid hvl hvs;obtain ⟨v0,v1,v2,rfl⟩:∃ v0 v1 v2,vs=[v0,v1,v2]:=by
  match vs,hvl with
  | [v,u,z],_=>grind
 obtain ⟨v,xs,hL,hrow⟩:=QdN (hlaid.y9 0 (Zr zs mv) rfl);obtain ⟨v',xs',hL',hrow'⟩:=QdN (zs:=[x]) (hlaid.y9 1 (Zr [x] mv') rfl);have hv:v0=v:=Qex (id:=0) (zs:=zs) (mv:=mv) rfl hL rfl (hvs 0 _ v0 rfl rfl);have hv':v2=v':=Qex (id:=1) (zs:=[x]) (mv:=mv') rfl hL' rfl (hvs 2 _ v2 rfl rfl);have e1:v1=.int .i64 (i:Nat):=by
  have:=hvs 1 _ v1 rfl rfl;cases this with
  | iv _ _ r=>cases r;rfl
 subst hv hv' e1;have hmax:maxLen=1099511627775\/2000000<=maxLen/\maxLen<=9223372036854775807:=by unfold maxLen;omega
 rcases hrow' with ⟨_,h⟩ | ⟨vb,vc,cur',hr2,hfr2⟩
 ·cases h
 have hv2:=hr2.v;subst hv2;have hx:∀ j v,[Value.int .i64 x][j]?=some v->w.cell? ⟨vb,0+j,none⟩=some v:=fun j v hj=>by
  cases j with
  | zero =>
    simp at hj;subst hj;rw[hr2.cell,hr2.get 0 (by simp)];simp
  | succ j=>simp at hj
 have hone:∀ v∈[Value.int .i64 x],v.oneCell'=true:=by simp[Value.oneCell']
 have hvw:vb<w.heap.size:=(QKQ.1 hr2.at_).1;have hlen':(zs.take i++x::zs.drop i).length=zs.length+1:=by simp;omega
 have fresh:∀ (w':World) (cap:Nat),Q8 (fun b=>b<w.heap.size) w w'->zs.length+1<=cap->cap<=maxLen->(∀ j z,(zs.take i++x::zs.drop i)[j]?=some z->w'.cell? ⟨w.heap.size,j,none⟩=some (.int .i64 z)) ->
   ∃ v1 L',(Ending.returned (.slice (some ⟨w.heap.size,0,none⟩) (zs.length+1) cap):Ending)=.returned v1/\Qlk (FrO w (Qc [(0,Zr zs mv),(1,Zr [x] mv')]) L) ok w' (Qc []) L'/\QA (okL ok (Qc []) L') w' (Qc []) L' (.iv (QnW (zs.take i++x::zs.drop i))) v1/\Q8 (FrO w (Qc [(0,Zr zs mv),(1,Zr [x] mv')]) L) w w' /\
    ∀ i∈([]:List Nat),∀ o,Qc [(0,Zr zs mv),(1,Zr [x] mv')] i=some o->∃ o',Qc [] i=some o'/\Jj o o' (L i) (L' i):=fun w' cap hk h1 h2 h3=>by
  refine ⟨_,fun _=>.one 0,rfl,WX,.iv _ _ ?_,⟨hk.os,hk.tape,hk.output,hk.size,fun k hkk=>hk.block k hkk.1⟩,by simp⟩;rw[<- hlen'] at h1 |-;exact Ux _ _ _ h1 h2 ⟨hnew _ (QKJ _),by simp[Qc]⟩ h3
 have inplace:∀ (g cap:Nat) (cur:Array Value) (w':World),Qdr w v0 zs g cap cur->¬ FrO w (Qc [(0,Zr zs mv),(1,Zr [x] mv')]) L g->Q8 (FrO w (Qc [(0,Zr zs mv),(1,Zr [x] mv')]) L) w w'->zs.length+1<=cap->(∀ j z,(zs.take i++x::zs.drop i)[j]?=some z->w'.cell? ⟨g,j,none⟩=some (.int .i64 z)) ->
   ∃ v1 L',(Ending.returned (.slice (some ⟨g,0,none⟩) (zs.length+1) cap):Ending)=.returned v1/\Qlk (FrO w (Qc [(0,Zr zs mv),(1,Zr [x] mv')]) L) ok w' (Qc []) L'/\QA (okL ok (Qc []) L') w' (Qc []) L' (.iv (QnW (zs.take i++x::zs.drop i))) v1/\Q8 (FrO w (Qc [(0,Zr zs mv),(1,Zr [x] mv')]) L) w w' /\
    ∀ i∈([]:List Nat),∀ o,Qc [(0,Zr zs mv),(1,Zr [x] mv')] i=some o->∃ o',Qc [] i=some o'/\Jj o o' (L i) (L' i):=fun g cap cur w' hr1 _ hk h1 h3=>by
  have hgo:ok g:=hown g ⟨0,Zr zs mv,rfl,by rw[hL,hr1.v];simp[Lay.has,Value.ownBlock]⟩;refine ⟨_,fun _=>.one 0,rfl,WX,.iv _ _ ?_,hk,by simp⟩;have h2:=hr1.max;rw[<- hlen'] at h1 |-;exact Ux _ _ _ h1 h2 ⟨hgo,by simp[Qc]⟩ h3
 have hcs:∀ j,j<zs.length->(zs.map (Value.int .i64))[j]?=some (.int .i64 zs[j]!):=fun j hj=>by simp[hj]
 have onev:∀ v∈zs.map (Value.int .i64),v.oneCell'=true:=fun v hv=>by
  obtain ⟨z,_,rfl⟩:=QKT.1 hv;rfl
 rcases QLU i zs.length with xa | hge;rotate_left
 ·
  have hie:i=zs.length:=by omega
  subst hie;have hsame:zs.take zs.length++x::zs.drop zs.length=zs++[x]:=by simp
  have grow:∀ (base:Option Addr) (c:Nat),v0=.slice base zs.length c->zs.length<=c->c<zs.length+1->(base=none->zs.length=0)->(∀ a,base=some a->∀ j v,(zs.map (Value.int .i64))[j]?=some v->w.cell? (a.add j)=some v) ->
    Calls P f [v0,Value.int .i64 (zs.length:Nat),Value.slice (some ⟨vb,0,none⟩) [x].length vc].toArray w (fun e w'=>∃ v1 L',e=.returned v1/\Qlk (FrO w (Qc [(0,Zr zs mv),(1,Zr [x] mv')]) L) ok w' (Qc []) L'/\QA (okL ok (Qc []) L') w' (Qc []) L' (.iv (QnW (zs.take zs.length++x::zs.drop zs.length))) v1/\Q8 (FrO w (Qc [(0,Zr zs mv),(1,Zr [x] mv')]) L) w w' /\
     ∀ i∈([]:List Nat),∀ o,Qc [(0,Zr zs mv),(1,Zr [x] mv')] i=some o->∃ o',Qc [] i=some o'/\Jj o o' (L i) (L' i)):=fun base c hv h1 h2 h3 h4=>by
   have h0:=hend base zs.length c vb vc (zs.map (.int .i64)) (.int .i64 x) w h1 h2 (by omega) (by simp) h3 h4 hx hone;rw[<- hv] at h0;have hgc1:=grownCap_ge w (zs.length+1) c 3;have hgc2:=grownCap_le_maxLen w (zs.length+1) c 3 (by omega);generalize grownCap w (zs.length+1) c 3=G at *;refine h0.mono fun e w' ⟨h5,h6⟩=>?_;subst h5;obtain ⟨ROW,hROW⟩:∃ ROW:Array Value,ROW=(zs.map (Value.int .i64)++[Value.int .i64 x]).toArray++Builtin.zeroCells (Value.int .i64 0).cells (G-(zs.length+1)):=⟨_,rfl⟩;rw[<- hROW] at h6;refine fresh w' G ?_ hgc1 hgc2 fun j z hj=>?_
   ·rw[h6]
    have:=Qey w.drew (.cells ROW 3);exact ⟨this.os,this.tape,this.output,this.size,this.block⟩
   rw[h6,World.cell?_alloc_at (w:=w.drew) ROW _ w.heap.size j rfl,hROW];rw[hsame] at hj;have hjl:=(QKG.1 hj).1;simp at hjl;rw[Array.getElem?_append_left (by simp;omega)];have:(zs.map (Value.int .i64)++[Value.int .i64 x])=(zs++[x]).map (.int .i64):=by simp
   rw[this,QMk,QKN,hj];rfl
  rcases hrow with ⟨h1,h2⟩ | ⟨g,cap,cur,hr1,hfr⟩
  ·subst h2;grind
  have hv:=hr1.v;have hm:=hr1.max;have hle:=hr1.le;rcases QLU zs.length cap with hcap | hcap;rotate_left
  ·refine grow (some ⟨g,0,none⟩) cap hv hle (by omega) (by simp) (fun a ha j v hj=>?_);injection ha with ha;subst ha;rw[QKN,QKK] at hj;obtain ⟨z,hz,rfl⟩:=hj;obtain ⟨h1,h2⟩:=QKG.1 hz;rw[Addr.add_lit,QKY,hr1.cell,hr1.get j h1,h2]
  have h0:=hroom g zs.length cap vb vc (.int .i64 x) w (by omega) (by omega) (fun j hj=>by
   rw[hr1.cell,QK7 (by have:=hr1.size;omega)];rfl) (fun j _=>hr1.frozen _) hx hone
  rw[<- hv] at h0;refine h0.mono fun e w' ⟨h1,h2⟩=>?_;subst h1;have hk:Q8 (FrO w (Qc [(0,Zr zs mv),(1,Zr [x] mv')]) L) w w':=by
   rw[h2];exact Z4 hfr _ _ _
  refine inplace g cap cur w' hr1 hfr hk (by omega) fun j z hj=>?_;rw[hsame] at hj;rw[h2];rcases QLU j zs.length with h | h
  ·rw[QKS h] at hj;rw[World.cell?_setCells_out g [_] (0+zs.length) _ ⟨g,j,none⟩ (fun _ _=>by grind),hr1.cell,hr1.get j h]
   obtain ⟨h3,h4⟩:=QKG.1 hj;rw[h4]
  have hj':j=zs.length:=by have:=(QKG.1 hj).1;grind
  subst hj';simp at hj;subst hj
  have:=World.cell?_setCells_in g [Value.int .i64 x] (0+zs.length) w (fun k hk=>by
   simp at hk;subst hk;rw[hr1.cell,QK7 (by have:=hr1.size;omega)];rfl) 0 (by simp)
  simpa using this
 rcases hrow with ⟨_,h⟩ | ⟨g,cap,cur,hr1,hfr⟩
 ·grind
 have hv:=hr1.v;have hm:=hr1.max;have hle:=hr1.le;have hgw:g<w.heap.size:=(QKQ.1 hr1.at_).1;have hne:vb≠g:=fun e=>hlaid.apart 0 1 (Zr zs mv) (Zr [x] mv') g (by simp) rfl rfl (by rw[hL,hv];simp[Lay.has,Value.ownBlock]) (by rw[hL',e];simp[Lay.has,Value.ownBlock]);have hc:∀ j v,(zs.map (Value.int .i64))[j]?=some v->w.cell? ⟨g,0+j,none⟩=some v:=fun j v hj=>by
  rw[QKN,QKK] at hj;obtain ⟨z,hz,rfl⟩:=hj;obtain ⟨h1,h2⟩:=QKG.1 hz;rw[QKY,hr1.cell,hr1.get j h1,h2]
 have hmid:∀ j z,(zs.take i++x::zs.drop i)[j]?=some z->(j<i/\zs[j]?=some z)\/(j=i/\z=x)\/(i+1<=j/\(zs.drop i)[j-(i+1)]?=some z):=fun j z hj=>by
  rcases Nat.lt_trichotomy j i with h | h | h
  ·rw[QKS (by simp;omega),QLr,if_pos h] at hj;grind
  ·subst h;rw[QKO (by simp;omega),QMh,Nat.min_eq_left (by omega),QL7] at hj;grind
  rw[QKO (by simp;omega),QMh,Nat.min_eq_left (by omega)] at hj;obtain ⟨k,rfl⟩:∃ k,j=i+1+k:=⟨j-(i+1),by omega⟩;rw[show i+1+k-i=k+1 by omega,List.getElem?_cons_succ] at hj;exact .inr (.inr ⟨by omega,by rw[show i+1+k-(i+1)=k by omega];exact hj⟩)
 rcases QLU zs.length cap with hcap | hcap
 ·
  have hsome:∀ j,j<zs.length+1->(w.cell? ⟨g,0+j,none⟩).isSome=true:=fun j hj=>by
   rw[QKY,hr1.cell,QK7 (by have:=hr1.size;omega)];rfl
  have h0:=hshift g zs.length cap i vb vc (zs.map (.int .i64)) (.int .i64 x) w xa (by omega) (by omega) hne (by simp) hc hsome (fun j _=>hr1.frozen _) hx onev hone 3 3 cur'.size cur.size
   (by simp[World.shape?,hr2.at_]) (by simp[World.shape?,hr1.at_]) (by have:=hr1.size;omega) (hr2.frozen _) (hr2.frozen _)
  rw[<- hv] at h0;refine h0.mono fun e w' ⟨h1,h2⟩=>?_;subst h1;have hk:Q8 (FrO w (Qc [(0,Zr zs mv),(1,Zr [x] mv')]) L) w w':=by
   have k1:=Z4 (Fr:=FrO w (Qc [(0,Zr zs mv),(1,Zr [x] mv')]) L) hfr ((zs.map (Value.int .i64)).drop i) (0+(i+1)) w.drew;have k2:=Z4 (Fr:=FrO w (Qc [(0,Zr zs mv),(1,Zr [x] mv')]) L) hfr [Value.int .i64 x] (0+i) (w.drew.setCells g (0+(i+1)) ((zs.map (Value.int .i64)).drop i));rw[h2];exact ⟨k2.os.trans k1.os,k2.tape.trans k1.tape,k2.output.trans k1.output,QLv k1.size k2.size,fun k hk=>(k2.block k hk).trans (k1.block k hk)⟩
  refine inplace g cap cur w' hr1 hfr hk (by omega) fun j z hj=>?_;have in1:∀ k,k<((zs.map (Value.int .i64)).drop i).length->(w.drew.cell? ⟨g,0+(i+1)+k,none⟩).isSome=true:=fun k hk=>by
   have:=hsome (i+1+k) (by simp at hk;omega);rw[show 0+(i+1)+k=0+(i+1+k) by omega]
   exact this
  have sm1:∀ k,(w.cell? ⟨g,k,none⟩).isSome=true->((w.drew.setCells g (0+(i+1)) ((zs.map (Value.int .i64)).drop i)).cell? ⟨g,k,none⟩).isSome=true:=fun k hk=>by
   by_cases hin:0+(i+1)<=k/\k<0+(i+1)+((zs.map (Value.int .i64)).drop i).length
   ·have:=World.cell?_setCells_in g _ (0+(i+1)) w.drew in1 (k-(0+(i+1))) (by omega);rw[show 0+(i+1)+(k-(0+(i+1)))=k by omega] at this;rw[this];rfl
   rw[World.cell?_setCells_out g _ (0+(i+1)) w.drew ⟨g,k,none⟩ (fun _ _=>by grind)]
   exact hk
  rw[h2];rcases hmid j z hj with ⟨h3,h4⟩ | ⟨h3,h4⟩ | ⟨h3,h4⟩
  ·rw[World.cell?_setCells_out g [_] (0+i) _ ⟨g,j,none⟩ (fun _ _=>by grind),World.cell?_setCells_out g _ (0+(i+1)) w.drew ⟨g,j,none⟩ (fun _ _=>by grind)]
   have:=hc j (.int .i64 z) (by simp[h4]);rw[QKY] at this;exact this
  ·subst h3 h4
   have:=World.cell?_setCells_in g [Value.int .i64 z] (0+j) (w.drew.setCells g (0+(j+1)) ((zs.map (Value.int .i64)).drop j)) (fun k hk=>sm1 _ (by
    have:=hsome j (by omega);simp at hk;subst hk;simpa using this)) 0 (by simp)
   simpa using this
  obtain ⟨k,rfl⟩:∃ k,j=i+1+k:=⟨j-(i+1),by omega⟩;rw[show i+1+k-(i+1)=k by omega] at h4;have hkl:=(QKG.1 h4).1;rw[World.cell?_setCells_out g [_] (0+i) _ ⟨g,i+1+k,none⟩ (fun _ _=>by show i+1+k<_\/_<=i+1+k;simp)];have:=World.cell?_setCells_in g ((zs.map (Value.int .i64)).drop i) (0+(i+1)) w.drew in1 k (by simpa using hkl);rw[QKY] at this;rw[QKY,this];have h5:(List.drop i (zs.map (Value.int .i64)))[k]?=some (.int .i64 z):=by
   rw[<- List.map_drop,QKN,h4];rfl
  rw[QKF (by simpa using hkl)] at h5;exact h5
 have hcap':cap=zs.length:=by omega
 have h0:=hgrow g zs.length cap i vb vc (zs.map (.int .i64)) (.int .i64 x) w xa (by omega) (by omega) (by omega) (by simp) hc hx onev hone;rw[<- hv] at h0;have hgc1:=grownCap_ge w (zs.length+1) cap 3;have hgc2:=grownCap_le_maxLen w (zs.length+1) cap 3 (by omega);generalize grownCap w (zs.length+1) cap 3=G at *;refine h0.mono fun e w' ⟨h1,h2⟩=>?_;subst h1;obtain ⟨ROW,hROW⟩:∃ ROW:Array Value,ROW=((zs.map (Value.int .i64)).take i).toArray++Builtin.zeroCells (Value.int .i64 0).cells (zs.length+1-i)++Builtin.zeroCells (Value.int .i64 0).cells (G-(zs.length+1)):=⟨_,rfl⟩;rw[<- hROW] at h2;have hRs:zs.length+1<=ROW.size:=by
  rw[hROW];simp[Builtin.zeroCells,Value.cells];omega
 have hRt:∀ j z,j<i->zs[j]?=some z->ROW[j]?=some (.int .i64 z):=fun j z hj hz=>by
  rw[hROW,Array.append_assoc,Array.getElem?_append_left (by simp;omega)]
  simp[QLr,hj,hz]
 have hN:∀ j,j<zs.length+1->((w.alloc (.cells ROW 3)).cell? ⟨w.heap.size,j,none⟩).isSome=true:=fun j hj=>by
  rw[World.cell?_alloc_at (w:=w) ROW _ w.heap.size j rfl,QK7 (by omega)];rfl
 obtain ⟨W1,hW1⟩:∃ W1,W1=(w.alloc (.cells ROW 3)).drew.setCells w.heap.size i [Value.int .i64 x]:=⟨_,rfl⟩;rw[<- hW1] at h2;have hkA:Q8 (fun b=>b<w.heap.size) w (w.alloc (.cells ROW 3)):=Qey w _;have hk1:Q8 (fun b=>b<w.heap.size) w W1:=by
  have k2:=Z4 (Fr:=fun b=>b<w.heap.size) (g:=w.heap.size) (by simp) [Value.int .i64 x] i (w.alloc (.cells ROW 3)).drew;rw[hW1];exact ⟨k2.os.trans hkA.os,k2.tape.trans hkA.tape,k2.output.trans hkA.output,QLv hkA.size k2.size,fun k hk=>(k2.block k hk).trans (hkA.block k hk)⟩
 have hk2:Q8 (fun b=>b<w.heap.size) w w':=by
  have k2:=Z4 (Fr:=fun b=>b<w.heap.size) (g:=w.heap.size) (by simp) ((zs.map (Value.int .i64)).drop i) (i+1) W1.drew;rw[h2];exact ⟨k2.os.trans hk1.os,k2.tape.trans hk1.tape,k2.output.trans hk1.output,QLv hk1.size k2.size,fun k hk=>(k2.block k hk).trans (hk1.block k hk)⟩
 have sm1:∀ k,k<zs.length+1->(W1.cell? ⟨w.heap.size,k,none⟩).isSome=true:=fun k hk=>by
  rw[hW1];by_cases hin:k=i
  ·subst hin;have:=World.cell?_setCells_in w.heap.size [Value.int .i64 x] k (w.alloc (.cells ROW 3)).drew (fun t ht=>by simp at ht;subst ht;exact hN k hk) 0 (by simp);rw[QLX] at this;rw[this];rfl
  rw[World.cell?_setCells_out w.heap.size [_] i _ ⟨w.heap.size,k,none⟩ (fun _ _=>by show k<_\/_<=k;simp;omega)]
  exact hN k hk
 refine fresh w' G hk2 hgc1 hgc2 fun j z hj=>?_;have in2:∀ k,k<((zs.map (Value.int .i64)).drop i).length->(W1.drew.cell? ⟨w.heap.size,i+1+k,none⟩).isSome=true:=fun k hk=>sm1 _ (by simp at hk;omega);rw[h2];rcases hmid j z hj with ⟨h3,h4⟩ | ⟨h3,h4⟩ | ⟨h3,h4⟩
 ·rw[World.cell?_setCells_out w.heap.size _ (i+1) W1.drew ⟨w.heap.size,j,none⟩ (fun _ _=>by grind)]
  show W1.cell? _=_;rw[hW1,World.cell?_setCells_out w.heap.size [_] i _ ⟨w.heap.size,j,none⟩ (fun _ _=>by grind)]
  show (w.alloc (.cells ROW 3)).cell? _=_;rw[World.cell?_alloc_at (w:=w) ROW _ w.heap.size j rfl];exact hRt j z h3 h4
 ·subst h3 h4;rw[World.cell?_setCells_out w.heap.size _ (j+1) W1.drew ⟨w.heap.size,j,none⟩ (fun _ _=>by grind)]
  show W1.cell? _=_;rw[hW1];have:=World.cell?_setCells_in w.heap.size [Value.int .i64 z] j (w.alloc (.cells ROW 3)).drew (fun t ht=>by simp at ht;subst ht;exact hN j (by omega)) 0 (by simp);simpa using this
 obtain ⟨k,rfl⟩:∃ k,j=i+1+k:=⟨j-(i+1),by omega⟩;rw[show i+1+k-(i+1)=k by omega] at h4;have hkl:=(QKG.1 h4).1;have:=World.cell?_setCells_in w.heap.size ((zs.map (Value.int .i64)).drop i) (i+1) W1.drew in2 k (by simpa using hkl);rw[this]
 have h5:(List.drop i (zs.map (Value.int .i64)))[k]?=some (.int .i64 z):=by
  rw[<- List.map_drop,QKN,h4];rfl
 rw[QKF (by simpa using hkl)] at h5;exact h5
end
end Go.Ev
namespace Go.Pf
open Go Go.Proofs Go.Shelf Go.RowKit Go.Lib Go.Proofs.Tryz
set_option linter.unusedVariables false
set_option linter.unusedSimpArgs false
theorem i3z:(prog.info? 3).map (fun i=>(i.zero,i.size,i.bytes))=some (some (Value.int IntKind.i64 0),1,8):=by kernel_rfl
theorem QlU:prog.follows .mixedOrders=true:=by kernel_rfl
set_option maxHeartbeats 4000000 in
set_option maxRecDepth 100000 in
theorem Qcx (b off n c i vb voff m vc:Nat) (cs vs:List Value) (w:World) (hi:i<n) (hm:0<m) (hroom:n+m<=c) (hc63:c<=9223372036854775807) (hvb:vb≠b)
  (hcl:cs.length=n) (hvl:vs.length=m)
  (hcs:∀ j v,cs[j]?=some v->w.cell? ⟨b,off+j,none⟩=some v) (hsp:∀ j,j<n+m->(w.cell? ⟨b,off+j,none⟩).isSome=true) (hfz:∀ j,j<n+m->w.frozen? ⟨b,off+j,none⟩=false)
  (hvs:∀ j v,vs[j]?=some v->w.cell? ⟨vb,voff+j,none⟩=some v) (h1c:∀ v∈cs,v.oneCell'=true) (h1v:∀ v∈vs,v.oneCell'=true)
  (tA tB:TypeId) (kA kB:Nat) (hsa:w.shape? vb=some (tA,kA)) (hsb:w.shape? b=some (tB,kB)) (hkB:kB≠0) (hfa:w.frozen? ⟨vb,voff,none⟩=false) (hfe:w.frozen? ⟨vb,kA,none⟩=false) :
  Calls prog 379 #[.slice (some ⟨b,off,none⟩) n c,.int .i64 i,.slice (some ⟨vb,voff,none⟩) m vc] w fun e w' =>
   e=.returned (.slice (some ⟨b,off,none⟩) (n+m) c)/\w'=(w.drew.setCells b (off+(i+m)) (cs.drop i)).setCells b (off+i) vs:=by
 have t0:=underlying0;have a0:=isAgg0;have z0:=sizeOf0;have v0:=zeroValue0;have t3:=underlying3;have a3:=isAgg3;have z3:=sizeOf3;have v3:=zeroValue3;have t4:=underlying4;have a4:=isAgg4;have z4:=sizeOf4;have v4:=zeroValue4;have t186:=underlying253;have a186:=isAgg253;have z186:=sizeOf253;have v186:=zeroValue253;have t74:=underlying57;have a74:=isAgg57;have z74:=sizeOf57;have v74:=zeroValue57;have u0:=run_underlying t0;have u3:=run_underlying t3;have u4:=run_underlying t4;have u186:=run_underlying t186;have u74:=run_underlying t74;have hz1:¬ ((m:Int)=0):=by omega
 have hz2:¬ ((i:Int)=(n:Int)):=by omega
 have hsz:(prog.info? 3).map (·.size)=some 1:=by
  obtain ⟨i0,hi0,h0,h1,h2⟩:=info_parts i3z;grind
 have hov:∀ lb cb,(callFunc 403 #[.slice (some ⟨vb,voff,none⟩) m vc,.slice (some ⟨b,off+(i+m),none⟩) lb cb]).run prog w=.ok (.value (.bool false)) w:=fun lb cb=>by
  rw[run_callFunc_extern func403 (by kernel_rfl) (by kernel_rfl) (by kernel_rfl) (e:=Extern.SlicesOverlaps.overlaps #[57,57] #[4]) (by kernel_rfl),
   Lib.run_overlaps_apart w 57 4 3 t74 1 z3 ⟨vb,voff,none⟩ ⟨b,off+(i+m),none⟩ m vc lb cb hvb tA tB kA kB hsa hsb hkB hfa hfe]
  rfl
 have hdl:(cs.drop i).length=n-i:=by grind
 have mixed:=QlU;have hw1:IntKind.i64.wrap ((i:Int)+(m:Int))=(i:Int)+(m:Int):=by rw[IntKind.wrap_i64];omega
 have hb1:(0:Int)<=(i:Int)+(m:Int):=by omega
 have hin:i<=n:=by omega
 have htn:((i:Int)+(m:Int)).toNat=i+m:=by omega
 have hb2:¬ (c=i+m):=by omega
 have hb3:(i:Int)<=(n:Int)+(m:Int):=by omega
 have hb4:¬ (c=i):=by omega
 have hcp1:∀ ty dc sc,(Builtin.copy_ #[253,253] ty #[.slice (some ⟨b,off+(i+m),none⟩) (n+m-(i+m)) dc,.slice (some ⟨b,off+i,none⟩) (n+m-i) sc]).run prog w.drew=.ok (goInt (cs.drop i).length) (w.drew.setCells b (off+(i+m)) (cs.drop i)):=fun ty dc sc =>
  run_copy_cells w.drew _ _ ty 3 b (off+(i+m)) (n+m-(i+m)) dc ⟨b,off+i,none⟩ (n+m-i) sc (cs.drop i) t186 hsz (by grind)
   (fun j v hj=>by rw[Addr.add_lit,QLI];exact hcs (i+j) v (by grind))
   (fun j hj=>by rw[QLI];exact hsp _ (by omega)) (fun j hj=>by rw[QLI];exact hfz _ (by omega)) (fun v hv=>h1c v (QLT hv))
 obtain ⟨W1,hW1⟩:∃ W1,W1=w.drew.setCells b (off+(i+m)) (cs.drop i):=⟨_,rfl⟩;have hsp1:∀ k,k<n+m->(W1.cell? ⟨b,off+k,none⟩).isSome=true:=fun k hk=>by
  rw[hW1];exact isSome_setCells b _ _ _ (fun j hj=>by rw[QLI];exact hsp _ (by omega)) _ (hsp k hk)
 have hcp2:∀ (W:World),(∀ x,W.cell? x=W1.cell? x)->(∀ x,W.frozen? x=W1.frozen? x)->∀ ty dc,(Builtin.copy_ #[253,57] ty #[.slice (some ⟨b,off+i,none⟩) (n+m-i) dc,.slice (some ⟨vb,voff,none⟩) m vc]).run prog W=.ok (goInt vs.length) (W.setCells b (off+i) vs):=fun W hWc hWf ty dc =>
  run_copy_cells W _ _ ty 3 b (off+i) (n+m-i) dc ⟨vb,voff,none⟩ m vc vs t186 hsz (by grind)
   (fun j v hj=>by
     rw[Addr.add_lit,hWc,hW1,World.cell?_setCells_out b _ _ _ _ (fun h _=>absurd h hvb)]
     exact hvs j v hj)
   (fun j hj=>by rw[hWc,QLI];exact hsp1 _ (by omega)) (fun j hj=>by rw[hWf,hW1,World.frozen?_setCells,QLI];exact hfz _ (by omega)) h1v
 rw[<- hW1] at hcp1
 go_enter func379,ntmps379
 go_wp2_with (simp only[hov])
 go_region_law_o (refine step_copy_runI rfl _ _ 253 253 rfl _ _ (by simp[Act.eval,Act.put]) (by simp[Act.eval,Act.put]) (hcp1 _ _ _) ?_)
 go_wp2_with (at_builtin;refine wpList_copy_runI _ rfl _ _ 253 57 rfl _ _ rfl rfl (hcp2 _ (fun _=>rfl) (fun _=>rfl) _ _) ?_)
 go_ret
 first | exact ⟨rfl,rfl⟩ | exact ⟨rfl,by rw[hW1]⟩
set_option maxHeartbeats 4000000 in
set_option maxRecDepth 100000 in
theorem W6 (b off n c vb voff m vc:Nat) (vs:List Value) (w:World) (hm:0<m) (hroom:n+m<=c) (hc63:c<=9223372036854775807)
  (hvl:vs.length=m) (hsp:∀ j,j<m->(w.cell? ⟨b,off+n+j,none⟩).isSome=true) (hfz:∀ j,j<m->w.frozen? ⟨b,off+n+j,none⟩=false)
  (hvs:∀ j v,vs[j]?=some v->w.cell? ⟨vb,voff+j,none⟩=some v) (h1v:∀ v∈vs,v.oneCell'=true) :
  Calls prog 379 #[.slice (some ⟨b,off,none⟩) n c,.int .i64 n,.slice (some ⟨vb,voff,none⟩) m vc] w fun e w' =>
   e=.returned (.slice (some ⟨b,off,none⟩) (n+m) c)/\w'=w.setCells b (off+n) vs:=by
 have t0:=underlying0;have a0:=isAgg0;have z0:=sizeOf0;have v0:=zeroValue0;have t3:=underlying3;have a3:=isAgg3;have z3:=sizeOf3;have v3:=zeroValue3;have t4:=underlying4;have a4:=isAgg4;have z4:=sizeOf4;have v4:=zeroValue4;have t186:=underlying253;have a186:=isAgg253;have z186:=sizeOf253;have v186:=zeroValue253;have t74:=underlying57;have a74:=isAgg57;have z74:=sizeOf57;have v74:=zeroValue57;have u0:=run_underlying t0;have u3:=run_underlying t3;have u4:=run_underlying t4;have u186:=run_underlying t186;have u74:=run_underlying t74;have mixed:=QlU;have hz1:¬ ((m:Int)=0):=by omega
 have hsrc:Src prog 1 57 (.slice (some ⟨vb,voff,none⟩) m vc) m vs w:=Src.ofSlice w t74 ⟨vb,voff,none⟩ m vc vs (by omega) (fun j u hj=>by rw[Addr.add_lit];exact hvs j u hj) h1v
 go_enter func379,ntmps379
 go_wp2_with (at_builtin;refine wpList_append_room1 _ rfl _ _ 253 57 rfl 3 _ _ t186 i3z b off n c rfl _ rfl m vs hsrc hroom (by grind) (by grind) ?_)
 go_ret
 exact ⟨rfl,rfl⟩
set_option maxHeartbeats 4000000 in
set_option maxRecDepth 100000 in
theorem W7 (base:Option Addr) (n c vb voff m vc:Nat) (cs vs:List Value) (w:World) (hm:0<m) (hnc:n<=c) (hroom:c<n+m) (hbig:(n+m)*8<=140737488355328)
  (hcl:cs.length=n) (hvl:vs.length=m) (hnil:base=none->n=0)
  (hcs:∀ a,base=some a->∀ j v,cs[j]?=some v->w.cell? (a.add j)=some v)
  (hvs:∀ j v,vs[j]?=some v->w.cell? ⟨vb,voff+j,none⟩=some v) (h1v:∀ v∈vs,v.oneCell'=true) :
  Calls prog 379 #[.slice base n c,.int .i64 n,.slice (some ⟨vb,voff,none⟩) m vc] w fun e w' =>
   e=.returned (.slice (some ⟨w.heap.size,0,none⟩) (n+m) (grownCap w (n+m) c 3)) /\
   w'=w.drew.alloc (.cells ((cs++vs).toArray++Builtin.zeroCells (Value.int .i64 0).cells (grownCap w (n+m) c 3-(n+m))) 3):=by
 have t0:=underlying0;have a0:=isAgg0;have z0:=sizeOf0;have v0:=zeroValue0;have t3:=underlying3;have a3:=isAgg3;have z3:=sizeOf3;have v3:=zeroValue3;have t4:=underlying4;have a4:=isAgg4;have z4:=sizeOf4;have v4:=zeroValue4;have t186:=underlying253;have a186:=isAgg253;have z186:=sizeOf253;have v186:=zeroValue253;have t74:=underlying57;have a74:=isAgg57;have z74:=sizeOf57;have v74:=zeroValue57;have u0:=run_underlying t0;have u3:=run_underlying t3;have u4:=run_underlying t4;have u186:=run_underlying t186;have u74:=run_underlying t74;have mixed:=QlU;obtain ⟨i0,hi0,hz0,hzs,hzb⟩:=info_parts i3z;have hz1:¬ ((m:Int)=0):=by omega
 have hsrc:Src prog i0.size 57 (.slice (some ⟨vb,voff,none⟩) m vc) m vs w:=by
  rw[hzs];exact Src.ofSlice w t74 ⟨vb,voff,none⟩ m vc vs (by omega) (fun j u hj=>by rw[Addr.add_lit];exact hvs j u hj) h1v
 have hold:(Builtin.firstCells i0.size n (.slice base n c)).run prog w.drew=.ok cs.toArray w.drew:=by
  rw[hzs];cases base with
  | none =>
    have h0:=hnil rfl;subst h0;rw[List.length_eq_zero_iff.1 hcl];exact run_firstCells_none w.drew 1 0 0 c
  | some a=>exact run_firstCells_some w.drew 1 n a n c cs (by omega) (fun j v hj=>hcs a rfl j v hj)
 have hrun:∀ ty,(Builtin.append_ #[253,57] ty #[.slice base n c,.slice (some ⟨vb,voff,none⟩) m vc]).run prog w=_:=fun ty =>
  run_append_grow_src w 253 57 ty 3 i0 _ t186 hi0 hz0 base n c cs hold _ m vs hsrc hroom (by omega) (by rw[hzb];exact growslice_fits hroom hbig)
 go_enter func379,ntmps379
 cases base with
 | none =>
   have h0:=hnil rfl;subst h0
   go_wp2_with (at_builtin;refine Lib.wpList_append_run _ rfl _ _ _ _ rfl _ _ rfl rfl _ _ (hrun _) ?_)
   go_ret
   exact ⟨rfl,rfl⟩
 | some a =>
   obtain ⟨ab,ao,asp⟩:=a
   go_wp2_with (at_builtin;refine Lib.wpList_append_run _ rfl _ _ _ _ rfl _ _ rfl rfl _ _ (hrun _) ?_)
   all_goals (go_ret;exact ⟨rfl,rfl⟩)
set_option maxHeartbeats 4000000 in
set_option maxRecDepth 100000 in
theorem Qdg (b off n c i vb voff m vc:Nat) (cs vs:List Value) (w:World) (hi:i<n) (hm:0<m) (hnc:n<=c) (hroom:c<n+m) (hbig:(n+m)*8<=140737488355328)
  (hcl:cs.length=n) (hvl:vs.length=m)
  (hcs:∀ j v,cs[j]?=some v->w.cell? ⟨b,off+j,none⟩=some v)
  (hvs:∀ j v,vs[j]?=some v->w.cell? ⟨vb,voff+j,none⟩=some v) (h1c:∀ v∈cs,v.oneCell'=true) (h1v:∀ v∈vs,v.oneCell'=true) :
  Calls prog 379 #[.slice (some ⟨b,off,none⟩) n c,.int .i64 i,.slice (some ⟨vb,voff,none⟩) m vc] w fun e w' =>
   e=.returned (.slice (some ⟨w.heap.size,0,none⟩) (n+m) (grownCap w (n+m) c 3)) /\
   w'=(((w.alloc (.cells ((cs.take i).toArray++Builtin.zeroCells (Value.int .i64 0).cells (n+m-i)++Builtin.zeroCells (Value.int .i64 0).cells (grownCap w (n+m) c 3-(n+m))) 3)).drew.setCells w.heap.size i vs).drew).setCells w.heap.size (i+m) (cs.drop i):=by
 have t0:=underlying0;have a0:=isAgg0;have z0:=sizeOf0;have v0:=zeroValue0;have t3:=underlying3;have a3:=isAgg3;have z3:=sizeOf3;have v3:=zeroValue3;have t4:=underlying4;have a4:=isAgg4;have z4:=sizeOf4;have v4:=zeroValue4;have t186:=underlying253;have a186:=isAgg253;have z186:=sizeOf253;have v186:=zeroValue253;have t74:=underlying57;have a74:=isAgg57;have z74:=sizeOf57;have v74:=zeroValue57;have u0:=run_underlying t0;have u3:=run_underlying t3;have u4:=run_underlying t4;have u186:=run_underlying t186;have u74:=run_underlying t74;have mixed:=QlU;obtain ⟨i0,hi0,hz0,hzs,hzb⟩:=info_parts i3z;have hz1:¬ ((m:Int)=0):=by omega
 have hz2:¬ ((i:Int)=(n:Int)):=by omega
 have hz3:(c:Int)<(n:Int)+(m:Int):=by omega
 have hsz:(prog.info? 3).map (·.size)=some 1:=by grind
 have hbw:b<w.heap.size:=block_lt_of_cell (hcs 0 _ (QKF (by omega)));have hvw:vb<w.heap.size:=block_lt_of_cell (hvs 0 _ (QKF (by omega)));have hkk:(n:Int)+(m:Int)-(i:Int)=((n+m-i:Nat):Int):=by omega
 have hik:i+(n+m-i)=n+m:=by omega
 have hold:(Builtin.firstCells i0.size i (.slice (some ⟨b,off,none⟩) i c)).run prog w.drew=.ok (cs.take i).toArray w.drew:=by
  rw[hzs]
  exact run_firstCells_some w.drew 1 i ⟨b,off,none⟩ i c (cs.take i) (by grind) (fun j v hj=>by
   rw[Addr.add_lit];rw[QLr] at hj;split at hj
   ·exact hcs j v hj
   cases hj)
 have hrz:∀ ty,(Builtin.append_ #[253,3] ty #[.slice (some ⟨b,off,none⟩) i c,.int .i64 ((n:Int)+(m:Int)-(i:Int))]).run prog w =
   .ok (.slice (some ⟨w.heap.size,0,none⟩) (n+m) (grownCap w (n+m) c 3)) (w.drew.alloc (.cells ((cs.take i).toArray++Builtin.zeroCells (Value.int .i64 0).cells (n+m-i)++Builtin.zeroCells (Value.int .i64 0).cells (grownCap w (n+m) c 3-(n+m))) 3)):=fun ty=>by
  have h:=Lib.run_append_grow_zeros w 253 3 ty 3 i0 _ .i64 .i64 t186 t3 hi0 hz0 (some ⟨b,off,none⟩) i c (cs.take i) hold (n+m-i) (by omega) (by omega) (by omega) (by omega) (by rw[hzb];omega) (by rw[hzb,hik];exact growslice_fits hroom hbig);grind
 obtain ⟨G,hG⟩:∃ G,G=grownCap w (n+m) c 3:=⟨_,rfl⟩;obtain ⟨ROW,hROW⟩:∃ ROW:Array Value,ROW=(cs.take i).toArray++Builtin.zeroCells (Value.int .i64 0).cells (n+m-i)++Builtin.zeroCells (Value.int .i64 0).cells (G-(n+m)):=⟨_,rfl⟩;rw[<- hG] at hrz |-;rw[<- hROW] at hrz |-
 have hRl:n+m<=ROW.size:=by
  rw[hROW];simp[Builtin.zeroCells,Value.cells];omega
 obtain ⟨W1,hW1⟩:∃ W1,W1=w.drew.alloc (.cells ROW 3):=⟨_,rfl⟩;rw[<- hW1] at hrz;have hN:∀ j,j<n+m->(W1.cell? ⟨w.heap.size,j,none⟩).isSome=true:=fun j hj=>by
  rw[hW1,World.cell?_alloc_at (w:=w.drew) ROW _ w.heap.size j rfl,QK7 (by omega)];rfl
 have hNf:∀ j,W1.frozen? ⟨w.heap.size,j,none⟩=false:=fun j=>by rw[hW1];exact World.frozen?_alloc_at (w:=w.drew) ROW _ w.heap.size j rfl
 have hOb:∀ j v,w.cell? ⟨b,j,none⟩=some v->W1.cell? ⟨b,j,none⟩=some v:=fun j v h=>by rw[hW1,World.cell?_alloc_past (w:=w.drew) _ b j hbw];exact h
 have hOv:∀ j v,w.cell? ⟨vb,j,none⟩=some v->W1.cell? ⟨vb,j,none⟩=some v:=fun j v h=>by rw[hW1,World.cell?_alloc_past (w:=w.drew) _ vb j hvw];exact h
 have hcpA:∀ (W:World),(∀ x,W.cell? x=W1.cell? x)->(∀ x,W.frozen? x=W1.frozen? x)->∀ ty dc,(Builtin.copy_ #[253,57] ty #[.slice (some ⟨w.heap.size,i,none⟩) (n+m-i) dc,.slice (some ⟨vb,voff,none⟩) m vc]).run prog W=.ok (goInt vs.length) (W.setCells w.heap.size i vs):=fun W hWc hWf ty dc =>
  run_copy_cells W _ _ ty 3 w.heap.size i (n+m-i) dc ⟨vb,voff,none⟩ m vc vs t186 hsz (by grind)
   (fun j v hj=>by rw[Addr.add_lit,hWc];grind)
   (fun j hj=>by grind) (fun j hj=>by grind) h1v
 have hGn:n+m<=G:=by rw[hG];exact grownCap_ge w _ _ _
 have hG63:G<=9223372036854775807:=by
  have:=grownCap_le_maxLen w (n+m) c 3 (by unfold maxLen;omega);rw[<- hG] at this;unfold maxLen at this;omega
 have hGi:¬ (G=i):=by omega
 have hGim:¬ (G=i+m):=by omega
 have hci:¬ (c=i):=by omega
 have hbN:b≠w.heap.size:=by omega
 have hdl:(cs.drop i).length=n-i:=by grind
 have hcpB:∀ (W:World),(∀ x,W.cell? x=(W1.setCells w.heap.size i vs).cell? x)->(∀ x,W.frozen? x=(W1.setCells w.heap.size i vs).frozen? x)->∀ ty dc sc,(Builtin.copy_ #[253,253] ty #[.slice (some ⟨w.heap.size,i+m,none⟩) (n+m-(i+m)) dc,.slice (some ⟨b,off+i,none⟩) (n-i) sc]).run prog W=.ok (goInt (cs.drop i).length) (W.setCells w.heap.size (i+m) (cs.drop i)):=fun W hWc hWf ty dc sc =>
  run_copy_cells W _ _ ty 3 w.heap.size (i+m) (n+m-(i+m)) dc ⟨b,off+i,none⟩ (n-i) sc (cs.drop i) t186 hsz (by grind)
   (fun j v hj=>by
     rw[Addr.add_lit,hWc,World.cell?_setCells_out _ _ _ _ _ (fun h _=>absurd h hbN),QLI]
     grind)
   (fun j hj=>by rw[hWc];exact isSome_setCells _ _ _ _ (fun t ht=>hN _ (by omega)) _ (hN _ (by omega)))
   (fun j hj=>by rw[hWf,World.frozen?_setCells];exact hNf _) (fun v hv=>h1c v (QLT hv))
 subst hW1;have hE1:∀ x,((w.alloc (.cells ROW 3)).drew).cell? x=(w.drew.alloc (.cells ROW 3)).cell? x:=fun x=>rfl;have hE2:∀ x,((w.alloc (.cells ROW 3)).drew).frozen? x=(w.drew.alloc (.cells ROW 3)).frozen? x:=fun x=>rfl;have hF1:∀ x,(((w.alloc (.cells ROW 3)).drew.setCells w.heap.size i vs).drew).cell? x=((w.drew.alloc (.cells ROW 3)).setCells w.heap.size i vs).cell? x:=fun x=>rfl;have hF2:∀ x,(((w.alloc (.cells ROW 3)).drew.setCells w.heap.size i vs).drew).frozen? x=((w.drew.alloc (.cells ROW 3)).setCells w.heap.size i vs).frozen? x:=fun x=>rfl;have hw1:IntKind.i64.wrap ((i:Int)+(m:Int))=(i:Int)+(m:Int):=by rw[IntKind.wrap_i64];omega
 have hb1:(0:Int)<=(i:Int)+(m:Int):=by omega
 have hin:i<=n:=by omega
 have htn:((i:Int)+(m:Int)).toNat=i+m:=by omega
 have hb3:(i:Int)<=(n:Int):=by omega
 clear hkk hik hold hROW hG hRl
 go_enter func379,ntmps379
 go_wp2_with (first
  | (at_builtin;refine Lib.wpList_append_run _ rfl _ _ _ _ rfl _ _ rfl rfl _ _ (hrz _) ?_)
  | (at_builtin;refine wpList_copy_runI _ rfl _ _ 253 57 rfl _ _ rfl rfl (hcpA _ hE1 hE2 _ _) ?_)
  | (at_builtin;refine wpList_copy_runI _ rfl _ _ 253 253 rfl _ _ rfl rfl (hcpB _ (fun _=>rfl) (fun _=>rfl) _ _ _) ?_))
 go_region_law_o (refine step_copy_runI rfl _ _ 253 253 rfl (.slice (some ⟨w.heap.size,i+m,none⟩) (n+m-(i+m)) (G-(i+m))) (.slice (some ⟨b,off+i,none⟩) (n-i) (c-i)) (by simp[Act.eval,Act.put]) (by simp[Act.eval,Act.put]) (hcpB _ hF1 hF2 3 (G-(i+m)) (c-i)) ?_)
 go_wp2
 go_ret
 exact ⟨rfl,rfl⟩
end Go.Pf
namespace Go.Pf
open Go Go.Ev Go.Proofs Go.RowKit Go.Shelf Go.Proofs.Tryz
set_option maxRecDepth 8000
noncomputable def QEo:TypeInfo:=(prog.info? 3).get (by kernel_rfl)
section
variable {K:World->Prop}
theorem QsJ (zs:List Int) (mv:Nat):YD prog K 382 [.yl 0 zs.length] [(0,Zr zs mv)] [0] (.iv (.xd [])) [(0,Zr zs.reverse zs.length)] :=
 QeY (fun a cap w=>AnyE.slices_Reverse_empty Tryz.rev382 a cap w) (fun blk off cap zs w hh hl=>AnyE.slices_Reverse Tryz.rev382 (Value.int .i64) (fun _=>rfl) blk off cap zs w hh hl) zs mv
theorem QsK (zs:List Int) (mv i:Nat) (hi:i<zs.length):YD prog K 381 [.yl 0 zs.length,.iv (.int .i64 (i:Nat)),.iv (.int .i64 ((i+1:Nat):Int))] [(0,Zr zs mv)] [] (.iv (QnW (zs.eraseIdx i))) [] :=
 QhR (fun blk off cap i j d w hh h1 h2 h3 h4=>AnyE.slices_Delete Tryz.del381 (Value.int .i64) (fun _=>rfl) 0 zeroValue3 QEo (by kernel_rfl) (by kernel_rfl) blk off cap i j d w hh h1 h2 h3 h4) zs mv i hi
theorem QsL (zs:List Int) (mv i:Nat) (hi:i<=zs.length) (x:Int) (mv':Nat) (hlen:zs.length<=1000000):YD prog K 379 [.yl 0 zs.length,.iv (.int .i64 (i:Nat)),.yl 1 1] [(0,Zr zs mv),(1,Zr [x] mv')] [] (.iv (QnW (zs.take i++x::zs.drop i))) [] :=
 Qhp
  (fun b n c i vb vc cs x w h1 h2 h3 h4 h5 h6 h7 h8 h9 h10 h11 tA tB kA kB h12 h13 h14 h15 h16=>Qcx b 0 n c i vb 0 1 vc cs [x] w h1 (by omega) h2 h3 h4 h5 rfl h6 h7 h8 h9 h10 h11 tA tB kA kB h12 h13 h14 h15 h16)
  (fun b n c vb vc x w h1 h2 h3 h4 h5 h6=>W6 b 0 n c vb 0 1 vc [x] w (by omega) h1 h2 rfl h3 h4 h5 h6)
  (fun base n c vb vc cs x w h1 h2 h3 h4 h5 h6 h7 h8=>W7 base n c vb 0 1 vc cs [x] w (by omega) h1 h2 h3 h4 rfl h5 h6 h7 h8)
  (fun b n c i vb vc cs x w h1 h2 h3 h4 h5 h6 h7 h8 h9=>Qdg b 0 n c i vb 0 1 vc cs [x] w h1 (by omega) h2 h3 h4 h5 rfl h6 h7 h8 h9)
  zs mv i hi x mv' hlen
end
end Go.Pf
namespace Go.Pf
open Go Go.Ev Go.Proofs Go.RowKit Go.Proofs.Tryz
set_option maxRecDepth 8000
def Qu5 (i:Nat) (kvs:List (MK × List (List IV))) (n:Nat):List (MK × List (List IV)):=zn (.int .i64 (n:Int)) (((Qh (.int .i64 (n:Int)) kvs).getD [])++[[.int .i64 (i:Nat)]]) kvs
def prf (ds:List Qv) (e:Nat->Int):Nat->List (MK × List (List IV))
 | 0=>[]
 | i+1=>match ds[i]? with
   | some d=>if d.zp=4 then (cab ds e i).foldl (Qu5 i) (prf ds e i) else prf ds e i
   | none=>prf ds e i
theorem QlH (ds:List Qv) (e:Nat->Int) (i:Nat) (h:i<ds.length):prf ds e (i+1)=if ds[i].zp=4 then (cab ds e i).foldl (Qu5 i) (prf ds e i) else prf ds e i:=by
 simp only[prf,QKF h]
theorem JW (n:Int) (y:List (List IV)):∀ kvs:List (MK × List (List IV)),QP (.int .i64) kvs->QP (.int .i64) (zn (.int .i64 n) y kvs)
 | [],_=>⟨rfl,trivial⟩
 | p::r,h=>by
   unfold zn;split
   ·exact ⟨rfl,h.2⟩
   exact ⟨h.1,JW n y r h.2⟩
theorem Ue (k j:MK) (y:List (List IV)):∀ kvs:List (MK × List (List IV)),Qh j (zn k y kvs)=if k=j then some y else Qh j kvs
 | []=>by simp[zn,Qh]
 | p::r=>by
   unfold zn;split
   ·rename_i h;simp only[Qh];grind
   rename_i h;simp only[Qh,Ue k j y r];grind
def Low (m:Nat) (kvs:List (MK × List (List IV))):Prop:=QP (.int .i64) kvs/\∀ k rows,Qh k kvs=some rows->rows.length<=m
theorem Low.add {m i:Nat} {kvs:List (MK × List (List IV))} (h:Low m kvs) (n:Nat):Low (m+1) (Qu5 i kvs n):=by
 refine ⟨JW _ _ _ h.1,fun k rows hk=>?_⟩;unfold Qu5 at hk;rw[Ue] at hk;split at hk
 ·injection hk with hk;subst hk;cases hf:Qh (.int .i64 (n:Int)) kvs with
  | none=>simp
  | some r=>have:=h.2 _ _ hf;simp;omega
 have:=h.2 _ _ hk;omega
theorem Low.fold {i:Nat}:∀ (l:List Nat) {m:Nat} {kvs:List (MK × List (List IV))},Low m kvs->Low (m+l.length) (l.foldl (Qu5 i) kvs)
 | [],m,kvs,h=>h
 | n::l,m,kvs,h=>by
   have:=Low.fold (i:=i) l (h.add (i:=i) n);grind
theorem Low.mono {m m':Nat} {kvs:List (MK × List (List IV))} (h:Low m kvs) (hm:m<=m'):Low m' kvs:=⟨h.1,fun k rows hk=>QLv (h.2 k rows hk) hm⟩
theorem Qe5 (ds:List Qv) (e:Nat->Int) (hc:OkD ds ds.length):∀ i,i<=ds.length->Low (i*ds.length) (prf ds e i)
 | 0,_=>⟨trivial,fun k rows h=>by simp[prf,Qh] at h⟩
 | i+1,h=>by
   have ih:=Qe5 ds e hc i (by omega);rw[QlH ds e i (by omega)]
   have e1:(i+1)*ds.length=i*ds.length+ds.length:=by grind
   rw[e1];split
   ·have hcl:=ZI e hc i (by omega) (by omega);have hcb:=hc.cnt i (by omega) (by omega);exact (ih.fold _).mono (by omega)
   exact ih.mono (by omega)
theorem Low.len {m:Nat} {kvs:List (MK × List (List IV))} (h:Low m kvs) (k:MK):((Qh k kvs).getD []).length<=m:=by
 cases hf:Qh k kvs with
 | none=>simp
 | some r=>exact h.2 _ _ hf
theorem Qi6 (ds:List Qv) (i:Nat) (h:i<ds.length):Xe (ds.take (i+1))=if ds[i].zp=1 then Xe (ds.take i)++[ds[i]] else Xe (ds.take i):=by
 rw[QKH h];unfold Xe;rw[QMw];generalize List.filter ZJ (List.take i ds)=l;by_cases hw:ds[i].zp=1<;>simp[ZJ,hw]
theorem QoV (ds:List Qv) (i:Nat):(Xe (ds.take i)).length=wn ds i:=by rw[Yd];rfl
@[simp] def QF0 (kvs:List (MK × List (List IV))):IV:=.map (kvs.map fun p=>(p.1,.sl 1 p.2))
theorem QsB (n:Nat) (z:IV):Qd5 (List.replicate n [AV.iv z])=some (List.replicate n [z]):=by
 have:=Qj (List.replicate n [z]);simpa[emb] using this
theorem Qbf (l:List Nat) (mv:Nat):Zr (l.map fun (n:Nat)=>(n:Int)) mv=AO.arr 3 1 (emb (l.map fun (n:Nat)=>[IV.int .i64 (n:Int)])) mv:=by simp[Zr,emb]
theorem Qho (l:List Nat):QnW (l.map fun (n:Nat)=>(n:Int))=Xh l:=by simp[QnW]
section
variable {K:World->Prop} {C:Env->Qm->Prop}
theorem Ya (m:Nat->Nat) (e:TypeId) (sz:Nat) (xs:List (List IV)) (mv:Nat):rnO m (.arr e sz (emb xs) mv)=.arr e sz (emb xs) mv:=Qoo m e sz xs mv
theorem Vw (dom:List Nat) (e:TypeId) (sz:Nat) (xs:List (List IV)) (mv:Nat):clO dom (.arr e sz (emb xs) mv)=true:=QqN dom e sz xs mv
theorem QnK {id n mv:Nat} {d:Option Nat} {e:Env} {o:Qm} (l:List Nat) (hid:Qc o id=some (.arr 3 1 (emb (l.map fun (n:Nat)=>[IV.int .i64 (n:Int)])) mv)) (hn:n=l.length)
  (h:C (bnd d (.iv (.xd [])) (Qsd (Y6 [id] [0] o) e)) (QwY [id] (Y6 [id] [0] o) o [(0,.arr 3 1 (emb (l.reverse.map fun (n:Nat)=>[IV.int .i64 (n:Int)])) n)])):HK prog K 382 [id] d C e o [.yl id n]:=by
 have hg:=QsJ (K:=K) (l.map fun (n:Nat)=>(n:Int)) mv;rw[<- List.map_reverse,Qbf,Qbf,QKX] at hg;subst hn;refine QH hg (by simp[rn,nth]) ?_ ?_
 ·refine ⟨by simp,by simp[clA],?_,?_,by simp[XR]⟩
  ·intro p hp;simp only[QLd] at hp;subst hp;exact ⟨by simp,by rw[Ya];simpa[nth] using hid,Vw _ _ _ _ _,rfl⟩
  intro i hi h;simp at hi;subst hi;simp[Qc] at h
 ·simpa[rn] using h
theorem Qes {id n mv:Nat} {d:Option Nat} {e:Env} {o:Qm} (l:List Nat) (i:Nat) (hi:i<l.length) (hid:Qc o id=some (.arr 3 1 (emb (l.map fun (n:Nat)=>[IV.int .i64 (n:Int)])) mv)) (hn:n=l.length) {avs:List AV} (ha:avs=[.yl id n,.iv (.int .i64 (i:Nat)),.iv (.int .i64 ((i+1:Nat):Int))])
  (h:C (bnd d (.iv (Xh (l.eraseIdx i))) (Qsd (Y6 [id] [] o) e)) (QwY [id] (Y6 [id] [] o) o [])):HK prog K 381 [id] d C e o avs:=by
 have hg:=QsK (K:=K) (l.map fun (n:Nat)=>(n:Int)) mv i (by simpa using hi);have e1:(l.map fun (n:Nat)=>(n:Int)).eraseIdx i=(l.eraseIdx i).map fun (n:Nat)=>(n:Int):=by simp[List.eraseIdx_eq_take_drop_succ]
 rw[e1,Qbf,Qho,QKX] at hg;subst hn;refine QH hg (by rw[ha];simp[rn,nth]) ?_ ?_
 ·refine ⟨by simp,by simp[clA],?_,?_,by simp⟩
  ·intro p hp;simp only[QLd] at hp;subst hp;exact ⟨by simp,by rw[Ya];simpa[nth] using hid,Vw _ _ _ _ _,rfl⟩
  intro i hi h;simp at hi;subst hi;simp[Qc] at h
 ·simpa[rn] using h
theorem Qer {id id' n mv mv':Nat} {d:Option Nat} {e:Env} {o:Qm} (l:List Nat) (i:Nat) (hi:i<=l.length) (x:Nat) (hlen:l.length<=1000000) (hne:id≠id') (hid:Qc o id=some (.arr 3 1 (emb (l.map fun (n:Nat)=>[IV.int .i64 (n:Int)])) mv)) (hid':Qc o id'=some (.arr 3 1 [[.iv (.int .i64 (x:Nat))]] mv')) (hn:n=l.length)
  (h:C (bnd d (.iv (Xh (l.take i++x::l.drop i))) (Qsd (Y6 [id,id'] [] o) e)) (QwY [id,id'] (Y6 [id,id'] [] o) o [])):HK prog K 379 [id,id'] d C e o [.yl id n,.iv (.int .i64 (i:Nat)),.yl id' 1]:=by
 have hg:=QsL (K:=K) (l.map fun (n:Nat)=>(n:Int)) mv i (by simpa using hi) x mv' (by simpa using hlen);have e1:(l.map fun (n:Nat)=>(n:Int)).take i++(x:Int)::(l.map fun (n:Nat)=>(n:Int)).drop i=(l.take i++x::l.drop i).map fun (n:Nat)=>(n:Int):=by simp
 rw[e1,Qbf,Qho,QKX] at hg;subst hn;refine QH hg (by simp[rn,nth]) ?_ ?_
 ·refine ⟨by simpa using hne,by simp[clA],?_,?_,by simp⟩
  ·intro p hp;simp only[QKU,QK1,or_false] at hp;rcases hp with rfl | rfl
   ·exact ⟨by simp,by rw[Ya];simpa[nth] using hid,Vw _ _ _ _ _,rfl⟩
   exact ⟨by simp,by simpa[nth,rnO,rnL,rn] using hid',by simp[clO,clAL,clA],rfl⟩
  intro i hi h;simp at hi;have:i=0\/i=1:=by omega
  rcases this with rfl | rfl<;>simp[Qc] at h
 simpa[rn] using h
end
section
variable {K:World->Prop} (hK:∀ w w',K w->Below w.heap.size w w'->K w')
include hK
theorem QxL (c:Qf) (n:Nat) (hn:n<2 ^ 63) (hc:OkD c.za c.za.length) (hl:c.za.length<=100) :
  Gd K 339 [Qz c.za,.clo 340 [] [.ptr [.int .i64 n],.ptr (Um c)]] (.agg (YL c.za (Q1 c.za n) (QF0 (prf c.za (Q1 c.za n) c.za.length)))):=by
 refine Qb hK (fk func339 QGY (by kernel_rfl)) (by simp) ?_;simp;intros
 refine Qi (fun i=>[(1,AV.iv (.clo 340 [] [.ptr [.int .i64 n],.ptr (Um c)])),(4,.loc 4 0),(5,.loc 5 0),(16,AV.iv (Qz c.za)),(17,AV.iv (.int .i64 c.za.length)),(18,AV.iv (IV.int IntKind.i64 (i:Nat)))])
  (fun i=>[(4,AO.box [.iv (.sl 1 []),.iv (.sl 2 []),.iv (.map [])]),(5,AO.box [.yl 13 (i+1),.yl 6001 (Xe (c.za.take i)).length,.yk 14]),(13,AO.arr 253 1 (emb ((QjS c.za (Q1 c.za n) i).map fun c=>[Xh c])) 0),
    (14,.yo 3 1 (prf c.za (Q1 c.za n) i) none),(6001,.arr 373 2 (emb ((Xe (c.za.take i)).map lkC)) 0)]) c.za.length (fun i=>True) trivial ?_ ?_
 ·intro _;rw[Qa Qkh.eq_1];simp[-List.map_map,Qt,QO,QD,Qj,QKM]
 ·intro i hi _ ih;have hcl:=ZI (Q1 c.za n) hc i (by omega) (by omega);have hcb:=hc.cnt i (by omega) (by omega);have hd:=hc i hi hi;have hw:=Qih c.za i;have hlw:=QoV c.za i;have xb:=Qe5 c.za (Q1 c.za n) hc i (by omega);have hg202:=QxK hK c n i hn hi;have hei:=QfE c.za n i hi;have hii:i*c.za.length<=100*100:=Nat.mul_le_mul (by omega) (by omega);rw[QhX,Qi6 _ _ hi,UL _ _ _ hi,QlH _ _ _ hi] at ih;rw[Qa Qkh.eq_1];have hcg:(QjS c.za (Q1 c.za n) i)[i]?=some (cab c.za (Q1 c.za n) i):=by
   rw[QKF (by simp),Qbo _ _ _ _ (by omega)]
  have hcl2:=Quo c.za (Q1 c.za n) i;generalize Q1 c.za n i=ei at *;generalize QjS c.za (Q1 c.za n) i=cs at *;generalize prf c.za (Q1 c.za n) i=kvs at *;generalize Xe (c.za.take i)=lk at *;generalize cab c.za (Q1 c.za n) i=now at *
  have hcg2:cs[i]'(by omega)=now:=by
   grind
  have hnl:now.length<=100:=by omega
  simp[hi,hcl2,hcg2,-List.map_map,Qt,QO,QD,Qj];intro _;refine ⟨by omega,?_⟩;refine QzJ (rows:=List.replicate now.length [IV.int .i64 0]) (QsB _ _) (by simp) (by simp) ?_;rcases hd with ⟨h1,h2,h3,h4⟩ | ⟨h1,h2,h3,h4⟩ | ⟨h1,h4⟩
  ·simp only[inR] at h3 h2;have hp:(if ei=1 then (now.length:Int)+1-1-c.za[i].pos else c.za[i].pos)=(plc c.za[i].pos ei (now.length+1):Nat):=by
    unfold plc;omega
   have hpl:plc c.za[i].pos ei (now.length+1)<=now.length:=Qoz (by omega);have hg214:=Qjm hK c.za[i].pos ei (now.length+1) (by omega) (by omega);rw[hp] at hg214;simp[JM,h1,<- hlw] at ih;generalize plc c.za[i].pos ei (now.length+1)=at_ at *;by_cases hf:c.za[i].z2=2
   ·have hg:=hg202 hf;simp[hi,hf,h1,-List.map_map,Qt,QO,QD,Qj];refine ⟨by kernel_rfl,cK (by simpa using hg) ?_⟩;simp[hi,hf,h1,-List.map_map,Qt,QO,QD,Qj];intro _;refine ⟨by omega,cK hg214 ?_⟩;simp[hi,hf,h1,-List.map_map,Qt,QO,QD,Qj];intro _;refine Qer (mv:=now.length) (mv':=0) now at_ hpl lk.length (by omega) (by simp) (by simp[emb,-List.map_map]) (by simp) rfl ?_;simp[hi,hf,h1,-List.map_map,Qt,QO,QD,Qj];grind
   rw[if_neg hf] at hei;simp[hi,hf,h1,-List.map_map,Qt,QO,QD,Qj];rw[<- hei];intro _;refine ⟨by omega,cK hg214 ?_⟩;simp[hi,hf,h1,-List.map_map,Qt,QO,QD,Qj];intro _;refine Qer (mv:=now.length) (mv':=0) now at_ hpl lk.length (by omega) (by simp) (by simp[emb,-List.map_map]) (by simp) rfl ?_;simp[hi,hf,h1,-List.map_map,Qt,QO,QD,Qj];grind
  ·have h11:¬ c.za[i].zp=1:=by omega
   simp only[inR] at h3 h2;have hp:(if ei=1 then (now.length:Int)-1-c.za[i].pos else c.za[i].pos)=(plc c.za[i].pos ei now.length:Nat):=by
    unfold plc;split<;>omega
   have hpl:plc c.za[i].pos ei now.length<now.length:=QlJ (by omega);have hg214:=Qjm hK c.za[i].pos ei now.length (by omega) (by omega);rw[hp] at hg214;simp[JM,h1] at ih;generalize plc c.za[i].pos ei now.length=at_ at *;have he:now.take at_++now.drop (at_+1)=now.eraseIdx at_:=by grind
   rw[<- QMv,<- List.map_drop,<- QK3,he] at ih;by_cases hf:c.za[i].z2=2
   ·have hg:=hg202 hf;simp[hi,hf,h1,-List.map_map,Qt,QO,QD,Qj];refine ⟨by kernel_rfl,cK (by simpa using hg) ?_⟩;simp[hi,hf,h1,-List.map_map,Qt,QO,QD,Qj];intro _;refine cK hg214 ?_;simp[hi,hf,h1,-List.map_map,Qt,QO,QD,Qj];refine ⟨by omega,?_⟩;refine Qes (mv:=now.length) now at_ hpl (by simp[emb,-List.map_map]) rfl (by simp) ?_;simp[hi,hf,h1,-List.map_map,Qt,QO,QD,Qj];grind
   rw[if_neg hf] at hei;simp[hi,hf,h1,-List.map_map,Qt,QO,QD,Qj];rw[<- hei];intro _;refine cK hg214 ?_;simp[hi,hf,h1,-List.map_map,Qt,QO,QD,Qj];refine ⟨by omega,?_⟩;refine Qes (mv:=now.length) now at_ hpl (by simp[emb,-List.map_map]) rfl (by simp) ?_;simp[hi,hf,h1,-List.map_map,Qt,QO,QD,Qj];grind
  ·have hf:¬ c.za[i].z2=2:=by omega
   rcases h1 with h1 | h1
   ·simp[JM,h1] at ih;simp[hi,hf,h1,-List.map_map,Qt,QO,QD,Qj];refine QnK (mv:=now.length) now (by simp[emb,-List.map_map]) rfl ?_;simp[hi,hf,h1,-List.map_map,Qt,QO,QD,Qj,QKM];grind
   ·simp[JM,h1] at ih;simp[hi,hf,h1,-List.map_map,Qt,QO,QD,Qj];intro _
    refine Qi (fun k=>[(1,AV.iv (.clo 340 [] [.ptr [.int .i64 n],.ptr (Um c)])),(4,.loc 4 0),(5,.loc 5 0),(6,AV.iv (IV.int IntKind.i64 (i:Nat))),(8,AV.yl 29 now.length),(16,AV.iv (Qz c.za)),(17,AV.iv (.int .i64 c.za.length)),(18,AV.iv (IV.int IntKind.i64 (i:Nat))),(90,AV.yl 29 now.length),(91,AV.iv (.int .i64 now.length)),(92,AV.iv (.int .i64 (k:Nat)))])
     (fun k=>[(4,AO.box [.iv (.sl 1 []),.iv (.sl 2 []),.iv (.map [])]),(5,AO.box [.yl 13 (i+1),.yl 6001 lk.length,.yk 14]),(13,AO.arr 253 1 (emb (cs.map fun c=>[Xh c])) 0),
       (14,.yo 3 1 ((now.take k).foldl (Qu5 i) kvs) none),(29,AO.arr 3 1 (emb (now.map fun (n:Nat)=>[.int .i64 (n:Int)])) now.length),(6001,AO.arr 373 2 (emb (lk.map lkC)) 0)]) now.length (fun _=>True) trivial ?_ ?_
    ·intro _;rw[Qa Qki.eq_1];simp[-List.map_map,Qt,QO,QD,Qj,QKM];grind
    ·intro k hk _ ih2;rw[Qa Qki.eq_1];have hlk:Low (i*c.za.length+(now.take k).length) ((now.take k).foldl (Qu5 i) kvs):=xb.fold _;rw[QKH hk,QL3] at ih2;generalize (now.take k).foldl (Qu5 i) kvs=kv at *;have hkl:(List.take k now).length<=100:=by simp;omega
     have hle:=hlk.len (.int .i64 (now[k]:Nat));have hkk:=hlk.1;have hkk2:=JW (now[k]:Nat) (((Qh (.int .i64 ((now[k]:Nat):Int)) kv).getD [])++[[.int .i64 (i:Nat)]]) kv hkk;have hfm:=Ue (.int .i64 ((now[k]:Nat):Int)) (.int .i64 ((now[k]:Nat):Int)) (((Qh (.int .i64 ((now[k]:Nat):Int)) kv).getD [])++[[.int .i64 (i:Nat)]]) kv;rw[if_pos rfl] at hfm;simp[Qu5] at ih2;simp[hk,hkk,hkk2,hfm,-List.map_map,Qt,QO,QD,Qj];grind
def pmC (c:Qf) (n:Nat):IV:=QF0 (prf c.za (Q1 c.za n) c.za.length)
theorem Qgk (c:Qf) (hc:OkC c):Qh5 K c (pmC c):=fun n hn=>by
 have h:=hc.len;have h2:=U6 c.za;have h3:=Va (show Z2 c.za<=12 by omega);exact QxL hK c n (by omega) hc.za (by omega)
end
end Go.Pf
namespace Go.Pf
open Go Go.Proofs Go.RowKit Go.Maps Go.Sort Go.Shelf
variable {P:Program} {ρ:Ren}
set_option maxRecDepth 100000 in
set_option maxHeartbeats 1000000 in
theorem Qf3 (L:SlLaysZI.n10 P ρ) {H:Type} (F:Fence) (n:Nat) (h10:F.fn (ρ.f 10)) (hro:F.round=none) (hn:1<=n) (l Bm om b nn:Nat) (D0:DataW H) {R:Value->Option (DataW H × List MemPlace)} (J:List Int->World->Prop)
  (hY:∀ pre x W,J pre W->pre.length<Maps.size D0->YieldAt F (n-1) P l #[encZ x] W fun e W'=>e=.returned (.bool true)/\J (pre++[x]) W'/\KeepsWalks W W')
  (W:World) (hJ:AbidesFrom W.heap.size J) (hm:W.cell? ⟨Bm,om,none⟩=some (.map (some b))) (hown:W.ownsMap P (ρ.t 26) R b nn D0) (h0:J [] W) :
  CallsIn F n P (ρ.f 10) #[.func (.yield l) #[] #[],.pointer (some ⟨Bm,om,none⟩)] W fun e W'=>(∃ v,e=.returned v)/\∃ ss:List Int,ss.Perm (intKeys D0)/\J ss W':=by
 have mixed:=L.mixed;have t0:=L.t0;have a0:=L.a0;have z0:=L.z0;have v0:=L.v0;have t4:=L.t4;have a4:=L.a4;have z4:=L.z4;have v4:=L.v4;have t23:=L.t23;have a23:=L.a23;have z23:=L.z23;have v23:=L.v23;have t26:=L.t26;have a26:=L.a26;have z26:=L.z26;have v26:=L.v26;have t33:=L.t33;have a33:=L.a33;have z33:=L.z33;have v33:=L.v33;have u0:=run_underlying L.t0;have u4:=run_underlying L.t4;have u23:=run_underlying L.t23;have u26:=run_underlying L.t26;have u33:=run_underlying L.t33;obtain ⟨_,_,FG⟩:=L.f10;refine callsIn_of_wp FG rfl h10 ?_ hro;simp only[SlBodyZ.n10_ntmps ρ,QLK,QKV,QK4,Nat.reduceAdd,Nat.reduceSub,Array.replicate_succ,Array.replicate_zero,List.push_toArray,List.append_toArray,QLm,QLp]
 gi_wp2_with (first
  | (gi_at_range;refine wpListIn_range_own _ rfl _ (ρ.t 23) rfl (ρ.t 26) (ρ.t 3) (int_keyed L.t26) L.t23 _ b nn _ rfl hown ?_;intro w0 hrg0 hg0 hs0)
  | gi_in)
 go_frame
 gi_loopw [3] (fun _ wr=>∃ (left:Lit->Bool) (cnt:Nat) (ss:List Int),wr.ranges P (ρ.t 26) R b W.heap.size nn D0 left cnt/\ss.length+cnt<=Maps.size D0/\CollectedI D0 left ss/\J ss wr)
  (fun _ wr=>wr.rangeLeft b W.heap.size)
 case atStart =>
  exact ⟨_,_,[],hrg0,by simp,CollectedI.start D0,hJ [] W w0 none h0 hg0 (fun r e=>by cases e)⟩
 case round =>
  obtain ⟨left,cnt,ss,hrg,hcs,hC,hJs⟩:=hrel
  gi_wp2_with (first
   | (gi_at_next;refine wpListIn_next_ranges _ rfl _ rfl (ρ.t 26) (int_keyed L.t26) R encZ id (fun key kl hk=>by obtain ⟨x,hx,_⟩:=Maps.keyOf_i64 L.t26 hk;exact ⟨x,hx⟩) (fun v _ _=>⟨v,rfl⟩) b W.heap.size nn _ _ _ rfl hrg ?_ ?_)
   | gi_in)
  ·
   intro hc0 hl0
   gi_wp2
   go_end0
   exact ⟨⟨_,rfl⟩,ss,hC.perm hown (int_keyed L.t26) L.t26 hl0,hJs⟩
  ·
   intro x c kl yd yp w2 cnt2 hkey hlk hv hat hrg2 xa hg2 hs2 hen;obtain ⟨x',ex,rfl,_⟩:=Maps.keyOf_i64 L.t26 hkey;obtain rfl:x=x':=encZ_inj ex;have hJ2:J ss w2:=hJ ss wr w2 (some W.heap.size) hJs hg2 (fun r e=>by cases e;exact ⟨QKJ _,hrg.iter_walk⟩);obtain ⟨fn,tmps,assign,body,hy,hR⟩:=hY ss x w2 hJ2 (by omega);clear hs2
   gi_wp2
   refine hR.mono ?_;rintro e W3 ⟨rfl,hJ3,hk3⟩
   gi_wp2
   have hrg3:=hrg2.of_walks hk3
   go_roundw
   case rel=>exact ⟨_,cnt2,ss++[x],hrg3,by simp;omega,hC.step hlk hat,hJ3⟩
   case measure=>rw[hrg3.left_eq,hrg.left_eq];exact xa
set_option maxRecDepth 100000 in
set_option maxHeartbeats 1000000 in
theorem U2 (L:SlLaysZI.n10 P ρ) {H:Type} (F:Fence) (n:Nat) (h10:F.fn (ρ.f 10)) (hro:F.round=none) (hn:1<=n) (Bm om b nn:Nat) (D0:DataW H) {R:Value->Option (DataW H × List MemPlace)} (w:World) (hBm:Bm<w.heap.size)
  (hm:w.cell? ⟨Bm,om,none⟩=some (.map (some b))) (hown:w.ownsMap P (ρ.t 26) R b nn D0) :
  SeqGives F n P (ρ.f 10) #[.pointer (some ⟨Bm,om,none⟩)] encZ (fun ss=>ss.Perm (intKeys D0)) (Maps.size D0) w:=fun l J W hW hJ hY h0=>by
 have hown':W.ownsMap P (ρ.t 26) R b nn D0:=by
  have hbl:=hown.lt;obtain ⟨es,clock,hb,Ft,hs,hD⟩:=hown;exact ⟨es,clock,(hW.block b hbl).trans hb,Ft,hs,hD⟩
 exact Qf3 { L with } F n h10 hro hn l Bm om b nn D0 J hY W hJ ((hW.cell (p:=⟨Bm,om,none⟩) hBm).trans hm) hown' h0
set_option maxRecDepth 100000 in
set_option maxHeartbeats 1000000 in
theorem Qa0 (L:SlLaysZI.n10 P ρ) (F:Fence) (n:Nat) (h10:F.fn (ρ.f 10)) (hro:F.round=none) (l Bm om:Nat) (J:List Int->World->Prop) (W:World) (hJ:AbidesFrom W.heap.size J)
  (hm:W.cell? ⟨Bm,om,none⟩=some (.map none)) (h0:J [] W) :
  CallsIn F n P (ρ.f 10) #[.func (.yield l) #[] #[],.pointer (some ⟨Bm,om,none⟩)] W fun e W'=>(∃ v,e=.returned v)/\∃ ss:List Int,ss=[]/\J ss W':=by
 have mixed:=L.mixed;have t0:=L.t0;have a0:=L.a0;have z0:=L.z0;have v0:=L.v0;have t4:=L.t4;have a4:=L.a4;have z4:=L.z4;have v4:=L.v4;have t23:=L.t23;have a23:=L.a23;have z23:=L.z23;have v23:=L.v23;have t26:=L.t26;have a26:=L.a26;have z26:=L.z26;have v26:=L.v26;have t33:=L.t33;have a33:=L.a33;have z33:=L.z33;have v33:=L.v33;have u0:=run_underlying L.t0;have u4:=run_underlying L.t4;have u23:=run_underlying L.t23;have u26:=run_underlying L.t26;have u33:=run_underlying L.t33;obtain ⟨_,_,FG⟩:=L.f10;refine callsIn_of_wp FG rfl h10 ?_ hro;simp only[SlBodyZ.n10_ntmps ρ,QLK,QKV,QK4,Nat.reduceAdd,Nat.reduceSub,Array.replicate_succ,Array.replicate_zero,List.push_toArray,List.append_toArray,QLm,QLp];have hrg:=run_range_nilMap (P:=P) W (ρ.t 23) (ρ.t 26) (ρ.t 3) L.t23;have hnx:∀ ty,(Instr.next (.pointer (some ⟨W.heap.size,0,none⟩)) false ty).run P (W.alloc (.mapIter none 0 #[] 0))=_:=fun ty=>run_next_nilMap _ ty 0 0 #[]
 gi_wp2
 refine wpIn_loop_rounds 1 ?_;rw[roundsIn_succ]
 gi_wp2
 go_end0
 exact ⟨⟨_,rfl⟩,[],rfl,hJ [] W _ none h0 (World.grownBy_alloc W _ none) (fun r e=>by cases e)⟩
set_option maxRecDepth 100000 in
set_option maxHeartbeats 1000000 in
theorem Ju (L:SlLaysZI.n10 P ρ) (F:Fence) (n:Nat) (h10:F.fn (ρ.f 10)) (hro:F.round=none) (Bm om:Nat) (w:World) (hBm:Bm<w.heap.size) (hm:w.cell? ⟨Bm,om,none⟩=some (.map none)) :
  SeqGives F n P (ρ.f 10) #[.pointer (some ⟨Bm,om,none⟩)] encZ (fun ss:List Int=>ss=[]) 0 w:=fun l J W hW hJ _ h0 =>
 Qa0 { L with } F n h10 hro l Bm om J W hJ ((hW.cell (p:=⟨Bm,om,none⟩) hBm).trans hm) h0
end Go.Pf
namespace Go.Proofs
open Go.Proofs.Tryz
open Go.Shelf Go.RowKit Go.Maps Go.Sort
theorem Tryz.sorts145 (m:Nat):AnyZI.SortsIn prog Tryz.sorted200_ren Fence.wide m :=
 ⟨fun blk off cap ss W hH hblk hsz=>callsIn_wide.2 (AnyM.slices_Sort_int Tryz.sort145 blk off cap ss W hH hblk hsz),
  fun p cap W=>callsIn_wide.2 (AnyM.slices_Sort_int_none Tryz.sort145 p cap W)⟩
end Go.Proofs
namespace Go.Pf
open Go Go.Ev Go.Proofs Go.RowKit Go.Shelf Go.Proofs.Tryz
set_option maxRecDepth 8000
theorem Qao (lb:Array Value) (S:List Int->Prop) (N:Nat) (hN:N<=1000000) (w:World) (hseq:SeqGives Fence.wide 2 prog 282 lb encZ S N w) :
  Calls prog 200 #[.func (.func 282) #[] lb] w fun e w'=>∃ (v:Value) (ss:List Int),e=.returned v/\S ss /\
   w'.ownsRow w.heap.size 3 1 v ss.length ((ss.mergeSort (fun x y=>decide (x<=y))).map encZ)/\(v=.slice none 0 0↔ss=[])/\Below w.heap.size w w':=by
 refine (callsIn_wide (n:=5)).1 ?_;exact AnyZI.sorted_in Tryz.sorted200 Fence.wide 5 trivial trivial trivial trivial rfl (by omega) (Tryz.sorts145 _) (enters_of func145 (by kernel_rfl) rfl) 282 lb trivial (enters_of func282 (by kernel_rfl) rfl) S N (by unfold maxLen;omega) (by omega) w hseq
theorem insert_perm {H:Type} (x:Lit × DataW H):∀ l:List (Lit × DataW H),(DataW.insert x l).Perm (x::l)
 | []=>List.Perm.refl _
 | y::r=>by
   unfold DataW.insert;split
   ·exact List.Perm.refl _
   exact ((insert_perm x r).cons y).trans (List.Perm.swap x y r)
theorem sorted_perm {H:Type}:∀ l:List (Lit × DataW H),(l.foldr DataW.insert []).Perm l
 | []=>List.Perm.refl _
 | x::r=>by
   rw[List.foldr_cons];exact (insert_perm x _).trans ((sorted_perm r).cons x)
def Qib:Value->Option (DataW Nat × List MemPlace):=fun _=>some (.nil,[])
theorem Qvy {x:MapEntry} {n:Int} (h:x.key=.int .i64 n) (hn : -9223372036854775808<=n/\n<9223372036854775808):WideElems.rd prog 3 Qib x=some (.int .i64 n,.nil):=by
 have hw:(Lit.int .i64 n).wf=true:=by
  have h1:=hn.1;have h2:=hn.2;simp[Lit.wf,IntKind.inR,IntKind.min,IntKind.max,IntKind.bits,IntKind.signed];omega
 simp[WideElems.rd,h,Qib,keyOf,underlying3,mapKey,hw]
section
variable {K:World->Prop}
theorem QyI (kvs:List (MK × IV)) (ks:List Int) (hk:kvs.map (·.1)=ks.map (fun x=>MK.int .i64 x)) (hwf:∀ x∈ks,-9223372036854775808<=x/\x<9223372036854775808) (hlen:ks.length<=1000000) :
  Gd K 200 [.clo 282 [] [.ptr [.map kvs]]] (QU (ks.mergeSort fun x y=>decide (x<=y))):=by
 intro w ok vs hK hnew hl hvs;obtain ⟨v0,rfl⟩:∃ v0,vs=[v0]:=by
  match vs,hl with
  | [v],_=>exact ⟨v,rfl⟩
 have hrep:=hvs 0 _ v0 rfl rfl
 have fin:∀ (v:Value) (w':World) (ss:List Int),ss.Perm ks->w'.ownsRow w.heap.size 3 1 v ss.length ((ss.mergeSort (fun x y=>decide (x<=y))).map encZ)->Below w.heap.size w w' ->
   ∃ v1,Ending.returned v=.returned v1/\QF ok w' (QU (ks.mergeSort fun x y=>decide (x<=y))) v1/\Below w.heap.size w w':=fun v w' ss hp ho hb=>by
  refine ⟨v,rfl,?_,hb⟩;have e1:ss.mergeSort (fun x y=>decide (x<=y))=ks.mergeSort fun x y=>decide (x<=y):=mergeSort_of_perm_i hp;rw[e1] at ho;have hl2:ss.length=ks.length:=hp.length_eq;have e3:(ks.mergeSort fun x y=>decide (x<=y)).length=ss.length:=by simp[hl2]
  generalize (ks.mergeSort fun x y=>decide (x<=y))=zs at *
  obtain ⟨h1,h2 | ⟨g,cap,cur,h2,h3,h4,h5,h6,h7,h8⟩⟩:=ho
  ·obtain ⟨rfl,h2⟩:=h2;have:zs=[]:=QKR (by omega);subst this;exact .nils _
  subst h2;rw[<- e3];refine Ux zs g cap (by omega) h6 (hnew g h3) fun j z hj=>?_;have hjl:=(QKG.1 hj).1;have:(cur.toList.take (ss.length*1))[j]?=some (.int .i64 z):=by grind
  rw[QLr,if_pos (by omega)] at this;simp only[World.cell?,h4];simpa using this
 cases hrep with
 | clo _ _ _ us vs' h1 h2 hf hc =>
   obtain rfl:us=[]:=QKR h1;obtain ⟨p,rfl⟩:∃ p,vs'=[p]:=by
    match vs',h2 with
    | [v],_=>exact ⟨v,rfl⟩
   have hp:=hc 0 _ p rfl rfl;cases hp with
   | ptr _ b off u hu hx =>
     have hcell:=(hu 0 (by simp)).2.1;rw[QLX] at hcell;have hbw:b<w.heap.size:=QLA w ⟨b,off,none⟩ hcell;have hm:=hx 0 _ rfl;generalize u 0=u0 at hcell hm;cases hm with
     | mapn =>
       have hk0:ks=[]:=by simpa using hk.symm
       subst hk0;refine (Qao _ _ 0 (by omega) w (Ju (ρ:=Tryz.keys201_ren) { Tryz.keys201 with } Fence.wide 2 trivial rfl b off w hbw hcell)).mono ?_;grind
     | map _ r es clock hok hr hmr hd hxx =>
       have hks:kvs.length=ks.length:=by simpa using congrArg List.length hk
       have hkey:∀ (i:Nat) (x:MapEntry),es[i]?=some x->∃ n:Int,ks[i]?=some n/\x.key=.int .i64 n:=fun i x hx=>by
        obtain ⟨k,h3,h4⟩:=hmr.keys i x hx;rw[<- QKN,hk,QKN,QKK] at h3;obtain ⟨n,h5,rfl⟩:=h3;exact ⟨n,h5,h4⟩
       have hrd:∀ (i:Nat) (x:MapEntry),es[i]?=some x->∃ n:Int,ks[i]?=some n/\x.key=.int .i64 n/\WideElems.rd prog 3 Qib x=some (.int .i64 n,.nil):=fun i x hx=>by
        obtain ⟨n,h3,h4⟩:=hkey i x hx;exact ⟨n,h3,h4,Qvy h4 (hwf n (QKW h3))⟩
       have hlist:es.toList.map (fun x=>intOf (WideElems.rg prog 3 Qib x).1)=ks:=by
        refine QMc fun i=>?_;rw[QKN];cases hx:es[i]? with
        | none =>
          have:es.size<=i:=by
           grind
          have hz:=hmr.size;grind
        | some x =>
          obtain ⟨n,h3,h4,h5⟩:=hrd i x hx;rw[QMl,hx,h3];simp[WideElems.rg,h5,intOf]
       have hown:w.ownsMap prog 3 Qib r ks.length (DataW.map ((es.toList.map (WideElems.rg prog 3 Qib)).foldr DataW.insert [])):=by
        refine ⟨es,clock,hr,⟨by have:=hmr.size;unfold maxLen;omega,⟨fun x hx=>?_,?_,?_⟩,fun x hx=>?_⟩,by grind,rfl⟩
        ·obtain ⟨i,hi⟩:=QLj hx;exact hmr.born i x (by simpa using hi)
        ·rw[List.nodup_iff_pairwise_ne] at *
         refine QLG.2 fun i j hi hj hij heq=>?_;simp at hi hj heq;have:=hmr.apart i j es[i] es[j] (by simp[hi]) (by simp[hj]) heq;omega
        ·refine QLG.2 fun i j hi hj hij heq=>?_;simp at hi hj heq;obtain ⟨k1,h3,h4⟩:=hmr.keys i es[i] (by simp[hi]);obtain ⟨k2,h5,h6⟩:=hmr.keys j es[j] (by simp[hj]);rw[QKK] at h3 h5;obtain ⟨p,h7,rfl⟩:=h3;obtain ⟨q,h8,rfl⟩:=h5;rw[h4,h6] at heq;have:p.1=q.1:=by
          have e1:(kvs.map (·.1))[i]?=some p.1:=by simp[h7]
          have e2:(kvs.map (·.1))[j]?=some q.1:=by simp[h8]
          rw[hk,QKN,QKK] at e1 e2;obtain ⟨n1,_,e1⟩:=e1;obtain ⟨n2,_,e2⟩:=e2;rw[<- e1,<- e2] at heq |-;simpa[MK.val] using heq
         grind
        obtain ⟨i,hi⟩:=QLj hx;grind
       have hperm:(intKeys (DataW.map ((es.toList.map (WideElems.rg prog 3 Qib)).foldr DataW.insert []))).Perm ks:=by
        have:=(sorted_perm (es.toList.map (WideElems.rg prog 3 Qib))).map fun p=>intOf p.1;rw[List.map_map] at this;refine this.trans ?_;rw[show es.toList.map ((fun p=>intOf p.1)∘WideElems.rg prog 3 Qib)=ks from hlist]
       have hsz:=hown.size_le;refine (Qao _ _ _ (by omega) w (U2 (ρ:=Tryz.keys201_ren) { Tryz.keys201 with } Fence.wide 2 trivial rfl (by omega) b off r _ _ w hbw hcell hown)).mono ?_;grind
end
end Go.Pf
namespace Go.Pf
open Go Go.Ev Go.Proofs Go.RowKit Go.Proofs.Tryz
variable {K:World->Prop} (hK:∀ w w',K w->Below w.heap.size w w'->K w')
set_option maxRecDepth 8000
theorem ZQ {α:Type} {p:List α->Prop} (h0:p []) (h1:∀ l x,p l->p (l++[x])) (l:List α):p l:=by
 have:∀ r:List α,p r.reverse:=by
  intro r;induction r with
  | _=>grind
 have h:=this l.reverse;grind
def Qcy:List (Int × Nat)->Int->List (Int × Nat)
 | [],x=>[(x,1)]
 | p::r,x=>if p.1=x then (x,p.2+1)::r else p::Qcy r x
def QcG:List (Int × Nat)->Int->Nat
 | [],_=>0
 | p::r,x=>if p.1=x then p.2 else QcG r x
def J6 (l:List (Int × Nat)):List (MK × IV):=l.map fun p=>(.int .i64 p.1,.int .i64 (p.2:Nat))
theorem YA (x:Int):∀ l,(Qh (.int .i64 x) (J6 l)).getD (.int .i64 0)=.int .i64 (QcG l x:Nat)
 | []=>rfl
 | p::r=>by
   by_cases h:p.1=x
   ·simp[J6,Qh,QcG,h]
   have:=YA x r;simp[J6,Qh,QcG,h] at this |-;exact this
theorem Vs (x:Int):∀ l,zn (.int .i64 x) (.int .i64 ((QcG l x:Nat)+1)) (J6 l)=J6 (Qcy l x)
 | []=>by simp[J6,zn,QcG,Qcy]
 | p::r=>by
   by_cases h:p.1=x
   ·simp[J6,zn,QcG,Qcy,h]
   have:=Vs x r;simp[J6,zn,QcG,Qcy,h] at this |-;exact this
theorem XG:∀ l,QP (.int .i64) (J6 l)
 | []=>trivial
 | _::r=>⟨rfl,XG r⟩
theorem Qme (x y:Int):∀ l,QcG (Qcy l x) y<=QcG l y+1
 | []=>by simp[Qcy,QcG];split<;>omega
 | p::r=>by
   unfold Qcy;split
   ·simp only[QcG];grind
   simp only[QcG];split
   ·omega
   exact Qme x y r
def ZH (l:List Int):List (Int × Nat):=l.foldl Qcy []
theorem ZK (l:List Int) (x:Int):ZH (l++[x])=Qcy (ZH l) x:=by simp[ZH]
theorem qY (y:Int):∀ l:List Int,QcG (ZH l) y<=l.length:=by
 refine ZQ (by simp[ZH,QcG]) fun l x ih=>?_;rw[ZK];have:=Qme x y (ZH l);simp;omega
def ZE (l:List Int):List Int:=((ZH l).map (·.1)).mergeSort fun x y=>decide (x<=y)
theorem Qfl (x y:Int):∀ l,y∈(Qcy l x).map (·.1)↔y∈l.map (·.1)\/y=x
 | []=>by simp[Qcy]
 | p::r=>by
   unfold Qcy;split
   ·grind
   have:=Qfl x y r;grind
theorem Qd7 (x:Int):∀ l,(l.map (·.1)).Nodup->((Qcy l x).map (·.1)).Nodup
 | [],_=>by simp[Qcy]
 | p::r,h=>by
   rw[QKZ,QMb] at h;unfold Qcy;split
   ·grind
   rename_i hp;rw[QKZ,QMb];refine ⟨fun hb=>?_,Qd7 x r h.2⟩;rcases (Qfl x p.1 r).1 hb with hb | hb
   all_goals grind
theorem QfH (y:Int):∀ l:List Int,y∈(ZH l).map (·.1)↔y∈l:=by
 refine ZQ (by simp[ZH]) fun l x ih=>?_;rw[ZK,Qfl,ih];simp
theorem QnI:∀ l:List Int,((ZH l).map (·.1)).Nodup:=by
 refine ZQ (by simp[ZH]) fun l x ih=>?_;rw[ZK];exact Qd7 x _ ih
theorem Ql4 (x:Int):∀ k,(Qcy k x).length<=k.length+1
 | []=>by simp[Qcy]
 | p::r=>by
   have:=Ql4 x r;unfold Qcy;grind
theorem qj:∀ l:List Int,(ZH l).length<=l.length:=by
 refine ZQ (by simp[ZH]) fun l x ih=>?_;rw[ZK];have:=Ql4 x (ZH l);simp;omega
theorem XL (y:Int) (l:List Int):y∈ZE l↔y∈l:=by
 unfold ZE;rw[List.mem_mergeSort,QfH]
theorem Ut (l:List Int):(ZE l).Pairwise (·<·):=by
 have h1:=List.pairwise_mergeSort (le:=fun x y:Int=>decide (x<=y)) (fun a b c h1 h2=>by simp at *;omega) (fun a b=>by simp;omega) ((ZH l).map (·.1));have h2:(((ZH l).map (·.1)).mergeSort (fun x y:Int=>decide (x<=y))).Nodup:=(List.mergeSort_perm ((ZH l).map (·.1)) (fun x y:Int=>decide (x<=y))).nodup_iff.2 (QnI l);have h3:=h1.and h2;refine h3.imp fun {a b} h=>?_;grind
theorem QiU:∀ {l l':List Int},l.Pairwise (·<·)->l'.Pairwise (·<·)->(∀ x,x∈l↔x∈l')->l=l'
 | [],[],_,_,_=>rfl
 | [],b::l',_,_,h=>absurd ((h b).2 (by simp)) (by simp)
 | a::l,[],_,_,h=>absurd ((h a).1 (by simp)) (by simp)
 | a::l,b::l',h1,h2,h=>by
   rw[List.pairwise_cons] at h1 h2;have hab:a=b:=by
    have p1:=(h a).1 (by simp);have p2:=(h b).2 (by simp);grind
   subst hab;refine congrArg (a::·) (QiU h1.2 h2.2 fun x=>?_);grind
include hK
theorem Qfp (kvs:List (MK × IV)):Gd K 201 [.map kvs] (.clo 282 [] [.ptr [.map kvs]]):=by
 refine Qb hK (fk func201 QIF (by kernel_rfl)) (by simp) ?_;simp
omit hK in
theorem UH (l:List Int) (hw:∀ x∈l,-1000000<=x/\x<=1000000) (hl:l.length<=1000000):Gd K 200 [.clo 282 [] [.ptr [.map (J6 (ZH l))]]] (QU (ZE l)):=by
 have hlen:(ZH l).length<=l.length:=by
  exact qj l
 refine QyI (K:=K) (J6 (ZH l)) ((ZH l).map (·.1)) (by simp[J6]) (fun x hx=>?_) (by simp;omega);have:=hw x ((QfH x l).1 hx);omega
theorem QcE (c:Qf) (hl:c.za.length<=1000) (hs:c.zg.length<=1000) (g1:FuncId) (cs1:List IV) (is:Bool) (hg1:OkC c->Gd K g1 ([.int .i64 (Ql c.za),.int .i64 (Qbv c.za)]++cs1) (.bool is)) (hc1:callee prog g1=true)
  (g2:FuncId) (cs2:List IV) (v:Nat->Int) (hg2:OkC c->is=true->∀ n∈Qn c,Gd K g2 ([.agg (YL c.za (Q1 c.za n) (pmC c n))]++cs2) (.int .i64 (v n))) (hc2:callee prog g2=true) (hv:OkC c->is=true->∀ n∈Qn c,-1000000<=v n/\v n<=1000000) :
  Gd K 185 [chV c,.clo g1 [] cs1,.clo g2 [] cs2] (.xd [QU (if Xu c is=0 then ZE ((Qn c).map v) else []),.int .i64 (Xu c is)]):=by
 refine Qb hK (fk func185 QIU (by kernel_rfl)) (by simp) ?_;simp;refine cK (by simpa using Qyb hK c (pmC c) (Qgk hK c) g1 [] cs1 is (fun h=>by simpa using hg1 h) hc1 hl hs) ?_;by_cases he:Xu c is=0;rotate_left
 ·by_cases h1:OkC c<;>cases is<;>simp[he,h1]
 ·have h1:OkC c:=by
   unfold Xu at he;grind
  have h2:is=true:=by
   unfold Xu at he;grind
  have hlen:(Qn c).length<=4096:=by
   have h1':=QK5 (fun n=>decide ((QN c.za c.zg (Q1 c.za n):Int)<=c.zh)) (List.range (2 ^ Z2 c.za));have h2':=Va (n:=Z2 c.za) (by have:=U6 c.za;have:=h1.len;omega);simp at h1';unfold Qn;omega
  have hG:=hg2 h1 h2;have hV:=hv h1 h2;clear hg2 hv hg1;subst h2;simp[he,h1];refine QS (wy:=.fall) (o':=[(10,.box [.yk 21]),(21,.xg (J6 (ZH ((Qn c).map v))))]) rfl (by kernel_rfl) (qQ hK c h1 (pmC c) (Qgk hK c h1)) ?_ ?_
  ·have:=VI.all (P:=prog) (K:=K) (ps:=[24]) (asn:=QfX) (body:=QkX) (ks:=[5,10]) (ids:=[10,21]) (eK:=[(5,.iv (.ptr [.clo g2 [] cs2])),(10,.loc 10 0)]) ((Qn c).map (XJ c.za (pmC c)))
    (fun i=>[(10,.box [.yk 21]),(21,.xg (J6 (ZH (((Qn c).map v).take i))))]) fun i x hi=>by
    simp only[QKN,QKK] at hi;obtain ⟨y,hy,rfl⟩:=hi;have xa:=(QKG.1 hy).1;have hyv:((Qn c).map v)[i]'(by simpa using xa)=v y:=by
     grind
    have hg:=hG y (QKW hy);refine ⟨rfl,?_⟩;rw[QKH (by simpa using xa),ZK,hyv];have hle:=qY (v y) (((Qn c).map v).take i);have hkk:=XG (ZH (((Qn c).map v).take i));have hf:=YA (v y) (ZH (((Qn c).map v).take i));have hi:=Vs (v y) (ZH (((Qn c).map v).take i));have hle2:(((Qn c).map v).take i).length<=4096:=by simp;omega
    generalize ZH (((Qn c).map v).take i)=kv at *;simp[XJ,QfX,QkX];refine ⟨hc2,cK (by simpa using hg) ?_⟩;simp[hkk,hf,hi];omega
   simpa[ZH,J6,QKM] using this
  ·simp;refine cK (by simpa using Qfp hK (J6 (ZH ((Qn c).map v)))) ?_;simp;refine cK (UH ((Qn c).map v) (fun x hx=>?_) (by simp;omega)) ?_
   ·grind
   ·simp
def UT (c:Qf) (pos:Int) (n:Nat):Int:=((cab c.za (Q1 c.za n) c.za.length).getD pos.toNat 0:Nat)
theorem Qfv (c:Qf) (pos:Int) (hl:c.za.length<=1000) (hs:c.zg.length<=1000) :
  Gd K 101 [chV c,.int .i64 pos] (.xd [QU (if Xu c (decide (inR pos 0 (Ql c.za-1)))=0 then ZE ((Qn c).map (UT c pos)) else []),.int .i64 (Xu c (decide (inR pos 0 (Ql c.za-1))))]):=by
 refine Qb hK (fk func101 QJP (by kernel_rfl)) (by simp) ?_;simp;refine cK (by simpa using QjE hK pos) ?_;simp;have hcl:∀ n,OkC c->((cab c.za (Q1 c.za n) c.za.length).length:Int)=Ql c.za:=fun n h=>by
  rw[ZI _ h.za _ (QKJ _) (QKJ _)];rfl
 have hg:=QcE hK c hl hs 270 [.ptr [.int .i64 pos]] (decide (inR pos 0 (Ql c.za-1))) (fun h=>by
   have:=hcl 0 h;have h2:=h.za.cnt c.za.length (QKJ _) (QKJ _);have h3:=ZI (Q1 c.za 0) h.za c.za.length (QKJ _) (QKJ _);simpa using Qjp hK (Ql c.za) (Qbv c.za) pos (by omega)) (by kernel_rfl) 187 [.ptr [.int .i64 pos]] (UT c pos) (fun h hi n _=>by
   have h3:=hcl n h;have hi:=of_decide_eq_true hi;simp only[inR] at hi;have h4:pos=((pos.toNat:Nat):Int):=by omega
   have h5:pos.toNat<(cab c.za (Q1 c.za n) c.za.length).length:=by omega
   have h6:=QyM hK c.za (Q1 c.za n) (pmC c n) hl pos.toNat h5;rw[<- h4] at h6;have h7:(cab c.za (Q1 c.za n) c.za.length).getD pos.toNat 0=(cab c.za (Q1 c.za n) c.za.length)[pos.toNat]:=by grind
   unfold UT;grind) (by kernel_rfl) (fun h hi n _=>by
   have h3:=hcl n h;have hi:=of_decide_eq_true hi;simp only[inR] at hi;have h5:pos.toNat<(cab c.za (Q1 c.za n) c.za.length).length:=by omega
   have h7:(cab c.za (Q1 c.za n) c.za.length).getD pos.toNat 0=(cab c.za (Q1 c.za n) c.za.length)[pos.toNat]:=by grind
   have h8:=ql c.za (Q1 c.za n) c.za.length _ (QKL h5);have h9:=Qih c.za c.za.length;unfold UT;omega)
 refine cK (by simpa using hg) ?_;simp
omit hK in
theorem JO (x:Int):ZE [x]=[x]:=by simp[ZE,ZH,Qcy]
omit hK in
theorem qE (c:Qf) (hc:OkC c) (h2:Z2 c.za=0) (hs:c.zg=[]):Qn c=[0]:=by
 have:=hc.zh;simp only[inR] at this;simp[Qn,h2,hs,QN,this]
theorem QxI (c:Qf) (hc:OkC c) (h2:Z2 c.za=0) (hs:c.zg=[]):Gd K 346 [chV c] (Xh (cab c.za (Q1 c.za 0) c.za.length)):=by
 have hl:=hc.len;have hr:=qE c hc h2 hs;have hcl:=ZI (Q1 c.za 0) hc.za c.za.length (QKJ _) (QKJ _);have hcb:=hc.za.cnt c.za.length (QKJ _) (QKJ _);have hcl2:Ql c.za=((cab c.za (Q1 c.za 0) c.za.length).length:Int):=hcl.symm;have hw:∀ i:Nat,i<(cab c.za (Q1 c.za 0) c.za.length).length->Gd K 101 [chV c,.int .i64 i] (.xd [QU [((cab c.za (Q1 c.za 0) c.za.length).getD i 0:Nat)],.int .i64 0]):=fun i hi=>by
  have:=Qfv hK c i (by omega) (by simp[hs]);have h3:inR (i:Int) 0 (Ql c.za-1):=by simp only[inR];omega
  have h4:Xu c true=0:=by simp[Xu,hc,hr]
  rw[decide_eq_true h3,h4,hr] at this;simpa[JO,UT] using this
 refine Qb hK (fk func346 QGR (by kernel_rfl)) (by simp) ?_;have hg83:=qU hK c (by omega) (by simp[hs]);simp[hc] at hg83;simp;refine cK hg83 ?_;rw[hcl2];generalize cab c.za (Q1 c.za 0) c.za.length=now at *;simp
 refine Qi (fun i=>[(1,AV.iv (.ptr [Qz c.za,Qu c.zg,.int .i64 c.zh])),(5,AV.yl 5 i),(14,AV.iv (.int .i64 now.length)),(15,AV.iv (IV.int IntKind.i64 (i:Nat)))])
  (fun i=>[(5,AO.arr 3 1 (emb ((now.take i).map fun (n:Nat)=>[.int .i64 (n:Int)])) 0)]) now.length (fun i=>True) trivial ?_ ?_
 ·intro _;rw[Qa Qkb.eq_1];simp[QKM]
 intro i hi _ ih;rw[Qa Qkb.eq_1];rw[QKH hi,QK3] at ih;have hg:=hw i hi;have h7:now.getD i 0=now[i]:=by grind
 rw[h7] at hg;simp[hi] at ih |-;refine cK (by simpa using hg) ?_;simp;grind
omit hK
def VP (d:Qv) (x:Int):Qv:={ d with z2:=x }
def Ji:List Qv->List (List Qv)
 | []=>[[]]
 | d::r=>if d.z2=2 then (Ji r).map (VP d 0::·)++(Ji r).map (VP d 1::·) else (Ji r).map (d::·)
theorem QoH (ds:List Qv) (h:Z2 ds=0):∀ x∈ds,ZF x=false:=by
 intro x hx;have:=QMf.1 h x hx;simpa[ZF] using this
theorem QdH:∀ ds:List Qv,Z2 ds=0->Ji ds=[ds]
 | [],_=>rfl
 | d::r,h=>by
   by_cases hd:d.z2=2
   ·simp[Z2,QL0,hd] at h
   have:=QdH r (by simpa[Z2,QL0,hd] using h);simp[Ji,hd,this]
theorem QjN:∀ ds:List Qv,Z2 ds≠0->∃ i:Nat,(∀ x∈ds.take i,ZF x=false)/\∃ h:i<ds.length,ds[i].z2=2/\Ji ds=Ji (ds.set i (VP ds[i] 0))++Ji (ds.set i (VP ds[i] 1))/\∀ x:Int,x≠2->Z2 (ds.set i (VP ds[i] x))+1=Z2 ds
 | [],h=>absurd rfl h
 | d::r,h=>by
   by_cases hd:d.z2=2
   ·refine ⟨0,by simp,by simp,hd,?_,fun x hx=>?_⟩
    ·simp[Ji,hd,VP]
    simp[Z2,QL0,VP,hx,hd]
   ·have h':Z2 r≠0:=by simpa[Z2,QL0,hd] using h
    obtain ⟨i,h1,h2,h3,h4,h5⟩:=QjN r h';refine ⟨i+1,?_,by simpa using h2,by simpa using h3,?_,fun x hx=>?_⟩
    ·intro x hx;rw[List.take_succ_cons,QKU] at hx;rcases hx with rfl | hx
     ·simp[ZF,hd]
     exact h1 x hx
    ·simp only[List.set_cons_succ,List.getElem_cons_succ,Ji,hd,if_false];grind
    ·have:=h5 x hx;simp only[List.set_cons_succ,List.getElem_cons_succ];simp[Z2,hd] at this |-;omega
noncomputable def QL (c:Qf):List Qf:=((Ji c.za).map fun ds=>{ c with za:=ds }).filter fun c'=>decide (Xu c' true=0)
def UP (c:Qf):List IV:=[chV c]
theorem Qct (c:Qf) (h:Z2 c.za=0):QL c=if Xu c true=0 then [c] else []:=by
 unfold QL;rw[QdH _ h];by_cases h1:Xu c true=0<;>simp[h1]
include hK
theorem Qjf:∀ (n:Nat) (c:Qf),Z2 c.za=n->c.za.length<=1000->c.zg.length<=1000->qu prog K 276 [chV c] [] ((QL c).map UP) (fun b=>.bool b)
 | 0,c,hn,hl,hs=>by
   intro s b s' hf;refine Qy Qro (by simp) hf.v rfl ?_;have hfi:=YK ZF c.za (QoH _ hn);have hg:=Qpv hK c.za 344 ZF (Qpu hK) (by kernel_rfl) hl;rw[hfi] at hg;rw[Qct c hn] at hf;simp;refine cK (by simpa using hg) ?_;simp;refine cK (Qpt hK c (pmC c) (Qgk hK c) hl hs) ?_;by_cases h1:Xu c true=0
   ·simp[h1] at hf |-
    cases hf with
    | stop _ _ _ _ hg =>
      refine QR (by simpa[UP] using hg) rfl ?_;simp
    | next _ _ _ s1 _ _ hg hr =>
      cases hr;refine QR (by simpa[UP] using hg) rfl ?_;simp
   simp[h1] at hf |-;cases hf;grind
 | n+1,c,hn,hl,hs=>by
   intro s b s' hf;refine Qy Qro (by simp) hf.v rfl ?_;obtain ⟨i,h1,h2,h3,h4,h5⟩:=QjN c.za (by omega);have hg:=Qpv hK c.za 344 ZF (Qpu hK) (by kernel_rfl) hl;rw[QaX ZF c.za i h2 (by simp[ZF,h3]) h1] at hg;have hne:c.za≠[]:=fun e=>by grind
   have hgc:=clone84 (K:=K) c.za hl hne;have ih0:=Qjf n { c with za:=c.za.set i (VP c.za[i] 0) } (by grind) (by simpa using hl) hs;have ih1:=Qjf n { c with za:=c.za.set i (VP c.za[i] 1) } (by grind) (by simpa using hl) hs;have hkn:QL c=QL { c with za:=c.za.set i (VP c.za[i] 0) }++QL { c with za:=c.za.set i (VP c.za[i] 1) }:=by
    unfold QL;grind
   rw[hkn,QK3] at hf;generalize hL0:QL { c with za:=c.za.set i (VP c.za[i] 0) }=L0 at *
   generalize hL1:QL { c with za:=c.za.set i (VP c.za[i] 1) }=L1 at *
   simp;refine cK hg ?_;simp
   refine Xd 2 (fun k e o=>∃ si,e=[(1,AV.cb 0),(2,AV.iv (.ptr [Qz c.za,Qu c.zg,.int .i64 c.zh])),(5,AV.iv (.int .i64 (i:Nat))),(25,AV.iv (.int .i64 (k:Nat)))]/\o=[(0,.ext si)] /\
    Q9 prog K (if k=0 then L0.map UP++L1.map UP else if k=1 then L1.map UP else []) si b s') ?_ ?_ _ _ ⟨s,by simp,by simp,by simpa using hf⟩
   ·rintro e o ⟨si,rfl,rfl,hfd⟩;cases hfd;rw[Qa Qky.eq_1];simp
   rintro k e o hk ⟨si,rfl,rfl,hfd⟩ ih;have hk2:k=0\/k=1:=by omega
   rw[Qa Qky.eq_1]
   have hset:∀ x:Int,(List.map (List.map AV.iv∘dC) c.za).set i [AV.iv (.int .i64 c.za[i].zp),AV.iv (.int .i64 c.za[i].pos),AV.iv (.int .i64 x),AV.iv (.int .i64 c.za[i].bar),AV.iv (.int .i64 c.za[i].z1)]=emb ((c.za.set i (VP c.za[i] x)).map dC):=fun x=>by
    simp[emb,List.map_set,VP]
   rcases hk2 with rfl | rfl
   ·simp only[if_true] at hfd;simp;refine Z9 hgc (by simp) ?_;simp[h2,hset,QKM];rcases hfd.append with ⟨s1,hf1,hf2⟩ | ⟨rfl,hf1⟩
    ·refine Zg (by simpa[QKM] using ih0 _ _ _ hf1) rfl ?_;simp;exact ih _ _ ⟨s1,by simp,by simp,by simpa using hf2⟩
    refine Zg (by simpa[QKM] using ih0 _ _ _ hf1) rfl ?_;simp
   simp only[if_true] at hfd;simp at hfd;simp;refine Z9 hgc (by simp) ?_;simp[h2,hset,QKM];refine Zg (by simpa[QKM] using ih1 _ _ _ hfd) rfl ?_;cases b
   ·simp
   simp;exact ih _ _ ⟨s',by simp,by simp,by simpa using Q9.nil _⟩
omit hK
theorem QgW {α:Type} (f:α->Int):∀ (l:List α) (k:Nat) (a:α),(∀ x∈l,1<=f x)->(∀ h:k<l.length,1<=f a/\f a<=f l[k])->Q4 f (l.set k a)<=Q4 f l
 | [],k,a,_,_=>by simp[Q4]
 | b::l,0,a,h,ha=>by
   have h1:=ha (by simp);have h2:=Qb6 f l fun x hx=>h x (by simp[hx]);simp only[List.set_cons_zero,Q4];exact QLE h1.2 (by omega)
 | b::l,k+1,a,h,ha=>by
   have ih:=QgW f l k a (fun x hx=>h x (by simp[hx])) (fun hk=>ha (by simpa using hk));have h1:=h b (by simp);simp only[List.set_cons_succ,Q4];exact QLJ ih (by omega)
def QdJ (l:ZC) (n:Int):ZC:={ l with lo:=n,hi:=n }
def Y9 (m:Machine) (k:Nat) (l:ZC) (n:Int):Machine:={ m with zd:=m.zd.set k (QdJ l n) }
noncomputable def U0:Nat->Machine->Nat->List Machine
 | 0,m,_=>acc (QaC m) (m.zw+1-m.zu).toNat
 | r+1,m,k=>match m.zd[k]? with
   | some l=>acc (fun i=>U0 r (Y9 m k l (l.lo+(i:Nat))) (k+1)) (l.hi+1-l.lo).toNat
   | none=>[]
structure QDj (m:Machine):Prop where
 len:m.zd.length<=3
 blen:m.zk.length<=6
 zx:inR m.zu 0 m.zw
 zw:m.zw<=20
 span:∀ l∈m.zd,1<=YY l
 lo:∀ l∈m.zd,0<=l.lo/\l.hi<=100000
 sets:sets m m.zd.length<=1000000
theorem QDj.fix {m:Machine} (h:QDj m) {k:Nat} (hk:k<m.zd.length) {n:Int} (hn:m.zd[k].lo<=n/\n<=m.zd[k].hi):QDj (Y9 m k m.zd[k] n):=by
 have hs:=h.span _ (QKL hk);have hl:=h.lo _ (QKL hk);refine ⟨by simpa[Y9] using h.len,h.blen,h.zx,h.zw,fun l hl=>?_,fun l hl'=>?_,?_⟩
 ·rcases QMq hl with h1 | h1
  ·exact h.span l h1
  rw[h1];simp[YY,QdJ]
 ·rcases QMq hl' with h1 | h1
  ·exact h.lo l h1
  rw[h1];simp only[QdJ];omega
 ·refine Int.le_trans ?_ h.sets;have e1:(Y9 m k m.zd[k] n).zd.length=m.zd.length:=by simp[Y9]
  have h2:=h.zx;simp only[inR] at h2;unfold Pf.sets;rw[e1,QKM (QKJ _),QKM (by omega)];refine QLJ (QgW YY _ _ _ h.span fun hk'=>?_) (by simp only[Y9];omega);have:YY (QdJ m.zd[k] n)=1:=by simp[YY,QdJ]
  omega
include hK
theorem Qo7:∀ (r:Nat) (m:Machine) (k:Nat),k+r=m.zd.length->QDj m->qu prog K 279 [maV m,.int .i64 k] [] ((U0 r m k).map Qhn) (fun b=>.bool b)
 | 0,m,k,hk,ht=>by
   have:k=m.zd.length:=by omega
   subst this;have h1:=ht.len;have h2:=ht.blen;refine Qhm hK m (by omega) (by omega) ht.zx ht.zw (fun n _=>?_);have h3:=ht.sets;have h4:=ht.zx;have h5:=Qb6 YY m.zd ht.span;simp only[inR] at h4;unfold Pf.sets at h3 |-;simp only[XY] at h3 |-;rw[QKM (QKJ _)] at h3 |-;have h6:(m.zw-m.zu+1)*Q4 YY m.zd≥1*Q4 YY m.zd:=QLE (by omega) (by omega);omega
 | r+1,m,k,hk,ht=>by
   have xa:k<m.zd.length:=by omega
   have ih:=Qo7 r;intro s b s' hf;refine Qy Qrn (by simp) hf.v rfl ?_;simp only[U0,QKF xa] at hf;rw[Vy] at hf;have hne:¬ (k:Int)=m.zd.length:=by omega
   have xb:=ht.lo _ (QKL xa);have hln:=ht.len;have hnn:m.zd≠[]:=fun e=>by grind
   have hgc:=clone86 (K:=K) m.zd (by omega) hnn;have hsp:=ht.span _ (QKL xa);simp only[YY] at hsp;have hit:∀ i:Nat,i<(m.zd[k].hi+1-m.zd[k].lo).toNat->qu prog K 279 [maV (Y9 m k m.zd[k] (m.zd[k].lo+i)),.int .i64 ((k+1:Nat):Int)] [] ((U0 r (Y9 m k m.zd[k] (m.zd[k].lo+i)) (k+1)).map Qhn) (fun b=>.bool b):=fun i hi =>
    ih _ _ (by simp[Y9];omega) (ht.fix xa (by omega))
   generalize hpc:(fun i:Nat=>U0 r (Y9 m k m.zd[k] (m.zd[k].lo+i)) (k+1))=pc at hf;have hpc':∀ i:Nat,U0 r (Y9 m k m.zd[k] (m.zd[k].lo+i)) (k+1)=pc i:=fun i=>by rw[<- hpc]
   simp only[hpc'] at hit;simp[hne,xa];intros
   refine Xd (m.zd[k].hi+1-m.zd[k].lo).toNat (fun i e o=>∃ si ls,e=[(1,AV.iv (.int .i64 (k:Nat))),(2,AV.cb 0),(3,AV.iv (.ptr [Zt m.zd,.int .i64 m.zr,.int .i64 m.zu,.int .i64 m.zw,J1 m.zk,.int .i64 m.zh])),(7,AV.loc 7 0),(11,AV.iv (.int .i64 (m.zd[k].lo+(i:Nat))))] /\
    o=[(0,.ext si),(7,.box [.iv (Zt ls),.iv (.int .i64 m.zr),.iv (.int .i64 m.zu),.iv (.int .i64 m.zw),.iv (J1 m.zk),.iv (.int .i64 m.zh)])] /\
    Q9 prog K ((Zu pc i ((m.zd[k].hi+1-m.zd[k].lo).toNat-i)).map Qhn) si b s') ?_ ?_ _ _ ⟨s,m.zd,by simp,by simp,by simpa using hf⟩
   ·rintro e o ⟨si,ls,rfl,rfl,hfd⟩;rw[QL7] at hfd;cases hfd;have q1:m.zd[k].lo+((m.zd[k].hi+1-m.zd[k].lo).toNat:Int)=m.zd[k].hi+1:=by omega
    have q2:¬ m.zd[k].hi+1<=m.zd[k].hi:=by omega
    rw[q1,Qa Qku.eq_1];simp[q2,xa]
   rintro i e o hi ⟨si,ls,rfl,rfl,hfd⟩ ihl;have q1:m.zd[k].lo+(i:Int)<=m.zd[k].hi:=by omega
   have q3:m.zd[k].lo+((i:Int)+1)=m.zd[k].lo+i+1:=by omega
   have e1:(m.zd[k].hi+1-m.zd[k].lo).toNat-i=((m.zd[k].hi+1-m.zd[k].lo).toNat-(i+1))+1:=by omega
   rw[e1] at hfd;simp only[Zu,QK3] at hfd;have hset:(List.map (List.map AV.iv∘leC) m.zd).set k [AV.iv (.int .i64 m.zd[k].long),AV.iv (.int .i64 (m.zd[k].lo+i)),AV.iv (.int .i64 (m.zd[k].lo+i))]=emb ((m.zd.set k (QdJ m.zd[k] (m.zd[k].lo+i))).map leC):=by
    simp[emb,List.map_set,QdJ]
   rw[Qa Qku.eq_1];simp[q1,xa];refine Z9 hgc (by simp) ?_;simp[xa,hset,QKM];refine ⟨by omega,?_⟩;have hiti:=hit i hi;rcases hfd.append with ⟨s1,hf1,hf2⟩ | ⟨rfl,hf1⟩
   ·refine Zg (by simpa[Y9] using hiti _ _ _ hf1) rfl ?_;simp
    (repeat' first|omega|with_reducible apply And.intro|intro)
    exact ihl _ _ ⟨s1,m.zd.set k (QdJ m.zd[k] (m.zd[k].lo+i)),by simp[q3],by simp,hf2⟩
   refine Zg (by simpa[Y9] using hiti _ _ _ hf1) rfl ?_;simp
omit hK
theorem JL (a:Nat) (h:a<2 ^ 64):(BitVec.ofInt 64 (a:Int)).toNat=a:=by
 grind
theorem WC (a:Nat) (h:a<2 ^ 64):IntKind.wrap .u64 (a:Int)=(a:Int):=by
 have h':a<18446744073709551616:=h;simp only[IntKind.wrap,IntKind.bits,IntKind.signed];simp;omega
theorem QlM (a b:Nat) (ha:a<2 ^ 64) (hb:b<2 ^ 64):Qad .or .u64 (a:Int) (b:Int)=((a ||| b:Nat):Int):=by
 show IntKind.wrap .u64 (((BitVec.ofInt 64 (a:Int)) ||| (BitVec.ofInt 64 (b:Int))).toNat:Int)=_;rw[BitVec.toNat_or,JL a ha,JL b hb,WC _ (QMm ha hb)]
theorem QrO (a b:Nat) (ha:a<2 ^ 64) (hb:b<2 ^ 64):Qad .and .u64 (a:Int) (b:Int)=((a &&& b:Nat):Int):=by
 show IntKind.wrap .u64 (((BitVec.ofInt 64 (a:Int)) &&& (BitVec.ofInt 64 (b:Int))).toNat:Int)=_;rw[BitVec.toNat_and,JL a ha,JL b hb,WC _ (Nat.and_lt_two_pow _ hb)]
def Qv7 (a b:Nat):Nat:=a &&& (2 ^ 64-1-b)
theorem QrP {a b:Nat} (ha:a<2 ^ 64):Qv7 a b<2 ^ 64:=QMi Nat.and_le_left ha
theorem QnQ (a b:Nat) (ha:a<2 ^ 64) (hb:b<2 ^ 64):Qad .andNot .u64 (a:Int) (b:Int)=(Qv7 a b:Int):=by
 show IntKind.wrap .u64 (((BitVec.ofInt 64 (a:Int)) &&& ~~~(BitVec.ofInt 64 (b:Int))).toNat:Int)=_;rw[BitVec.toNat_and,BitVec.toNat_not,JL a ha,JL b hb];exact WC _ (QrP ha)
theorem Qu3 {a b i:Nat} (hb:b<2 ^ 64) (hi:i<64):(Qv7 a b).testBit i=(a.testBit i&&!b.testBit i):=by
 unfold Qv7;rw[Nat.testBit_and,show 2 ^ 64-1-b=2 ^ 64-(b+1) by omega,Nat.testBit_two_pow_sub_succ hb];simp[hi]
theorem Qiu {n:Nat} (h:n<64):QwG .u64 1 (n:Int)=((2 ^ n:Nat):Int):=by
 have h2:(2:Nat) ^ n<2 ^ 64:=QMo (by decide) h;unfold QwG;rw[show min ((n:Int)).toNat IntKind.u64.bits=n by simp[IntKind.bits];omega,Int.one_mul];have:((2:Int) ^ n)=((2 ^ n:Nat):Int):=by push_cast;rfl
 rw[this];exact WC _ h2
theorem QwD (a n:Nat) (h:n<64):Qvq .u64 (a:Int) (n:Int)=((a >>> n:Nat):Int):=by
 unfold Qvq;rw[show min ((n:Int)).toNat IntKind.u64.bits=n by simp[IntKind.bits];omega,Nat.shiftRight_eq_div_pow];grind
theorem Qxh (a n:Nat) (h:n<64) (ha:a<2 ^ 64):Qad .and .u64 (Qvq .u64 (a:Int) (n:Int)) 1=if a.testBit n then 1 else 0:=by
 rw[QwD a n h];have h1:a >>> n<2 ^ 64:=QMi (Nat.shiftRight_le _ _) ha;have:=QrO (a >>> n) 1 h1 (by decide);rw[show ((1:Nat):Int)=1 from rfl] at this;rw[this]
 have e:a.testBit n=(decide ((a >>> n) &&& 1=1)):=by
  rw[Nat.testBit,Nat.and_comm]
  grind
 grind
def Xx (l:List Nat):Nat:=l.foldl (fun m n=>m ||| 2 ^ n) 0
theorem qK (l:List Nat) (n:Nat):Xx (l++[n])=Xx l ||| 2 ^ n:=by simp[Xx]
theorem Qg9 (i:Nat):∀ l:List Nat,(Xx l).testBit i=decide (i∈l):=by
 refine ZQ (by simp[Xx]) fun l n ih=>?_;rw[qK,Nat.testBit_or,ih,Nat.testBit_two_pow]
 grind
theorem QlW (k:Nat):∀ l:List Nat,(∀ n∈l,n<k)->Xx l<2 ^ k:=by
 refine ZQ (fun _=>by simp[Xx];grind) fun l n ih h=>?_;rw[qK];exact QMm (ih fun m hm=>h m (by simp[hm])) (QMo (by decide) (h n (by simp)))
theorem QhY (ds:List Qv) {e e':Nat->Int}:∀ k,(∀ i<k,e i=e' i)->cab ds e k=cab ds e' k
 | 0,_=>rfl
 | k+1,h=>by
   have ih:=QhY ds k fun i hi=>h i (by omega);have hk:=h k (by omega);simp only[cab,ih,hk]
theorem Qwh (ds:List Qv) (k:Nat) {j:Nat} (h:j<=k):wn (ds.take k) j=wn ds j:=by
 unfold wn;grind
theorem QmE (ds:List Qv) (e:Nat->Int) (k:Nat):∀ j,j<=k->cab (ds.take k) e j=cab ds e j
 | 0,_=>rfl
 | j+1,h=>by
   have ih:=QmE ds e k j (by omega);have hj:(ds.take k)[j]?=ds[j]?:=by grind
   simp only[cab,hj,ih,Qwh ds k (show j<=k by omega)]
theorem Qqs (ds:List Qv) (k i:Nat) (h:i<k):Q1 (ds.take k) 0 i=Q1 ds 0 i:=by
 have hj:(ds.take k)[i]?=ds[i]?:=by grind
 unfold Q1;grind
theorem QnL (ds:List Qv) (k:Nat):cab (ds.take k) (Q1 (ds.take k) 0) k=cab ds (Q1 ds 0) k:=by
 rw[QmE ds _ k k (QKJ _)];exact QhY ds k fun i hi=>Qqs ds k i hi
theorem Qc9 (ds:List Qv) (k:Nat) (h:Z2 ds=0):Z2 (ds.take k)=0:=by
 rw[Z2,QMf] at *
 grind
def ZU (p:Qe) (e:Nat->Int):List IV :=
 [.sl 1 ((List.range p.zf.length).map fun i=>[.int .u64 (Xx (Zx p i e):Nat)]),.sl 1 ((List.range p.zf.length).map fun i=>[.int .i64 (QM p i e)]),Xh (JB p e)]
include hK
theorem QgJ (c:Qf) (hc:OkD c.za c.za.length) (hl:c.za.length<=12) (h2:Z2 c.za=0) (k:Nat) (hk:k<=c.za.length):Gd K 346 [chV (Zz c k)] (Xh (cab c.za (Q1 c.za 0) k)):=by
 have hC:OkC (Zz c k):=qH hc hl hk;have:=QxI hK (Zz c k) hC (Qc9 _ _ h2) rfl;have e:(Zz c k).za=c.za.take k:=rfl;have e2:(c.za.take k).length=k:=by simp;omega
 rw[e,e2,QnL] at this;exact this
theorem Qx9 (p:Qe) (hp:OkP p) (h2:Z2 p.zc.za=0):Gd K 278 [chV p.zc,YW p.zf] (.agg (ZU p (Q1 p.zc.za 0))):=by
 have hl:=hp.deedsLen;have htl:=hp.trialsLen;have hd:=hp.zc.za;refine Qb hK (fk func278 QHy (by kernel_rfl)) (by simp) ?_;simp;intro _;refine cK (by simpa using Qfr hK p.zc p.zc.za.length (QKJ _)) ?_;simp;refine cK (by simpa using QgJ hK p.zc hd hl h2 p.zc.za.length (QKJ _)) ?_;simp;refine cK (by simpa using QpN hK p.zc) ?_;simp
 refine QS (wy:=.fall) (o':=[(4,.box [.iv (.sl 1 []),.iv (.sl 1 []),.iv (.sl 1 [])]),(5,.box [.yl 6000 p.zf.length,.yl 6001 p.zf.length,.iv (Xh (JB p (Q1 p.zc.za 0)))]),
  (6000,.arr 294 1 (emb ((List.range p.zf.length).map fun i=>[.int .u64 (Xx (Zx p i (Q1 p.zc.za 0)):Nat)])) 0),(6001,.arr 3 1 (emb ((List.range p.zf.length).map fun i=>[.int .i64 (QM p i (Q1 p.zc.za 0))])) 0)]) rfl (by kernel_rfl) (Qjg p.zc (by omega)) ?_ ?_
 ·have htrs:(trs (pv p.zc.za) 0).length=p.zf.length:=by
   have:∀ (l:List Nat) (t:Nat),(trs l t).length=l.length:=by
    intro l;induction l with
    | nil=>intro t;rfl
    | cons a l ih=>intro t;simp[trs,ih]
   rw[this,hp.many]
  have:=VI.all (P:=prog) (K:=K) (ps:=[22,23]) (asn:=QfR) (body:=Qkw) (ks:=[2,3,4,5]) (ids:=[4,5,6000,6001]) (eK:=[(2,.iv (.ptr [Qz p.zc.za,Qu p.zc.zg,.int .i64 p.zc.zh])),(3,.iv (.ptr [YW p.zf])),(4,.loc 4 0),(5,.loc 5 0)]) (trs (pv p.zc.za) 0)
   (fun i=>[(4,.box [.iv (.sl 1 []),.iv (.sl 1 []),.iv (.sl 1 [])]),(5,.box [.yl 6000 i,.yl 6001 i,.iv (Xh (JB p (Q1 p.zc.za 0)))]),
     (6000,.arr 294 1 (emb ((List.range i).map fun i=>[.int .u64 (Xx (Zx p i (Q1 p.zc.za 0)):Nat)])) 0),(6001,.arr 3 1 (emb ((List.range i).map fun i=>[.int .i64 (QM p i (Q1 p.zc.za 0))])) 0)]) fun i x hx=>by
   obtain ⟨hi,rfl⟩:=QeI _ _ _ _ hx;have hit:i<p.zf.length:=by grind
   have xa:=QgV hi;have hthen:Zx p i (Q1 p.zc.za 0)=cab p.zc.za (Q1 p.zc.za 0) (pv p.zc.za)[i]:=by simp[Zx,List.getD_eq_getElem?_getD,hi]
   have hrow:=QgJ hK p.zc hd hl h2 (pv p.zc.za)[i] (by omega);rw[<- hthen] at hrow;have htr:=Qn8 hit;have hok:=hp.trial hit;have hbr:QM p i (Q1 p.zc.za 0)=if 0<=(tr p i).z5 then (((Zx p i (Q1 p.zc.za 0)).getD (tr p i).z5.toNat 0:Nat):Int) else -1:=rfl
   have hcl:((Zx p i (Q1 p.zc.za 0)).length:Int)=cnt p.zc.za (pv p.zc.za)[i]:=by rw[hthen];exact ZI _ hd _ (by omega) (by omega)
   have hcb:=hd.cnt (pv p.zc.za)[i] (by omega) (by omega);have hmem:∀ n∈Zx p i (Q1 p.zc.za 0),n<12:=fun n hn=>by
    rw[hthen] at hn;have:=ql _ _ _ n hn;have:=Qih p.zc.za (pv p.zc.za)[i];omega
   have hpd:(pv p.zc.za).getD i 0=(pv p.zc.za)[i]:=by grind
   rw[hpd] at hok;rw[QLs,QK3,QK3];refine ⟨rfl,?_⟩;generalize hnow:Zx p i (Q1 p.zc.za 0)=now at *;simp[QfR,Qkw,-List.map_map,Qt,QO,QD,Qj];refine cK (by simpa using Qfr hK p.zc (pv p.zc.za)[i] (by omega)) ?_;simp;refine cK (by simpa using hrow) ?_;simp;intro _
   refine Qi (fun k=>[(2,.iv (.ptr [Qz p.zc.za,Qu p.zc.zg,.int .i64 p.zc.zh])),(3,.iv (.ptr [YW p.zf])),(4,.loc 4 0),(5,.loc 5 0),(6,.iv (.int .i64 (i:Nat))),(8,.iv (Xh now)),(9,.iv (.int .u64 (Xx (now.take k):Nat))),(28,.iv (Xh now)),(29,.iv (.int .i64 now.length)),(30,.iv (.int .i64 (k:Nat)))])
    (fun _=>[(4,.box [.iv (.sl 1 []),.iv (.sl 1 []),.iv (.sl 1 [])]),(5,.box [.yl 6000 i,.yl 6001 i,.iv (Xh (JB p (Q1 p.zc.za 0)))]),
    (6000,.arr 294 1 (emb ((List.range i).map fun i=>[.int .u64 (Xx (Zx p i (Q1 p.zc.za 0)):Nat)])) 0),(6001,.arr 3 1 (emb ((List.range i).map fun i=>[.int .i64 (QM p i (Q1 p.zc.za 0))])) 0)]) now.length (fun _=>True) trivial ?_ ?_
   ·intro _;rw[Qa Qkx.eq_1];by_cases hb:0<=(tr p i).z5
    ·have hb2:(tr p i).z5.toNat<now.length:=by
      have:=hok.2.2;simp only[inR] at this;omega
     have hgd:now.getD (tr p i).z5.toNat 0=now[(tr p i).z5.toNat]:=by grind
     rw[if_pos hb,hgd] at hbr;simp[hit,htr,hb,hb2,hbr,hnow,-List.map_map,Qt,QO,QD,Qj,QKM];omega
    rw[if_neg hb] at hbr;simp[hit,htr,hb,hbr,hnow,-List.map_map,Qt,QO,QD,Qj,QKM];omega
   intro k hk _ ih;rw[Qa Qkx.eq_1];have hn:=hmem now[k] (QKL hk);have hm1:Xx (now.take k)<2 ^ 12:=QlW 12 _ fun n hn=>hmem n (QLw hn);have hm2:(2:Nat) ^ now[k]<2 ^ 12:=QMo (by decide) hn;have hor:=QlM (Xx (now.take k)) (2 ^ now[k]) (by omega) (by omega);rw[<- Qiu (n:=now[k]) (by omega)] at hor;rw[QKH hk,qK] at ih;simp at ih;simp[hk,hor];grind
  rw[htrs] at this;simpa[emb,JB] using this
 simp[ZU,QKM]
 trace_state
omit hK
def Zj (p:Qe) (s:Qd):List (List IV):=(List.range p.zf.length).map fun i=>[.int .i64 (Qcl p.zb (tr p i).zm (tr p i).zn s),.int .i64 (upS p.zb (tr p i).zm (tr p i).zn s)]
def ZA (p:Qe) (t:Q7):List IV:=ZU p (QI t.ends)++[.sl 2 (Zj p t.set)]
def nd (p:Qe) (zo:Int):Qe:={ p with zo:=zo }
theorem U7 {a b c:Int} (ha:0<=a) (hb:1<=b):(a+b-1).tdiv b<=c↔a<=c*b:=by
 rw[QLe (by omega)]
 constructor
 ·intro h;have h1:=Int.mul_ediv_add_emod (a+b-1) b;have h2:=Int.emod_lt_of_pos (a+b-1) (show 0<b by omega);have h3:b*((a+b-1) / b)<=b*c:=QLJ h (by omega);grind
 intro h;have:(a+b-1) / b<c+1:=by
  rw[Int.ediv_lt_iff_lt_mul (by omega),Int.add_mul]
  omega
 omega
theorem Wh {a b c:Int} (ha:0<=a) (hb:1<=b):c<=a.tdiv b↔c*b<=a:=by
 rw[QLe ha];exact Int.le_ediv_iff_mul_le (by omega)
include hK
theorem Qx8 (p:Qe) (t:Q7) (zo:Int) (hp:OkP p) (hs:okS p.zb t.set) (i:Nat) (hi:i<p.zf.length):Gd K 283 [.agg (ZA p t),.int .i64 i,.int .i64 zo] (.bool (Yh (nd p zo) i t)):=by
 refine Qb hK (fk func283 QHv (by kernel_rfl)) (by simp) ?_;have hbr:QM p i (QI t.ends)=if 0<=(tr p i).z5 then (((Zx p i (QI t.ends)).getD (tr p i).z5.toNat 0:Nat):Int) else -1:=rfl
 have hfd:Yh (nd p zo) i t=(decide (0<=(tr p i).z5)&&decide (num p.zb t.set (tr p i).zm (tr p i).zn<=zo*den t.set)):=rfl;have hnum:0<=num p.zb t.set (tr p i).zm (tr p i).zn:=(hp.zb.numB hs (hp.trial hi).1 (hp.trial hi).2.1).1;have hden:1<=den t.set:=(hp.zb.denB hs).1;have hup:=U7 (c:=zo) hnum hden;rw[hfd];by_cases hb:0<=(tr p i).z5
 ·rw[if_pos hb] at hbr;by_cases h2:num p.zb t.set (tr p i).zm (tr p i).zn<=zo*den t.set
  ·have h3:=hup.2 h2;simp[ZA,ZU,Zj,hi,hbr,hb,upS,h2,h3]
  have h3:=fun h=>h2 (hup.1 h);simp[ZA,ZU,Zj,hi,hbr,hb,upS,h2,h3];omega
 ·rw[if_neg hb] at hbr;simp[ZA,ZU,Zj,hi,hbr,hb]
omit hK in
theorem Qnw (p:Qe) (t:Q7) (n:Nat):(List.range (n+1)).countP (fun i=>Yh p i t)=(List.range n).countP (fun i=>Yh p i t)+if Yh p n t then 1 else 0:=by
 rw[QLs,QLD]
 grind
theorem Qjy (p:Qe) (t:Q7) (zo:Int) (hp:OkP p) (hs:okS p.zb t.set):Gd K 203 [.agg (ZA p t),.int .i64 zo] (.int .i64 (Xt (nd p zo) t:Nat)):=by
 refine Qb hK (fk func203 QID (by kernel_rfl)) (by simp) ?_;have htl:=hp.trialsLen;have hll:(Zj p t.set).length=p.zf.length:=by simp[Zj]
 have hf:Xt (nd p zo) t=(List.range p.zf.length).countP (fun i=>Yh (nd p zo) i t):=rfl;have hsv:ZA p t=[.sl 1 ((List.range p.zf.length).map fun i=>[.int .u64 (Xx (Zx p i (QI t.ends)):Nat)]),.sl 1 ((List.range p.zf.length).map fun i=>[.int .i64 (QM p i (QI t.ends))]),Xh (JB p (QI t.ends)),.sl 2 (Zj p t.set)]:=rfl;rw[hsv];have hg:=fun i hi=>Qx8 hK p t zo hp hs i hi;rw[hsv] at hg;simp[hll];intro _
 refine Qi (fun i=>[(1,AV.iv (.int .i64 zo)),(2,.iv (.ptr [.sl 1 ((List.range p.zf.length).map fun i=>[.int .u64 (Xx (Zx p i (QI t.ends)):Nat)]),.sl 1 ((List.range p.zf.length).map fun i=>[.int .i64 (QM p i (QI t.ends))]),Xh (JB p (QI t.ends)),.sl 2 (Zj p t.set)])),
   (5,.iv (.int .i64 ((List.range i).countP (fun i=>Yh (nd p zo) i t):Nat))),(9,.iv (.int .i64 p.zf.length)),(10,.iv (.int .i64 (i:Nat)))]) (fun _=>[]) p.zf.length (fun _=>True) trivial ?_ ?_
 ·intro _;rw[Qa QkR.eq_1];simp[hf]
 ·intro i hi _ ih;have hle:(List.range i).countP (fun i=>Yh (nd p zo) i t)<=i:=by
   have:=QLq (p:=fun i=>Yh (nd p zo) i t) (l:=List.range i);simpa using this
  rw[Qa QkR.eq_1];rw[Qnw] at ih;simp[hi] at ih |-;refine cK (by simpa using hg i hi) ?_;cases hb:Yh (nd p zo) i t
  ·simp[hb] at ih |-
   grind
  ·simp[hb] at ih |-
   grind
omit hK in
theorem QlX {p:Qe} (hp:OkP p) (i:Nat) (e:Nat->Int):Xx (Zx p i e)<2 ^ 12:=QlW 12 _ fun n hn=>by
 have h1:=OkP.thenLt (p:=p) e i hn;have h2:=Yd p.zc.za;have h3:(Xe p.zc.za).length<=p.zc.za.length:=QK5 _ _;have:=hp.deedsLen;omega
def Qso (p:Qe) (t:Q7) (m i:Nat):Nat :=
 if p.zo<=Qcl p.zb (tr p i).zm (tr p i).zn t.set then m ||| (if 0<=QM p i (QI t.ends) then Qv7 (Xx (Zx p i (QI t.ends))) (2 ^ (QM p i (QI t.ends)).toNat) else Xx (Zx p i (QI t.ends))) else m
def pmN (p:Qe) (t:Q7) (n:Nat):Nat:=(List.range n).foldl (Qso p t) 0
omit hK in
theorem WQ (p:Qe) (t:Q7) (n:Nat):pmN p t (n+1)=Qso p t (pmN p t n) n:=by simp[pmN,QLs]
omit hK in
theorem Qbt {p:Qe} (hp:OkP p) (e:Nat->Int) {i:Nat} (hi:i<p.zf.length) : -1<=QM p i e/\QM p i e<12:=by
 by_cases hb:0<=(tr p i).z5
 ·obtain ⟨h1,h2⟩:=hp.brokeIn e hi hb;have h3:=OkP.thenLt (p:=p) e i (QKL h1);have h4:=Yd p.zc.za;have h5:(Xe p.zc.za).length<=p.zc.za.length:=QK5 _ _;have:=hp.deedsLen;omega
 simp[QM,hb]
omit hK in
theorem Qoy {p:Qe} (hp:OkP p) {t:Q7} (hs:okS p.zb t.set) (zo:Int) (m:Nat) {i:Nat} (hi:i<p.zf.length) {k:Nat} (hk:k<64):(Qso (nd p zo) t m i).testBit k=(m.testBit k||WP (nd p zo) k t i):=by
 have hnum:=(hp.zb.numB hs (hp.trial hi).1 (hp.trial hi).2.1).1;have hden:=(hp.zb.denB hs).1;have hbb:=Qbt hp (QI t.ends) hi;have hiff:=Wh (c:=zo) hnum hden;have hin:inN (Zx p i (QI t.ends)) k=decide (k∈Zx p i (QI t.ends)):=by
  unfold inN;grind
 have e1:WP (nd p zo) k t i=(decide (zo*den t.set<=num p.zb t.set (tr p i).zm (tr p i).zn)&&inN (Zx p i (QI t.ends)) k&&!decide (QM p i (QI t.ends)=k)):=rfl;have e2:Qso (nd p zo) t m i=if zo<=Qcl p.zb (tr p i).zm (tr p i).zn t.set then m ||| (if 0<=QM p i (QI t.ends) then Qv7 (Xx (Zx p i (QI t.ends))) (2 ^ (QM p i (QI t.ends)).toNat) else Xx (Zx p i (QI t.ends))) else m:=rfl
 rw[e1,e2,hin];by_cases h1:zo<=Qcl p.zb (tr p i).zm (tr p i).zn t.set
 ·have h2:zo*den t.set<=num p.zb t.set (tr p i).zm (tr p i).zn:=hiff.1 h1;rw[if_pos h1,Nat.testBit_or];by_cases h3:0<=QM p i (QI t.ends)
  ·rw[if_pos h3,Qu3 (QMo (by decide) (by omega)) hk,Qg9,Nat.testBit_two_pow]
   grind
  rw[if_neg h3,Qg9]
  grind
 have h2:¬ zo*den t.set<=num p.zb t.set (tr p i).zm (tr p i).zn:=fun h=>h1 (hiff.2 h);grind
omit hK in
theorem Qe6 {p:Qe} (hp:OkP p) {t:Q7} (hs:okS p.zb t.set) {zo:Int} {k:Nat} (hk:k<64):(pmN (nd p zo) t p.zf.length).testBit k=Zo (nd p zo) k t:=by
 have hat:∀ (m:Nat) {i:Nat},i<p.zf.length->(Qso (nd p zo) t m i).testBit k=(m.testBit k||WP (nd p zo) k t i):=fun m i hi=>Qoy hp hs zo m hi hk;have:∀ n,n<=p.zf.length->(pmN (nd p zo) t n).testBit k=(List.range n).any (WP (nd p zo) k t):=by
  intro n;induction n with
  | zero=>intro _;simp[pmN]
  | succ n ih=>intro h;rw[WQ,hat _ (by omega),ih (by omega),Qdp]
 exact this _ (QKJ _)
omit hK in
theorem QlI {p:Qe} (hp:OkP p) (t:Q7) {zo:Int} (n:Nat):pmN (nd p zo) t n<2 ^ 64:=by
 have:∀ n,pmN (nd p zo) t n<2 ^ 12:=fun n=>by
  induction n with
  | zero=>simp[pmN]
  | succ n ih =>
    rw[WQ];have h:=QlX hp n (QI t.ends);unfold Qso;split
    ·refine QMm ih ?_;split
     ·exact QMi Nat.and_le_left h
     exact h
    exact ih
 grind
theorem Qjw (p:Qe) (t:Q7) (zo:Int) (hp:OkP p):Gd K 208 [.agg (ZA p t),.int .i64 zo] (.int .u64 (pmN (nd p zo) t p.zf.length:Nat)):=by
 refine Qb hK (fk func208 QIy (by kernel_rfl)) (by simp) ?_;have htl:=hp.trialsLen;have hpl:∀ i,pmN (nd p zo) t i<2 ^ 12:=fun i=>by
  have:∀ n,pmN (nd p zo) t n<2 ^ 12:=fun n=>by
   induction n with
   | zero=>simp[pmN]
   | succ n ih =>
     rw[WQ];have h:=QlX hp n (QI t.ends);unfold Qso;split
     ·refine QMm ih ?_;split
      ·exact QMi Nat.and_le_left h
      exact h
     exact ih
  exact this i
 have hsv:ZA p t=[.sl 1 ((List.range p.zf.length).map fun i=>[.int .u64 (Xx (Zx p i (QI t.ends)):Nat)]),.sl 1 ((List.range p.zf.length).map fun i=>[.int .i64 (QM p i (QI t.ends))]),Xh (JB p (QI t.ends)),.sl 2 (Zj p t.set)]:=rfl;rw[hsv];simp;intros
 refine Qi (fun i=>[(1,AV.iv (.int .i64 zo)),(2,.iv (.ptr [.sl 1 ((List.range p.zf.length).map fun i=>[.int .u64 (Xx (Zx p i (QI t.ends)):Nat)]),.sl 1 ((List.range p.zf.length).map fun i=>[.int .i64 (QM p i (QI t.ends))]),Xh (JB p (QI t.ends)),.sl 2 (Zj p t.set)])),
   (5,.iv (.int .u64 (pmN (nd p zo) t i:Nat))),(11,.iv (.sl 1 ((List.range p.zf.length).map fun i=>[.int .u64 (Xx (Zx p i (QI t.ends)):Nat)]))),(12,.iv (.int .i64 p.zf.length)),(13,.iv (.int .i64 (i:Nat)))]) (fun _=>[]) p.zf.length (fun _=>True) trivial ?_ ?_
 ·intro _;rw[Qa QkP.eq_1];simp
 ·intro i hi _ ih;have hm:=QlX hp i (QI t.ends);have hbb:=Qbt hp (QI t.ends) hi;have hpi:=hpl i;rw[Qa QkP.eq_1];rw[WQ] at ih;have hat:∀ m,Qso (nd p zo) t m i=if zo<=Qcl p.zb (tr p i).zm (tr p i).zn t.set then m ||| (if 0<=QM p i (QI t.ends) then Qv7 (Xx (Zx p i (QI t.ends))) (2 ^ (QM p i (QI t.ends)).toNat) else Xx (Zx p i (QI t.ends))) else m:=fun m=>rfl
  rw[hat] at ih;have hld:(Zj p t.set)[i]?=some [.int .i64 (Qcl p.zb (tr p i).zm (tr p i).zn t.set),.int .i64 (upS p.zb (tr p i).zm (tr p i).zn t.set)]:=by simp[Zj,hi]
  have hll:(Zj p t.set).length=p.zf.length:=by simp[Zj]
  generalize Qcl p.zb (tr p i).zm (tr p i).zn t.set=lo at *;generalize upS p.zb (tr p i).zm (tr p i).zn t.set=up at *;generalize pmN (nd p zo) t i=m at *
  have hld2:(Zj p t.set)[i]'(by omega)=[.int .i64 lo,.int .i64 up]:=by
   grind
  by_cases h1:zo<=lo
  ·have h1':¬ lo<zo:=by omega
   by_cases h3:0<=QM p i (QI t.ends)
   ·obtain ⟨b,hb⟩:∃ b:Nat,QM p i (QI t.ends)=b:=⟨(QM p i (QI t.ends)).toNat,by omega⟩;have hb12:b<12:=by omega
    have h2b:(2:Nat) ^ b<2 ^ 12:=QMo (by decide) hb12;have q1:=QnQ (Xx (Zx p i (QI t.ends))) (2 ^ b) (by omega) (by omega);rw[<- Qiu (n:=b) (by omega)] at q1;have q2:=QlM m (Qv7 (Xx (Zx p i (QI t.ends))) (2 ^ b)) (by omega) (QrP (by omega));simp[h1,hb] at ih;simp[hi,hll,hld2,h1',hb,q1,q2];grind
   have q2:=QlM m (Xx (Zx p i (QI t.ends))) (by omega) (by omega);simp[h1,h3] at ih;simp[hi,hll,hld2,h1',h3,q2];grind
  ·have h1':lo<zo:=by omega
   simp[h1] at ih;simp[hi,hll,hld2,h1'];grind
theorem Qjv (s k:Nat) (hs:s<2 ^ 64) (hk:k<64):Gd K 209 [.int .u64 s,.int .i64 k] (.bool (s.testBit k)):=by
 refine Qb hK (fk func209 QIx (by kernel_rfl)) (by simp) ?_;have:=Qxh s k hk hs;cases hb:s.testBit k<;>simp[hb] at this<;>simp[this]
theorem Qx7 (s k:Nat) (hs:s<2 ^ 64) (hk:k<64):Gd K 284 [.int .i64 k,.ptr [.int .u64 s]] (.bool (!s.testBit k)):=by
 refine Qb hK (fk func284 QHu (by kernel_rfl)) (by simp) ?_;simp;refine cK (Qjv hK s k hs hk) ?_;simp
theorem QpK (p:Qe) (t:Q7) (zo:Int) (hp:OkP p) (hs:okS p.zb t.set):Gd K 213 [.agg (ZA p t),.int .i64 zo,.int .i64 p.z6] (.bool (UR (nd p zo) t)):=by
 refine Qb hK (fk func213 QIs (by kernel_rfl)) (by simp) ?_;have hl:=hp.deedsLen;have hsv:ZA p t=[.sl 1 ((List.range p.zf.length).map fun i=>[.int .u64 (Xx (Zx p i (QI t.ends)):Nat)]),.sl 1 ((List.range p.zf.length).map fun i=>[.int .i64 (QM p i (QI t.ends))]),Xh (JB p (QI t.ends)),.sl 2 (Zj p t.set)]:=rfl;have hg70:=Qjw hK p t zo hp;have hg65:=Qjy hK p t zo hp hs;rw[hsv] at hg70 hg65 |-
 have xa:∀ n,pmN (nd p zo) t n<2 ^ 12:=fun n=>by
  induction n with
  | zero=>simp[pmN]
  | succ n ih =>
    rw[WQ];have h:=QlX hp n (QI t.ends);unfold Qso;split
    ·refine QMm ih ?_;split
     ·exact QMi Nat.and_le_left h
     exact h
    exact ih
 have hpm:=xa p.zf.length;have hnow:∀ n∈JB p (QI t.ends),n<12:=fun n hn=>by
  have:=ql _ _ _ n hn;have:=Qih p.zc.za p.zc.za.length;omega
 have hbit:∀ n∈JB p (QI t.ends),(pmN (nd p zo) t p.zf.length).testBit n=Zo (nd p zo) n t:=fun n hn=>Qe6 hp hs (by grind);have hnl:(JB p (QI t.ends)).length<=1000:=by
  have h1:=ZI (QI t.ends) hp.zc.za p.zc.za.length (QKJ _) (QKJ _);have h2:=hp.zc.za.cnt p.zc.za.length (QKJ _) (QKJ _);show (cab p.zc.za (QI t.ends) p.zc.za.length).length<=1000;omega
 have hgood:UR (nd p zo) t=(((JB p (QI t.ends)).all fun (k:Nat)=>Zo (nd p zo) k t)&&decide ((Xt (nd p zo) t:Int)<p.z6)):=rfl;have xc:((JB p (QI t.ends)).all fun (k:Nat)=>Zo (nd p zo) k t)=!(((JB p (QI t.ends)).map fun (n:Nat)=>(n:Int)).any fun x=>!(pmN (nd p zo) t p.zf.length).testBit x.toNat):=by
  rw[Bool.eq_iff_iff];simp only[QLk,QLb,List.any_eq_false,QKT];constructor
  ·rintro h x ⟨n,hn,rfl⟩;have h1:=h n hn;rw[<- hbit n hn] at h1;simp[h1]
  intro h n hn;have:=h n ⟨n,hn,rfl⟩;grind
 have hg129:=Qx6 hK ((JB p (QI t.ends)).map fun (n:Nat)=>(n:Int)) 284 [] [.ptr [.int .u64 (pmN (nd p zo) t p.zf.length)]] (fun x=>!(pmN (nd p zo) t p.zf.length).testBit x.toNat) (fun x hx=>by
  obtain ⟨n,hn,rfl⟩:=QKT.1 hx;have:=hnow n hn;simpa using Qx7 hK (pmN (nd p zo) t p.zf.length) n (by omega) (by omega)) (by kernel_rfl) (by simpa using hnl)
 rw[hgood,xc];clear xc hgood;generalize ((JB p (QI t.ends)).map fun (n:Nat)=>(n:Int)).any (fun x=>!(pmN (nd p zo) t p.zf.length).testBit x.toNat)=A at *
 simp;refine cK (by simpa using hg70) ?_;simp;refine cK (by simpa using hg65) ?_;by_cases h1:(Xt (nd p zo) t:Int)<p.z6
 ·simp[h1];refine YQ (by simpa[Function.comp_def] using hg129) (.inr rfl) ?_;simp
 simp[h1]
omit hK
noncomputable def QW (p:Qe):List (List IV):=(ZS p.zc [] p.zc.za).map fun e=>ZU p (QI e)
noncomputable def XV (p:Qe):List (List IV):=(Q3 p.zb [] p.zb.zd).map fun s=>[.sl 2 (Zj p s)]
def prC (p:Qe):List IV:=[Qz p.zc.za,Qu p.zc.zg,.int .i64 p.zc.zh,Zt p.zb.zd,.int .i64 p.zb.zr,.int .i64 p.zb.zu,.int .i64 p.zb.zw,J1 p.zb.zk,.int .i64 p.zb.zh,
 YW p.zf,.int .i64 p.zo,.int .i64 p.z6]
noncomputable def US (p:Qe):List IV:=prC p++[.sl 3 (QW p),.sl 1 (XV p)]
def Qdd (p:Qe) (t:Q7):List IV:=[.agg (ZA p t)]
include hK
theorem Qo9 (p:Qe) (hE:(ZS p.zc [] p.zc.za).length<=1000000) (hS:(Q3 p.zb [] p.zb.zd).length<=1000000):qv prog K 202 [.ptr (US p)] [] ((QK p).map (Qdd p)):=by
 intro s b s' hf;refine Qy (fk func202 QIE (by kernel_rfl)) (by simp) hf.v rfl ?_;unfold QK at hf;have hfile:US p=prC p++[.sl 3 ((ZS p.zc [] p.zc.za).map fun e=>ZU p (QI e)),.sl 1 ((Q3 p.zb [] p.zb.zd).map fun s=>[.sl 2 (Zj p s)])]:=rfl;rw[hfile];generalize ZS p.zc [] p.zc.za=E at *;generalize Q3 p.zb [] p.zb.zd=S at *;obtain ⟨q0,q1,q2,q3,q4,q5,q6,q7,q8,q9,q10,q11,hpr⟩:∃ q0 q1 q2 q3 q4 q5 q6 q7 q8 q9 q10 q11,prC p=[q0,q1,q2,q3,q4,q5,q6,q7,q8,q9,q10,q11]:=⟨_,_,_,_,_,_,_,_,_,_,_,_,rfl⟩;rw[hpr];rw[QMg] at hf;simp only[List.map_map] at hf;simp;intro _
 refine Xd E.length (fun i e o=>∃ si,e=[(0,AV.iv (.ptr [q0,q1,q2,q3,q4,q5,q6,q7,q8,q9,q10,q11,.sl 3 (E.map fun e=>ZU p (QI e)),.sl 1 (S.map fun s=>[.sl 2 (Zj p s)])])),(1,AV.cb 0),(11,.iv (.sl 3 (E.map fun e=>ZU p (QI e)))),(12,.iv (.int .i64 E.length)),(13,.iv (.int .i64 (i:Nat)))]/\o=[(0,.ext si)] /\
  Q9 prog K ((E.drop i).flatMap fun e=>S.map (Qdd p∘fun s=>⟨e,s⟩)) si b s') ?_ ?_ _ _ ⟨s,by simp,by simp,by simpa using hf⟩
 ·rintro e o ⟨si,rfl,rfl,hfd⟩;rw[QLu (QKJ _)] at hfd;cases hfd;rw[Qa QkS.eq_1];simp
 ·rintro i e o hi ⟨si,rfl,rfl,hfd⟩ ih;rw[QLg hi,QLx] at hfd;have hst:∃ s0 s1 s2,ZU p (QI E[i])=[s0,s1,s2]:=⟨_,_,_,rfl⟩;obtain ⟨s0,s1,s2,hst⟩:=hst;rw[Qa QkS.eq_1];simp[hi,hst];intros
  refine Xd S.length (fun j e o=>∃ sj,e=[(0,AV.iv (.ptr [q0,q1,q2,q3,q4,q5,q6,q7,q8,q9,q10,q11,.sl 3 (E.map fun e=>ZU p (QI e)),.sl 1 (S.map fun s=>[.sl 2 (Zj p s)])])),(1,AV.cb 0),(5,.loc 5 0),(11,.iv (.sl 3 (E.map fun e=>ZU p (QI e)))),(12,.iv (.int .i64 E.length)),(13,.iv (.int .i64 (i:Nat))),
    (20,.iv (.sl 1 (S.map fun s=>[.sl 2 (Zj p s)]))),(21,.iv (.int .i64 S.length)),(22,.iv (.int .i64 (j:Nat)))]/\o=[(0,.ext sj),(5,.box [.iv s0,.iv s1,.iv s2])] /\
   Q9 prog K ((S.drop j).map (Qdd p∘fun s=>⟨E[i],s⟩)++(E.drop (i+1)).flatMap fun e=>S.map (Qdd p∘fun s=>⟨e,s⟩)) sj b s') ?_ ?_ _ _ ⟨si,by simp,by simp,by simpa using hfd⟩
  ·rintro e o ⟨sj,rfl,rfl,hfj⟩;rw[QLu (QKJ _)] at hfj;rw[Qa QkT.eq_1];simp;grind
  ·rintro j e o hj ⟨sj,rfl,rfl,hfj⟩ ihj;rw[QLg hj,QKZ,QLp] at hfj;have hitem:(Qdd p∘fun s=>(⟨E[i],s⟩:Q7)) S[j]=[.agg [s0,s1,s2,.sl 2 (Zj p S[j])]]:=by
    simp[Qdd,ZA,hst]
   rw[hitem] at hfj;rw[Qa QkT.eq_1];simp[hj];cases hfj with
   | stop _ _ _ _ hg =>
     refine QR (by simpa using hg) rfl ?_;simp
   | next _ _ _ s3 _ _ hg hr =>
     refine QR (by simpa using hg) rfl ?_;simp
     (repeat' first|omega|with_reducible apply And.intro|intro)
     exact ihj _ _ ⟨s3,by simp,by simp,hr⟩
theorem Qju (p:Qe) (hE:(ZS p.zc [] p.zc.za).length<=1000000) (hS:(Q3 p.zb [] p.zb.zd).length<=1000000) (hT:(QK p).length<=1000000000)
  (g:FuncId) (fs cs:List IV) (B:Q7->Bool) (hg:∀ t∈QK p,Gd K g (fs++[.agg (ZA p t)]++cs) (.bool (B t))) (hc:callee prog g=true) :
  Gd K 210 [.ptr (US p),.clo g fs cs] (.int .i64 (X5 ((QK p).countP B) (QK p).length)):=by
 refine Qb hK (fk func210 QIv (by kernel_rfl)) (by simp) ?_;have hit:=Qo9 hK p hE hS;generalize US p=F at *;generalize QK p=T at *;simp;refine QS (wy:=.fall) (o':=[(5,.box [.iv (.int .i64 (T.countP B:Nat))]),(6,.box [.iv (.int .i64 (T.countP (fun t=>!B t):Nat))])]) rfl (by kernel_rfl) hit ?_ ?_
 ·have:=VI.all (P:=prog) (K:=K) (ps:=[10]) (asn:=QfV) (body:=QkO) (ks:=[3,5,6]) (ids:=[5,6]) (eK:=[(3,.iv (.ptr [.clo g fs cs])),(5,.loc 5 0),(6,.loc 6 0)]) (T.map (Qdd p))
   (fun i=>[(5,.box [.iv (.int .i64 ((T.take i).countP B:Nat))]),(6,.box [.iv (.int .i64 ((T.take i).countP (fun t=>!B t):Nat))])]) fun i x hx=>by
   simp only[QKN,QKK] at hx;obtain ⟨t,ht,rfl⟩:=hx;obtain ⟨xa,hget⟩:=QKG.1 ht;have hgt:=hg t (QKW ht);have hl1:(T.take i).countP B<=1000000000:=QLv QLq (by simp;omega);have hl2:(T.take i).countP (fun t=>!B t)<=1000000000:=QLv QLq (by simp;omega);refine ⟨rfl,?_⟩;rw[QKH xa,QLD,QLD,hget];obtain ⟨v0,v1,v2,v3,hv⟩:∃ v0 v1 v2 v3,ZA p t=[v0,v1,v2,v3]:=⟨_,_,_,_,rfl⟩;rw[hv] at hgt;simp[Qdd,hv,QfV,QkO];refine ⟨hc,cK (by simpa using hgt) ?_⟩;cases hb:B t
   ·simp[hb];omega
   simp[hb];omega
  simpa using this
 have hsum:T.countP B+T.countP (fun t=>!B t)=T.length:=by
  have:=List.length_eq_countP_add_countP B (l:=T);grind
 have htold:X5 (T.countP B:Nat) T.length=if T.countP (fun t=>!B t)=0 then 1 else if T.countP B=0 then 2 else 3:=by
  unfold X5;omega
 rw[htold];clear htold hg hit;generalize T.countP B=a at *;generalize T.countP (fun t=>!B t)=d at *
 by_cases h1:d=0
 ·simp[h1]
 by_cases h2:a=0
 ·simp[h1,h2]
 simp[h1,h2]
omit hK
def Qmv (d:Qv):Qv:=VP d 0
theorem W9 (p:Qv->Bool) (hp:∀ d,p (Qmv d)=p d):∀ (ds:List Qv) (i:Nat),Yn p (ds.map Qmv) i=Yn p ds i
 | [],_=>rfl
 | d::r,i=>by simp only[QKZ,Yn,hp,W9 p hp r]
theorem Qwi (ds:List Qv) (i:Nat):wn (ds.map Qmv) i=wn ds i:=by
 unfold wn;rw[<- QMv,W9 ZJ fun d=>rfl]
theorem Qox (ds:List Qv):pv (ds.map Qmv)=pv ds:=W9 XX (fun _=>rfl) ds 0
theorem QmV (ds:List Qv):VK (ds.map Qmv)=VK ds:=W9 ZJ (fun _=>rfl) ds 0
theorem Qmy (ds:List Qv) (i:Nat):cnt (ds.map Qmv) i=cnt ds i:=by
 unfold cnt;rw[<- QMv,List.map_map];rfl
theorem Qbq (ds:List Qv) (e:Nat->Int):∀ i,cab (ds.map Qmv) e i=cab ds e i
 | 0=>rfl
 | i+1=>by
   have ih:=Qbq ds e i;simp only[cab,QKN,ih,Qwi];cases ds[i]?<;>rfl
theorem qL (ds:List Qv) (k:Nat):JU (ds.map Qmv) k=Qmv (JU ds k):=by
 unfold JU;rw[QmV];simp only[List.getD_eq_getElem?_getD,QKN];cases ds[(VK ds)[k]?.getD 0]?<;>rfl
theorem Qak (ds:List Qv) (ss:List XB) (e:Nat->Int):QN (ds.map Qmv) ss e=QN ds ss e:=by
 unfold QN;congr 1;funext s;simp only[WM,Qbq,QgQ,qL];rfl
section
variable {ds ds':List Qv} (h:ds'.map Qmv=ds.map Qmv)
include h
theorem QlC:ds'.length=ds.length:=by simpa using congrArg List.length h
theorem QeU:pv ds'=pv ds:=by rw[<- Qox ds',h,Qox]
theorem Qbc (i:Nat):cnt ds' i=cnt ds i:=by rw[<- Qmy ds',h,Qmy]
theorem QeV (e:Nat->Int) (i:Nat):cab ds' e i=cab ds e i:=by rw[<- Qbq ds',h,Qbq]
theorem Qiz (ss:List XB) (e:Nat->Int):QN ds' ss e=QN ds ss e:=by rw[<- Qak ds',h,Qak]
theorem Qm7 (p:Qe) (hp:p.zc.za=ds) (c:Qf) (hc:c.za=ds') (e:Nat->Int):ZU { p with zc:=c } e=ZU p e:=by
 have h1:∀ i,Zx { p with zc:=c } i e=Zx p i e:=fun i=>by
  show cab c.za e ((pv c.za).getD i 0)=cab p.zc.za e ((pv p.zc.za).getD i 0);rw[hc,hp,QeU h,QeV h]
 have h2:JB { p with zc:=c } e=JB p e:=by
  show cab c.za e c.za.length=cab p.zc.za e p.zc.za.length;rw[hc,hp,QlC h,QeV h]
 have h3:∀ i,QM { p with zc:=c } i e=QM p i e:=fun i=>by
  unfold QM;rw[h1];rfl
 simp only[ZU,h1,h2,h3]
end
def Qaj:List Qv->List Int->List Qv
 | d::r,x::e=>VP d x::Qaj r e
 | _,_=>[]
theorem Ys:∀ {ds:List Qv} {e:List Int},e.length=ds.length->(Qaj ds e).map Qmv=ds.map Qmv
 | [],[],_=>rfl
 | d::r,x::e,h=>by
   have:=Ys (ds:=r) (e:=e) (by simpa using h);simp only[Qaj,QKZ,this];rfl
theorem Qlo:∀ {ds:List Qv} {e:List Int} (hl:e.length=ds.length) (i:Nat) (h:i<ds.length),(Qaj ds e)[i]?=some (VP ds[i] (e[i]'(by omega)))
 | d::r,x::e,hl,0,_=>rfl
 | d::r,x::e,hl,i+1,h=>by
   have:=Qlo (ds:=r) (e:=e) (by simpa using hl) i (by simpa using h);simpa[Qaj] using this
theorem Zd:∀ {ds:List Qv} {e:List Int},e∈Q6 ds->e.length=ds.length/\∀ i (h:i<ds.length) (h':i<e.length),e[i]∈QaY ds[i]
 | [],e,h=>by simp[Q6] at h;subst h;simp
 | d::r,e,h=>by
   simp only[Q6,QK6,QKT] at h;obtain ⟨x,hx,e',he',rfl⟩:=h;obtain ⟨h1,h2⟩:=Zd he';grind
theorem WI:∀ {ds:List Qv},(∀ d∈ds,d.z2=0\/d.z2=1\/d.z2=2)->Ji ds=(Q6 ds).map (Qaj ds)
 | [],_=>rfl
 | d::r,h=>by
   have ih:=WI (ds:=r) fun d hd=>h d (by simp[hd]);have hd:=h d (by simp);have hself:∀ x,d.z2=x->VP d x=d:=fun x hx=>by subst hx;rfl
   rcases hd with hd | hd | hd
   ·simp[Ji,Q6,QaY,hd,ih,Qaj,hself 0 hd,List.map_map,Function.comp_def]
   ·simp[Ji,Q6,QaY,hd,ih,Qaj,hself 1 hd,List.map_map,Function.comp_def]
   ·simp[Ji,Q6,QaY,hd,ih,Qaj,List.map_map,Function.comp_def]
theorem QhN {d:Qv} {x:Int} (h:x∈QaY d):(x=0\/x=1)/\(d.z2=2\/x=d.z2):=by
 unfold QaY at h;grind
theorem OkD.z2 {ds:List Qv} {n:Nat} (h:OkD ds n) (hn:ds.length<=n):∀ d∈ds,d.z2=0\/d.z2=1\/d.z2=2:=by
 intro d hd;obtain ⟨i,hi,rfl⟩:=QLh hd;have:=h i hi (by omega);rcases this with ⟨_,h2,_⟩ | ⟨_,h2,_⟩ | ⟨_,_,h2,_⟩
 ·simp only[inR] at h2;omega
 ·simp only[inR] at h2;omega
 ·omega
section
variable {c:Qf} (hc:OkC c) {e:List Int} (he:e∈Q6 c.za)
include hc he
theorem Qby:(Qaj c.za e).length=c.za.length:=QlC (Ys (Zd he).1)
theorem Qid (i:Nat) (h:i<c.za.length):∃ x,(Qaj c.za e)[i]?=some (VP c.za[i] x)/\(x=0\/x=1)/\(c.za[i].z2=2\/x=c.za[i].z2)/\QI e i=x:=by
 obtain ⟨h1,h2⟩:=Zd he;have h3:=QhN (h2 i h (by omega));refine ⟨e[i]'(by omega),Qlo h1 i h,h3.1,h3.2,?_⟩;simp[QI,List.getD_eq_getElem?_getD,QKF (show i<e.length by omega)]
theorem Qwe:OkD (Qaj c.za e) (Qaj c.za e).length:=by
 intro i h _;have hlen:=Qby hc he;have hi:i<c.za.length:=by omega
 obtain ⟨x,h1,h2,h3,_⟩:=Qid hc he i hi;rw[QKF h] at h1;injection h1 with h1;rw[h1,Qbc (Ys (Zd he).1)];rcases hc.za i hi hi with ⟨a1,a2,a3⟩ | ⟨a1,a2,a3⟩ | ⟨a1,a2,a3,a4⟩
 ·exact .inl ⟨a1,by simp only[inR,VP];omega,a3⟩
 ·exact .inr (.inl ⟨a1,by simp only[inR,VP];omega,a3⟩)
 exact .inr (.inr ⟨a1,a2,by simp only[VP];omega,a4⟩)
theorem QnX:OkC { c with za:=Qaj c.za e }:=by
 have hlen:=Qby hc he;refine ⟨by simp only[hlen];exact hc.len,hc.slen,hc.zh,Qwe hc he,fun s hs=>?_⟩;have:=hc.zg s hs;unfold ZG at *;simp only[hlen,Qbc (Ys (Zd he).1)];exact this
theorem Qlm:Z2 (Qaj c.za e)=0:=by
 rw[Z2,QMf];intro d hd;obtain ⟨i,hi,rfl⟩:=QLh hd;have hlen:=Qby hc he;obtain ⟨x,h1,h2,_⟩:=Qid hc he i (by omega);rw[QKF hi] at h1;injection h1 with h1;have h3:¬ x=2:=by omega
 rw[h1];simp[VP,h3]
theorem Wz:Q1 (Qaj c.za e) 0=QI e:=by
 funext i;have hlen:=Qby hc he;unfold Q1;rcases QLU i c.za.length with h | h
 ·obtain ⟨x,h1,h2,_,h4⟩:=Qid hc he i h;have h5:¬ (VP c.za[i] x).z2=2:=by show ¬ x=2;omega
  rw[h1,h4];simp only;rw[if_neg h5];rfl
 rw[QLL (by omega)]
 have:=(Zd he).1;simp[QI,List.getD_eq_getElem?_getD,QLL (show e.length<=i by omega)]
theorem Qln:QDE c.za e:=by
 obtain ⟨h1,h2⟩:=Zd he;refine ⟨h1,fun i h h'=>?_⟩;have h3:=QhN (h2 i h h');simp only[inR];omega
theorem Qwf:Xu { c with za:=Qaj c.za e } true=0↔QvH c e:=by
 have h1:=QnX hc he;have h2:Qn { c with za:=Qaj c.za e }=if (QN c.za c.zg (QI e):Int)<=c.zh then [0] else []:=by
  have hw:=Qiz (Ys (Zd he).1) c.zg (QI e);unfold Qn;simp only[Qlm hc he,Wz hc he,Nat.pow_zero];rw[show List.range 1=[0] from rfl];by_cases h:(QN c.za c.zg (QI e):Int)<=c.zh
  ·rw[if_pos h,QLQ (by simpa[Wz hc he,hw] using h)];rfl
  rw[if_neg h,QLR (by simpa[Wz hc he,hw] using h)];rfl
 unfold Xu QvH;rw[if_pos h1,if_pos rfl,h2];have:=Qln hc he;grind
end
theorem UD (c:Qf) (hc:OkC c):QL c=(ZS c [] c.za).map fun e=>{ c with za:=Qaj c.za e }:=by
 unfold QL ZS;rw[WI (hc.za.z2 (QKJ _)),List.map_map,List.filter_map];have e1:((Q6 c.za).map fun x=>[]++x)=Q6 c.za:=by simp
 rw[e1]
 congr 1;refine List.filter_congr fun e he=>?_;simp only[Function.comp_apply];rw[Bool.eq_iff_iff];simpa using Qwf hc he
theorem Qfi (p:Qe) (hc:OkC p.zc):(QL p.zc).map (fun c'=>ZU { p with zc:=c' } (Q1 c'.za 0))=QW p:=by
 unfold QW;rw[UD _ hc,List.map_map];refine QMe fun e he=>?_;have he':e∈Q6 p.zc.za:=by
  simp only[ZS,QK9] at he;simpa using he.1
 simp only[Function.comp_apply];rw[Wz hc he'];exact Qm7 (Ys (Zd he').1) p rfl _ rfl _
def Qa4:List ZC->List Int->List ZC
 | l::r,x::e=>QdJ l x::Qa4 r e
 | l,[]=>l
 | [],_=>[]
theorem QeA (ls:List ZC):Qa4 ls []=ls:=by cases ls<;>rfl
theorem WA:∀ (ls:List ZC) (e:List Int),(Qa4 ls e).length=ls.length
 | [],[]=>rfl
 | [],_::_=>rfl
 | _::_,[]=>rfl
 | l::r,x::e=>by simp[Qa4,WA r e]
theorem Qf7:∀ (ls:List ZC) (e:List Int) (n:Int) (h:e.length<ls.length),Qa4 ls (e++[n])=(Qa4 ls e).set e.length (QdJ ls[e.length] n)
 | l::r,[],n,_=>by simp[Qa4,QeA]
 | l::r,x::e,n,h=>by
   have:=Qf7 r e n (by simpa using h);simp[Qa4,this]
theorem Qdu:∀ (ls:List ZC) (e:List Int) (h:e.length<ls.length),(Qa4 ls e)[e.length]?=some ls[e.length]
 | l::r,[],_=>by simp[QeA]
 | l::r,x::e,h=>by
   have:=Qdu r e (by simpa using h);simpa[Qa4] using this
def Z6 (m:Machine) (s:Qd):Machine:={ m with zd:=Qa4 m.zd s.zy,zu:=s.zx,zw:=s.zx }
def Qff (m:Machine) (first:List Int):Machine:={ m with zd:=Qa4 m.zd first }
theorem Qh3:∀ (ls:List ZC) (e:List Int),Q4 (·.long) (Qa4 ls e)=Q4 (·.long) ls
 | [],[]=>rfl
 | [],_::_=>rfl
 | _::_,[]=>rfl
 | l::r,x::e=>by simp only[Qa4,Q4,Qh3 r e];rfl
theorem QlQ (m:Machine) (s s':Qd) (w mn:Int):num (Z6 m s) s' w mn=num m s' w mn:=by
 unfold num VG;rw[show (Z6 m s).zd=Qa4 m.zd s.zy from rfl,Qh3];rfl
theorem Qie (m:Machine) (s s':Qd):ZT (Z6 m s) m.zk s'=ZT m m.zk s':=by
 unfold ZT;congr 1;funext b;simp only[QdO,QlQ]
theorem WG:∀ (ls:List ZC) (e:List Int),e.length=ls.length->QJ (Qa4 ls e)=[e]
 | [],[],_=>rfl
 | l::r,x::e,h=>by
   have ih:=WG r e (by simpa using h);have h1:(QdJ l x).hi+1-(QdJ l x).lo=1:=by simp only[QdJ];omega
   simp only[Qa4,QJ,ih,h1];simp[acc,QdJ]
theorem QoD {m:Machine} {s:Qd} (h:okS m s) (i:Nat) (hi:i<m.zd.length):(Qa4 m.zd s.zy)[i]?=some (QdJ m.zd[i] (s.zy[i]'(by rw[h.1];exact hi))):=by
 have:∀ (ls:List ZC) (e:List Int) (i:Nat) (h1:e.length=ls.length) (hi:i<ls.length),(Qa4 ls e)[i]?=some (QdJ ls[i] (e[i]'(by omega))):=by
  intro ls;induction ls with
  | cons l r ih =>
    intro e i h1 hi;cases e with
    | nil=>simp at h1
    | cons x e =>
      cases i with
      | zero=>simp[Qa4]
      | succ i=>simpa[Qa4] using ih e i (by simpa using h1) (by simpa using hi)
  | _=>grind
 exact this _ _ i h.1 hi
theorem Qsr {m:Machine} {s:Qd} (h:okS m s):okS (Z6 m s) s:=by
 refine ⟨by simp only[Z6,WA];exact h.1,by simp[Z6,inR],fun i h1 h2=>?_⟩;have hi:i<m.zd.length:=by simpa[Z6,WA] using h1
 have:=QoD h i hi;have h3:(Z6 m s).zd[i]=QdJ m.zd[i] (s.zy[i]'(by rw[h.1];exact hi)):=by
  rw[show (Z6 m s).zd=Qa4 m.zd s.zy from rfl] at h1;rw[QKF h1] at this;injection this
 rw[h3];simp[QdJ,inR]
theorem QaN (l:ZC):Zl l=false↔inR l.long 1 1000/\inR l.lo 1 l.hi/\l.hi<=1000:=by
 unfold Zl;grind
theorem Qe8 {m:Machine} (hm:OkM m) {s:Qd} (h:okS m s):OkM (Z6 m s):=by
 have h2:=h.2.1;have h3:=hm.zx;have h4:=hm.zw;simp only[inR] at h2 h3;refine ⟨by simp only[Z6,WA];exact hm.len,fun l hl=>?_,hm.zr,by simp only[Z6,inR];omega,by simp only[Z6];omega,hm.blen,hm.zk,hm.zh⟩;obtain ⟨i,hi,rfl⟩:=QLh hl;have hi':i<m.zd.length:=by simpa[Z6,WA] using hi
 have h5:=QoD h i hi';have h6:(Z6 m s).zd[i]=QdJ m.zd[i] (s.zy[i]'(by grind)):=by
  rw[show (Z6 m s).zd=Qa4 m.zd s.zy from rfl] at hi;rw[QKF hi] at h5;injection h5
 have h7:=h.2.2 i hi' (by grind);have h8:=hm.zd _ (QKL hi');rw[h6];rw[QaN] at h8 |-;simp only[inR,QdJ] at h7 h8 |-;omega
theorem QdE {m:Machine} {s:Qd} (h:okS m s):Q3 (Z6 m s) [] (Z6 m s).zd=if (ZT m m.zk s:Int)<=m.zh then [s] else []:=by
 have h1:QX (Z6 m s) [] (Z6 m s).zd=[s]:=by
  unfold QX;rw[show (Z6 m s).zd=Qa4 m.zd s.zy from rfl,WG _ _ h.1];have:((Z6 m s).zw+1-(Z6 m s).zu).toNat=1:=by simp only[Z6];omega
  rw[this];simp[Z6]
 unfold Q3;rw[h1];have h2:W5 (Z6 m s) s↔(ZT m m.zk s:Int)<=m.zh:=by
  unfold W5;rw[show (Z6 m s).zk=m.zk from rfl,Qie];exact ⟨fun h=>h.2,fun h'=>⟨Qsr h,h'⟩⟩
 grind
theorem Qwr {m:Machine} (hm:OkM m) {s:Qd} (h:okS m s):tE (Z6 m s) true=0↔W5 m s:=by
 unfold tE;rw[if_pos (Qe8 hm h),if_pos rfl,QdE h];unfold W5;grind
theorem QrR {α β:Type} (f:α->β) (pc:Nat->List α) (n:Nat):(acc pc n).map f=acc (fun i=>(pc i).map f) n:=by simp[acc,QMg]
theorem Qh2 {α:Type} {pc pc':Nat->List α} {n:Nat} (h:∀ i<n,pc i=pc' i):acc pc n=acc pc' n:=by
 induction n with
 | zero=>rfl
 | succ n ih=>rw[Qbw,Qbw,ih fun i hi=>h i (by omega),h n (by omega)]
theorem Qel {m:Machine} (hm:OkM m):∀ (r k:Nat) (first:List Int),k+r=m.zd.length->first.length=k->(∀ i (h:i<m.zd.length) (h':i<first.length),inR first[i] m.zd[i].lo m.zd[i].hi) ->
  U0 r (Qff m first) k=(Q3 m first (m.zd.drop k)).map (Z6 m)
 | 0,k,first,hk,hf,hr=>by
   have hd:m.zd.drop k=[]:=QLu (by omega);have h1:Q3 m first (m.zd.drop k)=acc (fun i=>if W5 m ⟨first,m.zu+(i:Nat)⟩ then [⟨first,m.zu+(i:Nat)⟩] else []) (m.zw+1-m.zu).toNat:=by
    rw[hd];simp only[Q3,QX,QJ,QLx,List.flatMap_nil,QLY,acc];generalize (m.zw+1-m.zu).toNat=n;generalize List.range n=L;induction L with
    | _=>grind
   rw[h1,QrR];simp only[U0];refine Qh2 fun i hi=>?_;have hleak:inR (m.zu+(i:Nat)) m.zu m.zw:=by
    have hi':i<(m.zw+1-m.zu).toNat:=hi;simp only[inR];omega
   have hok:okS m ⟨first,m.zu+(i:Nat)⟩:=⟨by simp only;omega,hleak,hr⟩;have hmach:XY (Qff m first) ((Qff m first).zu+(i:Nat))=Z6 m ⟨first,m.zu+(i:Nat)⟩:=rfl;unfold QaC;rw[hmach];have:=Qwr hm hok;grind
 | r+1,k,first,hk,hf,hr=>by
   have xa:k<m.zd.length:=by omega
   have hget:(Qff m first).zd[k]?=some m.zd[k]:=by
    have:=Qdu m.zd first (by omega)
    simp only[hf] at this;exact this
   rw[QLg xa,QdF,QrR];simp only[U0,hget];refine Qh2 fun i hi=>?_;have hfix:Y9 (Qff m first) k m.zd[k] (m.zd[k].lo+(i:Nat))=Qff m (first++[m.zd[k].lo+(i:Nat)]):=by
    unfold Y9 Qff;rw[Qf7 m.zd first _ (by omega)];simp only[hf]
   rw[hfix];refine Qel hm r (k+1) (first++[m.zd[k].lo+(i:Nat)]) (by omega) (by simp[hf]) fun j h h'=>?_;rcases QLU j first.length with hj | hj
   ·grind
   have hjk:j=k:=by simp at h';omega
   subst hjk;rw[List.getElem_append_right hj];simp only[hf,QL7,QLF,inR];omega
theorem Qp4 {m:Machine} (hm:OkM m):U0 m.zd.length m 0=(Q3 m [] m.zd).map (Z6 m):=by
 have:=Qel hm m.zd.length 0 [] (by omega) rfl (by simp);have e:Qff m []=m:=by unfold Qff;rw[QeA]
 grind
theorem Qng {m:Machine} (hm:OkM m) {s:Qd} (h:W5 m s) {w mn:Int} (ha:qr w mn 0=true):JR (Z6 m s) w mn=(Qcl m w mn s,upS m w mn s):=by
 unfold JR tL;rw[ha,if_pos ⟨Qe8 hm h.1,rfl⟩,QdE h.1,if_pos h.2];simp only[QKZ,QL8,span,List.foldl_nil,Qcl,upS,QlQ]
theorem Qwo {m:Machine} (hm:OkM m) (hs:sets m m.zd.length<=1000000):QDj m:=by
 have hl:∀ l∈m.zd,1<=l.lo/\l.lo<=l.hi/\l.hi<=1000:=fun l hl=>by
  have:=(QaN l).1 (hm.zd l hl);simp only[inR] at this;omega
 exact ⟨hm.len,hm.blen,hm.zx,hm.zw,fun l h=>by have:=hl l h;simp only[YY];omega,fun l h=>by grind,hs⟩
@[reducible] def JH (p:Qe) (SS LL:List (List IV)):Qm :=
 [(0,.box [.loc 1 0]),(1,.box ((prC p).map AV.iv++[.yl 2 SS.length,.yl 3 LL.length])),(2,.arr 281 3 (emb SS) 0),(3,.arr 26 1 (emb LL) 0)]
def QFT (pe:List (Nat × Nat × Nat)) (o1:Qm):Env->Qm->Prop:=Qic [Qdt.tmp 4] [0,1,2,3] pe (.iv (.bool true)) o1
theorem Qqq (p:Qe) (SS LL:List (List IV)) {s:Nat} {e:Env} {o:Qm} (h1:Ev.look e 4=.iv (.bool true)) (h2:Ev.look e s=.loc 0 0) (h3:∀ q∈JH p SS LL,Qc o q.1=some q.2):QFT [(s,0,0)] (JH p SS LL) e o:=by
 refine ⟨⟨.iv (.bool true),?_,rfl⟩,fun q hq=>?_,fun q hq=>?_⟩
 ·simp[Qvz,Qsl,h1]
 ·have:=h3 q hq;simp only[QKU,QK1,or_false] at hq;rcases hq with rfl | rfl | rfl | rfl
  ·exact this
  ·refine this.trans ?_;simp[rnO,rnL,rn,prC,nth]
  ·rw[Ya];exact this
  rw[Ya];exact this
 grind
theorem YP (p:Qe) (SS LL:List (List IV)):∀ q∈JH p SS LL,q.1<4/\XR q.2=true/\clO ((JH p SS LL).map (·.1)) q.2=true:=by
 intro q hq;simp only[QKU,QK1,or_false] at hq;rcases hq with rfl | rfl | rfl | rfl
 ·exact ⟨by omega,rfl,by simp[clO,clAL,clA]⟩
 ·exact ⟨by omega,rfl,by simp[clO,clAL,clA,prC]⟩
 ·exact ⟨by omega,rfl,Vw _ _ _ _ _⟩
 ·exact ⟨by omega,rfl,Vw _ _ _ _ _⟩
include hK
omit hK in
theorem Qus:Zv prog 277 QDZ [1]:=⟨_,func277,by kernel_rfl⟩
omit hK in
theorem Qur:Zv prog 280 QDY [2]:=⟨_,func280,by kernel_rfl⟩
theorem QsQ (p:Qe) (c:Qf) (s0 s1 s2:IV) (SS LL:List (List IV)) (hn:SS.length<=1000000) (hg:Gd K 278 [chV c,YW p.zf] (.agg [s0,s1,s2])) :
  Gh K 277 [.iv (chV c),.loc 0 0,.iv (.ptr (prC p))] (JH p SS LL) [0] (.iv (.bool true)) (JH p (SS++[[s0,s1,s2]]) LL):=by
 refine Zp [0,1,2,3] [0] [1] [(1,0,0)] Qus (by simp[QDZ]) (by simp) ?_ ?_ ?_ ?_
 ·exact YP p _ _
 ·simp[clA]
 ·simp[nth,Qc];grind
 ·show WpF _ _ (FnF (QFT [(1,0,0)] (JH p (SS++[[s0,s1,s2]]) LL))) _ _ _;simp[prC];refine cK (by simpa using hg) ?_;simp[prC,-List.map_map,Qt,QO,QD,Qj];refine ⟨by omega,Qqq p _ _ rfl rfl fun q hq=>?_⟩;simp only[QKU,QK1,or_false] at hq;rcases hq with rfl | rfl | rfl | rfl<;>simp[Qc,prC]
def QBd (p:Qe) (lo up:Nat->Int):List IV:=[.sl 2 ((List.range p.zf.length).map fun i=>[.int .i64 (lo i),.int .i64 (up i)])]
theorem QsO (p:Qe) (m:Machine) (hl:m.zd.length<=1000) (hb:m.zk.length<=1000) (ht:p.zf.length<=1000) (lo up:Nat->Int) (hr:∀ i,i<p.zf.length->JR m (tr p i).zm (tr p i).zn=(lo i,up i)) (SS LL:List (List IV)) (hn:LL.length<=1000000) :
  Gh K 280 [.iv (maV m),.iv (.ptr (prC p)),.loc 0 0] (JH p SS LL) [0] (.iv (.bool true)) (JH p SS (LL++[QBd p lo up])):=by
 refine Zp [0,1,2,3] [0] [2] [(2,0,0)] Qur (by simp[QDY]) (by simp) ?_ ?_ ?_ ?_
 ·exact YP p _ _
 ·simp[clA]
 ·simp[nth,Qc];grind
 ·show WpF _ _ (FnF (QFT [(2,0,0)] (JH p SS (LL++[QBd p lo up])))) _ _ _;generalize hG:JH p SS (LL++[QBd p lo up])=G;simp[prC];intro _
  refine Qi (fun i=>[(2,AV.loc 0 0),(3,.iv (.ptr [Zt m.zd,.int .i64 m.zr,.int .i64 m.zu,.int .i64 m.zw,J1 m.zk,.int .i64 m.zh])),(5,.yl 5 i),(11,.iv (YW p.zf)),(12,.iv (.int .i64 p.zf.length)),(13,.iv (.int .i64 (i:Nat)))])
   (fun i=>[(0,.box [.loc 1 0]),(1,.box ((prC p).map AV.iv++[.yl 2 SS.length,.yl 3 LL.length])),(2,.arr 281 3 (emb SS) 0),(3,.arr 26 1 (emb LL) 0),(5,.arr 28 2 (emb ((List.range i).map fun i=>[.int .i64 (lo i),.int .i64 (up i)])) 0)]) p.zf.length (fun _=>True) trivial ?_ ?_
  ·intro _;rw[Qa Qkt.eq_1];simp[prC,-List.map_map,Qt,QO,QD,Qj,QKM];rw[<- hG];refine ⟨by omega,Qqq p _ _ rfl rfl fun q hq=>?_⟩;simp only[QKU,QK1,or_false] at hq;rcases hq with rfl | rfl | rfl | rfl<;>simp[Qc,prC,QBd]
  ·intro i hi _ ih;have hg:=QpV hK m (tr p i).zm (tr p i).zn hl hb;rw[hr i hi] at hg;have htr:=Qn8 hi;rw[Qa Qkt.eq_1];rw[QLs,QK3] at ih;simp at ih;simp[hi,htr,-List.map_map,Qt,QO,QD,Qj];refine cK (by simpa using hg) ?_;have hsc:scrL [0,1,2,3,5] ((prC p).map AV.iv++[.yl 2 SS.length,.yl 3 LL.length])=(prC p).map AV.iv++[.yl 2 SS.length,.yl 3 LL.length]:=by simp[prC,scrL,scr]
   simp[hsc,-List.map_map,Qt,QO,QD,Qj];grind
omit hK in
theorem QwX {p:Qe} (hp:OkP p) {c:Qf} (hc:c∈QL p.zc):OkP { p with zc:=c }/\Z2 c.za=0:=by
 rw[UD _ hp.zc] at hc;obtain ⟨e,he,rfl⟩:=QKT.1 hc;have he':e∈Q6 p.zc.za:=by
  simp only[ZS,QK9] at he;simpa using he.1
 have hcore:=Ys (Zd he').1;refine ⟨⟨QnX hp.zc he',hp.zb,hp.zo,hp.z6,?_,fun i h h'=>?_⟩,Qlm hp.zc he'⟩
 ·simp only[QeU hcore];exact hp.many
 ·simp only[QeU hcore] at h;have:=hp.zf i h h';simp only[QeU hcore,Qbc hcore];exact this
theorem QgM (p:Qe) (hp:OkP p):∀ (L:List Qf) (SS LL:List (List IV)),(∀ c∈L,c∈QL p.zc)->SS.length+L.length<=1000000 ->
  XZ prog K 277 [] [.loc 0 0,.iv (.ptr (prC p))] [0] (L.map UP) (JH p SS LL) true (JH p (SS++L.map fun c'=>ZU { p with zc:=c' } (Q1 c'.za 0)) LL)
 | [],SS,LL,_,_=>by simpa using XZ.nil _
 | c::L,SS,LL,h,hn=>by
   have hc:=QwX hp (h c (by simp));have hg:=Qx9 hK { p with zc:=c } hc.1 hc.2;have ih:=QgM p hp L (SS++[ZU { p with zc:=c } (Q1 c.za 0)]) LL (fun c' hc'=>h c' (by simp[hc'])) (by grind);refine .next _ _ _ _ _ _ (QsQ hK p c _ _ _ SS LL (by simp at hn;omega) hg) (fun q hq=>(YP p _ _ q hq).2.1) ?_;simpa[ZU] using ih
theorem QgL (p:Qe) (hp:OkP p) (SS:List (List IV)):∀ (L:List Qd) (LL:List (List IV)),(∀ s∈L,W5 p.zb s)->LL.length+L.length<=1000000 ->
  XZ prog K 280 [] [.iv (.ptr (prC p)),.loc 0 0] [0] ((L.map (Z6 p.zb)).map Qhn) (JH p SS LL) true (JH p SS (LL++L.map fun s=>[.sl 2 (Zj p s)]))
 | [],LL,_,_=>by simpa using XZ.nil _
 | s::L,LL,h,hn=>by
   have hs:=h s (by simp);have hm:=Qe8 hp.zb hs.1;have ih:=QgL p hp SS L (LL++[[.sl 2 (Zj p s)]]) (fun c' hc'=>h c' (by simp[hc'])) (by grind);have htl:=hp.trialsLen;have h1:=hm.len;have h2:=hm.blen
   have hg:=QsO hK p (Z6 p.zb s) (by omega) (by omega) (by omega) (fun i=>Qcl p.zb (tr p i).zm (tr p i).zn s) (fun i=>upS p.zb (tr p i).zm (tr p i).zn s) (fun i hi=>by
    have ht:=hp.trial hi;refine Qng hp.zb hs ?_;simp only[qr,inR];have a1:=ht.1;have a2:=ht.2.1;simp only[inR] at a1 a2;simp;omega) SS LL (by simp at hn;omega)
   refine .next _ _ _ _ _ _ hg (fun q hq=>(YP p _ _ q hq).2.1) ?_;simpa[QBd,Zj] using ih
theorem QsR (p:Qe) (hp:OkP p):Gh K 276 [.iv (chV p.zc),.clo 277 [] [.loc 0 0,.iv (.ptr (prC p))]] (JH p [] []) [0] (.iv (.bool true)) (JH p (QW p) []):=by
 have hl:=hp.deedsLen;have hs:=hp.zc.slen;have hit:=Qjf hK (Z2 p.zc.za) p.zc rfl (by omega) (by omega)
 have hr:=QgM hK p hp (QL p.zc) [] [] (fun c hc=>hc) (by
  rw[UD _ hp.zc,QKX];have:=QtB hp.zc;simp;omega)
 rw[QLm,Qfi p hp.zc] at hr
 have:=Vn hit (by kernel_rfl) (by simp[clAL]) (by simp[clAL,clA]) (fun i hi=>by
  simp at hi;subst hi;exact ⟨_,rfl⟩) (fun q hq=>(YP p _ _ q hq).2.1) hr
 simpa using this
theorem QsP (p:Qe) (hp:OkP p) (hs:sets p.zb p.zb.zd.length<=1000000) (SS:List (List IV)):Gh K 279 [.iv (maV p.zb),.iv (.int .i64 0),.clo 280 [] [.iv (.ptr (prC p)),.loc 0 0]] (JH p SS []) [0] (.iv (.bool true)) (JH p SS (XV p)):=by
 have hit:=Qo7 hK p.zb.zd.length p.zb 0 (by omega) (Qwo hp.zb hs);rw[Qp4 hp.zb] at hit
 have hr:=QgL hK p hp SS (Q3 p.zb [] p.zb.zd) [] (fun s h=>by
  simp only[Q3,QK9,decide_eq_true_eq] at h;exact h.2) (by
  have:=Qlw hp.zb;simp;omega)
 rw[QLm] at hr
 have:=Vn hit (by kernel_rfl) (by simp[clAL]) (by simp[clAL,clA]) (fun i hi=>by
  simp at hi;subst hi;exact ⟨_,rfl⟩) (fun q hq=>(YP p _ _ q hq).2.1) hr
 simpa[XV] using this
omit hK in
theorem Qmi (p:Qe) (SS LL SS' LL':List (List IV)) (args0:List AV) (ha:args0.all (clA [0,1,2,3])=true) (o:Qm) (h7:Qc o 7=some (.box [.loc 17 0])) (h17:Qc o 17=some (.box ((prC p).map AV.iv++[.yl 18012 SS.length,.yl 18013 LL.length])))
  (h12:Qc o 18012=some (.arr 281 3 (emb SS) 0)) (h13:Qc o 18013=some (.arr 26 1 (emb LL) 0)):HOk [7,17,18012,18013] args0 o (JH p SS LL) (JH p SS' LL'):=by
 refine ⟨by decide,ha,fun q hq=>?_,fun i hi h=>?_,fun q hq=>⟨(YP p _ _ q hq).1,(YP p _ _ q hq).2.1⟩⟩
 ·have h1:=YP p _ _ q hq;refine ⟨h1.1,?_,h1.2.2,h1.2.1⟩;simp only[QKU,QK1,or_false] at hq;rcases hq with rfl | rfl | rfl | rfl
  ·exact h7
  ·refine h17.trans ?_;simp[rnO,rnL,rn,prC,nth]
  ·rw[Ya];exact h12
  rw[Ya];exact h13
 ·simp at hi;have:i=0\/i=1\/i=2\/i=3:=by omega
  rcases this with rfl | rfl | rfl | rfl<;>simp[Qc] at h
theorem Wn (p:Qe) (is:Bool) (hf:QJT p):Gd K 198 [prV p,.bool is] (.xd [if kE p is=0 then .ptr (US p) else .nilp,.int .i64 (kE p is)]):=by
 refine Qb hK (fk func198 QIH (by kernel_rfl)) (by simp) ?_;simp;refine cK (by simpa using QvK hK p hf.small) ?_;by_cases hp:OkP p
 ·cases is
  ·simp[hp,kE]
  have hg1:=QsR hK p hp;have hg2:=QsP hK p hp (hf.sets hp) (QW p);simp[hp];refine QH hg1 ?_ ?_ ?_
  ·simp[rn,rnL,nth,prC]
  ·exact Qmi p [] [] _ _ _ (by simp[clA,clAL]) _ (by simp[Qc]) (by simp[Qc,prC]) (by simp[Qc,emb]) (by simp[Qc,emb])
  have hrn:rnL (nth [7,17,18012,18013]) ((prC p).map AV.iv++[.yl 2 (QW p).length,.yl 3 0])=(prC p).map AV.iv++[.yl 18012 (QW p).length,.yl 18013 0]:=by simp[rnL,rn,prC,nth]
  simp[hrn];refine QH hg2 ?_ ?_ ?_
  ·simp[rn,rnL,nth,prC]
  ·exact Qmi p _ [] _ _ _ (by simp[clA,clAL]) _ (by simp[Qc]) (by simp[Qc,prC]) (by simp[Qc,emb]) (by simp[Qc,emb])
  have hrn2:rnL (nth [7,17,18012,18013]) ((prC p).map AV.iv++[.yl 2 (QW p).length,.yl 3 (XV p).length])=(prC p).map AV.iv++[.yl 18012 (QW p).length,.yl 18013 (XV p).length]:=by simp[rnL,rn,prC,nth]
  have hE1:QK p=[]↔QW p=[]\/XV p=[]:=by
   unfold QK QW XV;rw[List.flatMap_eq_nil_iff];simp only[List.map_eq_nil_iff];constructor
   ·intro h;cases hE:ZS p.zc [] p.zc.za with
    | nil=>exact .inl rfl
    | cons a r=>exact .inr (h a (by rw[hE];simp))
   grind
  have hk:kE p true=if QW p=[]\/XV p=[] then 3 else 0:=by
   unfold kE;grind
  have hfile:US p=prC p++[.sl 3 (QW p),.sl 1 (XV p)]:=rfl;rw[hk,hfile];generalize QW p=SS at *;generalize XV p=LL at *;simp[hrn2];cases SS with
  | nil=>simp[prC]
  | cons a r =>
    cases LL with
    | nil=>simp[prC]
    | cons a2 r2 =>
      simp[prC];omega
 simp[hp,kE]
omit hK
theorem Yy {p:Qe} {t:Q7} (h:t∈QK p):okS p.zb t.set:=(QoZ h).set
theorem QbK (p:Qe):(QW p).length=(ZS p.zc [] p.zc.za).length:=by simp[QW]
theorem Qcp (p:Qe):(XV p).length=(Q3 p.zb [] p.zb.zd).length:=by simp[XV]
theorem Qcs (p:Qe):(QK p).length=(QW p).length*(XV p).length:=by
 rw[QbK,Qcp];unfold QK;generalize ZS p.zc [] p.zc.za=E;generalize Q3 p.zb [] p.zb.zd=S;induction E with
 | _=>grind
theorem Qo1 {p:Qe} {is:Bool} (he:¬ kE p is=0):kL p is=[]:=by
 unfold kL kE at *
 grind
structure Few (p:Qe):Prop where
 fine:QJT p
 ends:OkP p->(ZS p.zc [] p.zc.za).length<=1000000
 sets:OkP p->(Q3 p.zb [] p.zb.zd).length<=1000000
 all:OkP p->(QK p).length<=100000
include hK
theorem Qjx (p:Qe) (is:Bool) (hf:Few p) (g:FuncId) (fs cs:List IV) (B:Q7->Bool) (hg:kE p is=0->∀ t∈QK p,Gd K g (fs++[.agg (ZA p t)]++cs) (.bool (B t))) (hc:callee prog g=true) :
  Gd K 204 [prV p,.bool is,.clo g fs cs] (.xd [.int .i64 (if kE p is=0 then X5 ((kL p is).countP B) (kL p is).length else 0),.int .i64 (kE p is)]):=by
 refine Qb hK (fk func204 QIC (by kernel_rfl)) (by simp) ?_;have hg63:=Wn hK p is hf.fine;simp;refine cK (by simpa using hg63) ?_;by_cases he:kE p is=0
 ·obtain ⟨hp,_,hk,_⟩:=JX he;have hg75:=Qju hK p (hf.ends hp) (hf.sets hp) (by have:=hf.all hp;omega) g fs cs B (hg he) hc;rw[hk];generalize US p=F at *;simp[he];refine cK (by simpa using hg75) ?_;simp
 ·simp[he]
theorem QyH (p:Qe) (t:Q7) (hp:OkP p) (hs:okS p.zb t.set):Gd K 205 [.agg (ZA p t),.ptr (prC p)] (.bool (decide (p.z6<=(Xt p t:Int)))):=by
 refine Qb hK (fk func205 QIB (by kernel_rfl)) (by simp) ?_;have hg:=Qjy hK p t p.zo hp hs;obtain ⟨v0,v1,v2,v3,hv⟩:∃ v0 v1 v2 v3,ZA p t=[v0,v1,v2,v3]:=⟨_,_,_,_,rfl⟩;rw[hv] at hg |-;simp[prC];refine cK (by simpa using hg) ?_;have hnd:nd p p.zo=p:=rfl;simp[hnd]
theorem QyD (p:Qe) (t:Q7) (hp:OkP p) (hs:okS p.zb t.set):Gd K 212 [.agg (ZA p t),.ptr (prC p)] (.bool (UR p t)):=by
 refine Qb hK (fk func212 QIt (by kernel_rfl)) (by simp) ?_;have hg:=QpK hK p t p.zo hp hs;obtain ⟨v0,v1,v2,v3,hv⟩:∃ v0 v1 v2 v3,ZA p t=[v0,v1,v2,v3]:=⟨_,_,_,_,rfl⟩;rw[hv] at hg |-;simp[prC];refine cK (by simpa using hg) ?_;have hnd:nd p p.zo=p:=rfl;simp[hnd]
theorem QyF (p:Qe) (t:Q7) (k:Nat) (hk:k<64) (hp:OkP p) (hs:okS p.zb t.set):Gd K 207 [.agg (ZA p t),.ptr (prC p),.ptr [.int .i64 k]] (.bool (Zo p k t)):=by
 refine Qb hK (fk func207 QIz (by kernel_rfl)) (by simp) ?_;have hg:=Qjw hK p t p.zo hp;have hb:=Qe6 hp hs (zo:=p.zo) hk;have xa:∀ n,pmN (nd p p.zo) t n<2 ^ 64:=fun n=>QlI hp t n;have hg2:=Qjv hK (pmN (nd p p.zo) t p.zf.length) k (xa _) hk;have hnd:nd p p.zo=p:=rfl;rw[hb,hnd] at hg2;rw[hnd] at hg;obtain ⟨v0,v1,v2,v3,hv⟩:∃ v0 v1 v2 v3,ZA p t=[v0,v1,v2,v3]:=⟨_,_,_,_,rfl⟩;rw[hv] at hg |-;simp[prC];refine cK (by simpa using hg) ?_;simp;refine cK (by simpa using hg2) ?_;simp
theorem Qzk (p:Qe) (hf:Few p):Gd K 118 [prV p] (.xd [.int .i64 (rCond p),.int .i64 (kE p true)]):=by
 refine Qb hK (fk func118 QJF (by kernel_rfl)) (by simp) ?_
 have hg:=Qjx hK p true hf 205 [] [.ptr (prC p)] (fun t=>decide (p.z6<=(Xt p t:Int))) (fun he t ht=>by
  have hp:=(JX he).1;simpa using QyH hK p t hp (Yy ht)) (by kernel_rfl)
 simp;refine cK (by simpa[prC] using hg) ?_;simp[rCond]
theorem Qzh (p:Qe) (hf:Few p):Gd K 124 [prV p] (.xd [.int .i64 (rGood p),.int .i64 (kE p true)]):=by
 refine Qb hK (fk func124 QJC (by kernel_rfl)) (by simp) ?_
 have hg:=Qjx hK p true hf 212 [] [.ptr (prC p)] (UR p) (fun he t ht=>by
  have hp:=(JX he).1;simpa using QyD hK p t hp (Yy ht)) (by kernel_rfl)
 simp;refine cK (by simpa[prC] using hg) ?_;simp[rGood]
theorem Qzf (p:Qe) (hf:Few p):Gd K 128 [prV p] (.xd [.int .i64 (if kE p true=0 then (JA p.zb 0 p.zo).1 else 0),.int .i64 (if kE p true=0 then (JA p.zb 0 p.zo).2 else kE p true)]):=by
 refine Qb hK (fk func128 QJA (by kernel_rfl)) (by simp) ?_;have hg:=Wn hK p true hf.fine;have hg2:=QyA hK p.zb 0 p.zo hf.fine.small.zd hf.fine.small.zk;generalize US p=F at *;simp;refine cK (by simpa using hg) ?_;by_cases he:kE p true=0
 ·simp[he];refine cK (by simpa using hg2) ?_;simp
 simp[he]
omit hK
theorem Qdi (l:List Int) (n0:Int) (hne:l≠[]) (h:∀ x∈l,x<=n0):l.foldl min n0=(span l).1:=by
 cases l with
 | cons a r =>
   have:=h a (by simp);show r.foldl min (min n0 a)=r.foldl min a;grind
 | _=>grind
theorem Qdj (l:List Int) (n0:Int) (hne:l≠[]) (h:∀ x∈l,n0<=x):l.foldl max n0=(span l).2:=by
 cases l with
 | cons a r =>
   have:=h a (by simp);show r.foldl max (max n0 a)=r.foldl max a;grind
 | _=>grind
theorem UI {α β:Type} (f:β->α->β) (b:β) (l:List α) (i:Nat) (h:i<l.length):(l.take (i+1)).foldl f b=f ((l.take i).foldl f b) l[i]:=by
 rw[QKH h,QL3];rfl
include hK
theorem Qzj (p:Qe) (link:Int) (hf:Few p):Gd K 120 [prV p,.int .i64 link] (.xd [.int .i64 (rProved p link),.int .i64 (kE p (qN p link))]):=by
 refine Qb hK (fk func120 QJE (by kernel_rfl)) (by simp) ?_;have hd:=hf.fine.small.za;have hsl:(YG p.zc.za).length=(VK p.zc.za).length:=by
  rw[<- Yd];simp[YG,Xe]
 have hwl:(VK p.zc.za).length<=p.zc.za.length:=W8 ZJ p.zc.za 0
 have hg:=Qjx hK p (qN p link) hf 207 [] [.ptr (prC p),.ptr [.int .i64 link]] (Zo p link) (fun he t ht=>by
  obtain ⟨hp,his,_⟩:=JX he;have his:=of_decide_eq_true his;simp only[inR] at his;have:=hp.deedsLen;have h1:link=((link.toNat:Nat):Int):=by omega
  rw[h1];simpa using QyF hK p t link.toNat (by omega) hp (Yy ht)) (by kernel_rfl)
 have hg67:=JG hK link 0 ((VK p.zc.za).length-1);simp;refine cK (by simpa using QyG hK p.zc hd) ?_;have hsl2:=hsl;generalize YG p.zc.za=S at *;simp[hsl]
 (repeat' first|omega|with_reducible apply And.intro|intro)
 refine cK (by simpa using hg67) ?_;simp;refine cK (by simpa[prC,qN] using hg) ?_;simp[rProved,qN]
theorem Qzl (p:Qe) (hf:Few p):Gd K 115 [prV p] (.xd [.agg [.int .i64 (rFail p).1,.int .i64 (rFail p).2],.int .i64 (kE p true)]):=by
 refine Qb hK (fk func115 QJH (by kernel_rfl)) (by simp) ?_;have hg:=Wn hK p true hf.fine;have htl:=hf.fine.small.zf;simp;refine cK (by simpa using hg) ?_;by_cases he:kE p true=0;rotate_left
 ·have hk:kL p true=[]:=Qo1 he;simp[he,rFail,hk,span]
 obtain ⟨hp,_,hk,hne⟩:=JX he;have hit:=Qo9 hK p (hf.ends hp) (hf.sets hp);have hset:∀ t∈QK p,okS p.zb t.set:=fun t ht=>Yy ht;have hg65:∀ t∈QK p,Gd K 203 [.agg (ZA p t),.int .i64 p.zo] (.int .i64 (Xt p t:Nat)):=fun t ht=>Qjy hK p t p.zo hp (hset t ht)
 have hmin:=Qdi ((QK p).map fun t=>(Xt p t:Int)) p.zf.length (by simpa using hne) (fun x hx=>by
  obtain ⟨t,_,rfl⟩:=QKT.1 hx;have:=Qml p t;omega)
 have hmax:=Qdj ((QK p).map fun t=>(Xt p t:Int)) 0 (by simpa using hne) (fun x hx=>by
  grind)
 have hr:rFail p=span ((QK p).map fun t=>(Xt p t:Int)):=by unfold rFail;rw[hk]
 rw[hr,<- hmin,<- hmax];generalize US p=F at *;generalize QK p=T at *;simp[he];intro _;refine QS (wy:=.fall) (o':=[(2,.box [.iv (.int .i64 0),.iv (.int .i64 0)]),(6,.box [.iv (.int .i64 ((T.map fun t=>(Xt p t:Int)).foldl min p.zf.length)),.iv (.int .i64 ((T.map fun t=>(Xt p t:Int)).foldl max 0))])]) rfl (by kernel_rfl) hit ?_ ?_
 ·have:=VI.all (P:=prog) (K:=K) (ps:=[24]) (asn:=Qf0) (body:=Qlb) (ks:=[1,2,6]) (ids:=[2,6]) (eK:=[(1,.iv (.ptr (prC p))),(2,.loc 2 0),(6,.loc 6 0)]) (T.map (Qdd p))
   (fun i=>[(2,.box [.iv (.int .i64 0),.iv (.int .i64 0)]),(6,.box [.iv (.int .i64 (((T.map fun t=>(Xt p t:Int)).take i).foldl min p.zf.length)),.iv (.int .i64 (((T.map fun t=>(Xt p t:Int)).take i).foldl max 0))])]) fun i x hx=>by
   simp only[QKN,QKK] at hx;obtain ⟨t,ht,rfl⟩:=hx;obtain ⟨xa,hget⟩:=QKG.1 ht;have hgt:=hg65 t (QKW ht);refine ⟨rfl,?_⟩;rw[UI _ _ _ i (by simpa using xa),UI _ _ _ i (by simpa using xa)];obtain ⟨v0,v1,v2,v3,hv⟩:∃ v0 v1 v2 v3,ZA p t=[v0,v1,v2,v3]:=⟨_,_,_,_,rfl⟩;rw[hv] at hgt;simp[Qdd,hv,Qf0,Qlb,prC];refine cK (by simpa using hgt) ?_;simp[hget,QdW,QdX]
  simpa[prC] using this
 simp
omit hK
theorem Qap (l:List Int) (lo hi:Int):(Jw l lo hi).Pairwise (·<·):=by
 unfold Jw QbN;refine List.Pairwise.filter _ ?_;rw[List.pairwise_map];exact List.pairwise_lt_range.imp fun {a b} h=>by omega
theorem Wa (l:List Int) (lo hi x:Int):x∈Jw l lo hi↔lo<=x/\x<=hi/\x∈l:=by
 unfold Jw QbN;simp only[QK9,QKT,QLa,decide_eq_true_eq];constructor
 ·grind
 ·rintro ⟨h1,h2,h3⟩;exact ⟨⟨(x-lo).toNat,by omega,by omega⟩,h3⟩
include hK
theorem Qzn (p:Qe) (n:Int) (hf:Few p):Gd K 111 [prV p,.int .i64 n] (.xd [QU (QaB p n),.int .i64 (kE p (Xn p n))]):=by
 refine Qb hK (fk func111 QJJ (by kernel_rfl)) (by simp) ?_;have hg:=Wn hK p (Xn p n) hf.fine;have hg93:Gd K 199 [prV p,.int .i64 n] (.bool (Xn p n)):=QpL hK p n hf.fine.small.zf;simp;refine cK (by simpa using hg93) ?_;simp;refine cK (by simpa using hg) ?_;by_cases he:kE p (Xn p n)=0;rotate_left
 ·have hk:=Qo1 he;have hr:QaB p n=[]:=by unfold QaB;rw[hk];simp[Jw,QbN]
  simp[he,hr]
 ·obtain ⟨hp,hn,hk,hne⟩:=JX he;have hn':=of_decide_eq_true hn;simp only[inR] at hn';have hE:=hf.ends hp;have htl:=hp.trialsLen;obtain ⟨i,rfl⟩:∃ i:Nat,n=i:=⟨n.toNat,by omega⟩;have hi:i<p.zf.length:=by omega
  have hbr:QaB p i=ZE (((ZS p.zc [] p.zc.za).map fun e=>QM p i (QI e)).filter fun x=>decide (0<=x)):=by
   refine QiU (Qap _ _ _) (Ut _) fun x=>?_;unfold QaB;rw[Wa,XL,hk];simp only[QMn,QKT,QK9,decide_eq_true_eq];have hS:Q3 p.zb [] p.zb.zd≠[]:=fun c=>by
    have h1:=Qcs p;rw[Qcp,c] at h1;exact hne (QKR (by simpa using h1))
   constructor
   ·rintro ⟨h1,h2,t,ht,rfl⟩;simp only[QK,QK6,QKT] at ht;grind
   rintro ⟨⟨e,he,rfl⟩,h1⟩;have h2:=Qbt hp (QI e) hi;refine ⟨h1,by omega,?_⟩;obtain ⟨s,hs⟩:=QLy _ hS;exact ⟨⟨e,s⟩,by simp only[QK,QK6,QKT];grind,rfl⟩
  rw[hbr];have hfile:US p=prC p++[.sl 3 (QW p),.sl 1 (XV p)]:=rfl;have hst:QW p=(ZS p.zc [] p.zc.za).map fun e=>ZU p (QI e):=rfl;rw[hfile,hst];generalize XV p=LL at *;generalize ZS p.zc [] p.zc.za=E at *;simp[he,prC];intro _
  refine Qi (fun j=>[(1,AV.iv (.int .i64 (i:Nat))),(8,.yk 22),(26,.iv (.sl 3 (E.map fun e=>ZU p (QI e)))),(27,.iv (.int .i64 E.length)),(28,.iv (.int .i64 (j:Nat)))])
   (fun j=>[(22,.xg (J6 (ZH (((E.take j).map fun e=>QM p i (QI e)).filter fun x=>decide (0<=x)))))]) E.length (fun _=>True) trivial ?_ ?_
  ·intro _;rw[Qa Qld.eq_1];simp;refine cK (by simpa using Qfp hK (J6 (ZH ((E.map fun e=>QM p i (QI e)).filter fun x=>decide (0<=x))))) ?_;simp;refine cK (UH ((E.map fun e=>QM p i (QI e)).filter fun x=>decide (0<=x)) (fun x hx=>?_) ?_) ?_
   ·simp only[QK9,QKT] at hx;obtain ⟨⟨e,_,rfl⟩,_⟩:=hx;have:=Qbt hp (QI e) hi;omega
   ·grind
   simp
  ·intro j hj _ ih;have hst:ZU p (QI E[j])=[.sl 1 ((List.range p.zf.length).map fun i=>[.int .u64 (Xx (Zx p i (QI E[j])):Nat)]),.sl 1 ((List.range p.zf.length).map fun i=>[.int .i64 (QM p i (QI E[j]))]),Xh (JB p (QI E[j]))]:=rfl;rw[Qa Qld.eq_1];rw[QKH hj,QK3,QMw] at ih;by_cases hb:0<=QM p i (QI E[j])
   ·have hfc:(List.map (fun e=>QM p i (QI e)) [E[j]]).filter (fun x=>decide (0<=x))=[QM p i (QI E[j])]:=by simp[hb]
    rw[hfc,ZK] at ih;generalize hl:((E.take j).map fun e=>QM p i (QI e)).filter (fun x=>decide (0<=x))=l at *
    have hll:l.length<=1000000:=by
     grind
    have hle:=qY (QM p i (QI E[j])) l;have hkk:=XG (ZH l);have hff:=YA (QM p i (QI E[j])) (ZH l);have hii:=Vs (QM p i (QI E[j])) (ZH l);generalize ZH l=kv at *;simp[hj,hst,hi,hb,hkk,hff,hii] at ih |-
    grind
   ·have hfc:(List.map (fun e=>QM p i (QI e)) [E[j]]).filter (fun x=>decide (0<=x))=[]:=by simp[hb]
    rw[hfc,QLY] at ih;simp[hj,hst,hi,hb] at ih |-
    grind
theorem Qzm (p:Qe) (n:Int) (hf:Few p):Gd K 113 [prV p,.int .i64 n] (.xd [.agg [.int .i64 (if kE p (Xn p n)=0 then (JR p.zb (tr p n.toNat).zm (tr p n.toNat).zn).1 else 0),.int .i64 (if kE p (Xn p n)=0 then (JR p.zb (tr p n.toNat).zm (tr p n.toNat).zn).2 else 0)],
   .int .i64 (if kE p (Xn p n)=0 then tE p.zb (qr (tr p n.toNat).zm (tr p n.toNat).zn 0) else kE p (Xn p n))]):=by
 refine Qb hK (fk func113 QJI (by kernel_rfl)) (by simp) ?_;have hg:=Wn hK p (Xn p n) hf.fine;have hg93:Gd K 199 [prV p,.int .i64 n] (.bool (Xn p n)):=QpL hK p n hf.fine.small.zf;simp;refine cK (by simpa using hg93) ?_;simp;refine cK (by simpa using hg) ?_;by_cases he:kE p (Xn p n)=0
 ·obtain ⟨hp,hn,hk,hne⟩:=JX he;have hn':=of_decide_eq_true hn;simp only[inR] at hn';have hS:=hf.sets hp;have htl:=hp.trialsLen;obtain ⟨i,rfl⟩:∃ i:Nat,n=i:=⟨n.toNat,by omega⟩;have hi:i<p.zf.length:=by omega
  have hSne:Q3 p.zb [] p.zb.zd≠[]:=fun c=>by
   have h1:=Qcs p;rw[Qcp,c] at h1;exact hne (QKR (by simpa using h1))
  have ha:qr (tr p i).zm (tr p i).zn 0=true:=by
   have a1:=(hp.trial hi).1;have a2:=(hp.trial hi).2.1;simp only[qr,inR] at a1 a2 |-;simp;omega
  have htE:tE p.zb true=0:=by
   unfold tE;rw[if_pos hp.zb,if_pos rfl,if_neg hSne]
  have hrl:JR p.zb (tr p i).zm (tr p i).zn=((span ((Q3 p.zb [] p.zb.zd).map (Qcl p.zb (tr p i).zm (tr p i).zn))).1,(span ((Q3 p.zb [] p.zb.zd).map (upS p.zb (tr p i).zm (tr p i).zn))).2):=by
   unfold JR tL;rw[ha,if_pos ⟨hp.zb,rfl⟩]
  rw[QMn,ha,htE,hrl];have hfile:US p=prC p++[.sl 3 (QW p),.sl 1 (XV p)]:=rfl;have hlv:XV p=(Q3 p.zb [] p.zb.zd).map fun s=>[.sl 2 (Zj p s)]:=rfl;rw[hfile,hlv];have hld:∀ s,(Zj p s)[i]?=some [.int .i64 (Qcl p.zb (tr p i).zm (tr p i).zn s),.int .i64 (upS p.zb (tr p i).zm (tr p i).zn s)]:=fun s=>by simp[Zj,hi]
  have hll:∀ s,(Zj p s).length=p.zf.length:=fun s=>by simp[Zj]
  have hld2:∀ s (h:i<(Zj p s).length),(Zj p s)[i]'h=[.int .i64 (Qcl p.zb (tr p i).zm (tr p i).zn s),.int .i64 (upS p.zb (tr p i).zm (tr p i).zn s)]:=fun s h=>by
   grind
  generalize QW p=SS at *;generalize Q3 p.zb [] p.zb.zd=S at *;have hpos:0<S.length:=QLo.2 hSne;obtain ⟨s0,hs0⟩:∃ s0,S[0]=s0:=⟨_,rfl⟩;have hcons:∃ S',S=s0::S':=by
   cases S with
   | _=>grind
  generalize Qcl p.zb (tr p i).zm (tr p i).zn=lo at *;generalize upS p.zb (tr p i).zm (tr p i).zn=up at *
  have hmin:(span (S.map lo)).1=(S.map lo).foldl min (lo s0):=by
   obtain ⟨S',rfl⟩:=hcons;show (S'.map lo).foldl min (lo s0)=(S'.map lo).foldl min (min (lo s0) (lo s0));grind
  have hmax:(span (S.map up)).2=(S.map up).foldl max (up s0):=by
   obtain ⟨S',rfl⟩:=hcons;show (S'.map up).foldl max (up s0)=(S'.map up).foldl max (max (up s0) (up s0));grind
  clear hcons;rw[hmin,hmax];simp[he,prC,hi,hll,hld2,hpos,hs0];intro _
  refine Qi (fun j=>[(1,AV.iv (.int .i64 (i:Nat))),(4,.loc 4 0),(8,.loc 8 0),(35,.iv (.sl 1 (S.map fun s=>[.sl 2 (Zj p s)]))),(36,.iv (.int .i64 (S.length:Nat))),(37,.iv (.int .i64 (j:Nat)))])
   (fun j=>[(4,.box [.iv (.int .i64 0),.iv (.int .i64 0)]),(8,.box [.iv (.int .i64 (((S.map lo).take j).foldl min (lo s0))),.iv (.int .i64 (((S.map up).take j).foldl max (up s0)))])]) S.length (fun _=>True) trivial ?_ ?_
  ·intro _;rw[Qa Qlc.eq_1];simp[QKM]
  intro j hj _ ih;rw[Qa Qlc.eq_1];rw[UI _ _ _ j (by simpa using hj),UI _ _ _ j (by simpa using hj)] at ih;simp[hj,hi,hll,hld2,QdW,QdX] at ih |-
  grind
 simp[he]
omit hK
theorem Qgj (T:List Q7) (B:Q7->Bool) (hne:T≠[]):(X5 (T.countP B) T.length=1)↔T.all B=true:=by
 have h1:0<T.length:=QLo.2 hne;have h2:T.countP B=T.length↔T.all B=true:=by
  rw[List.countP_eq_length,QLk]
 unfold X5;grind
include hK
theorem QyE (p:Qe) (t:Q7) (k:Nat) (hk:k<(JB p (QI t.ends)).length) (hp:OkP p) (hs:okS p.zb t.set):Gd K 211 [.agg (ZA p t),.ptr (prC p),.ptr [.int .i64 k]] (.bool (Zo p ((JB p (QI t.ends)).getD k 0:Nat) t)):=by
 refine Qb hK (fk func211 QIu (by kernel_rfl)) (by simp) ?_;have hl:=hp.deedsLen;have hgd:(JB p (QI t.ends)).getD k 0=(JB p (QI t.ends))[k]:=by grind
 have hlt12:(JB p (QI t.ends))[k]<12:=by
  have:=ql _ _ _ _ (QKL hk);have:=Qih p.zc.za p.zc.za.length;omega
 have hg:=Qjw hK p t p.zo hp;have hb:=Qe6 hp hs (zo:=p.zo) (k:=(JB p (QI t.ends))[k]) (by omega);have xa:∀ n,pmN (nd p p.zo) t n<2 ^ 64:=fun n=>QlI hp t n;have hg2:=Qjv hK (pmN (nd p p.zo) t p.zf.length) (JB p (QI t.ends))[k] (xa _) (by omega);have hnd:nd p p.zo=p:=rfl;rw[hb,hnd] at hg2;rw[hnd] at hg;rw[hgd];obtain ⟨v0,v1,v3,hv⟩:∃ v0 v1 v3,ZA p t=[v0,v1,Xh (JB p (QI t.ends)),v3]:=⟨_,_,_,rfl⟩;rw[hv] at hg |-;generalize JB p (QI t.ends)=now at *;simp[prC];refine cK (by simpa using hg) ?_;simp[hk];refine cK (by simpa using hg2) ?_;simp
theorem Qzi (p:Qe) (hf:Few p):Gd K 122 [prV p] (.xd [QU (Qe3 p),.int .i64 (kE p true)]):=by
 refine Qb hK (fk func122 QJD (by kernel_rfl)) (by simp) ?_;have hg:=Wn hK p true hf.fine;simp;refine cK (by simpa using hg) ?_;by_cases he:kE p true=0
 ·obtain ⟨hp,_,hk,hne⟩:=JX he;have hdl:=hp.deedsLen;have hnl:∀ e,((JB p e).length:Int)=Ql p.zc.za:=fun e=>ZI e hp.zc.za p.zc.za.length (QKJ _) (QKJ _);have hcb:=hp.zc.za.cnt p.zc.za.length (QKJ _) (QKJ _);have hnl2:∀ e,(JB p e).length=(Ql p.zc.za).toNat:=fun e=>by grind
  have hNb:(Ql p.zc.za).toNat<=12:=by show (cnt p.zc.za p.zc.za.length).toNat<=12;omega
  have hg75:∀ s:Nat,s<(Ql p.zc.za).toNat->Gd K 210 [.ptr (US p),.clo 211 [] [.ptr (prC p),.ptr [.int .i64 s]]] (.int .i64 (X5 ((QK p).countP (fun t=>Zo p ((JB p (QI t.ends)).getD s 0:Nat) t)) (QK p).length)):=fun s hs =>
   Qju hK p (hf.ends hp) (hf.sets hp) (by have:=hf.all hp;omega) 211 [] _ _ (fun t ht=>by simpa using QyE hK p t s (by grind) hp (Yy ht)) (by kernel_rfl)
  have hr:Qe3 p=acc (fun s:Nat=>if (QK p).all (fun t=>Zo p ((JB p (QI t.ends)).getD s 0:Nat) t) then [] else [(s:Int)]) (Ql p.zc.za).toNat:=by unfold Qe3;rw[if_pos he,hk]
  have hts:∀ s:Nat,(X5 ((QK p).countP (fun t=>Zo p ((JB p (QI t.ends)).getD s 0:Nat) t)) (QK p).length=1)↔(QK p).all (fun t=>Zo p ((JB p (QI t.ends)).getD s 0:Nat) t)=true:=fun s=>Qgj _ _ hne;have hE:ZS p.zc [] p.zc.za≠[]:=fun c=>by
   have h1:=Qcs p;rw[QbK,c] at h1;exact hne (QKR (by simpa using h1))
  have hst:∃ s0 s1 now rest,QW p=[s0,s1,Xh now]::rest/\now.length=(Ql p.zc.za).toNat:=by
   unfold QW;cases hEE:ZS p.zc [] p.zc.za with
   | cons e r=>exact ⟨_,_,JB p (QI e),_,rfl,hnl2 _⟩
   | _=>grind
  obtain ⟨s0,s1,now,rest,hst,hnow⟩:=hst;rw[hr];have hfile:US p=prC p++[.sl 3 (QW p),.sl 1 (XV p)]:=rfl;rw[hfile,hst] at hg75 |-;clear hg hr hfile hst hE;generalize QK p=T at *;generalize XV p=LL at *;generalize (Ql p.zc.za).toNat=N at *;obtain ⟨tv,htv⟩:∃ tv:Nat->Int,∀ s,tv s=X5 (T.countP (fun t=>Zo p ((JB p (QI t.ends)).getD s 0:Nat) t)) T.length:=⟨_,fun _=>rfl⟩;obtain ⟨all,xc⟩:∃ all:Nat->Bool,∀ s,all s=T.all (fun t=>Zo p ((JB p (QI t.ends)).getD s 0:Nat) t):=⟨_,fun _=>rfl⟩;simp only[<- htv,<- xc] at hg75 hts |-;obtain ⟨pc,hpc⟩:∃ pc:Nat->List Int,pc=fun s:Nat=>if all s=true then [] else [(s:Int)]:=⟨_,rfl⟩
  rw[<- hpc];have hpc2:∀ s:Nat,pc s=if all s=true then [] else [(s:Int)]:=fun s=>by rw[hpc]
  clear hpc htv xc;simp[he,prC];intro _;rw[hnow]
  refine Qi (fun i=>[(1,AV.iv (.ptr (prC p))),(4,.iv (.ptr (prC p++[.sl 3 ([s0,s1,Xh now]::rest),.sl 1 LL]))),(6,.yl 6 (acc pc i).length),(23,.iv (.int .i64 (N:Nat))),(24,.iv (.int .i64 (i:Nat)))])
   (fun i=>[(6,.arr 3 1 (emb ((acc pc i).map fun n=>[.int .i64 n])) 0)]) N (fun _=>True) trivial ?_ ?_
  ·intro _;rw[Qa Qla.eq_1];simp[QKM]
  intro i hi _ ih;have hlen:(acc pc i).length<=i*1:=Qf4 pc 1 (fun s=>by grind) i;rw[Qa Qla.eq_1];rw[Qbw pc i,hpc2 i] at ih;have hgi:=hg75 i hi;have htsi:=hts i;generalize tv i=tvi at *;generalize acc pc i=A at *;have hi':(i:Int)<N:=by omega
  simp[hi,hi'];refine YQ (by simpa using hgi) (.inr rfl) ?_;by_cases hal:all i=true
  ·have h1:=htsi.2 hal;rw[if_pos hal] at ih;simp[h1] at ih |-
   grind
  have h1:¬ tvi=1:=fun c=>hal (htsi.1 c);rw[if_neg hal] at ih;simp[h1] at ih |-
  grind
 have hr:Qe3 p=[]:=by unfold Qe3;rw[if_neg he]
 simp[he,hr]
omit hK
theorem Vi {α:Type} (f:α->Int) (n:Int):∀ (l:List α) (b:Int),n<=l.foldl (fun b k=>min b (f k)) b↔n<=b/\∀ k∈l,n<=f k
 | [],b=>by simp
 | a::l,b=>by
   rw[QLH,Vi f n l]
   grind
theorem QoX (p:Qe) (t:Q7) (k:Nat) (n:Int) (hn:0<=n):∀ N:Nat,n<=Qi1 p t k N↔∃ i<N,inN (Zx p i (QI t.ends)) k=true/\¬ QM p i (QI t.ends)=k/\n<=(V6 p i t.set).tdiv (den t.set)
 | 0=>by
   have:Qi1 p t k 0 = -1:=rfl;omega
 | N+1=>by
   rw[Qnl];have ih:=QoX p t k n hn N;unfold QoL;split
   ·rename_i h;constructor
    all_goals grind
   grind
theorem Qhh (p:Qe) (t:Q7) (n:Int):∀ (l:List Nat) (b:Int),n<=l.foldl (QrD p t) b↔n<=b/\∀ i∈l,0<=(tr p i).z5->p.z6<=(QcJ p t i p.zf.length:Int)->n<=(V6 p i t.set+den t.set-1).tdiv (den t.set)-1
 | [],b=>by simp
 | a::l,b=>by
   rw[QLH,Qhh p t n l];simp only[QKU,forall_eq_or_imp];unfold QrD;grind
theorem Qpi (f:Nat->Int):∀ l:List Nat,l≠[]->∃ a∈l,∀ b∈l,f b<=f a
 | [],h=>absurd rfl h
 | [a],_=>⟨a,by simp,by simp⟩
 | a::b::l,_=>by
   obtain ⟨c,h1,h2⟩:=Qpi f (b::l) (by simp);grind
theorem Qp3 {p:Qe} (hp:OkP p) (t:Q7) (n:Int):(Xt (nd p n) t:Int)<p.z6↔∀ i<p.zf.length,0<=(tr p i).z5->p.z6<=(QcJ p t i p.zf.length:Int)->¬ V6 p i t.set<=n*den t.set:=by
 have hrule:=hp.z6;simp only[inR] at hrule;have hf:Xt (nd p n) t=(List.range p.zf.length).countP fun i=>decide (0<=(tr p i).z5)&&decide (V6 p i t.set<=n*den t.set):=rfl;rw[hf];constructor
 ·intro h i hi h1 h2 h3;have:QcJ p t i p.zf.length<=(List.range p.zf.length).countP fun i=>decide (0<=(tr p i).z5)&&decide (V6 p i t.set<=n*den t.set):=by
   unfold QcJ;refine List.countP_mono_left fun k _ hk=>?_;grind
  omega
 ·intro h;refine Classical.byContradiction fun hc=>?_;have hpos:0<(List.range p.zf.length).countP fun i=>decide (0<=(tr p i).z5)&&decide (V6 p i t.set<=n*den t.set):=by omega
  rw[List.countP_eq_length_filter] at hpos hc;obtain ⟨a,ha,hmax⟩:=Qpi (fun i=>V6 p i t.set) _ (QLo.1 hpos);simp only[QK9,QLa,QKI,decide_eq_true_eq] at ha;refine h a ha.1 ha.2.1 ?_ ha.2.2;have:((List.range p.zf.length).filter fun i=>decide (0<=(tr p i).z5)&&decide (V6 p i t.set<=n*den t.set)).length<=QcJ p t a p.zf.length:=by
   rw[<- List.countP_eq_length_filter];unfold QcJ;refine List.countP_mono_left fun k hk1 hk=>?_;grind
  omega
theorem Qee {p:Qe} (hp:OkP p) {t:Q7} (hs:okS p.zb t.set) {n:Int} (h0:0<=n) (h1:n<=999999999):UR (nd p n) t=true↔n<=Qgf p t:=by
 have hden:=(hp.zb.denB hs).1;have hld:∀ i<p.zf.length,0<=V6 p i t.set:=fun i hi=>(hp.zb.numB hs (hp.trial hi).1 (hp.trial hi).2.1).1;have hg:UR (nd p n) t=(((JB p (QI t.ends)).all fun (k:Nat)=>Zo (nd p n) k t)&&decide ((Xt (nd p n) t:Int)<p.z6)):=rfl;rw[hg,QKI,decide_eq_true_eq,QLk,Qp3 hp];unfold Qgf;rw[Qhh];unfold QDb;rw[Vi];have hprov:∀ k:Nat,Zo (nd p n) k t=true↔n<=Qi1 p t k p.zf.length:=fun k=>by
  rw[QoX p t k n h0];have hpb:Zo (nd p n) k t=(List.range p.zf.length).any fun i=>decide (n*den t.set<=V6 p i t.set)&&inN (Zx p i (QI t.ends)) k&&!decide (QM p i (QI t.ends)=k):=rfl;rw[hpb,List.any_eq_true];constructor
  ·rintro ⟨i,hi,h2⟩;have hi:=QLa.1 hi;simp at h2;exact ⟨i,hi,h2.1.2,h2.2,(Wh (hld i hi) hden).2 h2.1.1⟩
  rintro ⟨i,hi,h2,h3,h4⟩;have h5:=(Wh (hld i hi) hden).1 h4;grind
 constructor
 ·rintro ⟨h2,h3⟩;refine ⟨⟨h1,fun k hk=>(hprov k).1 (h2 k hk)⟩,fun i hi h4 h5=>?_⟩;have hi:=QLa.1 hi;have h6:=h3 i hi h4 h5;have h7:¬ (V6 p i t.set+den t.set-1).tdiv (den t.set)<=n:=fun c=>h6 ((U7 (hld i hi) hden).1 c);omega
 rintro ⟨⟨_,h2⟩,h3⟩;refine ⟨fun k hk=>(hprov k).2 (h2 k hk),fun i hi h4 h5 h6=>?_⟩;have h7:=h3 i (QLa.2 hi) h4 h5;have h8:=(U7 (c:=n) (hld i hi) hden).2 h6;omega
theorem QmY {p:Qe} (hp:OkP p) (he:kE p true=0) {n:Int} (h0:0<=n) (h1:n<=999999999):(QK p).all (UR (nd p n))=true↔n<=JQ p:=by
 unfold JQ;rw[(JX he).2.2.1,Vi,QLk];constructor
 ·exact fun h=>⟨h1,fun t ht=>(Qee hp (Yy ht) h0 h1).1 (h t ht)⟩
 ·exact fun h t ht=>(Qee hp (Yy ht) h0 h1).2 (h.2 t ht)
include hK
theorem QyB (p:Qe) (t:Q7) (n:Int) (hp:OkP p) (hs:okS p.zb t.set):Gd K 215 [.agg (ZA p t),.ptr [.int .i64 n],.ptr (prC p)] (.bool (UR (nd p n) t)):=by
 refine Qb hK (fk func215 QIq (by kernel_rfl)) (by simp) ?_;have hg:=QpK hK p t n hp hs;obtain ⟨v0,v1,v2,v3,hv⟩:∃ v0 v1 v2 v3,ZA p t=[v0,v1,v2,v3]:=⟨_,_,_,_,rfl⟩;rw[hv] at hg |-;simp[prC];refine cK (by simpa using hg) ?_;simp
theorem QyC (p:Qe) (n:Int) (hf:Few p) (he:kE p true=0) (h0:0<=n) (h1:n<=999999999):Gd K 214 [.int .i64 n,.ptr [.ptr (US p)],.ptr (prC p)] (.bool (decide (n<=JQ p))):=by
 refine Qb hK (fk func214 QIr (by kernel_rfl)) (by simp) ?_;obtain ⟨hp,_,hk,hne⟩:=JX he;have hg:=Qju hK p (hf.ends hp) (hf.sets hp) (by have:=hf.all hp;omega) 215 [] [.ptr [.int .i64 n],.ptr (prC p)] (UR (nd p n)) (fun t ht=>by simpa using QyB hK p t n hp (Yy ht)) (by kernel_rfl);have hs:=Qgj (QK p) (UR (nd p n)) hne;rw[QmY hp he h0 h1] at hs;generalize X5 ((QK p).countP (UR (nd p n))) (QK p).length=tv at *;generalize US p=F at *;simp;refine cK (by simpa using hg) ?_;by_cases h:n<=JQ p
 ·have:=hs.2 h;simp[h,this]
 ·have:¬ tv=1:=fun c=>h (hs.1 c);simp[h,this]
theorem Qzg (p:Qe) (hf:Few p):Gd K 126 [prV p] (.xd [.int .i64 (VB p).1,.int .i64 (VB p).2]):=by
 refine Qb hK (fk func126 QJB (by kernel_rfl)) (by simp) ?_;have hg:=Wn hK p true hf.fine;simp;refine cK (by simpa using hg) ?_;by_cases he:kE p true=0;rotate_left
 ·have hr:VB p=(0,kE p true):=by unfold VB;rw[if_neg he]
  rw[hr];simp[he];refine Qh4 _ _ _ _ _ _ _ _ ?_;simp[he]
 obtain ⟨hp,_,hk,hne⟩:=JX he;have hg74:=fun n h0 h1=>QyC hK p n hf he h0 h1;have hw:JQ p<=999999999:=(Vi (Qgf p) (JQ p) (kL p true) 999999999).1 (Int.le_refl _) |>.1;have hr:VB p=if JQ p<0 then (0,3) else (JQ p,0):=by unfold VB;rw[if_pos he]
 rw[hr];generalize JQ p=W at *;generalize US p=F at *;simp[he,prC];refine Qh4 _ _ _ _ _ _ _ _ ?_;simp;refine ⟨by kernel_rfl,cK (by simpa[prC] using hg74 0 (by omega) (by omega)) ?_⟩;by_cases hneg:W<0
 ·have h2:¬ 0<=W:=by omega
  simp[hneg,h2]
 have h2:0<=W:=by omega
 simp[hneg,h2];refine QvF (S:=Int × Int) (fun s=>[(6,.iv (.clo 214 [] [.ptr [.ptr F],.ptr (prC p)])),(7,.iv (.int .i64 s.1)),(8,.iv (.int .i64 s.2))]) (fun _=>[]) (fun s=>0<=s.1/\s.1<=W/\W<=s.2/\s.2<=999999999) (fun s=>(s.2-s.1).toNat) ?_ (0,999999999) ⟨by omega,h2,hw,by omega⟩;rintro ⟨low,high⟩ ⟨i1,i2,i3,i4⟩ ih;simp only at i1 i2 i3 i4 ih |-;rw[Qa Qrz.eq_1];by_cases xa:low<high
 ·have hmid:(low+high+1).tdiv 2=(low+high+1) / 2:=QLe (by omega);have hm1:low<(low+high+1) / 2:=by omega
  have hm2:(low+high+1) / 2<=high:=by omega
  have hgm:=hg74 ((low+high+1) / 2) (by omega) (by omega);simp[xa,hmid];generalize (low+high+1) / 2=mid at *
  (repeat' first|omega|with_reducible apply And.intro|intro)
  ·kernel_rfl
  refine cK (by omega) ?_;by_cases hmw:mid<=W
  ·simp[hmw];exact ih (mid,high) ⟨by simp only;omega,hmw,i3,i4⟩ (by simp only;omega)
  simp[hmw]
  (repeat' first|omega|with_reducible apply And.intro|intro)
  exact ih (low,mid-1) ⟨i1,i2,by simp only;omega,by simp only;omega⟩ (by simp only;omega)
 have:low=W:=by omega
 subst this;simp[xa]
omit hK
def exD:List Qv:=[⟨1,0,0,5,1⟩,⟨1,1,0,5,2⟩,⟨1,2,0,6,1⟩,⟨4,0,0,0,0⟩,⟨2,0,2,0,0⟩,⟨1,0,1,7,2⟩]
def exC:Qf:=⟨exD++[⟨4,0,0,0,0⟩],[],0⟩
def exM:Machine:=⟨[⟨100,10,11⟩,⟨50,5,5⟩],20,1,2,[⟨10,5,2500,250⟩],0⟩
def exP:Qe:=⟨exC,exM,[⟨30,0,0⟩,⟨31,0,-1⟩],4600,1⟩
include hK
theorem QyT:Gd K 162 [] (maV exM):=by
 refine Qb hK (fk func162 QJa (by kernel_rfl)) (by simp) ?_;simp[exM]
def Qqb:AV:=.xd [.agg [.yl 0 6,.iv (.sl 5 []),.iv (.int .i64 0)],.iv (.agg [.int .i64 6,.int .i64 1,.int .i64 0,.int .i64 6,.int .i64 (-1)]),.iv (.agg [.int .i64 6,.int .i64 0,.int .i64 0,.int .i64 (-1),.int .i64 1])]
theorem Qpo:Gh K 70 [] [] [] Qqb [(0,.arr 91 5 (emb (exD.map dC)) 0)]:=by
 refine Zp [9] [] [] [] (fk func70 c70 (by kernel_rfl)).p (by simp[c70]) (by simp) ?_ ?_ ?_ ?_
 ·intro q hq;simp only[QLd] at hq;subst hq;exact ⟨by simp,rfl,Vw _ _ _ _ _⟩
 ·simp[clA,clAL,Qqb]
 ·simp
 ·generalize hG:Qic c70.res [9] [] Qqb [(0,.arr 91 5 (emb (exD.map dC)) 0)]=G;simp;rw[<- hG];refine ⟨⟨_,rfl,rfl⟩,fun q hq=>?_,by simp⟩;simp only[QLd] at hq;subst hq;rfl
theorem QBL:Gd K 69 [] (prV exP):=by
 refine Qb hK (fk func69 c69 (by kernel_rfl)) (by simp) ?_;simp;refine QH (Qpo hK) rfl ?_ ?_
 ·refine ⟨by simp,by simp,by simp,by simp[Qc],?_⟩;simp[XR]
 simp[Qqb,rn,rnL,nth,Ya];refine ⟨⟨rfl,by decide,by decide⟩,cK (by simpa using QyT hK) ?_⟩;simp[exP,exC,exM,exD,emb]
omit hK
theorem Qmn:OkC exC:=by
 refine ⟨by decide,by decide,by decide,fun i h _=>?_,fun s hs=>by simp[exC] at hs⟩;have all:∀ i<7,Zc (exC.za.getD i d0) (cnt exC.za i):=by decide
 have:=all i h;grind
theorem Qp7:OkM exM:=by
 refine ⟨by decide,?_,by decide,by decide,by decide,by decide,?_,by decide⟩
 ·intro l hl;simp[exM] at hl;rcases hl with rfl | rfl<;>decide
 intro l hl;simp[exM] at hl;subst hl;decide
theorem Qem:OkP exP:=by
 refine ⟨Qmn,Qp7,by decide,by decide,by decide,fun i h h'=>?_⟩;have all:∀ i<2,Ve (exP.zf.getD i t0) (cnt exP.zc.za ((pv exP.zc.za).getD i 0)):=by decide
 have:=all i h';grind
theorem QhK {c:Qf} (hc:OkC c) (hs:c.zg=[]):ZS c [] c.za=Q6 c.za:=by
 have hw:=hc.zh;simp only[inR] at hw;unfold ZS;have e1:((Q6 c.za).map fun x=>[]++x)=Q6 c.za:=by simp
 rw[e1,List.filter_eq_self];intro e he;have h1:=Qln hc he;have h2:(QN c.za c.zg (QI e):Int)<=c.zh:=by rw[hs];simpa[QN] using hw.1
 simpa using ⟨h1,h2⟩
theorem QdD:∀ {ls:List ZC} {e:List Int},e∈QJ ls->e.length=ls.length/\∀ i (h:i<ls.length) (h':i<e.length),inR e[i] ls[i].lo ls[i].hi
 | [],e,h=>by simp[QJ] at h;subst h;simp
 | l::r,e,h=>by
   simp only[QJ,acc,QK6,QKT,QLa] at h;obtain ⟨i,hi,e',he',rfl⟩:=h;obtain ⟨h1,h2⟩:=QdD he';refine ⟨by simp[h1],fun j h h'=>?_⟩;cases j with
   | zero=>simp only[QLF,inR];omega
   | _=>grind
theorem QwI {m:Machine} {s:Qd} (h:s∈QX m [] m.zd):okS m s:=by
 simp only[QX,QK6,QKT,QLa] at h;obtain ⟨e,he,k,hk,rfl⟩:=h;obtain ⟨h1,h2⟩:=QdD he;exact ⟨by simpa using h1,by simp only[inR];omega,by simpa using h2⟩
theorem Qiv (m:Machine):Q3 m [] m.zd=(QX m [] m.zd).filter fun s=>decide ((ZT m m.zk s:Int)<=m.zh):=by
 unfold Q3;refine List.filter_congr fun s hs=>?_;rw[Bool.eq_iff_iff];simp only[decide_eq_true_eq];exact ⟨fun h=>h.2,fun h=>⟨QwI hs,h⟩⟩
def exT:List Q7:=[⟨[0,0,0,0,0,1,0],⟨[10,5],1⟩⟩,⟨[0,0,0,0,0,1,0],⟨[11,5],1⟩⟩,⟨[0,0,0,0,1,1,0],⟨[10,5],1⟩⟩,⟨[0,0,0,0,1,1,0],⟨[11,5],1⟩⟩]
theorem Qmo:QK exP=exT:=by
 unfold QK;rw[show exP.zc=exC from rfl,show exP.zb=exM from rfl,QhK Qmn rfl,Qiv];decide
theorem Qzy (r:Int) (hr:inR r 1 12):OkP { exP with z6:=r }:=⟨Qem.zc,Qem.zb,Qem.zo,hr,Qem.many,Qem.zf⟩
theorem QEY (r:Int) (hr:inR r 1 12):kL { exP with z6:=r } true=exT/\kE { exP with z6:=r } true=0:=by
 have h1:=Qzy r hr;have h2:QK { exP with z6:=r }=exT:=Qmo;unfold kL kE;rw[if_pos ⟨h1,rfl⟩,if_pos h1,if_pos rfl,h2];exact ⟨rfl,by decide⟩
theorem QCo (r:Int) (hr:inR r 1 12):Few { exP with z6:=r }:=by
 have h2:QK { exP with z6:=r }=exT:=Qmo;refine ⟨⟨⟨show exP.zc.za.length<=1000 by decide,show exP.zc.zg.length<=1000 by decide,show exP.zb.zd.length<=1000 by decide,show exP.zb.zk.length<=1000 by decide,show exP.zf.length<=1000 by decide⟩,fun _=>show sets exP.zb exP.zb.zd.length<=1000000 by decide⟩,fun _=>?_,fun _=>?_,fun _=>by rw[h2];decide⟩
 ·rw[show ({ exP with z6:=r }:Qe).zc=exC from rfl,QhK Qmn rfl];decide
 ·rw[show ({ exP with z6:=r }:Qe).zb=exM from rfl,Qiv]
  exact QLv (QK5 _ _) (by decide)
include hK
omit hK
def QDp (p:Qe) (r:Int):Qe:=⟨p.zc,p.zb,p.zf,p.zo,r⟩
theorem Qdz {c n:Nat}:X5 c n=1↔c=n:=by
 unfold X5;omega
theorem QbG {c n:Nat} (hn:n≠0):X5 c n=2↔c=0:=by
 unfold X5;omega
def QJW (p:Qe) (i:Nat):Nat:=(List.range i).countP fun k=>decide (0<=(tr p k).z5)
include hK
omit hK
theorem Qow (p:Qe):JQ p<=999999999:=by
 unfold JQ;have h:∀ (l:List Q7) (b:Int),l.foldl (fun b t=>min b (Qgf p t)) b<=b:=by
  intro l;induction l with
  | _=>grind
 exact h _ _
include hK
omit hK
theorem QcO:∀ (ds:List Qv) (e:List Int),(∀ d∈ds,inR d.z2 0 2)->e.length=ds.length->(∀ i (h:i<ds.length) (h':i<e.length),inR e[i] 0 1/\(ds[i].z2<2->e[i]=ds[i].z2))->e∈Q6 ds
 | [],e,_,hl,_=>by
   have:e=[]:=QKR hl;subst this;simp[Q6]
 | d::ds,[],_,hl,_=>by cases hl
 | d::ds,x::e,hd,hl,h=>by
   have h0:=h 0 (by simp) (by simp);simp only[QLF] at h0
   have hr:=QcO ds e (fun d hd'=>hd d (by simp[hd'])) (by simpa using hl) (fun i h1 h2=>by
    have:=h (i+1) (by simpa using h1) (by simpa using h2);grind)
   have hf:=hd d (by simp);simp only[inR] at hf h0;simp only[Q6,QK6,QKT];refine ⟨x,?_,e,hr,rfl⟩;unfold QaY;grind
theorem QvU {d:Qv} {n:Int} (h:Zc d n):inR d.z2 0 2:=by
 rcases h with h | h | h
 ·exact h.2.1
 ·exact h.2.1
 rw[h.2.2.1];simp[inR]
theorem QhL {c:Qf} (hc:OkC c) {e:List Int} (h:QvH c e):e∈ZS c [] c.za:=by
 simp only[ZS,QK9,decide_eq_true_eq,QLm,List.map_id'];refine ⟨QcO _ _ (fun d hd=>?_) h.1.1 h.1.2,h⟩;obtain ⟨i,hi,rfl⟩:=QLh hd;exact QvU (hc.za i hi hi)
theorem QEm {p:Qe} (hp:OkP p) {t:Q7} (h:t∈QK p):kE p true=0:=by
 unfold kE;grind
theorem Us {α:Type} (f:α->Int):∀ (l:List α) (t:α),t∈l->(span (l.map f)).1<=f t/\f t<=(span (l.map f)).2
 | [],_,h=>by cases h
 | a::r,t,h=>by
   have mono:∀ (l:List α) (x u:Int),(l.map f).foldl min x<=x/\u<=(l.map f).foldl max u:=by
    intro l;induction l with
    | cons b l ih =>
      intro x u;simp only[QKZ,QLH];have:=ih (min x (f b)) (max u (f b));omega
    | _=>grind
   have key:∀ (l:List α) (x u:Int),t∈l->(l.map f).foldl min x<=f t/\f t<=(l.map f).foldl max u:=by
    intro l;induction l with
    | cons b l ih =>
      intro x u h;simp only[QKZ,QLH];rcases QKU.1 h with rfl | h
      ·have:=mono l (min x (f t)) (max u (f t));omega
      exact ih _ _ h
    | _=>grind
   simp only[QKZ,span];rcases QKU.1 h with rfl | h
   ·exact mono r _ _
   ·exact key r _ _ h
def QrQ (k:Int) (b:Bool):Prop:=k=3\/(k=1/\b=true)\/(k=2/\b=false)
theorem QwB {α:Type} (f:α->Int) (a:Int):∀ l:List α,l≠[]->(∀ t∈l,a<=f t)->a<=(span (l.map f)).1
 | [],h,_=>absurd rfl h
 | b::r,_,h=>by
   have key:∀ (l:List α) (x:Int),(∀ t∈l,a<=f t)->a<=x->a<=(l.map f).foldl min x:=by
    intro l;induction l with
    | _=>grind
   simp only[QKZ,span];grind
theorem QwA {α:Type} (f:α->Int) (a:Int):∀ l:List α,l≠[]->(∀ t∈l,f t<=a)->(span (l.map f)).2<=a
 | [],h,_=>absurd rfl h
 | b::r,_,h=>by
   have key:∀ (l:List α) (x:Int),(∀ t∈l,f t<=a)->x<=a->(l.map f).foldl max x<=a:=by
    intro l;induction l with
    | _=>grind
   simp only[QKZ,span];grind
instance (k:Int) (b:Bool):Decidable (QrQ k b):=by unfold QrQ;infer_instance
include hK
omit hK
def c9D:=F0 "j?_8CJf4D?SjHffY;FiBN;2l9<N9pu840v]2jBxRZVF1VK0Fze60XSx6Lsu]:_XR<QxNmUwZAYdDRcPGN8CBQ>4u=f3" ⟨_,by conv=>lhs;reduce⟩
def c9S:=F0 "M2s]yxoFnMz0LZPJX^GkE043]z0u5zjhzlBBuKL3;Rg<t5XTdIZnzG>Z94sV0;VV]j^Tq<WeS0j7<rXC?[w30yAZZl3" ⟨_,by conv=>lhs;reduce⟩
@[simp] theorem QAN {α:Type} (lod:Nat->Option AO) (ids:List Nat) (f:α->List IV) (l:List α):List.map (Qoa lod ids∘List.map AV.iv∘f) l=List.map (List.map AV.iv∘f) l :=
 QMe fun a _=>Qio lod ids (f a)
include hK
@[simp] def prA (p:Qe) (ds ss bs ts:AV):List AV:=[ds,ss,.iv (.int .i64 p.zc.zh),.iv (Zt p.zb.zd),.iv (.int .i64 p.zb.zr),.iv (.int .i64 p.zb.zu),.iv (.int .i64 p.zb.zw),bs,.iv (.int .i64 p.zb.zh),ts,.iv (.int .i64 p.zo),.iv (.int .i64 p.z6)]
omit hK
def prv:Qv:=⟨4,0,0,0,0⟩
def QKs (D:List Qv):List Qv:=D++[prv]
def QKt (c:Qf):Qf:=⟨QKs c.za,c.zg,c.zh⟩
def QKC (p:Qe) (w:Int):Qe:=⟨QKt p.zc,p.zb,p.zf++[⟨w,0,-1⟩],p.zo,p.z6⟩
def QKD (t:Q7):Q7:=⟨t.ends++[0],t.set⟩
@[simp] theorem QDN (L:List (List IV)) (a b c d e:IV):emb L++[[.iv a,.iv b,.iv c,.iv d,.iv e]]=emb (L++[[a,b,c,d,e]]):=by simp[emb]
theorem UW {p:Qe} (hp:OkP p):kL p true=QK p:=by unfold kL;grind
theorem Qnq (m:Machine) (l:List Qd) (mn load:Int):0<=VD m l mn load/\(VD m l mn load<=9999->Xk m l (VD m l mn load) mn load):=by
 classical
 unfold VD;refine ⟨by omega,fun h=>?_⟩
 have:=List.findIdx_getElem (p:=fun (n:Nat)=>decide (Xk m l n mn load)) (xs:=List.range 10000) (w:=by
  grind)
 simpa using this
include hK
omit hK
def chD (x fin:Int) (d:Qv):Qv :=
 if d.zp=1 then ⟨d.zp,d.pos,fin,(d.bar+x).tmod 100,(d.z1+x).tmod 100⟩ else if d.zp=2 then ⟨d.zp,d.pos,fin,d.bar,d.z1⟩ else d
def chL (x fin:Int) (D:List Qv) (i:Nat):List (List IV):=((D.take i).map (chD x fin)++D.drop i).map dC
def mvN (n:Nat):Nat->Nat
 | 0=>0
 | _+1=>n
def chP (p:Qe) (x fin:Int):Qe:=⟨⟨p.zc.za.map (chD x fin),[],p.zc.zh⟩,p.zb,p.zf,p.zo,p.z6⟩
theorem QeQ:∀ l:List Int,l≠[]->(span l).1∈l/\(span l).2∈l
 | [],h=>absurd rfl h
 | a::r,_=>by
   have key:∀ (r:List Int) (x u:Int),(r.foldl min x=x\/r.foldl min x∈r)/\(r.foldl max u=u\/r.foldl max u∈r):=by
    intro r;induction r with
    | cons b r ih =>
      intro x u;obtain ⟨h1,h2⟩:=ih (min x b) (max u b);simp only[QLH,QKU];refine ⟨?_,?_⟩
      ·rcases h1 with h1 | h1
       ·rw[h1];omega
       grind
      rcases h2 with h2 | h2
      ·rw[h2];omega
      grind
    | _=>grind
   obtain ⟨h1,h2⟩:=key r a a;simp only[span,QKU];exact ⟨h1,h2⟩
include hK
end Go.Pf
