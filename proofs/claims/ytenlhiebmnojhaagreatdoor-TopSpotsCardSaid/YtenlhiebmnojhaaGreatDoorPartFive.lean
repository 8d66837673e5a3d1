/- Pulls as data: zi, readings, truths and bundles of truths, in plain Lean. -/
import Derived.Test.YtenlhiebmnojhaaGreatDoorPartFour
import Derived.Lib.ItoaNum
import Derived.Lib.ItoaMem
import Derived.Lib.AtoiTie
import Derived.Lib.Strings
import Derived.Lib.SplitLaws
import Derived.Test.YtenlhiebmnojhaaGreatDoorPartThree
import Derived.ChangeAgain
import Derived.WalkSmall
import Derived.Test.YtenlhiebmnojhaaGreatDoorProg
import Derived.Test.YtenlhiebmnojhaaGreatDoorCards
import Derived.Test.YtenlhiebmnojhaaGreatDoorTie
import Derived.ProofKit
import Derived.OpenShut
import Derived.Lay
import Derived.Lib.LaidTab
import Derived.Lib.LaidIn
import Derived.Stop.LaidErr
import Derived.JoinedCond
set_option linter.all false
namespace Go.Pf
open Go Go.Ev Go.Proofs Go.RowKit Go.Proofs.Tryz
set_option maxRecDepth 8000
structure Rod where
 long:Int
 z7:Int
 grow:Int
 deriving DecidableEq
structure Q2 where
 yg:Int
 rod:Int
 count:Int
 rest:Int
 off:Int
 yh:Int
 yi:Int
 deriving DecidableEq
structure Zm where
 yc:Int
 z8:Int
 z9:Int
 zi:List Rod
 zj:List Q2
 zh:Int
 deriving DecidableEq
@[simp] def roC (r:Rod):List IV:=[.int .i64 r.long,.int .i64 r.z7,.int .i64 r.grow]
@[simp] def reC (x:Q2):List IV:=[.int .i64 x.yg,.int .i64 x.rod,.int .i64 x.count,.int .i64 x.rest,.int .i64 x.off,.int .i64 x.yh,.int .i64 x.yi]
@[simp] def QiG (l:List Rod):IV:=.sl 3 (l.map roC)
@[simp] def Qay (l:List Q2):IV:=.sl 7 (l.map reC)
@[simp] def puC (p:Zm):List IV:=[.int .i64 p.yc,.int .i64 p.z8,.int .i64 p.z9,QiG p.zi,Qay p.zj,.int .i64 p.zh]
@[simp] def puV (p:Zm):IV:=.agg (puC p)
def V0 (r:Rod):Prop:=inR r.long 1 9999/\inR r.z7 0 (min 9 (r.long-1))/\inR r.grow 0 50
instance (r:Rod):Decidable (V0 r):=by unfold V0;infer_instance
def Yw (n:Nat) (x:Q2):Prop:=(x.yg=1\/x.yg=2)/\inR x.rod 0 ((n:Int)-1)/\inR x.count 0 99/\inR x.rest 0 9999/\inR x.off 0 99/\inR x.yh (-50) x.yi/\x.yi<=50
instance (n:Nat) (x:Q2):Decidable (Yw n x):=by unfold Yw;infer_instance
structure OkU (p:Zm):Prop where
 yc:inR p.yc 0 50
 guess:inR p.z8 1 p.z9
 most:p.z9<=99999
 zh:inR p.zh 0 8
 rlen:p.zi.length<=4
 xlen:p.zj.length<=8
 zi:∀ r∈p.zi,V0 r
 zj:∀ x∈p.zj,Yw p.zi.length x
def okU (p:Zm):Bool:=decide (inR p.yc 0 50)&&decide (inR p.z8 1 p.z9)&&decide (p.z9<=99999)&&decide (inR p.zh 0 8)&&decide (p.zi.length<=4)&&decide (p.zj.length<=8)&&decide (∀ r∈p.zi,V0 r)&&decide (∀ x∈p.zj,Yw p.zi.length x)
theorem QwW (p:Zm):okU p=true↔OkU p:=by
 simp only[okU,QKI,decide_eq_true_eq];exact ⟨fun ⟨⟨⟨⟨⟨⟨⟨h1,h2⟩,h3⟩,h4⟩,h5⟩,h6⟩,h7⟩,h8⟩=>⟨h1,h2,h3,h4,h5,h6,h7,h8⟩,fun ⟨h1,h2,h3,h4,h5,h6,h7,h8⟩=>⟨⟨⟨⟨⟨⟨⟨h1,h2⟩,h3⟩,h4⟩,h5⟩,h6⟩,h7⟩,h8⟩⟩
instance (p:Zm):Decidable (OkU p):=decidable_of_iff _ (QwW p)
def QaV (p:Zm) (x:Q2):Int:=(p.zi.getD x.rod.toNat ⟨0,0,0⟩).grow
def QAx (p:Zm) (x:Q2) (len rl t:Int):Int:=len*(1000000+p.yc*t)-(x.count*rl+x.rest)*(1000000+QaV p x*t)
def QvI (p:Zm) (x:Q2) (len rl t:Int):Bool:=decide (QAx p x len rl t<=x.off*1000000 /\ -QAx p x len rl t<=x.off*1000000)
def Qij (x:Q2):Nat:=(x.yi-x.yh+1).toNat
def Qaw (p:Zm) (x:Q2) (len rl:Int):Bool:=(List.range (Qij x)).any fun (i:Nat)=>QvI p x len rl (x.yh+i)
def UZ (a b:Int):List Int:=(List.range (b-a+1).toNat).map fun (i:Nat)=>a+i
theorem JT {a b x:Int}:x∈UZ a b↔a<=x/\x<=b:=by
 simp only[UZ,QKT,QLa];constructor
 ·omega
 intro h;exact ⟨(x-a).toNat,by omega,by omega⟩
theorem Wq (a b:Int):(UZ a b).Pairwise (·<·):=by
 unfold UZ;rw[List.pairwise_map];exact List.pairwise_lt_range.imp fun h=>by omega
def Xl:List Rod->List (List Int)
 | []=>[[]]
 | r::rs=>(UZ (r.long-r.z7) r.long).flatMap fun n=>(Xl rs).map (n::·)
theorem Qgg:∀ (l:List Rod) (w:List Int),w∈Xl l->w.length=l.length
 | [],w,h=>by simp[Xl] at h;simp[h]
 | r::rs,w,h=>by
   simp only[Xl,QK6,QKT] at h;obtain ⟨n,_,v,hv,rfl⟩:=h;simp[Qgg rs v hv]
theorem QeD:∀ (l:List Rod) (w:List Int),w∈Xl l->∀ (i:Nat) (h:i<l.length),l[i].long-l[i].z7<=w.getD i 0/\w.getD i 0<=l[i].long
 | [],w,h,i,hi=>by simp at hi
 | r::rs,w,h,i,hi=>by
   simp only[Xl,QK6,QKT] at h;obtain ⟨n,hn,v,hv,rfl⟩:=h;cases i with
   | zero=>simpa using JT.1 hn
   | succ i =>
     have:=QeD rs v hv i (by simpa using hi);simpa using this
def QuW (p:Zm) (wh:Int) (w:List Int) (len:Int) (x:Q2):Bool:=decide (x.yg=wh)&&!Qaw p x len (w.getD x.rod.toNat 0)
def wrU (p:Zm) (wh:Int) (w:List Int) (len:Int):Nat:=p.zj.countP (QuW p wh w len)
def X1 (p:Zm):List Int:=UZ p.z8 p.z9
structure TrU where
 ya:Int
 yb:Int
 zi:List Int
def Qif (p:Zm) (t:TrU):Nat:=wrU p 1 t.zi t.ya+wrU p 2 t.zi t.yb
def QAG (p:Zm):List TrU:=(X1 p).flatMap fun b=>(X1 p).flatMap fun a=>(Xl p.zi).map fun w=>⟨b,a,w⟩
def qx (p:Zm):List TrU:=(QAG p).filter fun t=>decide ((Qif p t:Int)<=p.zh)
def Qeb (p:Zm) (wh:Int) (w:List Int) (n:Nat):List Int:=(X1 p).filter fun len=>wrU p wh w len==n
def QaZ (p:Zm) (wh:Int) (w:List Int):List Nat:=(List.range (p.zj.length+1)).filter fun n=>!(Qeb p wh w n).isEmpty
structure Grp where
 zh:Nat
 lens:List Int
def V9 (p:Zm) (wh:Int) (w:List Int):List Grp:=(QaZ p wh w).map fun n=>⟨n,Qeb p wh w n⟩
structure Bun where
 zi:List Int
 ya:Grp
 yb:Grp
def Qdn (p:Zm):List Bun:=(Xl p.zi).flatMap fun w=>(V9 p 1 w).flatMap fun g=>(V9 p 2 w).map fun h=>⟨w,g,h⟩
def VA (p:Zm):List Bun:=(Qdn p).filter fun x=>decide (((x.ya.zh+x.yb.zh:Nat):Int)<=p.zh)
theorem Qfc {p:Zm} {t:TrU}:t∈qx p↔t.ya∈X1 p/\t.yb∈X1 p/\t.zi∈Xl p.zi/\(Qif p t:Int)<=p.zh:=by
 simp only[qx,QAG,QK9,QK6,QKT,decide_eq_true_eq];grind
theorem Qgc (p:Zm) (wh:Int) (w:List Int) (len:Int):wrU p wh w len<=p.zj.length:=QLq
theorem Ym {p:Zm} {wh:Int} {w:List Int} {n:Nat} {len:Int}:len∈Qeb p wh w n↔len∈X1 p/\wrU p wh w len=n:=by
 simp[Qeb,QK9]
theorem Yx {p:Zm} {wh:Int} {w:List Int} {g:Grp}:g∈V9 p wh w↔g.lens=Qeb p wh w g.zh/\g.lens≠[]:=by
 simp only[V9,QaZ,QKT,QK9,QLa];constructor
 ·grind
 rintro ⟨h1,h2⟩;refine ⟨g.zh,⟨?_,?_⟩,by rw[<- h1]⟩
 ·obtain ⟨x,hx⟩:=QLy _ h2;rw[h1] at hx;have:=Qgc p wh w x;have:=(Ym.1 hx).2;omega
 grind
theorem WU {p:Zm} {x:Bun}:x∈VA p↔x.zi∈Xl p.zi/\x.ya∈V9 p 1 x.zi/\x.yb∈V9 p 2 x.zi/\((x.ya.zh+x.yb.zh:Nat):Int)<=p.zh:=by
 simp only[VA,Qdn,QK9,QK6,QKT,decide_eq_true_eq];grind
theorem J0 {p:Zm} {t:TrU} (h:t∈qx p):∃ x∈VA p,x.zi=t.zi/\t.ya∈x.ya.lens/\t.yb∈x.yb.lens:=by
 obtain ⟨hb,ha,hw,hn⟩:=Qfc.1 h;have h1:t.ya∈Qeb p 1 t.zi (wrU p 1 t.zi t.ya):=Ym.2 ⟨hb,rfl⟩;have h2:t.yb∈Qeb p 2 t.zi (wrU p 2 t.zi t.yb):=Ym.2 ⟨ha,rfl⟩
 exact ⟨⟨t.zi,⟨_,Qeb p 1 t.zi (wrU p 1 t.zi t.ya)⟩,⟨_,Qeb p 2 t.zi (wrU p 2 t.zi t.yb)⟩⟩,
  WU.2 ⟨hw,Yx.2 ⟨rfl,QMu h1⟩,Yx.2 ⟨rfl,QMu h2⟩,hn⟩,rfl,h1,h2⟩
theorem YR {p:Zm} {x:Bun} (h:x∈VA p) {b a:Int} (hb:b∈x.ya.lens) (ha:a∈x.yb.lens):⟨b,a,x.zi⟩∈qx p:=by
 obtain ⟨hw,hg,hh,hn⟩:=WU.1 h;have h1:=(Yx.1 hg).1;have h2:=(Yx.1 hh).1;rw[h1] at hb;rw[h2] at ha;obtain ⟨hb1,hb2⟩:=Ym.1 hb;obtain ⟨ha1,ha2⟩:=Ym.1 ha;refine Qfc.2 ⟨hb1,ha1,hw,?_⟩;simp only[Qif,hb2,ha2];exact hn
theorem ZO {p:Zm} {x:Bun} (h:x∈VA p):x.ya.lens.Pairwise (·<·)/\x.yb.lens.Pairwise (·<·)/\x.ya.lens≠[]/\x.yb.lens≠[]:=by
 obtain ⟨_,hg,hh,_⟩:=WU.1 h;have h1:=Yx.1 hg;have h2:=Yx.1 hh;refine ⟨?_,?_,h1.2,h2.2⟩
 ·rw[h1.1];exact (Wq _ _).filter _
 rw[h2.1];exact (Wq _ _).filter _
theorem Qa5 {p:Zm}:VA p=[]↔qx p=[]:=by
 constructor
 ·intro h;refine List.eq_nil_iff_forall_not_mem.2 fun t ht=>?_;obtain ⟨x,hx,_⟩:=J0 ht;grind
 ·intro h;refine List.eq_nil_iff_forall_not_mem.2 fun x hx=>?_;obtain ⟨_,_,h1,h2⟩:=ZO hx;obtain ⟨b,hb⟩:=QLy _ h1;obtain ⟨a,ha⟩:=QLy _ h2;have:=YR hx hb ha;grind
theorem QuY {l:List Int} (h:l.Pairwise (·<·)) (hne:l≠[]):l.head hne∈l/\l.getLast hne∈l/\∀ x∈l,l.head hne<=x/\x<=l.getLast hne:=by
 refine ⟨List.head_mem hne,List.getLast_mem hne,fun x hx=>⟨?_,?_⟩⟩
 ·cases l with
  | nil=>cases hx
  | cons a r =>
    rcases QKU.1 hx with rfl | hx
    ·grind
    exact Int.le_of_lt (List.rel_of_pairwise_cons h hx)
 ·obtain ⟨i,hi,rfl⟩:=QLh hx;rw[List.getLast_eq_getElem];rcases Nat.lt_or_eq_of_le (Nat.le_sub_one_of_lt hi) with h1 | h1
  ·exact Int.le_of_lt (QLG.1 h i _ hi (by omega) h1)
  grind
def Xr (l:List Int):Int:=l.headD 0
def Z7 (l:List Int):Int:=l.getLastD 0
theorem Xj {l:List Int} (h:l.Pairwise (·<·)) (hne:l≠[]):Xr l∈l/\Z7 l∈l/\∀ x∈l,Xr l<=x/\x<=Z7 l:=by
 have:=QuY h hne
 have e1:Xr l=l.head hne:=by cases l with
  | cons a r=>rfl
  | _=>grind
 have e2:Z7 l=l.getLast hne:=by cases l with
  | cons a r =>
    unfold Z7;grind
  | _=>grind
 grind
theorem QwC {l:List Int} {a b:Int} (hne:l≠[]) (ha:a∈l) (hb:b∈l) (h:∀ x∈l,a<=x/\x<=b):span l=(a,b):=by
 have h1:=Us (fun x:Int=>x) l a ha;have h2:=Us (fun x:Int=>x) l b hb;have h3:=QwB (fun x:Int=>x) a l hne (fun x hx=>(h x hx).1);have h4:=QwA (fun x:Int=>x) b l hne (fun x hx=>(h x hx).2);simp only[List.map_id'] at h1 h2 h3 h4;grind
def QaU (t:TrU):Int:=t.yb-t.ya
def loB (x:Bun):Int:=Xr x.yb.lens-Z7 x.ya.lens
def hiB (x:Bun):Int:=Z7 x.yb.lens-Xr x.ya.lens
def QeL (p:Zm):Int × Int:=((span ((VA p).map loB)).1,(span ((VA p).map hiB)).2)
theorem Qip (p:Zm):QeL p=span ((qx p).map QaU):=by
 by_cases hn:qx p=[]
 ·have:=Qa5.2 hn;simp[QeL,hn,this]
 ·have hb:VA p≠[]:=fun h=>hn (Qa5.1 h);have xb:(VA p).map loB≠[]:=by simpa using hb
  have hhi:(VA p).map hiB≠[]:=by simpa using hb
  have h1:=(QeQ _ xb).1;have h2:=(QeQ _ hhi).2;symm;obtain ⟨x,hx,ex⟩:=QKT.1 h1;obtain ⟨y,hy,ey⟩:=QKT.1 h2;obtain ⟨s1,s2,s3,s4⟩:=ZO hx;obtain ⟨s5,s6,s7,s8⟩:=ZO hy;refine QwC (by simpa using hn) ?_ ?_ ?_
  ·refine QKT.2 ⟨_,YR hx (Xj s1 s3).2.1 (Xj s2 s4).1,?_⟩;rw[<- ex];rfl
  ·refine QKT.2 ⟨_,YR hy (Xj s5 s7).1 (Xj s6 s8).2.1,?_⟩;rw[<- ey];rfl
  ·intro z hz;obtain ⟨t,ht,rfl⟩:=QKT.1 hz;obtain ⟨u,hu,_,hub,hua⟩:=J0 ht;obtain ⟨u1,u2,u3,u4⟩:=ZO hu;have e1:=(Xj u1 u3).2.2 _ hub;have e2:=(Xj u2 u4).2.2 _ hua;have f1:=(Us loB _ _ hu).1;have f2:=(Us hiB _ _ hu).2;simp only[loB,hiB,QaU] at *;omega
def XI (b a part:Int):Bool:=decide (1000*(a-b)<=part*b)
theorem Qea {b a b' a' part:Int} (hp:0<=part) (hb:b<=b') (ha:a'<=a) (h:XI b a part=true):XI b' a' part=true:=by
 simp only[XI,decide_eq_true_eq] at *;have:part*b<=part*b':=QLJ hb hp;omega
def Qd8 (p:Zm) (part:Int):Int :=
 if (VA p).all fun x=>XI (Xr x.ya.lens) (Z7 x.yb.lens) part then 1 else if (VA p).any fun x=>XI (Z7 x.ya.lens) (Xr x.yb.lens) part then 3 else 2
theorem Qpg (p:Zm) (part:Int) (hp:0<=part):Qd8 p part=if (qx p).all fun t=>XI t.ya t.yb part then 1 else if (qx p).any fun t=>XI t.ya t.yb part then 3 else 2:=by
 have e1:((VA p).all fun x=>XI (Xr x.ya.lens) (Z7 x.yb.lens) part)=((qx p).all fun t=>XI t.ya t.yb part):=by
  rw[Bool.eq_iff_iff];simp only[QLk];constructor
  ·intro h t ht;obtain ⟨u,hu,_,hub,hua⟩:=J0 ht;obtain ⟨u1,u2,u3,u4⟩:=ZO hu;exact Qea hp ((Xj u1 u3).2.2 _ hub).1 ((Xj u2 u4).2.2 _ hua).2 (h u hu)
  intro h x hx;obtain ⟨u1,u2,u3,u4⟩:=ZO hx;exact h _ (YR hx (Xj u1 u3).1 (Xj u2 u4).2.1)
 have e2:((VA p).any fun x=>XI (Z7 x.ya.lens) (Xr x.yb.lens) part)=((qx p).any fun t=>XI t.ya t.yb part):=by
  rw[Bool.eq_iff_iff];simp only[List.any_eq_true];constructor
  ·rintro ⟨x,hx,h⟩;obtain ⟨u1,u2,u3,u4⟩:=ZO hx;exact ⟨_,YR hx (Xj u1 u3).2.1 (Xj u2 u4).1,h⟩
  rintro ⟨t,ht,h⟩;obtain ⟨u,hu,_,hub,hua⟩:=J0 ht;obtain ⟨u1,u2,u3,u4⟩:=ZO hu;exact ⟨u,hu,Qea hp ((Xj u1 u3).2.2 _ hub).2 ((Xj u2 u4).2.2 _ hua).1 h⟩
 unfold Qd8;rw[e1,e2]
def QKr (p:Zm):Option Nat:=(List.range 1001).find? fun (i:Nat)=>decide (Qd8 p i=1)
def QwN (p:Zm) (rod:Nat):List Int:=ZE ((VA p).map fun x=>x.zi.getD rod 0)
theorem QoN {p:Zm} {rod:Nat} {n:Int}:n∈QwN p rod↔∃ t∈qx p,t.zi.getD rod 0=n:=by
 unfold QwN;rw[XL,QKT];constructor
 ·rintro ⟨x,hx,e⟩;obtain ⟨_,_,h1,h2⟩:=ZO hx;obtain ⟨b,hb⟩:=QLy _ h1;obtain ⟨a,ha⟩:=QLy _ h2;exact ⟨_,YR hx hb ha,e⟩
 rintro ⟨t,ht,e⟩;obtain ⟨x,hx,h1,_⟩:=J0 ht;grind
end Go.Pf
namespace Go.Pf
open Go
set_option maxRecDepth 8000
abbrev Txt:=List UInt8
def QdU (w:Txt):Option Int :=
 if w.head?=some 45 then
  (if (w.drop 1).length<=9/\(w.drop 1).head?≠some 48 then (Lib.decNat (w.drop 1)).map fun (m:Nat) => -(m:Int) else none)
 else if w.length<=9/\(w.head?=some 48->w.length<=1) then (Lib.decNat w).map fun (m:Nat)=>(m:Int) else none
theorem QhS (u:Nat):Lib.decDigits u≠[]:=by
 rw[Lib.decDigits];split<;>simp
theorem Wu:∀ (l:Txt) (acc m:Nat) (c:UInt8),Lib.decFrom acc l=some m->Lib.decFrom acc (l++[c])=(Lib.digitVal c).map fun d=>m*10+d
 | [],acc,m,c,h=>by
   cases h;simp only[QLm,Lib.decFrom];grind
 | b::r,acc,m,c,h=>by
   simp only[QLp,Lib.decFrom] at h |-;cases hb:Lib.digitVal b with
   | some d =>
     rw[hb] at h;exact Wu r _ m c h
   | _=>grind
theorem QcN {d:Nat} (h:d<10):Lib.digitVal (UInt8.ofNat (48+d))=some d:=by
 have:(UInt8.ofNat (48+d)).toNat=48+d:=by simp;omega
 unfold Lib.digitVal;grind
theorem Qdl (u:Nat):Lib.decFrom 0 (Lib.decDigits u)=some u:=by
 induction u using Nat.strongRecOn with
 | ind u ih =>
   rw[Lib.decDigits];split
   ·rename_i h;have:=QcN h;simp only[Lib.decFrom,this];simp
   rename_i h;rw[Wu _ _ _ _ (ih (u / 10) (by omega)),QcN (by omega)];simp;omega
theorem qg (u:Nat):Lib.decNat (Lib.decDigits u)=some u:=by
 unfold Lib.decNat;rw[if_neg (by simpa[List.isEmpty_iff] using QhS u),Qdl]
theorem Wm (u:Nat):∃ d,d<10/\(Lib.decDigits u).head?=some (UInt8.ofNat (48+d))/\(d=0->u=0):=by
 induction u using Nat.strongRecOn with
 | ind u ih =>
   rw[Lib.decDigits];split
   ·rename_i h;exact ⟨u,h,by simp,id⟩
   rename_i h;obtain ⟨d,h1,h2,h3⟩:=ih (u / 10) (by omega);grind
theorem Qss {d:Nat} (h:d<10):UInt8.ofNat (48+d)≠45:=by
 intro e;have:=congrArg UInt8.toNat e;simp at this;omega
theorem QdT {d:Nat} (h:d<10) (e:UInt8.ofNat (48+d)=48):d=0:=by
 have:=congrArg UInt8.toNat e;simp at this;omega
theorem Qab:∀ (n:Nat) (l:Txt),l.length=n->∀ u,Lib.decNat l=some u->(l.head?=some 48->l.length<=1)->Lib.decDigits u=l
 | 0,l,hl,u,h,_=>by
   have:=QKR hl;subst this;cases h
 | n+1,l,hl,u,h,hz=>by
   have hne:l≠[]:=fun e=>by grind
   obtain ⟨r,c,rfl⟩:∃ r c,l=r++[c]:=⟨l.dropLast,l.getLast hne,(QLM hne).symm⟩;have hr:r.length=n:=by simpa using hl
   have h':Lib.decFrom 0 (r++[c])=some u:=by
    unfold Lib.decNat at h;grind
   have hdv:∀ d,Lib.digitVal c=some d->d<10/\c=UInt8.ofNat (48+d):=fun d hd=>by
    unfold Lib.digitVal at hd;split at hd
    ·rename_i hc;injection hd with hd;refine ⟨by omega,UInt8.toNat_inj.1 ?_⟩;simp;omega
    cases hd
   cases hm:Lib.decFrom 0 r with
   | none =>
     exfalso;have:∀ (l:Txt) (acc:Nat),Lib.decFrom acc l=none->Lib.decFrom acc (l++[c])=none:=by
      intro l;induction l with
      | nil=>intro acc h;cases h
      | cons b t ih =>
        intro acc h;simp only[QLp,Lib.decFrom] at h |-
        grind
     grind
   | some m =>
     rw[Wu r 0 m c hm,QKK] at h';obtain ⟨d,hd,rfl⟩:=h';obtain ⟨hd10,rfl⟩:=hdv d hd;by_cases hr0:r=[]
     ·subst hr0;cases hm;rw[Lib.decDigits];simp[hd10]
     ·have hpos:0<r.length:=QLo.2 hr0;have hhead:r.head?≠some 48:=fun e=>by
       grind
      have hm':Lib.decNat r=some m:=by
       unfold Lib.decNat;grind
      have ih:=Qab n r hr m hm' (fun e=>absurd e hhead);have hm0:m≠0:=fun e=>by
       subst e;have e1:Lib.decDigits 0=[48]:=by rw[Lib.decDigits];rfl
       grind
      rw[Lib.decDigits,dif_neg (by omega)]
      grind
theorem QoG {w:Txt} {v:Int} (h:QdU w=some v):Lib.itoa v=w/\(Lib.trimPrefix w [45]).length<=9/\Lib.atoiAll w=.ok v:=by
 unfold QdU at h;split at h
 ·rename_i h45;obtain ⟨r,rfl⟩:∃ r,w=45::r:=by
   cases w with
   | _=>grind
  simp only[List.drop_succ_cons,List.drop_zero] at h;split at h
  ·rename_i hc;rw[QKK] at h;obtain ⟨m,hm,rfl⟩:=h;have hd:=Qab _ r rfl m hm (fun e=>absurd e hc.2);have hm1:1<=m:=by
    rcases Nat.eq_zero_or_pos m with h0 | h0
    ·subst h0;exfalso;have e1:Lib.decDigits 0=[48]:=by rw[Lib.decDigits];rfl
     grind
    exact h0
   refine ⟨by rw[Lib.itoa_neg m hm1,hd],by simp[Lib.trimPrefix,Lib.hasPrefix,hc.1],?_⟩;rw[Lib.atoiAll_short _ (by simp;omega)]
   simp[Lib.atoi,hm,Lib.NumEnd.ofOption]
  cases h
 ·rename_i h45;split at h
  ·rename_i hc;rw[QKK] at h;obtain ⟨m,hm,rfl⟩:=h;have hd:=Qab _ w rfl m hm hc.2;obtain ⟨d,hd10,hh,_⟩:=Wm m;rw[hd] at hh;refine ⟨by rw[Lib.itoa_nonneg,hd],?_,?_⟩
   ·have:Lib.hasPrefix w [45]=false:=by
     cases w with
     | nil=>rfl
     | cons a r =>
       have:a≠45:=fun e=>h45 (by rw[e];rfl);simp[Lib.hasPrefix,List.isPrefixOf,Ne.symm this]
    simp[Lib.trimPrefix,this,hc.1]
   rw[Lib.atoiAll_short _ (by omega)]
   cases w with
   | nil=>cases hm
   | cons a r =>
     have e45:a≠45:=fun e=>h45 (by rw[e];rfl);have e43:a≠43:=fun e=>by
      subst e;simp at hh;have:=congrArg UInt8.toNat hh;simp at this;omega
     simp[Lib.atoi,e45,e43,hm,Lib.NumEnd.ofOption]
  ·cases h
theorem Qo4 {w:Txt} {v:Int} (h1:Lib.itoa v=w) (h2:(Lib.trimPrefix w [45]).length<=9):QdU w=some v:=by
 unfold Lib.itoa at h1;split at h1
 ·rename_i hv;subst h1;obtain ⟨d,hd10,hh,h0⟩:=Wm v.natAbs;have hz:(Lib.decDigits v.natAbs).head?≠some 48:=fun e=>by
   rw[hh] at e;injection e with e;have:=h0 (QdT hd10 e);omega
  have hl:(Lib.decDigits v.natAbs).length<=9:=by simpa[Lib.trimPrefix,Lib.hasPrefix] using h2
  simp[QdU,hz,hl,qg];omega
 rename_i hv;subst h1;obtain ⟨d,hd10,hh,h0⟩:=Wm v.toNat;have h45:(Lib.decDigits v.toNat).head?≠some 45:=fun e=>by
  rw[hh] at e;injection e with e;exact Qss hd10 e
 have hp:Lib.hasPrefix (Lib.decDigits v.toNat) [45]=false:=by
  cases hw:Lib.decDigits v.toNat with
  | nil=>rfl
  | cons a r =>
    have:a≠45:=fun e=>h45 (by rw[hw,e];rfl);simp[Lib.hasPrefix,List.isPrefixOf,Ne.symm this]
 have hl:(Lib.decDigits v.toNat).length<=9:=by simpa[Lib.trimPrefix,hp] using h2
 have h48:(Lib.decDigits v.toNat).head?=some 48->(Lib.decDigits v.toNat).length<=1:=fun e=>by
  rw[hh] at e;injection e with e;have:=h0 (QdT hd10 e);rw[this,Lib.decDigits];simp
 unfold QdU;rw[if_neg h45,if_pos ⟨hl,h48⟩,qg];simp;omega
end Go.Pf
namespace Go.Pf
open Go Go.Ev Go.Proofs Go.RowKit Go.Proofs.Tryz
set_option maxRecDepth 8000
structure Qk where
 ze:Qe
 zq:Zm
@[simp] def hoC (h:Qk):List IV:=[Qz h.ze.zc.za,Qu h.ze.zc.zg,.int .i64 h.ze.zc.zh,Zt h.ze.zb.zd,.int .i64 h.ze.zb.zr,.int .i64 h.ze.zb.zu,.int .i64 h.ze.zb.zw,J1 h.ze.zb.zk,.int .i64 h.ze.zb.zh,
 YW h.ze.zf,.int .i64 h.ze.zo,.int .i64 h.ze.z6,.int .i64 h.zq.yc,.int .i64 h.zq.z8,.int .i64 h.zq.z9,QiG h.zq.zi,Qay h.zq.zj,.int .i64 h.zq.zh]
@[simp] def hoV (h:Qk):IV:=.agg (hoC h)
def okH (h:Qk):Prop:=OkP h.ze/\OkU h.zq
noncomputable instance (h:Qk):Decidable (okH h):=Classical.propDecidable _
def Qvj:Txt:=[121,101,115]
def tNo:Txt:=[110,111]
def Qgl:Txt:=[110,111,110,101]
def Qin:Txt:=[119,104,97,116]
def Qn9:Txt:=[115,117,114,101,108,121]
def Qvl:Txt:=[110,101,118,101,114]
def Qlr:Txt:=[112,101,114,104,97,112,115]
def YO:List Txt->Txt
 | []=>[]
 | [x]=>x
 | x::y::r=>x++32::YO (y::r)
def YN (l:List Int):Txt:=if l=[] then Qgl else YO (l.map Lib.itoa)
def X7 (l:List Int) (e:Int):Txt:=if e=0 then YN l else if e=3 then Qgl else tNo
def Qd1 (n e:Int):Txt:=if e=0 then (if n=1 then Qn9 else if n=2 then Qvl else Qlr) else X7 [] e
inductive Qf5 where
 | weld | cut | turn | prove | undo | see | balance | read
 | who | wher | first | pulls | z5 | loads | y7 | y6 | y8 | opn | good | worth | zm | stretch | best | holds | zi
 deriving DecidableEq
def Xm:List (Txt × Nat × Qf5):=[
 ([119,101,108,100],4,.weld),([99,117,116],2,.cut),([116,117,114,110],0,.turn),([112,114,111,118,101],3,.prove),([117,110,100,111],0,.undo),
 ([115,101,101],5,.see),([98,97,108,97,110,99,101],4,.balance),([114,101,97,100],7,.read),
 ([119,104,111],1,.who),([119,104,101,114,101],1,.wher),([102,105,114,115,116],0,.first),([112,117,108,108,115],2,.pulls),([98,114,111,107,101],1,.z5),
 ([108,111,97,100,115],1,.loads),([102,97,105,108,117,114,101,115],0,.y7),([99,111,110,100,101,109,110,101,100],0,.y6),([112,114,111,118,101,100],1,.y8),
 ([111,112,101,110],0,.opn),([103,111,111,100],0,.good),([119,111,114,116,104],0,.worth),([119,101,105,103,104,116],0,.zm),([115,116,114,101,116,99,104],0,.stretch),
 ([98,101,115,116],0,.best),([104,111,108,100,115],1,.holds),([114,111,100,115],1,.zi)]
def Vz (w:Txt):Option (Nat × Qf5):=(Xm.find? fun p=>p.1==w).map (·.2)
def nI (l:List Int) (i:Nat):Int:=l.getD i 0
def Qp (h:Qk) (d:Qv):Qk:={ h with ze:={ h.ze with zc:={ h.ze.zc with za:=h.ze.zc.za++[d] } } }
def QfK (h:Qk) (v:Qf5) (l:List Int):Option Qk :=
 match v with
 | .weld=>some (Qp h ⟨1,nI l 0,nI l 1,nI l 2,nI l 3⟩)
 | .cut=>some (Qp h ⟨2,nI l 0,nI l 1,0,0⟩)
 | .turn=>some (Qp h ⟨3,0,0,0,0⟩)
 | .prove=>some { h with ze:={ h.ze with zc:={ h.ze.zc with za:=h.ze.zc.za++[⟨4,0,0,0,0⟩] },zf:=h.ze.zf++[⟨nI l 0,nI l 1,nI l 2⟩] } }
 | .undo=>match h.ze.zc.za.getLast? with
   | none=>none
   | some d=>some { h with ze:={ h.ze with zc:={ h.ze.zc with za:=h.ze.zc.za.dropLast },zf:=if d.zp=4 then h.ze.zf.dropLast else h.ze.zf } }
 | .see=>some { h with ze:={ h.ze with zc:={ h.ze.zc with zg:=h.ze.zc.zg++[⟨nI l 0,nI l 1,nI l 2,nI l 3,nI l 4⟩] } } }
 | .balance=>some { h with ze:={ h.ze with zb:={ h.ze.zb with zk:=h.ze.zb.zk++[⟨nI l 0,nI l 1,nI l 2,nI l 3⟩] } } }
 | .read=>some { h with zq:={ h.zq with zj:=h.zq.zj++[⟨nI l 0,nI l 1,nI l 2,nI l 3,nI l 4,nI l 5,nI l 6⟩] } }
 | _=>none
def UF:Qf5->Bool
 | .weld | .cut | .turn | .prove | .undo | .see | .balance | .read=>true
 | _=>false
def QZ (out:List Txt) (c:UInt8):List Txt:=if c=32 then out++[[]] else out.set (out.length-1) (out.getD (out.length-1) []++[c])
def spl (s:Txt):List Txt:=s.foldl QZ [[]]
@[simp] def strs (l:List Txt):IV:=.sl 1 (l.map fun s=>[.str s])
theorem Qm3 (x:List Txt) (l:Txt) (c:UInt8):QZ (x++[l]) c=x++QZ [l] c:=by
 unfold QZ;grind
theorem Qir (s:Txt):∀ (x:List Txt) (l:Txt),s.foldl QZ (x++[l])=x++s.foldl QZ [l]:=by
 induction s with
 | nil=>intro x l;rfl
 | cons c s ih =>
   intro x l;simp only[QLH];rw[Qm3];by_cases h:c=32
   ·have e:QZ [l] c=[l]++[[]]:=by simp[QZ,h]
    grind
   have e:QZ [l] c=[l++[c]]:=by simp[QZ,h]
   rw[e,ih]
theorem Qoc (s:Txt):∀ l:Txt,s.foldl QZ [l]≠[]:=by
 induction s with
 | nil=>intro l;simp
 | cons c s ih =>
   intro l;simp only[QLH];by_cases h:c=32
   ·have e:QZ [l] c=[l]++[[]]:=by simp[QZ,h]
    rw[e,Qir];simp
   have e:QZ [l] c=[l++[c]]:=by simp[QZ,h]
   grind
theorem VM (a b:Txt):spl (a++32::b)=spl a++spl b:=by
 unfold spl;rw[QL3];have h:=Qoc a [];generalize a.foldl QZ [[]]=x at *;obtain ⟨y,l,rfl⟩:∃ y l,x=y++[l]:=⟨x.dropLast,x.getLast h,(QLM h).symm⟩;simp only[QLH];have e:QZ (y++[l]) 32=(y++[l])++[[]]:=by simp[QZ]
 rw[e,Qir]
theorem Uq (a:Txt) (h:32 ∉ a):spl a=[a]:=by
 have:∀ (a l:Txt),32 ∉ a->a.foldl QZ [l]=[l++a]:=by
  intro a;induction a with
  | nil=>intro l _;simp
  | cons c s ih =>
    intro l h;simp only[QKU,not_or] at h;have e:QZ [l] c=[l++[c]]:=by simp[QZ,Ne.symm h.1]
    grind
 have:=this a [] h;simpa[spl] using this
theorem Yl (s:Txt):spl (32::s)=[]::spl s:=by
 have:=VM [] s;simpa[spl] using this
theorem Qr8 (s:Txt):∀ l:Txt,s.foldl QZ [l]=(l++(spl s).headD [])::(spl s).tail:=by
 induction s with
 | nil=>intro l;simp[spl]
 | cons c s ih =>
   intro l;by_cases h:c=32
   ·subst h;rw[Yl,QLH];have e:QZ [l] 32=[l]++[[]]:=by simp[QZ]
    rw[e,Qir];simp[spl]
   have e:∀ l,QZ [l] c=[l++[c]]:=fun l=>by simp[QZ,h]
   rw[QLH,e,ih]
   have:spl (c::s)=([c]++(spl s).headD [])::(spl s).tail:=by
    unfold spl;grind
   grind
theorem QeP (c:UInt8) (s:Txt) (h:c≠32):spl (c::s)=(c::(spl s).headD [])::(spl s).tail:=by
 have e:QZ [[]] c=[[c]]:=by simp[QZ,h]
 unfold spl;rw[QLH,e,Qr8];rfl
theorem QdC:∀ s:Txt,Lib.splitK [32] 0 (Lib.count s [32]) s=spl s
 | []=>by
   rw[Lib.count_miss (by simp[Lib.index])]
   rfl
 | c::s=>by
   have ih:=QdC s;by_cases h:c=32
   ·subst h;have hix:Lib.index ((32:UInt8)::s) [32]=0:=by rw[Lib.index];grind
    rw[Lib.count_cons_eq,Nat.add_comm,Lib.splitK,hix,Yl,<- ih];simp
   rw[Lib.count_cons_ne c 32 s h,QeP c s h,<- ih];have hp:([32]:List UInt8).isPrefixOf (c::s)=false:=by grind
   have hix:Lib.index (c::s) [32]=if Lib.index s [32] == -1 then -1 else Lib.index s [32]+1:=by rw[Lib.index,hp];simp
   cases hk:Lib.count s [32] with
   | zero=>simp[Lib.splitK]
   | succ k =>
     have hm:¬ Lib.index s [32] = -1:=fun e=>by rw[Lib.count_miss e] at hk;cases hk
     have hge:=Lib.index_ge s [32];obtain ⟨j,hj⟩:∃ j:Nat,Lib.index s [32]=j:=⟨(Lib.index s [32]).toNat,by omega⟩;have h1:¬ ((j:Int) == -1)=true:=by simp
     have h2:¬ ((j:Int)+1 == -1)=true:=by simp;omega
     have h3:((j:Int)+1).toNat=j+1:=by omega
     simp only[Lib.splitK,hix,hj,if_neg h1,if_neg h2,h3,QMn];simp
theorem QeO:∀ s:Txt,(spl s).length<=s.length+1
 | []=>by simp[spl]
 | c::s=>by
   have ih:=QeO s;by_cases h:c=32
   ·subst h;rw[Yl];simp;exact ih
   rw[QeP c s h];simp;omega
theorem Qan (s:Txt):∀ x∈spl s,x.length<=s.length:=by
 induction s with
 | nil=>intro x hx;simp[spl] at hx;subst hx;simp
 | cons c s ih =>
   intro x hx;by_cases h:c=32
   ·subst h;rw[Yl] at hx;grind
   rw[QeP c s h] at hx;rcases QKU.1 hx with rfl | hx
   ·cases hs:spl s with
    | _=>grind
   have:=ih x (List.mem_of_mem_tail hx);simp;omega
end Go.Pf
namespace Go.Ev
open Go Go.RowKit
section
variable {P:Program} {K:World->Prop}
theorem QdZ (ob j i):Qc [(j,ob)] i=if i=j then some ob else none:=by simp[Qc]
theorem Qdh (j) {f args xs o q e sz rows mv} (hg:Qh7 P K f xs q e sz rows mv) (hx:imms (Qc o) 40 args=some xs) :
  YD P K f args o [] (ren j q) [(j,XE e sz rows mv)]:=by
 intro w ok L vs hK hnew hown hlaid hvl hvs
 let a:Act:={ tmps:=vs.toArray,defers:=[] }
 let w0:XH:=⟨w,FrO w (Qc o) L,fun _ h=>h.1,fun t=>a.tmps.getD t undef⟩
 have hget:∀ t (xa:t<vs.length),a.tmps.getD t undef=vs[t]:=fun t xa=>by
  simp[a,QLt,xa]
 have hrel:Rel ok ⟨vs.length,[]⟩ w0 (look (Yi 0 args)) (Qc o) a w L:=by
  refine ⟨Q8.refl _ _,⟨[],rfl,QMa,by simp⟩,?_,fun t=>?_,hlaid.y9,hlaid.apart,fun t _=>rfl⟩
  ·simp[a]
  rcases V5 args 0 t with h1 | ⟨z,_,h2,h3⟩
  ·rw[h1];exact .iv _ _ (.any _)
  rw[h3];simp only[Nat.sub_zero] at h2;have xa:t<vs.length:=by rw[hvl];exact (QKG.1 h2).1
  rw[hget t xa];exact hvs t z _ h2 (QKF xa)
 have hs:=(YU hrel (ok1:=ok) (fun b hb=>hb.1) (lo':=Qc o) (fun _ _ h=>h) (fun id ob b hob hb=>hown b ⟨id,ob,hob,hb⟩) 40).2 args xs hx;refine (hg w ok vs (hK w (Q8.refl _ _)) hnew (by rw[hvl,hs.1]) fun k x u hk hu=>?_).mono fun x w' ⟨v,l,he,hrep,hq,hb⟩=>⟨v,fun _=>l,he,?_,?_,Below.keep hb fun b h=>h.1,by simp⟩
 ·have xa:k<args.length:=by rw[<- hs.1];exact (QKG.1 hk).1
  exact hs.2 k args[k] x u (QKF xa) hk (hvs k _ u (QKF xa) hu)
 ·refine ⟨fun id ob hob=>?_,fun i k oi oj b hij hi hj=>?_⟩
  ·rw[QdZ] at hob;split at hob
   ·injection hob with hob;subst hob;cases l<;>simp only[XE,QG] at hrep |-;obtain ⟨h1,h2,h3,h4,h5⟩:=hrep;refine ⟨⟨h1.own,fun k hk hf=>h1.free k hk hf.1⟩,h2,h3,h4,fun i k c x u hc hx hu=>?_⟩;have hr:=h5 i k c x u hc hx hu;rw[QKN,QKK] at hc;obtain ⟨c',_,rfl⟩:=hc;rw[QKN,QKK] at hx;obtain ⟨x',_,rfl⟩:=hx;cases hr with
    | iv _ _ r=>exact .iv _ _ (r.mono fun b hb _=>⟨⟨hb.1,fun id o ho=>hb.2 0 _ (show one (XE e sz rows mv) 0=some (XE e sz rows mv) from rfl)⟩,rfl⟩)
   cases hob
  rw[QdZ] at hi hj;grind
 ·refine QiQ (fun b hb=>⟨hb.1,fun id o ho=>hb.2 0 _ (show one (XE e sz rows mv) 0=some (XE e sz rows mv) from rfl)⟩) (i:=0) (j:=j) (ob:=XE e sz rows mv) (by simp[one]) (by simp[Qc]) rfl hq
end
section
variable {P:Program} {K:World->Prop}
theorem Qb3 {ok w' fr o1 L'} (h:Qlk fr ok w' (Qc o1) L') (xa:∀ b,fr b->b<w'.heap.size) :
  Rel ok ⟨0,[]⟩ ⟨w',fr,xa,fun _=>undef⟩ (look []) (Qc o1) { tmps:=#[],defers:=[] } w' L' :=
 ⟨Q8.refl _ _,⟨[],rfl,QMa,by simp⟩,rfl,fun t=>.iv _ _ (.any _),h.y9,h.apart,fun t ht=>by simp at ht⟩
theorem Vo (hK:∀ w w',K w->Below w.heap.size w w'->K w') {f xs y o1 r} (h:YD P K f (xs.map .iv) [] [] y o1) (hi:imm (Qc o1) 40 y=some r):Good P K f xs r:=by
 intro w ok vs hk hnew hl hvs;have hn:∀ b,¬ qt (Qc []) (fun _=>.one 0) b:=fun b ⟨id,ob,h1,_⟩=>by simp[Qc] at h1
 have hFr:∀ b,b<w.heap.size->FrO w (Qc []) (fun _=>.one 0) b:=fun b hb=>⟨hb,hn b⟩
 refine (h w ok (fun _=>.one 0) vs (fun w' y5=>hK w w' hk (y5.mono hFr).below) hnew (fun b hb=>absurd hb (hn b)) ⟨by simp[Qc],by simp[Qc]⟩ (by simpa using hl) (fun k x u hx hu=>?_)).mono
  fun e w' ⟨v,L',he,hlaid,hrep,y5,_⟩=>⟨v,he,?_,(y5.mono hFr).below⟩
 ·rw[QKN,QKK] at hx;obtain ⟨z,hz,rfl⟩:=hx;exact .iv _ _ ((hvs k z u hz hu).mono fun b hb _=>⟨⟨hb,by simp[Qc]⟩,rfl⟩)
 ·have xa:∀ b,FrO w (Qc []) (fun _=>.one 0) b->b<w'.heap.size:=fun b hb=>QLn hb.1 y5.size;refine (YU (Qb3 hlaid xa) (ok1:=ok) (fun b hb=>hb.1) (lo':=Qc o1) (fun _ _ h=>h) (fun id ob b hob hb=>?_) 40).1 y v r hrep hi;by_cases hbl:b<w.heap.size
  ·exact absurd (hFr b hbl) ((hlaid.y9 id ob hob).lt hb).1
  ·exact hnew b (QLW.1 hbl)
theorem YD.give {f args o rows st r cs xs} (h:YD P K f args o st (.iv r) ((0,.box cs)::rows)) (hst0:∀ i∈st,i=0)
  (hx:imms (fun i=>if i=0 then Option.none else Qc ((0,.box cs)::rows) i) 40 cs=some xs):YD P K f args o st (.iv r) [(0,.box (xs.map .iv))]:=by
 intro w ok L vs hK hnew hown hlaid hvl hvs;refine (h w ok L vs hK hnew hown hlaid hvl hvs).mono fun e w' ⟨v,L',he,hl',hrep,y5,hst⟩=>⟨v,L',he,?_,?_,y5,?_⟩
 ·have h0:Qc ((0,AO.box cs)::rows) 0=some (.box cs):=rfl;have xa:∀ b,FrO w (Qc o) L b->b<w'.heap.size:=fun b hb=>QLn hb.1 y5.size;have one0:∀ i ob,Qc [(0,AO.box (xs.map AV.iv))] i=some ob->i=0/\ob=.box (xs.map .iv):=fun i ob hob=>by
   simp only[Qc] at hob;grind
  have hsub:∀ b,okL ok (Qc ((0,AO.box cs)::rows)) L' b->okL ok (Qc [(0,AO.box (xs.map AV.iv))]) L' b:=fun b hb=>⟨hb.1,fun i ob hob=>by
   obtain ⟨rfl,rfl⟩:=one0 i ob hob;exact hb.2 0 _ h0⟩
  have hs:=(YU (Qb3 hl' xa) (ok1:=okL ok (Qc [(0,AO.box (xs.map AV.iv))]) L') hsub (lo':=fun i=>if i=0 then Option.none else Qc ((0,.box cs)::rows) i)
   (fun id ob hob=>by
     split at hob
     ·cases hob
     exact hob)
   (fun id ob b hob hb=>by
     split at hob
     ·cases hob
     rename_i hid;refine ⟨?_,fun i oi hi=>?_⟩
     ·have hnf:=((hl'.y9 id ob hob).lt hb).1;by_cases hbl:b<w.heap.size
      ·exact hown b (Classical.byContradiction fun hno=>hnf ⟨hbl,hno⟩)
      exact hnew b (QLW.1 hbl)
     obtain ⟨rfl,rfl⟩:=one0 i oi hi;exact fun hb0=>hl'.apart 0 id _ ob b (fun e=>hid e.symm) h0 hob hb0 hb) 40).2 cs xs hx
  refine ⟨fun i ob hob=>?_,fun i j oi oj b hij hi hj=>?_⟩
  ·obtain ⟨rfl,rfl⟩:=one0 i ob hob;have hob0:=hl'.y9 0 _ h0;generalize L' 0=l0 at hob0;cases l0 with
   | box b =>
     obtain ⟨hB,t,us,hb,hul,h1,hcx⟩:=hob0;refine ⟨hB,t,us,hb,by rw[QKX,hs.1];exact hul,h1,fun k x u hk hu=>?_⟩;grind
   | _=>exact hob0.elim
  grind
 ·cases hrep with
  | iv _ _ hr=>exact .iv _ _ (hr.mono fun b hb _=>⟨⟨hb.1,fun i ob hob=>by
    simp only[Qc] at hob;split at hob
    ·rename_i hi;subst hi;exact hb.2 0 _ (show Qc ((0,AO.box cs)::rows) 0=some (.box cs) from rfl)
    cases hob⟩,rfl⟩)
 intro i hi ob hob;have hi0:=hst0 i hi;subst hi0;obtain ⟨ob',h1,h2⟩:=hst 0 hi ob hob;have:ob'=.box cs:=by
  have h0:Qc ((0,AO.box cs)::rows) 0=some (.box cs):=rfl;rw[h0] at h1;injection h1 with h1;exact h1.symm
 subst this;refine ⟨_,rfl,?_⟩;cases ob<;>simp only[Jj] at h2 |-
 grind
end
end Go.Ev
namespace Go.Pf
open Go Go.Ev Go.Proofs Go.RowKit Go.Proofs.Tryz
set_option maxRecDepth 8000
structure KW (w:World):Prop where
 shaped:w.ShapedOpen prog
 tab : Lib.TabIs prog w "internal/strconv.uint64pow10" .u64 Lib.pow10Tab
 syn : ∃ tp p, w.var? prog "strconv.ErrSyntax" = some #[.iface tp p]
 rng : ∃ tp p, w.var? prog "strconv.ErrRange" = some #[.iface tp p]
theorem Qzq {n:String} {cs:Array Value} {w:World} (h:w.var? prog n=some cs):∃ g,prog.globalNamed n=some g/\g<w.heap.size:=by
 unfold World.var? at h;cases hg:prog.globalNamed n with
 | _=>grind
theorem QeG {n:String} {cs:Array Value} {w w':World} (h:w.var? prog n=some cs) (hb:Below w.heap.size w w'):w'.var? prog n=some cs:=by
 obtain ⟨g,hg,xa⟩:=Qzq h;exact var?_below hb hg xa h
theorem hKW:∀ w w',KW w->Below w.heap.size w w'->KW w':=fun w w' ⟨h1,h2,⟨t1,p1,h3⟩,t2,p2,h4⟩ hb =>
 ⟨World.ShapedOpen.keptBut h1 (hb.frame (fun _=>False)) (fun _ c=>c.elim),QeG h2 hb,⟨t1,p1,QeG h3 hb⟩,t2,p2,QeG h4 hb⟩
theorem Qza (s:Txt) (hs:s.length<=1000):Gd KW 137 [.str s,.str [32]] (strs (spl s)):=by
 intro w ok vs hk hok hl hx;obtain ⟨v0,v1,rfl⟩:∃ v0 v1,vs=[v0,v1]:=by
  match vs,hl with
  | [a,b],_=>grind
 have r0:=hx 0 _ v0 rfl rfl;have r1:=hx 1 _ v1 rfl rfl;cases r0;cases r1;have:=Any.strings_Split_shaped Tryz.laysM146 ⟨s.toArray⟩ ⟨[32].toArray⟩ w hk.shaped (by simp[ByteArray.size];omega) (by simp[ByteArray.size]);refine this.mono fun e w' ⟨he,hw⟩=>?_;subst he hw;have hb:=QB w (.cells ((Lib.splitB ⟨[32].toArray⟩ 0 (Lib.countB ⟨s.toArray⟩ ⟨[32].toArray⟩) ⟨s.toArray⟩).map Value.string).toArray (Tryz.laysM146_ren.t 9));have hd:(Lib.splitB ⟨[32].toArray⟩ 0 (Lib.countB ⟨s.toArray⟩ ⟨[32].toArray⟩) ⟨s.toArray⟩).map (·.data.toList)=spl s:=by
  rw[Lib.splitB_data];exact QdC s
 have hlen:=Lib.splitB_all ⟨[32].toArray⟩ (by simp[ByteArray.size]) 0 _ ⟨s.toArray⟩ rfl;generalize Lib.countB ⟨s.toArray⟩ ⟨[32].toArray⟩=n at *;generalize Lib.splitB ⟨[32].toArray⟩ 0 n ⟨s.toArray⟩=L at *;refine ⟨_,rfl,?_,hb⟩;have hl2:(spl s).length=n+1:=by grind
 have hnl:n+1<=maxLen:=by
  have:=QeO s;simp only[maxLen];omega
 have rep:=QF.sl (ok:=ok) (w:=w.alloc (.cells (L.map Value.string).toArray (Tryz.laysM146_ren.t 9))) 1 ((spl s).map fun s=>[IV.str s]) w.heap.size 0 (n+1) (fun k=>.string (L.getD k default)) (by simp[hl2]) hnl (by simp) (fun k hk=>?_) (fun i j c x hi hj=>?_)
 ·simpa[hl2] using rep
 ·simp[hl2] at hk;have hkl:k<L.length:=by omega
  refine ⟨hok _ (QKJ _),?_,rfl⟩;rw[QKY];exact Yr w _ _ k _ (by simp[hkl])
 ·simp only[QKN,QKK] at hi;obtain ⟨t,ht,rfl⟩:=hi;have hj0:j=0:=by
   grind
  subst hj0;simp at hj;subst hj;rw[<- hd,QKN,QKK] at ht;obtain ⟨z,hz,rfl⟩:=ht;have e:L.getD (i*1+0) default=z:=by simp[hz]
  rw[e];have:=QF.str (ok:=ok) (w:=w.alloc (.cells (L.map Value.string).toArray (Tryz.laysM146_ren.t 9))) z.data.toList;simpa using this
theorem Qjt (n:Int) (h : -9223372036854775808<=n/\n<=9223372036854775807):Gd KW 223 [.int .i64 n] (.str (Lib.itoa n)):=by
 intro w ok vs hk hok hl hx;obtain ⟨v0,rfl⟩:∃ v0,vs=[v0]:=by
  match vs,hl with
  | [a],_=>exact ⟨a,rfl⟩
 have r0:=hx 0 _ v0 rfl rfl;cases r0;refine (Any.strconv_Itoa Tryz.laysM171 n h.1 h.2 w hk.tab).mono fun e w' ⟨he,k,os,hw⟩=>?_;subst he hw;exact ⟨_,rfl,.str _,⟨rfl,rfl,rfl,by simp[Go.Sort.grow],fun b hb=>Array.getElem?_append_left hb⟩⟩
theorem Qyx (s p:Txt):Gd KW 224 [.str s,.str p] (.str (Lib.trimPrefix s p)):=by
 intro w ok vs hk hok hl hx;obtain ⟨v0,v1,rfl⟩:∃ v0 v1,vs=[v0,v1]:=by
  match vs,hl with
  | [a,b],_=>grind
 have r0:=hx 0 _ v0 rfl rfl;have r1:=hx 1 _ v1 rfl rfl;cases r0;cases r1;refine (Any.strings_TrimPrefix Tryz.lays101 ⟨s.toArray⟩ ⟨p.toArray⟩ w).mono fun e w' ⟨he,hw⟩=>?_;subst he hw;exact ⟨_,rfl,.str _,Below.refl _ _⟩
theorem Qyy (s:Txt) (hs:s.length<=1000):Gd KW 222 [.str s] (.xd (match Lib.atoiAll s with | .ok v=>[.int .i64 v,.lit .nilIface] | .range=>[.int .i64 (Lib.atoiSat s),.ifn] | _=>[.int .i64 0,.ifn])):=by
 intro w ok vs hk hok hl hx;obtain ⟨v0,rfl⟩:∃ v0,vs=[v0]:=by
  match vs,hl with
  | [a],_=>exact ⟨a,rfl⟩
 have r0:=hx 0 _ v0 rfl rfl;cases r0;have two:∀ (w':World) (n:Int) (z:IV) (u:Value),QF ok w' z u->QF ok w' (.xd [.int .i64 n,z]) (.tuple #[.int .i64 n,u]):=fun w' n z u hz=>by
  refine .xd [.int .i64 n,z] [.int .i64 n,u] rfl fun k x v hk hv=>?_
  match k,hk,hv with
  | 0,hk,hv=>injection hk with hk;injection hv with hv;subst hk hv;exact .int _ _
  | 1,hk,hv=>grind
  | k+2,hk,hv=>simp at hk
 cases h:Lib.atoiAll s with
 | ok v =>
   refine (Any.strconv_Atoi_ok Tryz.laysC172 ⟨s.toArray⟩ (by simp[ByteArray.size];omega) v (by simpa using h) w).mono fun e w' ⟨he,hw⟩=>?_;subst he;refine ⟨_,rfl,two _ _ _ _ (.lit _),?_⟩;rcases hw with rfl | ⟨t,rfl⟩
   ·exact Below.refl _ _
   exact ⟨rfl,rfl,rfl,by rw[Lib.bytesWorld_size];omega,fun j hj=>Lib.bytesWorld_at_old _ _ _ j hj⟩
 | range =>
   obtain ⟨tp,p,hv⟩:=hk.rng;refine (Any.strconv_Atoi_range_var Tryz.laysC172 ⟨s.toArray⟩ (by simp[ByteArray.size];omega) (by simpa using h) tp p w hv).mono fun e w' ⟨N,he,_,_,hb⟩=>?_;subst he;exact ⟨_,rfl,two _ _ _ _ (.ifn _ rfl),hb⟩
 | _ =>
   obtain ⟨tp,p,hv⟩:=hk.syn;refine (Any.strconv_Atoi_syntax_var Tryz.laysC172 ⟨s.toArray⟩ (by simp[ByteArray.size];omega) (by simpa using h) tp p w hv).mono fun e w' ⟨N,he,_,_,hb⟩=>?_;subst he;exact ⟨_,rfl,two _ _ _ _ (.ifn _ rfl),hb⟩
theorem Qyc (l:List Txt) (hl0:l.length<=1000000) (hj:(Lib.join l [32]).length<=140737488355328):Gd KW 267 [strs l,.str [32]] (.str (Lib.join l [32])):=by
 intro w ok vs hk hok hl hx;obtain ⟨v0,v1,rfl⟩:∃ v0 v1,vs=[v0,v1]:=by
  match vs,hl with
  | [a,b],_=>grind
 have r0:=hx 0 _ v0 rfl rfl;have r1:=hx 1 _ v1 rfl rfl;cases r1;have none_:∀ (a:Option Addr) (c:Nat),l=[]->Calls prog 267 [Value.slice a 0 c,.string ⟨[32].toArray⟩].toArray w (fun e w'=>∃ v,e=.returned v/\QF ok w' (.str (Lib.join l [32])) v/\Below w.heap.size w w'):=fun a c h0=>by
  subst h0;refine (Any.strings_Join_none Tryz.lays156 Tryz.Builder_Extra_156 a c ⟨[32].toArray⟩ w).mono fun e w' ⟨he,hw⟩=>?_;subst he hw;exact ⟨_,rfl,.str [],Below.refl _ _⟩
 simp only[strs] at r0;generalize hrows:(l.map fun s=>[IV.str s])=rows at r0;have hrl:rows.length=l.length:=by grind
 cases r0 with
 | sl _ _ b off cap u hlc hc hsz hu hxx =>
   have hcell:∀ (j:Nat) (x:ByteArray),(l.map fun s=>(⟨s.toArray⟩:ByteArray))[j]?=some x->w.cell? ⟨b,off+j,none⟩=some (.string x):=fun j x hj=>by
    rw[QKN,QKK] at hj;obtain ⟨s,hs,rfl⟩:=hj;have hjl:=(QKG.1 hs).1;have h1:=(hu j (by rw[hrl];omega)).2.1;have h2:=hxx j 0 [.str s] (.str s) (by grind) rfl;simp only[QL4,QLX] at h2;cases h2':u j with
    | _=>rw[h2'] at h2;first | (cases h2;rw[h1,h2']) | cases h2
   by_cases h0:l=[]
   ·grind
   have hbk:b<w.heap.size:=QLA w ⟨b,off+0,none⟩ (hu 0 (by grind)).2.1;have hd:(l.map fun s=>(⟨s.toArray⟩:ByteArray)).map (·.data.toList)=l:=by simp[List.map_map,Function.comp_def]
   have:=Any.strings_Join Tryz.lays156 Tryz.Builder_Extra_156 b off cap (l.map fun s=>(⟨s.toArray⟩:ByteArray)) ⟨[32].toArray⟩ w hcell hbk (by simp;omega) (by simp;omega) (by rw[hd];exact hj);rw[hd,QKX,<- hrl] at this;refine this.mono fun e w' ⟨he,hb⟩=>?_;subst he;exact ⟨_,rfl,.str _,hb⟩
 | _=>grind
structure Sea where
 thick:Int
 str:Int
 waters:List (Int × Int)
 yh:Int
 yi:Int
 voys:List (Int × Int)
 gauges:List (Int × Int × Int)
 zh:Int
 deriving DecidableEq
@[simp] def spC (s:Int × Int):List IV:=[.int .i64 s.1,.int .i64 s.2]
@[simp] def gaC (g:Int × Int × Int):List IV:=[.int .i64 g.1,.int .i64 g.2.1,.int .i64 g.2.2]
@[simp] def ZV (l:List (Int × Int)):IV:=.sl 2 (l.map spC)
@[simp] def ZP (l:List (Int × Int × Int)):IV:=.sl 3 (l.map gaC)
@[simp] def VH (c:Sea):List IV:=[.int .i64 c.thick,.int .i64 c.str,ZV c.waters,.int .i64 c.yh,.int .i64 c.yi,ZV c.voys,ZP c.gauges,.int .i64 c.zh]
@[simp] def Qix (c:Sea):IV:=.agg (VH c)
def Zq (s:Int × Int):Bool:=!decide (inR s.1 0 s.2)||decide (9<s.2)
def J2 (n:Nat) (v:Int × Int):Bool:=!decide (inR v.1 0 ((n:Int)-1))||!decide (inR v.2 0 36)
def Je (n:Nat) (g:Int × Int × Int):Bool:=!decide (inR g.1 0 n)||!decide (inR g.2.1 0 500)||!decide (inR g.2.2 0 500)
structure Qx (c:Sea):Prop where
 thick:inR c.thick 1 500
 str:inR c.str 1 999
 zh:inR c.zh 0 6
 nw:c.waters.length<=4
 z7:Zq (c.yh,c.yi)=false
 waters:∀ s∈c.waters,Zq s=false
 nv:c.voys.length<=8
 voys:∀ v∈c.voys,J2 c.waters.length v=false
 ng:c.gauges.length<=6
 gauges:∀ g∈c.gauges,Je c.voys.length g=false
noncomputable instance (c:Sea):Decidable (Qx c):=Classical.propDecidable _
theorem ZW {s:Int × Int} (h:Zq s=false):0<=s.1/\s.1<=s.2/\s.2<=9:=by
 simp[Zq] at h;simp only[inR] at h;omega
theorem Qx.voy {c:Sea} (h:Qx c) {v:Int × Int} (hv:v∈c.voys):0<=v.1/\v.1<c.waters.length/\0<=v.2/\v.2<=36:=by
 have:=h.voys v hv;simp[J2] at this;simp only[inR] at this;omega
theorem Qx.gau {c:Sea} (h:Qx c) {g:Int × Int × Int} (hv:g∈c.gauges):0<=g.1/\g.1<=c.voys.length/\0<=g.2.1/\g.2.1<=500/\0<=g.2.2/\g.2.2<=500:=by
 have:=h.gauges g hv;simp[Je] at this;simp only[inR] at this;omega
@[simp] def VR (c:Sea):Machine:=⟨c.waters.map fun s=>⟨0,s.1,s.2⟩,0,c.yh,c.yi,[],0⟩
def Qno (v:Int × Int) (w:Qd):Int:=v.2*w.zy.getD v.1.toNat 0+w.zx
def Qou (c:Sea) (w:Qd) (l:List (Int × Int)):Int:=c.thick-(l.map fun v=>Qno v w).sum
def Xc (c:Sea) (w:Qd) (k:Nat):Int:=max 0 (Qou c w (c.voys.take k))
def Y8 (c:Sea) (t:Int):Int:=(c.str*t*t).tdiv 10000
def QgP (c:Sea) (w:Qd) (g:Int × Int × Int):Bool:=decide (inR (Xc c w g.1.toNat-g.2.1) (-g.2.2) g.2.2)
def VJ (c:Sea) (gs:List (Int × Int × Int)) (w:Qd):Nat:=gs.countP fun g=>!QgP c w g
def okW (c:Sea) (w:Qd):Prop:=okS (VR c) w
def Qwm (c:Sea):List Qd:=QX (VR c) [] (VR c).zd
def isW (c:Sea) (w:Qd):Bool:=decide ((VJ c c.gauges w:Int)<=c.zh)
def wTr (c:Sea):List Qd:=(Qwm c).filter (isW c)
theorem QgU (c:Sea) (w:Qd) (k:Nat) (h:k<c.voys.length):Qou c w (c.voys.take (k+1))=Qou c w (c.voys.take k)-Qno c.voys[k] w:=by
 unfold Qou;rw[QKH h,QK3,List.sum_append];simp only[QKZ,QL8,List.sum_cons,List.sum_nil];omega
theorem Qga (c:Sea) (gs:List (Int × Int × Int)) (w:Qd) (i:Nat) (h:i<gs.length):VJ c (gs.take (i+1)) w=VJ c (gs.take i) w+if QgP c w gs[i] then 0 else 1:=by
 unfold VJ;rw[QKH h,QLD];grind
theorem QmS (c:Sea) (gs:List (Int × Int × Int)) (w:Qd):VJ c gs w<=gs.length:=QLq
theorem QwV {c:Sea} (hc:Qx c) {w:Qd} (hw:okW c w):(0<=w.zx/\w.zx<=9)/\w.zy.length=c.waters.length/\∀ i:Nat,0<=w.zy.getD i 0/\w.zy.getD i 0<=9:=by
 obtain ⟨h1,h2,h3⟩:=hw;have hwr:=ZW hc.z7;simp only[inR,VR] at *;refine ⟨by omega,by simpa using h1,fun i=>?_⟩;by_cases hi:i<w.zy.length
 ·have hi':i<c.waters.length:=by simp at h1;omega
  have:=h3 i (by simpa using hi') hi;have h4:=ZW (hc.waters _ (QKL hi'));simp at this;rw[List.getD_eq_getElem?_getD,QKF hi];simp;omega
 rw[List.getD_eq_getElem?_getD,QLL (by omega)]
 simp
theorem Ql0 {c:Sea} (hc:Qx c) {w:Qd} (hw:okW c w) {v:Int × Int} (hv:v∈c.voys):0<=v.2*w.zy.getD v.1.toNat 0/\v.2*w.zy.getD v.1.toNat 0<=324/\0<=Qno v w/\Qno v w<=333:=by
 have h1:=hc.voy hv;have h2:=QwV hc hw;have h3:=h2.2.2 v.1.toNat;have h4:=QLC (a:=v.2) (b:=w.zy.getD v.1.toNat 0) (by omega) (by omega);have h5:=QLz (show v.2<=36 by omega) h3.2 (by omega) (by omega);unfold Qno;omega
theorem QiR {c:Sea} (hc:Qx c) {w:Qd} (hw:okW c w):∀ k:Nat,c.thick-333*(k:Int)<=Qou c w (c.voys.take k)/\Qou c w (c.voys.take k)<=c.thick
 | 0=>by simp[Qou]
 | k+1=>by
   have ih:=QiR hc hw k;by_cases h:k<c.voys.length
   ·have:=Ql0 hc hw (QKL h);rw[QgU c w k h];omega
   rw[QKM (show c.voys.length<=k+1 by omega)]
   rw[QKM (show c.voys.length<=k by omega)] at ih;omega
theorem VL {c:Sea} (hc:Qx c) {w:Qd} (hw:okW c w) (k:Nat):0<=Xc c w k/\Xc c w k<=500:=by
 have h1:=QiR hc hw k;have h2:=hc.thick;simp only[inR] at h2;unfold Xc;omega
theorem QBb {s t:Int} (hs:inR s 1 999) (ht:0<=t/\t<=500):0<=s*t/\s*t<=499500/\0<=s*t*t/\s*t*t<=249750000:=by
 simp only[inR] at hs;have h1:=QLC (a:=s) (b:=t) (by omega) (by omega);have h2:=QLz (show s<=999 by omega) ht.2 (by omega) (by omega);have h3:=QLC h1 ht.1;have h4:=QLz (show s*t<=499500 by omega) ht.2 (by omega) (by omega);omega
theorem QcB {c:Sea} (hc:Qx c) {t:Int} (ht:0<=t/\t<=500):0<=Y8 c t/\Y8 c t<=24975:=by
 have h:=QBb hc.str ht;unfold Y8;rw[QLe h.2.2.1];omega
theorem Qwk {c:Sea} {w:Qd} (h:w∈Qwm c):okW c w:=QdI h
set_option maxRecDepth 100000
set_option maxHeartbeats 1000000
def Qz6:=B0 "Ur?x5Uq2;9VPcFCcj_<=rxI^4B>7;L[1[gT7bBpPqz0S]ZE]M8N^DeCy<kN9YZ_M;??ys2_rQ[pTCB7o1" ⟨_,by conv=>lhs;reduce⟩
def Qz5:=Fq0 ["Z;BpP>8pDh]3pFI[Q0uJ93KYXPwQQ57E<UW7n^3wrxU31>K>^YDH9wC6;z]]JvcWAQXvhHc:ZS]gzxfhc:2[hnXskALN>R6z[DL=","edwA7XCLcld;ay3nk6[T6Ne]8a4<4V5"] ⟨_,by conv=>lhs;reduce⟩
def Qz4:=B0 "Z1HdZfKT0PpSf]TIIs?_Po??wsNBb^U0T1IqxcT<RT5PK]wEeuKqkUDz?u^YQFS" ⟨_,by conv=>lhs;reduce⟩
def c3:=Fz3 ["=GJm4rijBzsS8<?vxFFHy3if>Qn?TYdBpdwRTX2:6dpU]RuaupFmXG]zAo7tFWhb[SdZw_H_zLECR7ws;CA2r?reF]u2fSmr]J_]","i[;ce5XyNLicnTR^Iq9l3GpMqIw:3I8Nuy8=qIA5m9z4_3L2X]Ha?^Y770UkfmM6HhBag[MBC31P<>L^WoLPe;Rsgm3^UvAT7RyN","xKU>QHzr0N?_WSTBoR4a_va233;=]BYAQ2Tb2m68]KfMy67pyq;wp[hoCkE4SeyCBuIJwtpyQqdGnWfWS?UqMCxg4oErYmuSpanB","<nr=X_N_Jcb]q=2u2vLentb0X[>l6Jxssw2Vs47;yURcw[BqBj>ALnWQJ;v0Z9=Fh:CD?2=F:zFs5LooGyHrJ2HYxtRygp:udzL]","Q4:oGptaLdN1y<GawY:ItH:nUcuD9Gkck5DLPpb9]s1=lt37NLaUDjBa9JCmtqe10;tWko89lC[IjSm2lDjma=z>>Hi9mpcUBJh","_kA2aBvH5m:yfZa3>mcut]oJCsjN_=rJd6desQ?ffNHw<zdokqLP0pTr604ddnXa:BS:8opR0;N51]M2jrEIR8MQyLR??PZWK:kY",":mUy3AWVxBKRdmf>cXQN67ci[e7][wGxxL0B^[pD2Eu:tjg>y107_7rlwK]Fc8iPn5M>>VBpj_xC"] Qz6 Qz5 Qz4 ⟨_,by conv=>lhs;reduce⟩
def QFb:=Fq0 ["ab0sYN?]nPW_h>>M]g07=0>2_>FBJKnKu5VoxQ74vmoKvhoGYHp_Udit>Y=90eZ<8D]H3N_q1HX738yR8bgtAj_yhE[KgWnTWEQS","BKhw4MpINEID4bdE?M]MCR]Mozy>ZGvVmpVyLWBW_1dTJ;e7nH58kPnkFGxF<K^NYNNA7Da=wnZULiF6^wS=L7]IaVsS=lrrN0^a","6e>K_L^Ni9:1vT2txddrWq^oqlK0heEQA3Cgy_g75DUA^Bv0D0>"] ⟨_,by conv=>lhs;reduce⟩
def QFa:=B0 "R;c:wg:dUmQXVD9FoZz>52QkoHi2vhZNDu;>xLaIkXZVkg6:PqUP<I_s7Vc;q0x2Y>m<ChKixM7pk30^ZZ8GZqMK>UDr1" ⟨_,by conv=>lhs;reduce⟩
def QE9:=Fq0 ["Y8dS3E3^CMgkRnuYqYlvuUP_TB6z5;19>rCh<L7UeB75;GyteyzQZvs^_<b4thSC2453C3Sb7<]_;F_jJi?u4<b?uh]3;SLy3yrz","=XYFGJje?vL8I?CSf[dL=NGx4aQqd7j4MW6JDz2JdxecAoY"] ⟨_,by conv=>lhs;reduce⟩
def c4:=Fz3 ["HlvubG^EVfpwsbx[j2R4J1:u87S_>;^RGZ_q?<L1lZ6b5lG:hn<wih[qnW0Xdjvt1Zf6l6g2C?_5SgcfjKK0mK7l^KztGWgnmw[C","t^E]C8>q4lchpB>9>UZdiSjebqKHHx2Zf8Vw3gYz66_Wy69NJ0N1CMLUp?AjKek2L:IN]gKjBppCJuA]j_xzEF0pM5BqBy3jp1;s","E7XjQwxgP>:m7pSSzllGiTFzRamx>_2hoR]XpgCzq3MgH?yRwfS370_TfviK7dw;8nt_9bW:rKJ^22]=NDl2rc1hTHHxtWyCRYWJ","ALYtJs3vpWX0>_eFo88Mwn<8KJzotJLW<WECBaiQ0hJ?omngQSnecgJP:T6Whj;1l:[]:dYh_CgQ9FIr;G2yuBc6Jp:IrkKd9ng?","I95Z4PjVfEuG0u^W?okGzKQzVDV5XQc[3xNSZV?loZo0aesL=m9AiFmgxdJ4CH>hS;Vu]U?0k2AEW=fCohVUci<<iBt<f"] QFb QFa QE9 ⟨_,by conv=>lhs;reduce⟩
def QKp:=fk func4 c4 (by kernel_rfl)
def Qz1:=B0 "4pzLwf:PNbn21b4s0asK2]bkgJ76RxijKG4v32WVsf<<q7SrsR>ZGITMQ=FoLi9:" ⟨_,by conv=>lhs;reduce⟩
def c5:=Fz1 ["tSQ3YUCet52W>u7r4Y;]1L7PbyFHXHa>56zz7rPpX^8h7PL5Y;JiGzIx_RXA]YdArSt_RqoH]_uz4pajjy0AYYi_3A]>BawF6hL<","d5k<AxQ7M<<ft=TRQI^:E8Yg3miHap?;8JSB2cMy>I8Nz4cRsCYz0o0<xRHi>Gyxmrct=_I=wBYZ46:kZsPTyJU2"] Qz1 ⟨_,by conv=>lhs;reduce⟩
def Qz0:=B0 "kzL9G<alppC5=9=2a_HiYNETDbiljpitjR;^kiAD>SpY=nXPj_3GIqJ7e^RYzJBhbQij?M4geZ>o?yvxunkxaE6ZPwc4?mXPJvcQ>iG]2" ⟨_,by conv=>lhs;reduce⟩
def c6:=Fz1 ["Vix34Dt1Kgau74Ngo>pE>lMt3iJEp8[cLgAUd]vambZmssEsSSLR<E52Exowg2[NZgurv^LQ5JlyQrk]1f>9bZnliWoc5>[l523Z","7[lR85Ud6o2UqW9Wv^Cs<c^5Y_4aRuhsWs^fK7cv[P?qJptuKbuQG?:;[_xCVZjR9J2=B3F_pcCP=Bsk=n4YC68LD54IV_VXx^4W","y<aI6?745o?CfX1qH19>Euo2?FzdjQ3qFxJ5gc<IHS=PRTJIwiK:f"] Qz0 ⟨_,by conv=>lhs;reduce⟩
def c8:=Fz0 ["XjJvhR?izzopGk=NcUqikS7P6RsM_7GSYy_6:9JW^Fr55eIDe7BSD2eI1I9BNjlfbru;jWjW4wdD3G6F2DaUlRFJg:MvPLwft0h","Hh4XJ<]LGsAKK7;=f2tVY^b7RK<zD1Y^crjBDv90RBnBXU[^R89C7AX2DCFDiK>EE]Yh?MZFPMAm3uw02pte03Z2K_meoI=7A0g"] ⟨_,by conv=>lhs;reduce⟩
def c15:=F0 "1pqVk;3prPSy[]8rIAPFkJV;m^>qbUWBt[x4_egLBraKD2CrMHz<SEaVNr[tQ<1^nbXmb5ylzq;emz[Xal^=0yFU4G[bB]pnKvWj3K;b>QPY" ⟨_,by conv=>lhs;reduce⟩
def c16:=F0 "JyJUeydTSsN;Rsr>rF9NgdZMb[0M8EsKN4:Ja<p2hA;o5qWlU4kUTrxX;a6ReINhDlEF2" ⟨_,by conv=>lhs;reduce⟩
def c17:=F0 "aXG5UG^PAGpqFZ1bPqz<mXab_kNJHlC[^gPET73E3MY1B[nBzT?4?TdUYmN7piNhDlEF2" ⟨_,by conv=>lhs;reduce⟩
def Qrw:=B0 "<S6Pr:i2EqpcHlwXMaCKI2Z2yyEoz_1zGYeU<N2rzEZSGsxfQT39kgeKTF" ⟨_,by conv=>lhs;reduce⟩
def c18:=F1 "LDMtJv2NMqFS1h:UQskqFCp9PhCuv^en4vMMP6v2gjUlJADE6x" Qrw ⟨_,by conv=>lhs;reduce⟩
def QCN:=B0 "Je0Q[:i=7APq>riDkeheTxDQA;F0DICkU>PQNY>W2EeTmy5hTnw1" ⟨_,by conv=>lhs;reduce⟩
def QCM:=B0 "Ko:wEQ7bxItDEBvmbUZTHwaXMQ2fJDISe]9iPBNrg53o;2yUX8=c<5K2]y6hX1hLma8LIXZf4DfHN]Yu" ⟨_,by conv=>lhs;reduce⟩
def c20:=F2 "X3GJe6SJ];5RgF[Ui2imc3_uH=G1sMif4n9m7TTxyf:CvMVN7:uMdZ36UZ0v=LLPbK1_qMZEbuqC=3ZFlAlFv13i4NJJjzZxW[nKpc0cnpP4WgIq5" QCN QCM ⟨_,by conv=>lhs;reduce⟩
def QIw:=fk func20 c20 (by kernel_rfl)
def QCL:=Fq0 ["fcZomMJ;Kv3p9qf>o0;]pz]Kz_qv92mPlIA1[iGVXBM_MK^xxJYxmMuNGl4=5fX<RyRi1KQsdI5Kh69UB6nftv<NK1MW3EaeB[x8","ooUvvnq0u>R_[jGZJItA_^gtd_2U8J8hu52CxY1JRmo9yxCSJ4b_te<hhmE?WQNTh<Bf2Te^K8"] ⟨_,by conv=>lhs;reduce⟩
def QCK:=B0 "9PQGtnMu[n8u6WmTUcuGg6NkSTHmrAPymV3Z1yrXR3W<MXDJy^gC>UT6y]XS=L2zjc5A?=<H" ⟨_,by conv=>lhs;reduce⟩
def QCJ:=B0 "Yr[MK<9^[kn:dAukjZdoR7aV3vBK6WjKCRzcaD1Ip=xyxWQr?2cW_mC:;WWfhj8I6<tc9nCxe5=r<MtZ_ydXZ]8r;sCuBIs<v6Y3E;5" ⟨_,by conv=>lhs;reduce⟩
def c21:=F3 ">4FM:eeIaHf?cTC7YyszzCgEJDgR8WkJsb75zaXra[9iLSu?v:HrT8JH?69]x1]Mp=dKS5CdURPbP8_1NJ>zlSrNGY7wcu>Q^QeNLG;]uj7[" QCL QCK QCJ ⟨_,by conv=>lhs;reduce⟩
def QIl:=fk func21 c21 (by kernel_rfl)
def c22:=F0 "p^XpP:YGZXR1s?EQqhTU9yRUC]P2" ⟨_,by conv=>lhs;reduce⟩
def QIe:=fk func22 c22 (by kernel_rfl)
def c23:=F0 "]^mw06zk43Rx[irGzWHvzW]iYjvSD7P?gCC:=mKphfbkksFBmSP6q[" ⟨_,by conv=>lhs;reduce⟩
def c24:=Fz0 ["Q^Ev7snbhuTwgqpY[jFr[?;udU^bePG1w0Pw=LP]UzF[v:v^vxTQ:pXm7nj?n>0Y8bAp0rGhJ618>wDlgcA5im5?h^p2Lf9A<lG3","SM33d=PbgxzH4]=pTXfP88L;:NdNxFgd]5w>C_NIK[I:atNIf]]BxINYg5nr]xvd7=F1"] ⟨_,by conv=>lhs;reduce⟩
def QHZ:=fk func24 c24 (by kernel_rfl)
def QCH:=B0 "c[1aKgnjht4Ej0XdgT_XT8es^3u_?mswi>S3WTg[qTjJJtz7uk;cV_?ucGPH5jvSU6J" ⟨_,by conv=>lhs;reduce⟩
def c25:=F1 "r8Gjxf6C:gelGqL_:7P:deNRJKpYMlP9zo8Yik?L5zZaQ6" QCH ⟨_,by conv=>lhs;reduce⟩
def QHO:=fk func25 c25 (by kernel_rfl)
def Qrl:=B0 "SV^0Afz49qztv0lNPZTxEn40Zm_m:F2P6_upu<lwjtCCCV>NkJHlQodvo^^R6woF[SW5=4]JsMxf5p" ⟨_,by conv=>lhs;reduce⟩
def c28:=F1 "9CVs_sM01Qp?;xtV3kfa6SQ965WWo:?Serj22EjBeju=v9iHpcunj4rEhHTkzRAJAEflMkc_kH5kw<i4UtmLvxygd1ukhqpmb0[gvDwBATYNiG5k23_vktSY2" Qrl ⟨_,by conv=>lhs;reduce⟩
def c29:=F0 "eN94V]5IkKh9i4EeXNVoGXqn" ⟨_,by conv=>lhs;reduce⟩
def Qri:=B0 "Df^QQgYDPciyudfqNZEooGG[Fi6gl7bCLlUv_j?XcjFW4BagRQ72[2m1Sk<F[akogd2" ⟨_,by conv=>lhs;reduce⟩
def Qrh:=B0 "19DBY[>SS94L5[3UJxK?[0<4m>lR1;^See;t>RX7gvKzDdeGk6p^1mTMBg^8VIv?NohylzC_WuMM0zV^xL;QCrBD78>TKg8BaLPaSS2" ⟨_,by conv=>lhs;reduce⟩
def Qrg:=B0 "et<LpiL=d0kX=B<q7c7VrIR3DFf0>cj6t>[b32w0GxdMpyTx8UIPJrqF[bmnMXbtNuYf6C^b0TNN?Ic;DtPo;pk9X^wG[4XlIU9Xj3f7p[18LBaAYASdx;^XdEcsYzaI" ⟨_,by conv=>lhs;reduce⟩
def c31:=Fz3 ["3oT4f758qPLe<ZXdpZ<Fh3fZDrs1L=L_r>DKLnvgPXKSqh8yykdMy_IQCZpJd>IS6tWUdsHliB^e3xZ3fElp2ERi6pFY=FRYh4Il","<lVP3pKF^uW:71C:Sd^^Q_75cZ9dLCcK7Cm:[8:1dg_ta34PPC5jLI^_ka0?gX"] Qri Qrh Qrg ⟨_,by conv=>lhs;reduce⟩
def c32:=F0 "Xt37VNHh?T25[F2BbDnxl4r4tdmXS62xY^o6BRKwPrBktZRVPs" ⟨_,by conv=>lhs;reduce⟩
def c33:=F0 "dI?Qa=m_UfwejTc;tX1" ⟨_,by conv=>lhs;reduce⟩
def c37:=Fz0 ["4Bf:<XY>FJq>=^[50T<fZyZ<pslJ>8sL_DK6^bX=J>i[3W3B0:lrZw:S<5QLAPW:4bel7Q55>2bvo<0zCaTDEwyIfasKeX=d95w;","j^D1=N:Q?VJENoTSVhbCy6]CaJxi0o=zph2STVYc<NLF5dh]C4B8tPUsW8z5CJQuZcr;^0g;J5MrJWGabp:2cQwYu0b1"] ⟨_,by conv=>lhs;reduce⟩
def c38:=F0 "ehrfM5Ep4DIFIRE<KanN;4>eDrTJfFvaH26Y[Lp?9;j^lqoeLYFL[9Kag1" ⟨_,by conv=>lhs;reduce⟩
def c39:=Fz0 ["hX2b>o7De9=L_bPCTKpsElkT?9lFr^CirrHlN<oftsIyARs2Ylk:6nX92pvJwIDS_9Iemwd_FV7?xvbRAGoKuVJ>jNr9UslYlo0=","1ICiE9v^3SNjQkInTukR2JZaBAUhbn6b9yUgL:]D0r11Rz:_SlY9zb9gx[a7vorPls=V2wXnPCjJxL_FmLhRkAI[lrw>R7Pf^7Fe","QhzPHZ73FFcCMpTDC]b7t?4"] ⟨_,by conv=>lhs;reduce⟩
def c47:=Fz0 ["gwFg[x]dal9BqMTFVIm<r^tBtan[eq5=N>nhKM3?KRE?z90<_JbhSTjj3_ZI5N4NbSAISpg;v9SbfEuZebxMYMu]a;x5dMyd?1aI",">Lbs3tUGLVg0;];5?l<s[A3:LRQ1]f^JjF]lwPyk8_XDgxEzFZo=YwNa9aVPI_x1"] ⟨_,by conv=>lhs;reduce⟩
def Qq6:=B0 ">XPsyvzI:qZdh30Q>TU:KX?oMDil<Hxq;jA?nA?sVkX]uDJ?cxA3^MG2" ⟨_,by conv=>lhs;reduce⟩
def c48:=F1 "tJ7l:I1sff?UBhnw^avhw[S]8nrx75lnro]fyT_EKI?0M<=0re?3" Qq6 ⟨_,by conv=>lhs;reduce⟩
def c49:=F0 "Hxck;2scw<9WCsEXU7EKNGHznc" ⟨_,by conv=>lhs;reduce⟩
def c50:=F0 "2w2MkIMgZ9MqFRW" ⟨_,by conv=>lhs;reduce⟩
def c51:=F0 "LGa?>]4G:;MqFRW" ⟨_,by conv=>lhs;reduce⟩
def c52:=F0 "dI?Qa=m_UfwejTc;tX1" ⟨_,by conv=>lhs;reduce⟩
def QGq:=fk func52 c52 (by kernel_rfl)
def c53:=F0 "f^C]>TvJ^pLF5h]YKJf0?v90zFJIdprUF8053yqWJTYHMV3m_0D_;" ⟨_,by conv=>lhs;reduce⟩
def QGp:=fk func53 c53 (by kernel_rfl)
def c54:=F0 "CJ4zV2zY8sYnV]ro38CnWukf7C]NoPCLMIY?Cf5manbd3L0WpA=XeBlCY:PbP45Hm];uX]Y8tFl?Ciu1tLpCCxq4w72JLM[XgDuEU:cuv<lSFcQq9RJ4EIFc2" ⟨_,by conv=>lhs;reduce⟩
def c55:=F0 "fQF2GZ][15:YL:" ⟨_,by conv=>lhs;reduce⟩
def Qq5:=Fq0 ["C]CrVHdsG?pBK2KfT=jSK[b9W8JoladVy3PvV:[1_ow]w<zQWDqK<oypVS4[kYWYndh10QfdhiJj_n0nIR1Ke9fikqzxy=FQ[ZnA","f<ZjX;UHULYgrvoAq^nhyeHD0?rA9iSz0A:Cj22b6zs8tozP2"] ⟨_,by conv=>lhs;reduce⟩
def c56:=Fz1 ["oPiBeGCsIlQ=61a[Wpmrpf=_iS2_Q=A5MGY;BV=ve_Q>xViIqCEC0IHIN0=AH1XIPY9qaqdYWll=Lz4Zk0T1gs0D]FomMVGUso[t","r[a^PXo9JGsE=cDB6Rd=oeatGA:uxmdwITYlBgRlED"] Qq5 ⟨_,by conv=>lhs;reduce⟩
def c57:=F0 "QYc3ULqVGD]jTniKYmGiwApu0hP2" ⟨_,by conv=>lhs;reduce⟩
def Qq4:=B0 "JWKdQGxHDzN1MZkxz2kD;VDyVC^^_T4TDwHjCPPilLCa5hYS^mH:?iiA>jDLJI2Gwji1V^0UQscYpj2>>>M2" ⟨_,by conv=>lhs;reduce⟩
def c58:=F1 "s3GsVBx7uT3]HHI<F^s?]RdZa<9n86D]9VR4_MT5:FeoXC38YA8DWzf>]V2;0KL5:>Y>2" Qq4 ⟨_,by conv=>lhs;reduce⟩
def c59:=F0 "kt?<TwFc5ZohGhyE]vqoTB_4;;[jJ:_LHBwTCfDJRYlhz?7^FUCLvn8WUqktG76Kx]:kUl=A]2c;Qe4v5sT70CsRDHmQhfaYw6J" ⟨_,by conv=>lhs;reduce⟩
def QGo:=fk func59 c59 (by kernel_rfl)
def c60:=F0 "2w2MkIMgZ9MqFRW" ⟨_,by conv=>lhs;reduce⟩
def QGn:=fk func60 c60 (by kernel_rfl)
def c61:=F0 "LGa?>]4G:;MqFRW" ⟨_,by conv=>lhs;reduce⟩
def QGm:=fk func61 c61 (by kernel_rfl)
def c63:=F0 "f9aXyf=eQatzone_RjI" ⟨_,by conv=>lhs;reduce⟩
def c64:=F0 "8[r_8wJMRsGRmp<dbwPIPfqnZkrxKlmlSIn5q" ⟨_,by conv=>lhs;reduce⟩
def c65:=F0 "Bi3z8:jxoqBZSZS5KACh73SUC]P2" ⟨_,by conv=>lhs;reduce⟩
def c66:=F0 "E53qpD]o[95[9Wm5d5cQa3]D=" ⟨_,by conv=>lhs;reduce⟩
def c71:=F0 "gs_B:Z^857A6D9IYM]YtTwAi[^>xCsfY>YGS?Kwr]>^JJ65IBwC9RNAmdqLS>uAXL3M1?Lp1H:3Zsvsf[3nFPWgeyyAnZ_kSXFnF_S;pyBLY" ⟨_,by conv=>lhs;reduce⟩
def c72:=F0 "ZS[:M5?U7<Mg>I2" ⟨_,by conv=>lhs;reduce⟩
def Qq2:=B0 "p6blt>VMwJruEZ4EUCF_U9wp?H5kgIyJDlxw];_" ⟨_,by conv=>lhs;reduce⟩
def c73:=F1 "WxpBPkXI1diEIT]TvCRF=nQ[sVkG?q]1" Qq2 ⟨_,by conv=>lhs;reduce⟩
def QJr:=Fz0 ["Rs>>VkjU3flJlpjdTMLifin]Nui8<E6La9v4PHXi]>caJW7HMXfkuGKh2qjf10VKAq[_yIgrHYZ=hb695a8uGVh04HUKP3uTfV3W","m6fR0BXW<;n41<WCjUuR99<mJ_BFlsKmhQ=Rg?4JQQWyRVlfxpI^ylR51eKb8B?L5cgfkdVA<NFK=gaaU7Zkl7<4rAaEX]rgLcAX","m]:Kz_L=3pQ7z=]4r22W9I;540yq6blY5QIXFIa_oCzoDKecz4[^qsB?rpbf0ZRVeAy5TN<yVxwMTmq4AWMxM"] ⟨_,by conv=>lhs;reduce⟩
def Qk7:=Fq0 ["x1Ad1Y[0WRpd_Q5G9lah^bFRTg=>9VE]7_cUygaIBJXcUdNrGqLNMqBx48Jb?>?[wA9helW<CfNCnErHrak<_VkrSlPAu05J3wyT","srqVPiwgw6yM30H3oCoYaywC2U^RQ1iic43aj0iIqF[oNmrBdD<Adveh0pQw5pRq8PaRkV=F35L>AvM[FwUDl>MIx0qmQ<Hw_Y[d","QFpjBDtkv[c0Z?GXH"] ⟨_,by conv=>lhs;reduce⟩
def Qk6:=B1 "q6PZK:7[snaSY7btI8F]FzyFClPY6gtJZsTPPy<1tgCzLMrqR5" Qk7 ⟨_,by conv=>lhs;reduce⟩
def QfY:=B0 "L8AVxXSHwCaw1" ⟨_,by conv=>lhs;reduce⟩
def Qk5:=B1 "axHSS?^4Uy0^j[YQfqg[rdwFMuSZxKrX;754m3" Qk6 ⟨_,by conv=>lhs;reduce⟩
def QJq:=F2 "zITTdrUK36RIK1H>6TQpRNVwa90xCzr3bHiyc6N5ye5QapN7M9iM[f0]g1" QfY Qk5 ⟨_,by conv=>lhs;reduce⟩
def QcY:=Fq0 ["r6yyz5nJ=4WIBptom6St5PNIjYyp2ZQ1dqt6w1s?uKsKH9IXZ4T_SsunBZQuKbN[jeupAzkci1ein[<[ppYfNgkD<8Gso3s6tMm_","YncYord;w<PFA]wG6Z^7stkwh<m_7i3fBCkjFkyI1cR9hfJ[dH=PQX7wUQQlQY2"] ⟨_,by conv=>lhs;reduce⟩
def Qk4:=Fq1 ["sxRhdRP;gWq9tPcW>3i5z;j_S]PsVC5oQxEi0QwNtT;WMLB?Qw<B_y3[krC0SFMfuIYeaW>WFz>VSDBLJqRHs^:kTW2qBT[aB3nU","=uzPLc;UanJ7Ew446sJ4k=ay[J5hDd7nBtSs<gJ=r^8yY0k8LHT2wmjckN10wZpUwxINU]yR8_4dtZ>=J43[^[TLRnrJKboqS8I>",":ENxwBBVDfs45^Bik5N[gRPRAV7BKXMbZg1qFS7g5XY9G^ss87[_=a0Y;u]4XnUEBi^caCV?<_P<Y1HlxDqJ>qfM:bagEUFU753",">j6RogwHJDu0^k=1k9S_rMxlIR"] QcY ⟨_,by conv=>lhs;reduce⟩
def Qk3:=B1 "Yw1ctT65o5iAw0FfuAEXDT1p6ld[T<X_NiG[3ffHj<tFEjS" Qk4 ⟨_,by conv=>lhs;reduce⟩
def QD1:=Fz1 ["ocxkPr2?voresB]xpFeHTh^bUNDQ6qjHgAWG>:0?gNlI0EGH_<siVevDtAu1GGV2PfC6Mg>BW;IIHG[1:Zp5NRv>oa_wr>X[Hj0_","Q6UA3_MQoIvM4qN<d;KJZv0S[2SmFiC3"] Qk3 ⟨_,by conv=>lhs;reduce⟩
def QJp:=F0 "19GW78:tGCZDcsJ0VbZ5" ⟨_,by conv=>lhs;reduce⟩
def QJo:=F0 "BIDW3Y0GLZ=:q4lPP" ⟨_,by conv=>lhs;reduce⟩
def QJn:=F0 "foN4F4fX>_adMdHMmBBj_sqdMWK2Y<JbIU]P4_?j:U77CzM:]4W4<q:D67wRxa8y3<" ⟨_,by conv=>lhs;reduce⟩
def QJm:=F0 "VHMFv?b]kP_Ca5TbLN:ZgTqn" ⟨_,by conv=>lhs;reduce⟩
def QJl:=F0 "8a:mKkCAbvlxQ486oKd:is?jTZ7Bo:9MRDgG8tca8nR" ⟨_,by conv=>lhs;reduce⟩
def QJk:=F0 "BBMWzG[tMG8HC1fASElKhYRZ^g9B7VvDp;gQwt9=DDL7" ⟨_,by conv=>lhs;reduce⟩
def QJj:=F0 "iwAfHd5wqzU^qWwhgxZ5" ⟨_,by conv=>lhs;reduce⟩
def QJi:=F0 "0?a;xac_Hck_qWwhgxZ5" ⟨_,by conv=>lhs;reduce⟩
def Qk2:=B0 "4cTaLzqlpas3QQl:j>?SN[VfihqAG6j>^N4zA>y:M7RCtvr5Y_Zd2fbh?4bfjeLriE3SgE2" ⟨_,by conv=>lhs;reduce⟩
def Qk1:=Fq1 ["Y7lnxPua^bSPpVM_HUy5yQ]fT9MAwxGmPoyLX5SNhSPBJhGFAJcDYgMm96VJkv^ppUjKH>p:lS<C1wNNcaTYVc>>iL5exoWmI?=J","VVD<P:a<V_oYbaMM?iDp5TQe2?IADJbcvZJoW?bmAz8:]"] Qk2 ⟨_,by conv=>lhs;reduce⟩
def QJh:=F1 "zMuiFvqkAgo^t;kUkX;w0tvIYzi:q4FVTWQYXdGf[rvvBqa8Rz^^;" Qk1 ⟨_,by conv=>lhs;reduce⟩
def QAc:=B0 "?f;u8yazKwY;y^[2g7NaqnA8WI5ajQQvwz1wkwF2gnI;EhQB9ZkS4q0=6EiZmG3?FC1vTB0n54" ⟨_,by conv=>lhs;reduce⟩
def QJg:=F1 "42ZaEVy431qSuT55yv0wC?rsAm9P4:_zgH_Jn4>_pM;N<na>uceZ8YXs>[AHA<QRoTniFl1" QAc ⟨_,by conv=>lhs;reduce⟩
def QFu:=fk func156 QJg (by kernel_rfl)
def QJf:=F0 "YiYvsRHWP8F^6X]kv[1nQeyl^rSK?ppzqE" ⟨_,by conv=>lhs;reduce⟩
def QFt:=fk func157 QJf (by kernel_rfl)
def QAb:=B0 "1Jtdrsa7XrFolf9[lpuHkSvJxq2mC3^GFrVguuDT_oI;EhQB9ZkS4q0=6EiZmG3?FC1vTB0n54" ⟨_,by conv=>lhs;reduce⟩
def QJe:=F1 "42ZaEVy431qSuT55yv0wC?rsAm9P4:_zgH_Jn4>_pM;N<na>uceZ8YXs>[AHA<QRoTniFl1" QAb ⟨_,by conv=>lhs;reduce⟩
def QFs:=fk func158 QJe (by kernel_rfl)
def QJd:=F0 "YiYvsRHWP8F^6X]kv[1nQeyl^rSK?ppzqE" ⟨_,by conv=>lhs;reduce⟩
def QFr:=fk func159 QJd (by kernel_rfl)
def QIj:=F0 "qV59Zgj5TnNEAESFjhyk6204PwrIk9_9K=6Y_<iK<TH_K" ⟨_,by conv=>lhs;reduce⟩
def QIi:=F0 "QYc3ULqVGD]jTniKYmGiwApu0hP2" ⟨_,by conv=>lhs;reduce⟩
def QIh:=Fz0 ["<bjp7RKb6Ge]XTF2UU=GprjrQ[G92om>k<voHZp0:H8<cmdbUNyh^vD>dSg2<iLxaySH^4PvUsXnSr^60rCu<xNSa8dJ7q7BncHJ","Y2gaS=F3tvV440_chAIAPLH?wcyg6vMQBBGb=GlX=asfgjoAY1>k<ux:hAeFyZ85>t12vJIRAmbwQcs>PcHvEEmpb<sQIGESrsYl",">Q[lM0KXMK]2=o3_jVFn?1"] ⟨_,by conv=>lhs;reduce⟩
def QIg:=F0 "P2wvR^6IQ26?yL76]>^LnJ_[tXkVMLJBWb7W1oSJZ" ⟨_,by conv=>lhs;reduce⟩
def QIf:=F0 "ZxdNgj_>ug5_2KUuZmf7E" ⟨_,by conv=>lhs;reduce⟩
def QId:=F0 "RrNixeSva0VlcJ;1hX1" ⟨_,by conv=>lhs;reduce⟩
def QkJ:=Fq0 [":yZUI1:BKtHHi]kANEKE4MQt?AI=^D3V9vxpSTA0aFpzqGz=Lga2=yx3ATKaJSjn^aHEMiTfV[d8>j5:g4_AeH7p4paNG:FZv4Lu","ILaqjXvR;n[6s2M2s9R^P<RWrgwfr9k4cPq<Ed<CHJSUBBVNZiEdE^o[Y2sklYrmtkYQ4Mtg5=8YutyL1"] ⟨_,by conv=>lhs;reduce⟩
def QIc:=F1 "5?Es0ozm0^5flvcRklcF0:_3[7Q;Y;03H3Y^SyVkuV82V1jJZ3NHFRSA8" QkJ ⟨_,by conv=>lhs;reduce⟩
def QIb:=F0 "uZT1I;TuWtQH9iQ8" ⟨_,by conv=>lhs;reduce⟩
def QIa:=F0 "m4eot:yoVA8leIBcthlw?mBAHqKtr12ervPMIgHj9Z1DmksKsrr<vpQpkkgpidu_cD58hr_5wtGJlD:0f9n4h81nmuYv:uAF^g?f9WU?bLjA62" ⟨_,by conv=>lhs;reduce⟩
def QH9:=F0 "4^1nZphGw?QFq5P63=t8uTMDWw?8MAKLRwD:n?f4qrL7" ⟨_,by conv=>lhs;reduce⟩
def QCI:=F0 "2;1ZDL]?8x>Z]qLjp<IB8T?e:fdcJ0[8NCE3" ⟨_,by conv=>lhs;reduce⟩
def QFj:=fk func235 QCI (by kernel_rfl)
def QH8:=F0 "cedRQSuslZlym_XnhzhF<e6S]DWhMFr]^KdEt0MnwYWRm9r4" ⟨_,by conv=>lhs;reduce⟩
def QH7:=F0 "6;NkAG5?t_rFFbPVCP2E37=s9G8sa]wZ8[vw4Ei;KiNMx[l9=xk>XS<sjxHnsIWrbtKt[1pFRGL_QWCfE2En6L;t2MD[wXtQq;C2VK0UNACkMS" ⟨_,by conv=>lhs;reduce⟩
def QH6:=F0 "8;DkVQMvJwvAET_MG2QHaV1ucP<yebEDfrMxre3p3gnE]>dVfzYB0f7Vrnh^BxFy2<" ⟨_,by conv=>lhs;reduce⟩
def QH5:=F0 "7xN6uMoMHuHY6lMrZzKdrjtn" ⟨_,by conv=>lhs;reduce⟩
def QH4:=F0 "3TwBC0D[S32mkK3wBiWNoW3STnLY:kaRmBr8jN[9h1zlrgzYPs" ⟨_,by conv=>lhs;reduce⟩
def QmG:=B0 "8e>5rQNj0z_" ⟨_,by conv=>lhs;reduce⟩
def Qrt:=B0 "h^clU?lQlzJhN>V?T=wMwgks3" ⟨_,by conv=>lhs;reduce⟩
def QD0:=F2 "qw4^en6ALN_Cx859cum60SP5HrjVi>6M=E7<L3qDLtmaK" QmG Qrt ⟨_,by conv=>lhs;reduce⟩
def Qrs:=B0 "qX4A=lx?Z^ics2X?a2EcmI[[>JRrtGfuX3H0lCRIZ" ⟨_,by conv=>lhs;reduce⟩
def QH3:=F1 ";=atSdbRsBA]zo?4" Qrs ⟨_,by conv=>lhs;reduce⟩
def QkI:=B0 "TNIMYKnRq8=[S5lMXS]aMmsVJ1;2>fdAfSGp4aKr6KJqK><_hWTtNA^bbK8e20[6jM0QDItbQI8o0sfwMy4q9US" ⟨_,by conv=>lhs;reduce⟩
def QH2:=F1 "rQ;ak1U:XP2T_C6Q6n=3aZiameqrBt1I]Yd?wQgofkZL9MwW7X>pDJ:wpVW;[Ru?" QkI ⟨_,by conv=>lhs;reduce⟩
def Qrr:=fk func245 QH2 (by kernel_rfl)
def QfT:=B0 "JPEi;Mf:E6Y^xDlLKsDqMC:E97ftx_S9w:<kCE484rc3A0:a1" ⟨_,by conv=>lhs;reduce⟩
def QcW:=B0 "TB09YU7e_wwieM_CVo=BtgBXt;NN1JjnaF0JteVXXKuDk<1F4Ao[3j" ⟨_,by conv=>lhs;reduce⟩
def QAF:=Fz2 ["5SMEsCk__R108zZe1A4mH8VeZ2MFvd>uy3[:e5b<yfE<w1^9C>ci5s?j?]l>719?=HityAAl65ZJ>bei?XxnDgGMnWS0Qu2I>_f?","SD]Y[r3cqtAXaZU2LI;j1fIjQdAiFQwf44[Wtcs4zTW0dFH5XYxLMMB3lDS<XCjmZQ?t4gUsuKneZdB>G"] QfT QcW ⟨_,by conv=>lhs;reduce⟩
def QFi:=fk func246 QAF (by kernel_rfl)
def QkH:=B0 "_WAIH8_R^7ceG91Prbc;lkfZgfrJ9[nu6]^i7zZ1_=^G];Bawm<xc7nBbn650vb?Ua?rP1" ⟨_,by conv=>lhs;reduce⟩
def QH1:=F1 "=l65^W]gWUC>_7krK[?>C]3Ei;EXmhCBwbWUy:Dh69" QkH ⟨_,by conv=>lhs;reduce⟩
def QkG:=B0 "Z6[sjz6K;>n70HffY]TWN9zu39v[[1g:s<s2tM_mFt6eH" ⟨_,by conv=>lhs;reduce⟩
def QH0:=F1 "Q14V;bMl]eRPI86J<_L[TB<KKp:" QkG ⟨_,by conv=>lhs;reduce⟩
def QkF:=B0 "cT_T7Umvf_Bp]tILAgKXY^GK^Cv[[1g:s<s2tM_mFt6eH" ⟨_,by conv=>lhs;reduce⟩
def QHY:=F1 "Q14V;bMl]eRPI86J<_L[TB<KKp:" QkF ⟨_,by conv=>lhs;reduce⟩
def QHo:=F0 "rhPvEd=YygjlRXFtHQH6[BEYZe]v8WcGmZS=L6=;" ⟨_,by conv=>lhs;reduce⟩
def QHn:=F0 "QYc3ULqVGD]jTniKYmGiwApu0hP2" ⟨_,by conv=>lhs;reduce⟩
def QHm:=F0 "c24k7Fjf^8uJ7mrmGfmZ42u98gY4Zt:;bnqPsuuAf^=c1" ⟨_,by conv=>lhs;reduce⟩
def QHl:=F0 "A^>;E6WoDpk33UpcXPE:MXTUC]P2" ⟨_,by conv=>lhs;reduce⟩
def QHk:=F0 "]>q7[pL^[PYJFFat3dqDNnVFR64mq=vqfDqlY=0Zsvr?_S?<cr:^<v5ZKUKE4ieF3<" ⟨_,by conv=>lhs;reduce⟩
def QHj:=F0 "w1AR8J3:k:QcMQ7FlXoYa3]D=" ⟨_,by conv=>lhs;reduce⟩
def QHi:=F0 "sbL<m>^CTi[]DKUuZmf7E" ⟨_,by conv=>lhs;reduce⟩
def QHh:=F0 "wjiSnc4?pQ1sDKUuZmf7E" ⟨_,by conv=>lhs;reduce⟩
def Qks:=B0 "Z6[sjz6K;>n70HffY]TWN9zu39v[[1g:s<s2tM_mFt6eH" ⟨_,by conv=>lhs;reduce⟩
def QHg:=F1 "Q14V;bMl]eRPI86J<_L[TB<KKp:" Qks ⟨_,by conv=>lhs;reduce⟩
def QHf:=F0 "jfncB[e62DG>5" ⟨_,by conv=>lhs;reduce⟩
def Qkr:=B0 "f_exn0oPGzNgnr=4cbFfE5I71]hj7>Jv==HuJIE^yX2kbguVASpuSoomI?Gntg0;bnMF[XL2kl9^NFZ8;;F1yYBfTdiB=rlQdAijE8h0Z[[M;2" ⟨_,by conv=>lhs;reduce⟩
def QfQ:=B1 "KjSrx7416=BqMy331sXn?gI5tlW=^36PM9ZS;TXF=ouZ[puE>C>Cu3=hln[TLuZgxbu;cU" Qkr ⟨_,by conv=>lhs;reduce⟩
def QHe:=F1 "MUjY6KUG8_6YNybzY[xmdtG]76;wq=ois=8]INdWdZe13EPmdzAb76X^CvFEzUfi_lIELEpm7^gIH5n2" QfQ ⟨_,by conv=>lhs;reduce⟩
def Qrk:=fk func307 QHe (by kernel_rfl)
def QHd:=F0 "P7atW^w0W^9>;ST9z;p2yJKT5gD8MAKLRwD:n?f4qrL7" ⟨_,by conv=>lhs;reduce⟩
def QHc:=F0 "QM;Yc>NeCjFZsKDN73^JhGd3" ⟨_,by conv=>lhs;reduce⟩
def QHb:=F0 "3pHRqDfIBE9ips^qlkwYFu?D=" ⟨_,by conv=>lhs;reduce⟩
def QmF:=b0 0x0 ⟨_,by conv=>lhs;reduce⟩
def Qrj:=B0 "<zPP^5[oD9__D=n8" ⟨_,by conv=>lhs;reduce⟩
def QG9:=F2 "S[?lHq8FI0_uDDSnc1kK=;JwlWvdGN41To3JuErYWFGevgwQeYMLSU:w2k3AbfC[juEeD9:ZA059ahUipnmCGjbR3kh0kCzCU;pyLiNoRDT5?tAuJ;<_b[KhcdGU7_35" QmF Qrj ⟨_,by conv=>lhs;reduce⟩
def QG8:=F0 "8H3<w<[64_Q:snw]bGpJHV;sp64Af5ht:l8J2Cad0<immfmURdk>ev1T" ⟨_,by conv=>lhs;reduce⟩
def QG7:=F0 "10KEV5N:o6Wrk:]PFIwdUj<a4m1G2Cqk5" ⟨_,by conv=>lhs;reduce⟩
def QG6:=F0 "qqcQ3d8C7oBxNXeJUXH>vE8[hwKdjfXuSA41" ⟨_,by conv=>lhs;reduce⟩
def Qkq:=B0 "B0i4jmXEwk6<U;iKJ^Hf?0EY<<QbKK^pmYh0QxZv^w727Y>0Pao5Iij=8H6Rzv_36et]RTHSL" ⟨_,by conv=>lhs;reduce⟩
def QG5:=F1 "B1URTH?r_qQzHJuTWF6EShVES8bC6TpLhko5b]UG?cLpBTVUGj5Hlwq5iE]Vlb_sxf2" Qkq ⟨_,by conv=>lhs;reduce⟩
def Qkp:=Fq0 ["?1S[z4N0QB]6FbSoULpxSMjrbNG?2CAGpJL6D<J1b>FMP_[YrDZqhFHUfH1DEfE9[=DGQs^]T0vCJtkF>n^Mul4d9X;GrAF17nRc","p_Vzb^zRN;fde_ecWUhlvx4u5;wcAzz50R2cniNIt"] ⟨_,by conv=>lhs;reduce⟩
def Qko:=Fq0 ["V82qY6ZvMuDe:Qlq>MrpJFQ?rqVabFTnwj83EBM73M1Ya3JvCa:oq[v;dcQ^FWSZ7TqJjvb;8^r7B74Yl9^k0>NwqJ;C7KMK38Wg","xcvu7ni]>RobnXFXM3Cnlkw3SfZo:ezX5XPB8aZvQu?2nb767yikqHH:C?qCpUW9jz0KAG<8nUrQ73:x^Cq<rDH]IDc;YYXF?0qu","Hafqi_iKZLME=BYLezM?w=QF3FeB54EXKjV"] ⟨_,by conv=>lhs;reduce⟩
def Qz7:=F2 "tov9Gbrwe0a95qB<no^]ULxX5b2c9FgKUC4Qg<M?Gt[937AB42LIjmW_uK1wYckeLUP0Tt5" Qkp Qko ⟨_,by conv=>lhs;reduce⟩
def QFd:=fk func317 Qz7 (by kernel_rfl)
def QG4:=F0 "qY_6Dlhfd;;slWP::7_Y^nPl=YBUe4FcMtInHaB]z9EVD=fY6G=yTYV4mxuf1kjD:?6TWvHdFCldQl[QXtT538^Z>[U[xXtQq;C2VK0UNACkMS" ⟨_,by conv=>lhs;reduce⟩
def Qkn:=B0 "cRv^8;UW8:uTgiAIodR2DepQA6EK>X3Tb=U6EfTlXTNR10xP7RE[7WJm4[kccNdG4ki;FBDFY<INcoIqtNxoiB6EEV3=5?rNCU2qK9buYAv6c>RqY:Nv=erS" ⟨_,by conv=>lhs;reduce⟩
def QG3:=F1 "lR_>l[qs]4wDtpD37Jp?35az[txIx3CLZDT7qYk=kE_ra_nh2xux83zQKt79M;BJKEU08v3M?je]5c10apQW9?iH1ecXi9BFmZy_g5<KUkqABNDpmvNmVNg" Qkn ⟨_,by conv=>lhs;reduce⟩
def Qj5:=B0 "Z6[sjz6K;>n70HffY]TWN9zu39v[[1g:s<s2tM_mFt6eH" ⟨_,by conv=>lhs;reduce⟩
def QGM:=F1 "Q14V;bMl]eRPI86J<_L[TB<KKp:" Qj5 ⟨_,by conv=>lhs;reduce⟩
def Qj4:=B0 "cT_T7Umvf_Bp]tILAgKXY^GK^Cv[[1g:s<s2tM_mFt6eH" ⟨_,by conv=>lhs;reduce⟩
def QGL:=F1 "Q14V;bMl]eRPI86J<_L[TB<KKp:" Qj4 ⟨_,by conv=>lhs;reduce⟩
def QGK:=F0 "aXnHuwfTLJ]ZQAVmLEyQpt?D=" ⟨_,by conv=>lhs;reduce⟩
def qm:=B0 "GETotQ0<Ai70o=W" ⟨_,by conv=>lhs;reduce⟩
def QcT:=B0 "NnhTRJNQPDX5SV]qkPAb7j[F2Se4SlouPz5zj=" ⟨_,by conv=>lhs;reduce⟩
def QGJ:=F2 "r_PNU6=pnCiTxe5VME[QDsIGUyw7]" qm QcT ⟨_,by conv=>lhs;reduce⟩
def QfL:=B0 "oK4oMoUj?mx=" ⟨_,by conv=>lhs;reduce⟩
def Qj3:=B0 "4ZrF6VokjH420sEQ0Zqo_s7P8uc=G7" ⟨_,by conv=>lhs;reduce⟩
def QGI:=F2 "4dN<HC:oVjD80Jp5v<]k8E_H[wc9kfVaziy:otiwJ7au9__QI;aSC]v<e2eeGgFI3" QfL Qj3 ⟨_,by conv=>lhs;reduce⟩
def QGH:=F0 "IKq^cQIj6Wl?JADE6XLuwNd3" ⟨_,by conv=>lhs;reduce⟩
def Qj2:=Fq0 ["CuUm13CGXtUHhFc1L[nx[=1^K0jtDd38_4yDWWQMsTvdHGjERQ2r;IHvPh06SvZMQ>8G2QolpClw:D4jQV3]7=opu=n=G8lMArsu","rD:CaeqUsRKA1<7by:k7c>FyF48tzAEV:Y5J4JBK8T[inIDlNY7ePZhzVmwMq^V5sr95R[kT3KDckYcfhI:?qeldtj0s7ACr;0fH","NhA>:]Dm46gP"] ⟨_,by conv=>lhs;reduce⟩
def QGG:=F1 "fB^=FVNdwq3eW45GqhmgmGF=4C28VDg7krRxHvd:z2tb];A9i[?M>?PkIZEYjDg?B9q>2" Qj2 ⟨_,by conv=>lhs;reduce⟩
def QGA:=F0 "J4G5Sr9N06Fn7ya]APS1Ft8t?alcFG" ⟨_,by conv=>lhs;reduce⟩
def QjX:=B0 "?LeEbETece=]Wnn_FBcWVYWmuGlKPczEfw0DSoLk6Ij<0a:NFB>9HE2IPl3dB8;r9Kh9FWehlwA2" ⟨_,by conv=>lhs;reduce⟩
def QjW:=B0 "Gkcvi:DiBBZ0UU=V5d^S1RsN?Mg7is0qrg4K[AFH=:opn?o]TnwImYI0N^oJc^FEg38vEWKEdVnDGk1^tCxpm8:qWCesKK23:znW2" ⟨_,by conv=>lhs;reduce⟩
def QGw:=F2 "VZp]^1s[ZiDlyGPeFpV4>0lw=Q?^Sc]9oHD8QyqknZ;CnrWIc>y3hbf5Dlklo6jq2iRjRVGbeafmz;tq:fsYQc?swXUHdHPdB<sTv71" QjX QjW ⟨_,by conv=>lhs;reduce⟩
def Qrb:=fk func416 QGw (by kernel_rfl)
def QjV:=B0 "mU4ALYBVPkWUSSR=ut4FcoMo;6ZNffQJShMjYb>APgLAnmoZ17yx^5iZv:;eG" ⟨_,by conv=>lhs;reduce⟩
def QGv:=F1 "6>i_kz_A0zDouylfz7hcgx0y7mZAd1YrQJn^e4qSyBqd;2ZETP8VewNc7" QjV ⟨_,by conv=>lhs;reduce⟩
def QGu:=F0 "2e6AF2_Ws:[Z]zmGvh?F>7?FC1y6PjrtBNuEwneq^glzALB^nZV7FZNJHjM1" ⟨_,by conv=>lhs;reduce⟩
end Go.Pf
namespace Go.Pf
open Go Go.Ev Go.Proofs
attribute [simp] c3 c4 c5 c6 c8 c15 c16 c17 c18 c20 c21 c22 c23 c24 c25 c28 c29 c31 c32 c33 c37 c38 c39 c47 c48 c49 c50 c51 c52 c53 c54 c55 c56 c57 c58 c59 c60 c61 c63 c64 c65 c66 c71 c72 c73 QJr QJq QD1 QJp QJo QJn QJm QJl QJk QJj QJi QJh QJg QJf QJe QJd QIj QIi QIh QIg QIf QId QIc QIb QIa QH9 QCI QH8 QH7 QH6 QH5 QH4 QD0 QH3 QH2 QAF QH1 QH0 QHY QHo QHn QHm QHl QHk QHj QHi QHh QHg QHf QHe QHd QHc QHb QG9 QG8 QG7 QG6 QG5 Qz7 QG4 QG3 QGM QGL QGK QGJ QGI QGH QGG QGA QGw QGv QGu
end Go.Pf
namespace Go.Pf
open Go Go.Ev Go.Proofs Go.RowKit Go.Proofs.Tryz
variable {K:World->Prop} (hK:∀ w w',K w->Below w.heap.size w w'->K w')
set_option maxRecDepth 8000
include hK
theorem JF (n a b:Int):Gd K 298 [.int .i64 n,.int .i64 a,.int .i64 b] (.bool (decide (inR n a b))):=by
 refine Qb hK (fk func298 QHn (by kernel_rfl)) (by simp) ?_;by_cases h1:a<=n
 ·simp[h1,inR]
 simp[h1,inR]
theorem Qx1 (c:Sea) (n:Int):Gd K 300 [Qix c,.int .i64 n] (.bool (decide (inR n 0 ((c.waters.length:Int)-1)))):=by
 refine Qb hK (fk func300 QHl (by kernel_rfl)) (by simp) ?_;simp
 (repeat' first|omega|with_reducible apply And.intro|intro)
 exact cK (JF hK _ _ _) (by simp)
theorem Qjo (c:Sea) (n:Int):Gd K 302 [Qix c,.int .i64 n] (.bool (decide (inR n 0 c.voys.length))):=by
 refine Qb hK (fk func302 QHj (by kernel_rfl)) (by simp) ?_;simp
 (repeat' first|omega|with_reducible apply And.intro|intro)
 exact cK (JF hK _ _ _) (by simp)
theorem Qx3 (s:Int × Int):Gd K 297 [.agg (spC s)] (.bool (Zq s)):=by
 refine Qb hK (fk func297 QHo (by kernel_rfl)) (by simp) ?_;simp;refine cK (JF hK _ _ _) ?_;by_cases h1:inR s.1 0 s.2
 ·simp[h1,Zq]
 simp[h1,Zq]
theorem Qx2 (c:Sea) (hw:c.waters.length<=1000) (v:Int × Int):Gd K 299 [.agg (spC v),.ptr (VH c)] (.bool (J2 c.waters.length v)):=by
 refine Qb hK (fk func299 QHm (by kernel_rfl)) (by simp) ?_;simp;refine cK (by simpa using Qx1 hK c v.1) ?_;by_cases h1:inR v.1 0 ((c.waters.length:Int)-1)
 ·simp[h1];exact cK (JF hK _ _ _) (by simp[J2,h1])
 simp[h1,J2]
theorem Qx0 (c:Sea) (hw:c.voys.length<=1000) (g:Int × Int × Int):Gd K 301 [.agg (gaC g),.ptr (VH c)] (.bool (Je c.voys.length g)):=by
 refine Qb hK (fk func301 QHk (by kernel_rfl)) (by simp) ?_;simp;refine cK (by simpa using Qjo hK c g.1) ?_;by_cases h1:inR g.1 0 c.voys.length
 ·simp[h1];refine cK (JF hK _ _ _) ?_;by_cases h2:inR g.2.1 0 500
  ·simp[h2];exact cK (JF hK _ _ _) (by simp[Je,h1,h2])
  simp[h2,Je]
 ·simp[h1,Je]
theorem Qym (l:List (Int × Int)) (g:FuncId) (p:Int × Int->Bool) (hg:∀ x,Gd K g [.agg (spC x)] (.bool (p x))) (hc:callee prog g=true) (hl:l.length<=1000):Gd K 249 [ZV l,.fn g] (.int .i64 (fi p l)):=by
 refine Qb hK (fk func249 QH0 (by kernel_rfl)) (by simp) ?_;simp;intro _;refine Qi (fun i=>[(0,AV.iv (ZV l)),(1,AV.iv (.fn g)),(7,AV.iv (.int .i64 l.length)),(8,AV.iv (IV.int IntKind.i64 (i:Nat)))]) (fun _=>[]) l.length (fun i=>∀ x∈l.take i,p x=false) (by simp) ?_ ?_
 ·intro h;rw[Qa QkG.eq_1];rw[QK0] at h;simp[YK p l h]
 intro i hi h ih;rw[Qa QkG.eq_1];have hgi:=hg l[i];simp[hi] at ih |-;refine ⟨hc,cK (by simpa using hgi) ?_⟩;by_cases hp:p l[i]=true
 ·simp[hp,QaX p l i hi hp h]
 have hp':p l[i]=false:=by simpa using hp
 simp[hp'];refine ⟨by omega,ih ?_⟩;rw[QKH hi]
 grind
theorem QpR (l:List (Int × Int)) (g:FuncId) (p:Int × Int->Bool) (hg:∀ x,Gd K g [.agg (spC x)] (.bool (p x))) (hc:callee prog g=true) (hl:l.length<=1000):Gd K 153 [ZV l,.fn g] (.bool (l.any p)):=by
 refine Qb hK (fk func153 QJj (by kernel_rfl)) (by simp) ?_;simp;refine cK (by simpa using Qym hK l g p hg hc hl) ?_;simp[Xs]
theorem QxE (l:List (Int × Int)) (g:FuncId) (fs cs:List IV) (p:Int × Int->Bool) (hg:∀ x,Gd K g (fs++[.agg (spC x)]++cs) (.bool (p x))) (hc:callee prog g=true) (hl:l.length<=1000):Gd K 364 [ZV l,.clo g fs cs] (.int .i64 (fi p l)):=by
 refine Qb hK (fk func364 QGM (by kernel_rfl)) (by simp) ?_;simp;intro _;refine Qi (fun i=>[(0,AV.iv (ZV l)),(1,AV.iv (.clo g fs cs)),(7,AV.iv (.int .i64 l.length)),(8,AV.iv (IV.int IntKind.i64 (i:Nat)))]) (fun _=>[]) l.length (fun i=>∀ x∈l.take i,p x=false) (by simp) ?_ ?_
 ·intro h;rw[Qa Qj5.eq_1];rw[QK0] at h;simp[YK p l h]
 intro i hi h ih;rw[Qa Qj5.eq_1];have hgi:=hg l[i];rw[QK8] at hgi;simp[hi] at ih |-;refine ⟨hc,cK (by simpa using hgi) ?_⟩;by_cases hp:p l[i]=true
 ·simp[hp,QaX p l i hi hp h]
 have hp':p l[i]=false:=by simpa using hp
 simp[hp'];refine ⟨by omega,ih ?_⟩;rw[QKH hi]
 grind
theorem QxZ (l:List (Int × Int)) (g:FuncId) (fs cs:List IV) (p:Int × Int->Bool) (hg:∀ x,Gd K g (fs++[.agg (spC x)]++cs) (.bool (p x))) (hc:callee prog g=true) (hl:l.length<=1000):Gd K 303 [ZV l,.clo g fs cs] (.bool (l.any p)):=by
 refine Qb hK (fk func303 QHi (by kernel_rfl)) (by simp) ?_;simp;refine cK (by simpa using QxE hK l g fs cs p hg hc hl) ?_;simp[Xs]
theorem QxD (l:List (Int × Int × Int)) (g:FuncId) (fs cs:List IV) (p:Int × Int × Int->Bool) (hg:∀ x,Gd K g (fs++[.agg (gaC x)]++cs) (.bool (p x))) (hc:callee prog g=true) (hl:l.length<=1000):Gd K 365 [ZP l,.clo g fs cs] (.int .i64 (fi p l)):=by
 refine Qb hK (fk func365 QGL (by kernel_rfl)) (by simp) ?_;simp;intro _;refine Qi (fun i=>[(0,AV.iv (ZP l)),(1,AV.iv (.clo g fs cs)),(7,AV.iv (.int .i64 l.length)),(8,AV.iv (IV.int IntKind.i64 (i:Nat)))]) (fun _=>[]) l.length (fun i=>∀ x∈l.take i,p x=false) (by simp) ?_ ?_
 ·intro h;rw[Qa Qj4.eq_1];rw[QK0] at h;simp[YK p l h]
 intro i hi h ih;rw[Qa Qj4.eq_1];have hgi:=hg l[i];rw[QK8] at hgi;simp[hi] at ih |-;refine ⟨hc,cK (by simpa using hgi) ?_⟩;by_cases hp:p l[i]=true
 ·simp[hp,QaX p l i hi hp h]
 have hp':p l[i]=false:=by simpa using hp
 simp[hp'];refine ⟨by omega,ih ?_⟩;rw[QKH hi]
 grind
theorem QxY (l:List (Int × Int × Int)) (g:FuncId) (fs cs:List IV) (p:Int × Int × Int->Bool) (hg:∀ x,Gd K g (fs++[.agg (gaC x)]++cs) (.bool (p x))) (hc:callee prog g=true) (hl:l.length<=1000):Gd K 304 [ZP l,.clo g fs cs] (.bool (l.any p)):=by
 refine Qb hK (fk func304 QHh (by kernel_rfl)) (by simp) ?_;simp;refine cK (by simpa using QxD hK l g fs cs p hg hc hl) ?_;simp[Xs]
theorem QpH (c:Sea):Gd K 227 [Qix c] (.int .i64 (if Qx c then 0 else 90)):=by
 refine Qb hK (fk func227 QIh (by kernel_rfl)) (by simp) ?_;have no:∀ q:Prop,(Qx c->q)->¬ q->¬ Qx c:=fun q h1 h2 h=>h2 (h1 h);simp;refine cK (JF hK _ _ _) ?_;by_cases h1:inR c.thick 1 500;rotate_left
 ·have:=no _ Qx.thick h1;simp[h1,this]
 simp[h1];refine cK (JF hK _ _ _) ?_;by_cases h2:inR c.str 1 999;rotate_left
 ·have:=no _ Qx.str h2;simp[h2,this]
 simp[h2];refine cK (JF hK _ _ _) ?_;by_cases h3:inR c.zh 0 6;rotate_left
 ·have:=no _ Qx.zh h3;simp[h3,this]
 by_cases h4:c.waters.length<=4
 ·have h4':¬ (4:Int)<c.waters.length:=by omega
  simp[h3,h4']
  (repeat' first|omega|with_reducible apply And.intro|intro)
  have e1:1+c.waters.length<=c.waters.length+1:=by omega
  have e2:Qd5 (List.take (1+c.waters.length) ([AV.iv (.int .i64 c.yh),AV.iv (.int .i64 c.yi)]::c.waters.map (List.map AV.iv∘spC)))=some ([.int .i64 c.yh,.int .i64 c.yi]::c.waters.map spC):=by
   rw[QKM (by simp;omega)]
   have:=Qbe ([IV.int .i64 c.yh,.int .i64 c.yi]::c.waters.map spC);simpa using this
  simp only[e1,e2,if_true,QLO];refine YQ (by simpa using QpR hK ((c.yh,c.yi)::c.waters) 297 Zq (Qx3 hK) (by kernel_rfl) (by simp;omega)) (.inr rfl) ?_;by_cases h5:Zq (c.yh,c.yi)=false;rotate_left
  ·have:=no _ Qx.z7 h5;have h5':Zq (c.yh,c.yi)=true:=by simpa using h5
   simp only[h5',this];simp
  by_cases h6:c.waters.any Zq=false
  ·simp only[h5,h6,Bool.or_self];simp;by_cases h7:c.voys.length<=8;rotate_left
   ·have h7':(8:Int)<c.voys.length:=by omega
    have:=no _ Qx.nv h7;simp[h7',this]
    try (intros;omega)
   have h7':¬ (8:Int)<c.voys.length:=by omega
   simp[h7']
   (repeat' first|omega|with_reducible apply And.intro|intro)
   refine cK (by simpa using QxZ hK c.voys 299 [] [.ptr (VH c)] (J2 c.waters.length) (fun x=>by simpa using Qx2 hK c (by omega) x) (by kernel_rfl) (by omega)) ?_;by_cases h8:c.voys.any (J2 c.waters.length)=false;rotate_left
   ·have:=no _ Qx.voys (by simpa using h8);have h8':c.voys.any (J2 c.waters.length)=true:=by simpa using h8
    simp only[h8',this];simp
   by_cases h9:c.gauges.length<=6
   ·have h9':¬ (6:Int)<c.gauges.length:=by omega
    simp only[h8];simp[h9']
    (repeat' first|omega|with_reducible apply And.intro|intro)
    refine cK (by simpa using QxY hK c.gauges 301 [] [.ptr (VH c)] (Je c.voys.length) (fun x=>by simpa using Qx0 hK c (by omega) x) (by kernel_rfl) (by omega)) ?_;by_cases h10:c.gauges.any (Je c.voys.length)=false
    ·have:Qx c:=⟨h1,h2,h3,h4,h5,by simpa using h6,h7,by simpa using h8,h9,by simpa using h10⟩;simp[h10,this]
    have:=no _ Qx.gauges (by simpa using h10);have h10':c.gauges.any (Je c.voys.length)=true:=by simpa using h10
    simp only[h10',this];simp
   have h9':(6:Int)<c.gauges.length:=by omega
   have:=no _ Qx.ng h9;simp only[h8];simp[h9',this]
   try (intros;omega)
  have:=no _ Qx.waters (by simpa using h6);have h6':c.waters.any Zq=true:=by simpa using h6
  simp only[h5,h6',this];simp
 have h4':(4:Int)<c.waters.length:=by omega
 have:=no _ Qx.nw h4;simp[h3,h4',this]
 try (intros;omega)
omit hK
@[simp] def weR (s:List Int) (z7:Int):List IV:=[.int .i64 (s.getD 0 0),.int .i64 (s.getD 1 0),.int .i64 (s.getD 2 0),.int .i64 (s.getD 3 0),.int .i64 z7]
@[simp] def weC (w:Qd):List IV:=weR w.zy w.zx
def W4 (c:Sea) (w:Qd):List IV:=[.agg (weC w),.int .i64 (VJ c c.gauges w:Nat)]
include hK
theorem Qjn (c:Sea) (w:Qd) (k:Nat) (hc:Qx c) (hw:okW c w) (hk:k<=c.voys.length):Gd K 316 [.ptr (VH c),.agg (weC w),.int .i64 k] (.int .i64 (Xc c w k)):=by
 refine Qb hK (fk func316 QG5 (by kernel_rfl)) (by simp) ?_;have hv8:=hc.nv;have hth:=hc.thick;simp only[inR] at hth;have hm:min k c.voys.length=k:=by omega
 have e0:AV.iv (IV.int IntKind.i64 c.thick)=AV.iv (.int .i64 (Qou c w (c.voys.take 0))):=by simp[Qou]
 simp[hm]
 (repeat' first|omega|with_reducible apply And.intro|intro)
 rw[e0,<- QMv];refine Qi (fun i=>[(4,AV.iv (.ptr (weC w))),(7,AV.iv (.int .i64 (Qou c w (c.voys.take i)))),(21,AV.iv (ZV (c.voys.take k))),(22,AV.iv (.int .i64 k)),(23,AV.iv (.int .i64 (i:Nat)))]) (fun _=>[]) k (fun _=>True) trivial ?_ ?_
 ·intro _;rw[Qa Qkq.eq_1];simp[Xc];split<;>omega
 ·intro i hi _ ih;have hi':i<c.voys.length:=by omega
  have hv:=hc.voy (QKL hi');have hl:=Ql0 hc hw (QKL hi');have hr:=QiR hc hw i;have h4:=hc.nw;rw[QgU c w i hi'] at ih;rw[Qa Qkq.eq_1];generalize Qou c w (c.voys.take i)=R at *;have hcase:c.voys[i].1=0\/c.voys[i].1=1\/c.voys[i].1=2\/c.voys[i].1=3:=by omega
  unfold Qno at hl ih;rcases hcase with h | h | h | h
  all_goals
   simp[h] at hl ih;simp[hi,hi',h]
   (repeat' first|omega|with_reducible apply And.intro|intro)
   try grind
theorem QxS (c:Sea) (t:Int) (hc:Qx c) (ht:0<=t/\t<=500):Gd K 315 [.ptr (VH c),.int .i64 t] (.int .i64 (Y8 c t)):=by
 refine Qb hK (fk func315 QG6 (by kernel_rfl)) (by simp) ?_;have h:=QBb hc.str ht;have h2:=QcB hc ht;unfold Y8 at h2 |-;simp;omega
theorem Qxt (c:Sea) (w:Qd) (g:Int × Int × Int) (hc:Qx c) (hw:okW c w) (hg:g∈c.gauges):Gd K 418 [.ptr (VH c),.agg (weC w),.agg (gaC g)] (.bool (QgP c w g)):=by
 refine Qb hK (fk func418 QGu (by kernel_rfl)) (by simp) ?_;have h:=hc.gau hg;have hv:=hc.nv;have hb:=VL hc hw g.1.toNat;have e:g.1=((g.1.toNat:Nat):Int):=by omega
 have hg7:=Qjn hK c w g.1.toNat hc hw (by omega);rw[<- e] at hg7;simp;refine cK (by simpa using hg7) ?_;simp
 (repeat' first|omega|with_reducible apply And.intro|intro)
 refine cK (JF hK _ _ _) ?_;simp[QgP]
theorem QFV (c:Sea) (w:Qd) (hc:Qx c) (hw:okW c w) {s s':Ext} {b:Bool} (hg:Yk prog K s (W4 c w) (.bool b) s') :
  qw prog K 417 [.agg (weC w),.ptr [.ptr (VH c)],.ptr [.lit s.v]] s (.bool b) s':=by
 refine Ye (fk func417 QGv (by kernel_rfl)) (by simp) hg.1 rfl ?_;have h6:=hc.ng;simp
 (repeat' first|omega|with_reducible apply And.intro|intro)
 refine Qi (fun i=>[(1,AV.iv (.ptr [.ptr (VH c)])),(2,AV.iv (.ptr [.lit s.v])),(3,AV.iv (.ptr (weC w))),(5,AV.iv (IV.int IntKind.i64 (VJ c (c.gauges.take i) w:Nat))),(12,AV.iv (ZP c.gauges)),(13,AV.iv (.int .i64 c.gauges.length)),(14,AV.iv (IV.int IntKind.i64 (i:Nat)))])
  (fun _=>[(0,.ext s)]) c.gauges.length (fun _=>True) trivial ?_ ?_
 ·intro _;rw[Qa QjV.eq_1];rw[QK0];simp;refine QcQ (by simpa[W4] using hg) rfl ?_;simp
 intro i hi _ ih;have hle:=QmS c (c.gauges.take i) w;simp at hle;rw[Qa QjV.eq_1];rw[Qga c c.gauges w i hi] at ih;simp[hi] at ih |-;have hg8:=Qxt hK c w c.gauges[i] hc hw (QKL hi);refine cK (by simpa using hg8) ?_;cases hr:QgP c w c.gauges[i]
 ·simp[hr] at ih |-
  grind
 simp[hr] at ih |-
 grind
omit hK
@[simp] def QBt (c:Sea) (v:Value):IV:=.clo 417 [] [.ptr [.ptr (VH c)],.ptr [.lit v]]
include hK
theorem QnY (c:Sea) (hc:Qx c) (first:List Int) (leak0:Int) (hlen:first.length=c.waters.length) (hr:∀ i (h:i<(VR c).zd.length) (h':i<first.length),inR first[i] (VR c).zd[i].lo (VR c).zd[i].hi)
  (s s':Ext) (b:Bool) (hf:Q9 prog K ((QX (VR c) first []).map (W4 c)) s b s') :
  qw prog K 416 [.ptr (VH c),.agg (weR first leak0),.int .i64 first.length,QBt c s.v] s (.bool b) s':=by
 refine Ye Qrb (by simp) hf.v rfl ?_;rw[QbO,Vy] at hf;have hwr:=ZW hc.z7;simp only at hwr;have e0:AV.iv (IV.int IntKind.i64 c.yh)=AV.iv (.int .i64 (c.yh+((0:Nat):Int))):=by simp
 simp[hlen]
 (repeat' first|omega|with_reducible apply And.intro|intro)
 rw[e0]
 refine Xd (c.yi+1-c.yh).toNat (fun i e o=>∃ si,si.v=s.v/\e=[(0,AV.iv (.ptr (VH c))),(3,AV.iv (QBt c s.v)),(5,AV.loc 5 0)]/\o=[(0,.ext si),(5,.box [.iv (.int .i64 (first.getD 0 0)),.iv (.int .i64 (first.getD 1 0)),.iv (.int .i64 (first.getD 2 0)),.iv (.int .i64 (first.getD 3 0)),.iv (.int .i64 (c.yh+(i:Nat)))])] /\
  Q9 prog K ((Zu (QgZ (VR c) first) i ((c.yi+1-c.yh).toNat-i)).map (W4 c)) si b s') ?_ ?_ _ _ ⟨s,rfl,by simp,by simp,by simpa using hf⟩
 ·rintro e o ⟨si,hv,rfl,rfl,hfd⟩;have q1:c.yh+((c.yi+1-c.yh).toNat:Int)=c.yi+1:=by omega
  have q2:¬ c.yi+1<=c.yi:=by omega
  rw[QL7] at hfd;cases hfd;rw[q1,Qa QjX.eq_1];simp[q2]
 ·rintro i e o hi ⟨si,hv,rfl,rfl,hfd⟩ ih;have q1:c.yh+(i:Int)<=c.yi:=by omega
  have q3:c.yh+((i:Int)+1)=c.yh+i+1:=by omega
  have hos:okW c ⟨first,c.yh+i⟩:=⟨by simpa using hlen,by simp only[inR,VR];omega,hr⟩;have e1:(c.yi+1-c.yh).toNat-i=((c.yi+1-c.yh).toNat-(i+1))+1:=by omega
  rw[e1] at hfd;simp only[Zu,QgZ,QK3,QKZ,QL8,List.singleton_append] at hfd;rw[Qa QjX.eq_1];simp[q1];cases hfd with
  | stop _ _ _ _ hg =>
    have hz:=QFV hK c ⟨first,c.yh+i⟩ hc hos hg;rw[hv] at hz;refine QhW (by kernel_rfl) (by simpa using hz) rfl ?_;simp
  | next _ _ _ s1 _ _ hg hr2 =>
    have hz:=QFV hK c ⟨first,c.yh+i⟩ hc hos hg;rw[hv] at hz;refine QhW (by kernel_rfl) (by simpa using hz) rfl ?_;simp
    (repeat' first|omega|with_reducible apply And.intro|intro)
    exact ih _ _ ⟨s1,hg.1.trans hv,rfl,by simp[q3],hr2⟩
theorem QFW (c:Sea) (hc:Qx c):∀ (n:Nat) (first:List Int),first.length+n=c.waters.length->(∀ i (h:i<(VR c).zd.length) (h':i<first.length),inR first[i] (VR c).zd[i].lo (VR c).zd[i].hi) ->
  ∀ (s s':Ext) (b:Bool),Q9 prog K ((QX (VR c) first ((VR c).zd.drop first.length)).map (W4 c)) s b s' ->
  qw prog K 416 [.ptr (VH c),.agg (weR first 0),.int .i64 first.length,QBt c s.v] s (.bool b) s'
 | 0,first,hn,hr=>by
   intro s s' b hf;have e1:(VR c).zd.drop first.length=[]:=QLu (by simp;omega)
   rw[e1] at hf;exact QnY hK c hc first 0 (by omega) hr s s' b hf
 | n+1,first,hn,hr=>by
   have ihn:=QFW c hc n;have xa:first.length<c.waters.length:=by omega
   have hlm:first.length<(VR c).zd.length:=by simpa using xa
   have hl4:=hc.nw;have hlv:=ZW (hc.waters _ (QKL xa));have hml:(VR c).zd[first.length]=⟨0,c.waters[first.length].1,c.waters[first.length].2⟩:=by simp
   have e1:(VR c).zd.drop first.length=(VR c).zd[first.length]::(VR c).zd.drop (first.length+1):=QLg hlm
   intro s s' b hf;rw[e1,Qat,hml] at hf;simp only at hf
   have ih2:∀ i:Nat,c.waters[first.length].1+(i:Int)<=c.waters[first.length].2->∀ (s s':Ext) (b:Bool),Q9 prog K (((fun i:Nat=>QX (VR c) (first++[c.waters[first.length].1+(i:Nat)]) ((VR c).zd.drop (first.length+1))) i).map (W4 c)) s b s' ->
     qw prog K 416 [.ptr (VH c),.agg (weR (first++[c.waters[first.length].1+(i:Int)]) 0),.int .i64 (first.length+1:Nat),QBt c s.v] s (.bool b) s':=fun i hi s s' b hf=>by
    have:=ihn (first++[c.waters[first.length].1+(i:Int)]) (by simp;omega) (fun k h h'=>by
     rcases QLU k first.length with hk | hk
     ·have:=hr k h hk;grind
     have:k=first.length:=by simp at h';omega
     subst this;rw[hml];simp only[List.getElem_append_right (QKJ _),QL7,QLF,inR];omega) s s' b (by simpa using hf)
    simpa using this
   generalize (fun i:Nat=>QX (VR c) (first++[c.waters[first.length].1+(i:Nat)]) ((VR c).zd.drop (first.length+1)))=pc at *
   refine Ye Qrb (by simp) hf.v rfl ?_;rw[Vy] at hf;have hlt':(first.length:Int)<c.waters.length:=by omega
   have hne:¬ (first.length:Int)=c.waters.length:=by omega
   have hne':¬ first.length=c.waters.length:=by omega
   have e0:AV.iv (IV.int IntKind.i64 c.waters[first.length].1)=AV.iv (.int .i64 (c.waters[first.length].1+((0:Nat):Int))):=by simp
   have e0b:AO.box [AV.iv (.int .i64 (first.getD 0 0)),.iv (.int .i64 (first.getD 1 0)),.iv (.int .i64 (first.getD 2 0)),.iv (.int .i64 (first.getD 3 0)),.iv (.int .i64 0)]=AO.box ((weR first 0).map .iv):=by simp
   simp[xa,hne,hne']
   (repeat' first|omega|with_reducible apply And.intro|intro)
   rw[e0]
   refine Xd (c.waters[first.length].2+1-c.waters[first.length].1).toNat (fun i e o=>∃ si y,si.v=s.v/\e=[(0,AV.iv (.ptr (VH c))),(2,AV.iv (IV.int IntKind.i64 (first.length:Nat))),(3,AV.iv (QBt c s.v)),(5,AV.loc 5 0),(9,AV.iv (.int .i64 (c.waters[first.length].1+(i:Nat))))] /\
    o=[(0,.ext si),(5,.box ((weR (first++[y]) 0).map .iv))] /\
    Q9 prog K ((Zu pc i ((c.waters[first.length].2+1-c.waters[first.length].1).toNat-i)).map (W4 c)) si b s') ?_ ?_ _ _ ⟨s,0,rfl,by simp,?_,by simpa using hf⟩
   ·rintro e o ⟨si,y,hv,rfl,rfl,hfd⟩;have q1:c.waters[first.length].1+((c.waters[first.length].2+1-c.waters[first.length].1).toNat:Int)=c.waters[first.length].2+1:=by omega
    have q2:¬ c.waters[first.length].2+1<=c.waters[first.length].2:=by omega
    rw[QL7] at hfd;cases hfd;rw[q1,Qa QjW.eq_1];simp[xa,q2]
   ·rintro i e o hi ⟨si,y,hv,rfl,rfl,hfd⟩ ih;have q1:c.waters[first.length].1+(i:Int)<=c.waters[first.length].2:=by omega
    have q3:c.waters[first.length].1+((i:Int)+1)=c.waters[first.length].1+i+1:=by omega
    have e1:(c.waters[first.length].2+1-c.waters[first.length].1).toNat-i=((c.waters[first.length].2+1-c.waters[first.length].1).toNat-(i+1))+1:=by omega
    rw[e1] at hfd;simp only[Zu,QK3] at hfd;rw[Qa QjW.eq_1];have hcase:(∃ s1 b1,Q9 prog K ((pc i).map (W4 c)) si b1 s1/\(b1=true->Q9 prog K ((Zu pc (i+1) ((c.waters[first.length].2+1-c.waters[first.length].1).toNat-(i+1))).map (W4 c)) s1 b s')/\(b1=false->b=false/\s1=s')):=by
     rcases Q9.append hfd with ⟨s1,h1,h2⟩ | ⟨h1,h2⟩
     all_goals grind
    obtain ⟨s1,b1,f1,f2,f3⟩:=hcase;have hgz:=ih2 i q1 _ _ _ f1;have hv1:=f1.v.trans hv;rw[hv] at hgz;have hfl:first=[]\/(∃ a,first=[a])\/(∃ a d,first=[a,d])\/∃ a d f,first=[a,d,f]:=by
     match first,xa,hl4 with
     | [],_,_=>exact .inl rfl
     | [a],_,_=>exact .inr (.inl ⟨a,rfl⟩)
     | [a,d],_,_=>exact .inr (.inr (.inl ⟨a,d,rfl⟩))
     | [a,d,f],_,_=>exact .inr (.inr (.inr ⟨a,d,f,rfl⟩))
     | _::_::_::_::_,h,h'=>simp at h;omega
    rcases hfl with rfl | ⟨a,rfl⟩ | ⟨a,d,rfl⟩ | ⟨a,d,f,rfl⟩
    all_goals
     try simp only[QK4,QKV,QKY,Nat.reduceAdd] at xa
     try simp only[QK4,QKV,QKY,Nat.reduceAdd] at q1
     try simp only[QK4,QKV,QKY,Nat.reduceAdd] at q3
     try simp only[QK4,QKV,QKY,Nat.reduceAdd] at hgz
     try simp only[QK4,QKV,QKY,Nat.reduceAdd] at ih
     try simp only[QK4,QKV,QKY,Nat.reduceAdd] at f2
     try simp only[QK4,QKV,QKY,Nat.reduceAdd] at hlt'
     try simp only[QK4,QKV,QKY,Nat.reduceAdd] at hlv
     try simp only[QK4,QKV,QKY,Nat.reduceAdd]
     simp[q1,xa]
     (repeat' first|omega|with_reducible apply And.intro|intro)
     refine QjR (by simpa using hgz) rfl ?_;cases b1
     ·obtain ⟨rfl,rfl⟩:=f3 rfl;simp
     simp
     (repeat' first|omega|with_reducible apply And.intro|intro)
     exact ih _ _ ⟨s1,_,hv1,by simp[q3],by simp;rfl,f2 rfl⟩
   ·have hfl:first=[]\/(∃ a,first=[a])\/(∃ a d,first=[a,d])\/∃ a d f,first=[a,d,f]:=by
     match first,xa,hl4 with
     | [],_,_=>exact .inl rfl
     | [a],_,_=>exact .inr (.inl ⟨a,rfl⟩)
     | [a,d],_,_=>exact .inr (.inr (.inl ⟨a,d,rfl⟩))
     | [a,d,f],_,_=>exact .inr (.inr (.inr ⟨a,d,f,rfl⟩))
     | _::_::_::_::_,h,h'=>simp at h;omega
    rcases hfl with rfl | ⟨a,rfl⟩ | ⟨a,d,rfl⟩ | ⟨a,d,f,rfl⟩<;>simp
theorem Qw6 (c:Sea) (hc:Qx c):qv prog K 399 [.ptr (VH c)] [] ((Qwm c).map (W4 c)):=by
 intro s b s' hf;refine Qec ?_;have h:=QFW hK c hc c.waters.length [] (by simp) (fun i h h'=>by simp at h') s s' b (by simpa[Qwm] using hf);refine Ye (fk func399 QGA (by kernel_rfl)) (by simp) hf.v rfl ?_;simp;refine QjR (by simpa using h) rfl ?_;simp
omit hK
def stW (w:Qd):List IV:=[.agg (weC w)]
theorem Qar:∀ rest:List ZC,(∀ l∈rest,l.hi-l.lo<=9)->(QJ rest).length<=10 ^ rest.length
 | [],_=>by simp[QJ]
 | l::r,h=>by
   have h1:=Qar r fun x hx=>h x (by simp[hx]);have h2:=Qf4 (fun i:Nat=>(QJ r).map ((l.lo+(i:Nat))::·)) (10 ^ r.length) (fun i=>by simpa using h1) (l.hi+1-l.lo).toNat;have h3:=h l (by simp);have h4:(l.hi+1-l.lo).toNat*10 ^ r.length<=10*10 ^ r.length:=QLc _ (by omega);simp only[QJ,QKV,Nat.pow_succ];omega
theorem Qwl {c:Sea} (hc:Qx c):(Qwm c).length<=100000:=by
 have h1:=Qar (VR c).zd (fun l hl=>by
  simp at hl;obtain ⟨a,b,hm,rfl⟩:=hl;have:=ZW (hc.waters _ hm);simp at this |-;omega)
 have h2:=ZW hc.z7;simp only at h2;have h3:=ZZ (fun s:List Int=>(List.range ((VR c).zw+1-(VR c).zu).toNat).map fun k:Nat=>(⟨[]++s,(VR c).zu+k⟩:Qd)) 10 (QJ (VR c).zd) (fun a _=>by simp;omega);have h4:10 ^ (VR c).zd.length<=10 ^ 4:=QLS (by omega) (by have:=hc.nw;simpa using this);have e:(Qwm c).length=((QJ (VR c).zd).flatMap fun s:List Int=>(List.range ((VR c).zw+1-(VR c).zu).toNat).map fun k:Nat=>(⟨[]++s,(VR c).zu+k⟩:Qd)).length:=rfl;rw[e];omega
theorem Qvg {c:Sea} (hc:Qx c):(wTr c).length<=100000:=QLv (QK5 _ _) (Qwl hc)
theorem Qgi {c:Sea} {w:Qd} (h:w∈wTr c):okW c w:=Qwk ((QK9.1 h).1)
section
variable {K:World->Prop}
theorem QbT {c:Sea} {ks:Env} (hks:Q5 [2,3] [0,3] ks=[(2,.iv (.ptr [.ptr (VH c)])),(3,.loc 3 0)]) :
  ∀ (Ls:List Qd) (s:Ext) (b:Bool) (s':Ext),Q9 prog K ((Ls.filter (isW c)).map stW) s b s' ->
   ∃ wy,(wy=.fall\/wy=.ret)/\VI prog K [8,9] qm QcT [2,3] [0,3] (Q5 [2,3] [0,3] ks) (Ls.map (W4 c)) [(0,.ext s),(3,.box [.cb 0])] wy [(0,.ext s'),(3,.box [.cb 0])]
 | [],s,b,s',h=>by
   cases h;exact ⟨.fall,.inl rfl,.nil _⟩
 | t::Ls,s,b,s',h=>by
   by_cases ht:(VJ c c.gauges t:Int)<=c.zh
   ·rw[QLQ (by simpa[isW] using ht)] at h;cases h with
    | stop _ _ _ _ hg =>
      refine ⟨.ret,.inr rfl,.stop _ _ _ _ _ (by simp) ?_⟩;rw[hks];refine ⟨rfl,?_⟩;simp[W4,qm,QcT,ht];refine QR (by simpa[stW] using hg) rfl ?_;simp
    | next _ _ _ s1 _ _ hg hr =>
      obtain ⟨wy,h1,h2⟩:=QbT hks Ls s1 b s' hr;refine ⟨wy,h1,.next _ _ _ _ _ _ ?_ h2⟩;rw[hks];refine ⟨rfl,?_⟩;simp[W4,qm,QcT,ht];refine QR (by simpa[stW] using hg) rfl ?_;simp
   rw[QLR (by simpa[isW] using ht)] at h;obtain ⟨wy,h1,h2⟩:=QbT hks Ls s b s' h;refine ⟨wy,h1,.next _ _ _ _ _ _ ?_ h2⟩;rw[hks];refine ⟨rfl,?_⟩;simp[W4,qm,QcT,ht]
end
noncomputable def tW (c:Sea) (is:Bool):Int:=if Qx c then (if is=true then (if wTr c=[] then 3 else 0) else 1) else 90
theorem Qwp {c:Sea} {is:Bool} (h:tW c is=0):Qx c/\is=true/\wTr c≠[]:=by
 unfold tW at h;grind
def loD (l:List Int):Int:=(ZE l).getD 0 0
def hiD (l:List Int):Int:=(ZE l).getD ((ZE l).length-1) 0
theorem QeS {l:List Int} (h:l≠[]):ZE l≠[]:=by
 obtain ⟨x,hx⟩:=QLy l h;exact QMu ((XL x l).2 hx)
include hK
theorem Qjd (c:Sea) (hc:Qx c):qv prog K 367 [.ptr (VH c)] [] ((wTr c).map stW):=by
 intro s b s' hfd;refine Qy (fk func367 QGJ (by kernel_rfl)) (by simp) hfd.v rfl ?_;obtain ⟨wy,h1,h2⟩:=QbT (c:=c) (ks:=[(2,.iv (.ptr [.ptr (VH c)])),(3,.loc 3 0)]) rfl (Qwm c) s b s' hfd;simp;refine QS (wy:=wy) (o':=[(0,.ext s'),(3,.box [.cb 0])]) rfl (by kernel_rfl) (Qw6 hK c hc) (by simpa using h2) ?_;rcases h1 with rfl | rfl<;>simp
theorem Qpz (c:Sea) (is:Bool):Gd K 312 [Qix c,.bool is] (.xd [if tW c is=0 then .ptr (VH c) else .nilp,.int .i64 (tW c is)]):=by
 refine Qb hK (fk func312 QG9 (by kernel_rfl)) (by simp) ?_;simp;refine cK (by simpa using QpH hK c) ?_;by_cases h1:Qx c
 ·cases is
  ·simp[h1,tW]
  simp[h1];cases hL:wTr c with
  | nil =>
    refine QS (wy:=.fall) (o':=[(4,.box [.iv .nilp]),(5,.box [.iv (.int .i64 0)]),(7,.box [.iv (.ptr (VH c))])]) rfl (by kernel_rfl) (Qjd hK c h1) (by rw[hL];simpa using VI.nil _) ?_;simp[tW,h1,hL]
  | cons a r =>
    refine QS (wy:=.ret) (o':=[(4,.box [.iv (.ptr (VH c))]),(5,.box [.iv (.int .i64 0)]),(7,.box [.iv (.ptr (VH c))])]) rfl (by kernel_rfl) (Qjd hK c h1) (by
     rw[hL];refine .stop _ _ _ _ _ (by simp) ?_;refine ⟨rfl,?_⟩;simp[stW,QmF,Qrj]) ?_
    simp[tW,h1,hL]
 ·simp[h1,tW]
theorem QxB (c:Sea) (hc:Qx c) (g:FuncId) (fs cs:List IV) (v:Qd->Int) (hg:∀ w∈wTr c,Gd K g (fs++[.agg (weC w)]++cs) (.int .i64 (v w))) (hcl:callee prog g=true) (hv:∀ w∈wTr c,-1000000<=v w/\v w<=1000000) :
  Gd K 368 [.ptr (VH c),.clo g fs cs] (QU (ZE ((wTr c).map v))):=by
 refine Qb hK (fk func368 QGI (by kernel_rfl)) (by simp) ?_;have hlen:=Qvg hc;simp;refine QS (wy:=.fall) (o':=[(5,.box [.yk 7]),(7,.xg (J6 (ZH ((wTr c).map v))))]) rfl (by kernel_rfl) (Qjd hK c hc) ?_ ?_
 ·have:=VI.all (P:=prog) (K:=K) (ps:=[10]) (asn:=QfL) (body:=Qj3) (ks:=[3,5]) (ids:=[5,7]) (eK:=[(3,.iv (.ptr [.clo g fs cs])),(5,.loc 5 0)]) ((wTr c).map stW)
   (fun i=>[(5,.box [.yk 7]),(7,.xg (J6 (ZH (((wTr c).map v).take i))))]) fun i x hi=>by
   simp only[QKN,QKK] at hi;obtain ⟨y,hy,rfl⟩:=hi;have xa:=(QKG.1 hy).1;have hyv:((wTr c).map v)[i]'(by simpa using xa)=v y:=by
    grind
   have hgy:=hg y (QKW hy);rw[QK8] at hgy;refine ⟨rfl,?_⟩;rw[QKH (by simpa using xa),ZK,hyv];have hle:=qY (v y) (((wTr c).map v).take i);have hkk:=XG (ZH (((wTr c).map v).take i));have hf:=YA (v y) (ZH (((wTr c).map v).take i));have hi:=Vs (v y) (ZH (((wTr c).map v).take i));have hle2:(((wTr c).map v).take i).length<=100000:=by simp;omega
   generalize ZH (((wTr c).map v).take i)=kv at *;simp[stW,QfL,Qj3];refine ⟨hcl,cK (by simpa using hgy) ?_⟩;simp[hkk,hf,hi];omega
  simpa[ZH,J6,QKM] using this
 ·simp;refine cK (by simpa using Qfp hK (J6 (ZH ((wTr c).map v)))) ?_;simp;refine cK (UH ((wTr c).map v) (fun x hx=>?_) (by simp;omega)) ?_
  ·grind
  ·simp
theorem Qpy (c:Sea) (hc:Qx c) (hne:wTr c≠[]) (g:FuncId) (fs cs:List IV) (v:Qd->Int) (hg:∀ w∈wTr c,Gd K g (fs++[.agg (weC w)]++cs) (.int .i64 (v w))) (hcl:callee prog g=true) (hv:∀ w∈wTr c,-1000000<=v w/\v w<=1000000) :
  Gd K 313 [.ptr (VH c),.clo g fs cs] (.agg [.int .i64 (loD ((wTr c).map v)),.int .i64 (hiD ((wTr c).map v))]):=by
 refine Qb hK (fk func313 QG8 (by kernel_rfl)) (by simp) ?_;have hs:=QeS (l:=(wTr c).map v) (by simpa using hne);have hl:0<(ZE ((wTr c).map v)).length:=QLo.2 hs;have hll:(ZE ((wTr c).map v)).length<=100000:=by
  have h1:=qj ((wTr c).map v);have h2:=Qvg hc;unfold ZE;simp at h1 |-;omega
 simp;refine cK (by simpa using QxB hK c hc g fs cs v hg hcl hv) ?_;unfold loD hiD;generalize ZE ((wTr c).map v)=L at *;have e:(L.length:Int)-1=((L.length-1:Nat):Int):=by omega
 have hl1:L.length-1<L.length:=by omega
 simp[hl,hl1,e]
 (repeat' first|omega|with_reducible apply And.intro|intro)
 try grind
theorem QxA (c:Sea) (k:Nat) (w:Qd) (hc:Qx c) (hw:okW c w) (hk:k<=c.voys.length):Gd K 369 [.agg (weC w),.ptr [.ptr (VH c)],.ptr [.int .i64 k]] (.int .i64 (Xc c w k)):=by
 refine Qb hK (fk func369 QGH (by kernel_rfl)) (by simp) ?_;simp;exact cK (by simpa using Qjn hK c w k hc hw hk) (by simp)
theorem QxT (c:Sea) (k:Nat) (w:Qd) (hc:Qx c) (hw:okW c w) (hk:k<=c.voys.length):Gd K 314 [.agg (weC w),.ptr [.ptr (VH c)],.ptr [.int .i64 k]] (.int .i64 (Y8 c (Xc c w k))):=by
 refine Qb hK (fk func314 QG7 (by kernel_rfl)) (by simp) ?_;simp;refine cK (by simpa using Qjn hK c w k hc hw hk) ?_;simp;exact cK (by simpa using QxS hK c _ hc (VL hc hw k)) (by simp)
theorem QxR (c:Sea) (k:Nat) (hk:k<=c.voys.length):Gd K 319 [Qix c,.int .i64 k]
  (.xd [if tW c true=0 then .agg [.int .i64 (loD ((wTr c).map fun w=>Xc c w k)),.int .i64 (hiD ((wTr c).map fun w=>Xc c w k))] else .agg [.int .i64 0,.int .i64 0],.int .i64 (tW c true)]):=by
 refine Qb hK (fk func319 QG4 (by kernel_rfl)) (by simp) ?_;have hin:inR (k:Int) 0 c.voys.length:=by simp only[inR];omega
 simp;refine cK (by simpa[hin] using Qjo hK c k) ?_;simp;refine cK (by simpa using Qpz hK c true) ?_;by_cases he:tW c true=0
 ·obtain ⟨hc,_,hne⟩:=Qwp he;simp[he];refine cK (by simpa using Qpy hK c hc hne 369 [] [.ptr [.ptr (VH c)],.ptr [.int .i64 k]] (fun w=>Xc c w k) (fun w hw=>by simpa using QxA hK c k w hc (Qgi hw) hk) (by kernel_rfl) (fun w hw=>by have:=VL hc (Qgi hw) k;omega)) ?_;simp
 simp[he]
theorem QpG (c:Sea) (k:Nat) (hk:k<=c.voys.length):Gd K 237 [Qix c,.int .i64 k]
  (.xd [if tW c true=0 then .agg [.int .i64 (loD ((wTr c).map fun w=>Y8 c (Xc c w k))),.int .i64 (hiD ((wTr c).map fun w=>Y8 c (Xc c w k)))] else .agg [.int .i64 0,.int .i64 0],.int .i64 (tW c true)]):=by
 refine Qb hK (fk func237 QH7 (by kernel_rfl)) (by simp) ?_;have hin:inR (k:Int) 0 c.voys.length:=by simp only[inR];omega
 simp;refine cK (by simpa[hin] using Qjo hK c k) ?_;simp;refine cK (by simpa using Qpz hK c true) ?_;by_cases he:tW c true=0
 ·obtain ⟨hc,_,hne⟩:=Qwp he;simp[he];refine cK (by simpa using Qpy hK c hc hne 314 [] [.ptr [.ptr (VH c)],.ptr [.int .i64 k]] (fun w=>Y8 c (Xc c w k)) (fun w hw=>by simpa using QxT hK c k w hc (Qgi hw) hk) (by kernel_rfl) (fun w hw=>by have:=QcB hc (VL hc (Qgi hw) k);omega)) ?_;simp
 simp[he]
omit hK
structure Qa3 (a p:Qe):Prop where
 sub:(QK a).Sublist (QK p)
 fail:∀ t,Xt a t=Xt p t
 y8:∀ l t,Zo a l t=Zo p l t
 good:∀ t,UR a t=UR p t
 z6:a.z6=p.z6
 link:∀ l,qN a l=qN p l
def QJZ (p:Qe) (s:XB):Qe:=⟨⟨p.zc.za,p.zc.zg++[s],p.zc.zh⟩,p.zb,p.zf,p.zo,p.z6⟩
def QJ0 (p:Qe) (b:ZD):Qe:=⟨p.zc,⟨p.zb.zd,p.zb.zr,p.zb.zu,p.zb.zw,p.zb.zk++[b],p.zb.zh⟩,p.zf,p.zo,p.z6⟩
theorem QeJ {α:Type} (f:α->Bool) {l l':List α} (h:∀ t∈l,t∈l') (hne:l≠[]) (h3:X5 (l'.countP f) l'.length≠3):X5 (l.countP f) l.length=X5 (l'.countP f) l'.length:=by
 have hl:l.length≠0:=fun e=>hne (QKR e);obtain ⟨t,ht⟩:=QLy _ hne;have hl':l'.length≠0:=fun e=>by grind
 by_cases h1:X5 (l'.countP f) l'.length=1
 ·rw[h1,Qdz,List.countP_eq_length]
  rw[Qdz,List.countP_eq_length] at h1;grind
 ·have h2:X5 (l'.countP f) l'.length=2:=by
   unfold X5 at *;omega
  rw[h2,QbG hl,QMf];rw[QbG hl',QMf] at h2;grind
theorem Qa3.kE {a p:Qe} (h:Qa3 a p) (hp:OkP p) (hk:kE a true=0):kE p true=0:=by
 have hne:=(JX hk).2.2.2;obtain ⟨t,ht⟩:=QLy _ hne;exact QEm hp (h.sub.subset ht)
theorem Qa3.len {a p:Qe} (h:Qa3 a p) (ha:OkP a) (hp:OkP p):(kL a true).length<=(kL p true).length:=by
 rw[UW ha,UW hp];exact h.sub.length_le
theorem Qa3.rFail {a p:Qe} (h:Qa3 a p) (hp:OkP p) (hk:Go.Pf.kE a true=0):(rFail p).1<=(rFail a).1/\(rFail a).2<=(rFail p).2:=by
 have hne:=(JX hk).2.2.2;unfold Go.Pf.rFail;rw[UW (JX hk).1,UW hp];have e:(fun t=>(Xt a t:Int))=fun t=>(Xt p t:Int):=funext fun t=>by rw[h.fail t]
 rw[e];have h1:=QeQ ((QK a).map fun t=>(Xt p t:Int)) (fun e=>hne (List.map_eq_nil_iff.1 e));obtain ⟨t1,ht1,e1⟩:=QKT.1 h1.1;obtain ⟨t2,ht2,e2⟩:=QKT.1 h1.2;rw[<- e1,<- e2];exact ⟨(Us (fun t=>(Xt p t:Int)) _ t1 (h.sub.subset ht1)).1,(Us (fun t=>(Xt p t:Int)) _ t2 (h.sub.subset ht2)).2⟩
theorem Qa3.rCond {a p:Qe} (h:Qa3 a p) (hp:OkP p) (hk:Go.Pf.kE a true=0) (h3:rCond p≠3):rCond a=rCond p:=by
 have hkp:=h.kE hp hk;unfold Go.Pf.rCond at *;rw[if_pos hkp] at h3 |-;rw[if_pos hk,UW (JX hk).1];rw[UW hp] at h3 |-;have e:(fun t=>decide (a.z6<=(Xt a t:Int)))=fun t=>decide (p.z6<=(Xt p t:Int)):=funext fun t=>by rw[h.fail t,h.z6]
 rw[e];exact QeJ _ (fun t ht=>h.sub.subset ht) (JX hk).2.2.2 h3
theorem Qa3.rGood {a p:Qe} (h:Qa3 a p) (hp:OkP p) (hk:Go.Pf.kE a true=0) (h3:rGood p≠3):rGood a=rGood p:=by
 have hkp:=h.kE hp hk;unfold Go.Pf.rGood at *;rw[if_pos hkp] at h3 |-;rw[if_pos hk,UW (JX hk).1];rw[UW hp] at h3 |-;have e:UR a=UR p:=funext fun t=>h.good t;rw[e];exact QeJ _ (fun t ht=>h.sub.subset ht) (JX hk).2.2.2 h3
theorem Qa3.rProved {a p:Qe} (h:Qa3 a p) (hp:OkP p) (hk:Go.Pf.kE a true=0) {link:Int} (hl:qN p link=true) (h3:rProved p link≠3):rProved a link=rProved p link:=by
 have hkp:=h.kE hp hk;unfold Go.Pf.rProved at *;rw[h.link link];rw[hl] at h3 |-;rw[if_pos hkp] at h3 |-;rw[if_pos hk,UW (JX hk).1];rw[UW hp] at h3 |-;have e:Zo a link=Zo p link:=funext fun t=>h.y8 link t;rw[e];exact QeJ _ (fun t ht=>h.sub.subset ht) (JX hk).2.2.2 h3
include hK
omit hK
theorem UM (D:List Qv) (e e':Nat->Int) (h:∀ i,i<D.length->e' i=e i):∀ k,cab D e' k=cab D e k
 | 0=>rfl
 | k+1=>by
   by_cases hk:k<D.length
   ·rw[UL D e' k hk,UL D e k hk,h k hk,UM D e e' h k]
   simp only[cab,QLL (by omega:D.length<=k)];exact UM D e e' h k
theorem QeB (D:List Qv) (ss:List XB) (e e':Nat->Int) (h:∀ i,i<D.length->e' i=e i):QN D ss e'=QN D ss e:=by
 unfold QN;refine List.countP_congr fun s _=>?_;unfold WM;rw[UM D e e' h]
def QfD (D:List Qv) (n:Nat):List Int:=(List.range D.length).map (Q1 D n)
theorem Qep (D:List Qv) (n i:Nat) (h:i<D.length):QI (QfD D n) i=Q1 D n i:=by
 unfold QI QfD;grind
theorem QiL {c:Qf} (hc:OkC c) {n:Nat} (h:n∈Qn c):QfD c.za n∈ZS c [] c.za:=by
 unfold Qn at h;have h2:=of_decide_eq_true (QK9.1 h).2;refine QhL hc ⟨⟨by simp[QfD],fun i hi hi'=>?_⟩,?_⟩
 ·have hg:(QfD c.za n)[i]=Q1 c.za n i:=by simp[QfD]
  rw[hg,QfE c.za n i hi];have hf:=QvU (hc.za i hi hi);simp only[inR] at hf;by_cases h2:c.za[i].z2=2
  ·rw[if_pos h2]
   refine ⟨?_,fun h=>by omega⟩;cases n.testBit ((Ui c.za).idxOf i)<;>simp[inR]
  rw[if_neg h2];exact ⟨by simp only[inR];omega,fun _=>rfl⟩
 rw[QeB c.za c.zg (Q1 c.za n) (QI (QfD c.za n)) (fun i hi=>Qep _ _ _ hi)]
 exact h2
def UV (l:List Nat) (link:Int):Int:=fi (fun k:Nat=>decide ((k:Int)=link)) l
def Qdy (c:Qf) (link:Int) (n:Nat):Int:=UV (cab c.za (Q1 c.za n) c.za.length) link
def Wl (c:Qf) (link:Int):Bool:=decide (inR link 0 ((Qbv c.za:Int)-1))
include hK
theorem QpD (left all link:Int) (h:0<=all/\all<=1000000):Gd K 271 [.int .i64 left,.int .i64 all,.ptr [.int .i64 link]] (.bool (decide (inR link 0 (all-1)))):=by
 refine Qb hK (fk func271 QHE (by kernel_rfl)) (by simp) ?_;simp
 repeat' first | omega | intro _ | apply And.intro
 refine cK (YJ hK _ _ _) ?_;simp
theorem QpM (link:Int):Gd K 189 [.int .i64 link] (.clo 271 [] [.ptr [.int .i64 link]]):=by
 refine Qb hK (fk func189 QIQ (by kernel_rfl)) (by simp) ?_;simp
theorem QyK (l:List Nat) (link:Int) (hl:l.length<=1000000):Gd K 191 [Xh l,.int .i64 link] (.int .i64 (UV l link)):=by
 refine Qb hK (fk func191 QIO (by kernel_rfl)) (by simp) ?_;simp;intro _;refine Qi (fun i=>[(0,AV.iv (Xh l)),(1,AV.iv (.int .i64 link)),(7,AV.iv (.int .i64 l.length)),(8,AV.iv (.int .i64 (i:Nat)))]) (fun _=>[]) l.length (fun i=>∀ k,(h:k<l.length)->k<i->¬ ((l[k]:Nat):Int)=link) (by intro k _ h;omega) ?_ ?_
 ·intro h;rw[Qa QkW.eq_1]
  have:UV l link = -1:=by
   unfold UV fi;grind
  simp[this]
 intro i hi h ih;rw[Qa QkW.eq_1];by_cases he:((l[i]:Nat):Int)=link
 ·have:UV l link=i:=by
   unfold UV fi;grind
  simp[hi,he,this]
 have he':¬ link=((l[i]:Nat):Int):=fun e=>he e.symm;have hn:∀ k,(h:k<l.length)->k<i+1->¬ ((l[k]:Nat):Int)=link:=fun k hk hki=>by
  grind
 have ih:=ih hn;simp[hi,he'] at ih |-
 grind
theorem QyL (D:List Qv) (e:Nat->Int) (pm:IV) (link:Int) (hl:D.length<=1000) (hc:(cab D e D.length).length<=1000):Gd K 190 [.agg (YL D e pm),.ptr [.int .i64 link]] (.int .i64 (UV (cab D e D.length) link)):=by
 refine Qb hK (fk func190 QIP (by kernel_rfl)) (by simp) ?_;have g120:=QjD hK D e pm hl;have g119:=QyK hK (cab D e D.length) link (by omega);simp;refine cK (by simpa using g120) ?_;simp;refine cK (by simpa using g119) ?_;simp
theorem Qzp (c:Qf) (link:Int) (hl:c.za.length<=1000) (hs:c.zg.length<=1000) :
  Gd K 103 [chV c,.int .i64 link] (.xd [QU (if Xu c (Wl c link)=0 then ZE ((Qn c).map (Qdy c link)) else []),.int .i64 (Xu c (Wl c link))]):=by
 refine Qb hK (fk func103 QJO (by kernel_rfl)) (by simp) ?_;have hcl:∀ n,OkC c->(cab c.za (Q1 c.za n) c.za.length).length<=12:=fun n h=>by
  have h1:=ZI (Q1 c.za n) h.za c.za.length (QKJ _) (QKJ _);have h2:=OkD.cnt h.za c.za.length (QKJ _) (QKJ _);have h3:=h.len;omega
 have hal:Qbv c.za<=1000:=QLv (QK5 _ _) hl
 have hg:=QcE hK c hl hs 271 [.ptr [.int .i64 link]] (Wl c link) (fun _=>QpD hK _ _ link (by omega)) (by kernel_rfl)
  190 [.ptr [.int .i64 link]] (Qdy c link) (fun h _ n _=>QyL hK c.za (Q1 c.za n) (pmC c n) link hl (by grind)) (by kernel_rfl) (fun h _ n _=>by
   have h1:=hcl n h;unfold Qdy UV fi;grind)
 simp;refine cK (by simpa using QpM hK link) ?_;simp;refine cK (by simpa using hg) ?_;simp
omit hK
def QrE (c:Qf) (pos:Int) (n:Nat):Int:=(JU c.za ((cab c.za (Q1 c.za n) c.za.length).getD pos.toNat 0)).bar
def XC (c:Qf) (pos:Int) (n:Nat):Int:=(JU c.za ((cab c.za (Q1 c.za n) c.za.length).getD pos.toNat 0)).z1
def VE (c:Qf) (link:Int) (n:Nat):Int:=(((Qh (.int .i64 link) (prf c.za (Q1 c.za n) c.za.length)).getD []).length:Nat)
theorem QlZ {ds:List Qv} (hc:OkD ds ds.length) (k:Nat) (hk:k<(Xe ds).length):inR (JU ds k).bar 0 99/\inR (JU ds k).z1 0 99:=by
 rw[<- qM ds k hk];have hm:=QK9.1 (QKL hk);obtain ⟨i,hi,e⟩:=QLh hm.1;have hd:=hc i hi hi;rw[e] at hd;have hw:(Xe ds)[k].zp=1:=by simpa[ZJ] using hm.2
 rcases hd with h | h | h
 ·grind
 ·grind
 grind
theorem Qbp {ds:List Qv} (e:Nat->Int) (n:Nat) (hn:n<(cab ds e ds.length).length):(cab ds e ds.length)[n]<(Xe ds).length:=by
 have h1:=ql ds e ds.length _ (QKL hn);have h2:=QeE ds ds.length;rw[Yd];omega
theorem QgY (k:MK):∀ kvs:List (MK × List (List IV)),(Qh k (kvs.map fun p=>(p.1,IV.sl 1 p.2))).getD (.sl 1 [])=.sl 1 ((Qh k kvs).getD [])
 | []=>rfl
 | p::r=>by
   by_cases h:p.1=k
   ·simp[Qh,h]
   simpa[Qh,h] using QgY k r
theorem QdR {kk:KK}:∀ kvs:List (MK × List (List IV)),QP kk kvs->QP kk (kvs.map fun p=>(p.1,IV.sl 1 p.2))
 | [],_=>trivial
 | _::r,h=>⟨h.1,QdR r h.2⟩
include hK
theorem QpA (ds:List Qv) (e:Nat->Int) (pm:IV) (hl:ds.length<=1000) (n:Nat) (hn:n<(cab ds e ds.length).length) :
  Gd K 311 [.agg (YL ds e pm),.int .i64 n] (.agg (lkC (JU ds (cab ds e ds.length)[n]))):=by
 refine Qb hK (fk func311 QHa (by kernel_rfl)) (by simp) ?_;have h1:=Qbp e n hn;have hm:=qM ds _ h1;simp;refine cK (by simpa using QjD hK ds e pm hl) ?_;rw[<- hm];simp[hn,h1]
 try omega
theorem QxC (ds:List Qv) (e:Nat->Int) (pm:IV) (hl:ds.length<=1000) (n:Nat) (hn:n<(cab ds e ds.length).length) :
  Gd K 366 [.agg (YL ds e pm),.ptr [.int .i64 n]] (.int .i64 (JU ds (cab ds e ds.length)[n]).bar):=by
 refine Qb hK (fk func366 QGK (by kernel_rfl)) (by simp) ?_;simp;exact cK (by simpa using QpA hK ds e pm hl n hn) (by simp)
theorem QxU (ds:List Qv) (e:Nat->Int) (pm:IV) (hl:ds.length<=1000) (n:Nat) (hn:n<(cab ds e ds.length).length) :
  Gd K 310 [.agg (YL ds e pm),.ptr [.int .i64 n]] (.int .i64 (JU ds (cab ds e ds.length)[n]).z1):=by
 refine Qb hK (fk func310 QHb (by kernel_rfl)) (by simp) ?_;simp;exact cK (by simpa using QpA hK ds e pm hl n hn) (by simp)
theorem QxW (c:Qf) (pos:Int) (hl:c.za.length<=1000) (hs:c.zg.length<=1000) :
  Gd K 308 [chV c,.int .i64 pos] (.xd [QU (if Xu c (decide (inR pos 0 (Ql c.za-1)))=0 then ZE ((Qn c).map (QrE c pos)) else []),.int .i64 (Xu c (decide (inR pos 0 (Ql c.za-1))))]):=by
 refine Qb hK (fk func308 QHd (by kernel_rfl)) (by simp) ?_;simp;refine cK (by simpa using QjE hK pos) ?_;simp;have hcl:∀ n,OkC c->((cab c.za (Q1 c.za n) c.za.length).length:Int)=Ql c.za:=fun n h=>by
  rw[ZI _ h.za _ (QKJ _) (QKJ _)];rfl
 have hg:=QcE hK c hl hs 270 [.ptr [.int .i64 pos]] (decide (inR pos 0 (Ql c.za-1))) (fun h=>by
   have h2:=h.za.cnt c.za.length (QKJ _) (QKJ _);simpa using Qjp hK (Ql c.za) (Qbv c.za) pos (by unfold Ql;omega)) (by kernel_rfl) 366 [.ptr [.int .i64 pos]] (QrE c pos) (fun h hi n _=>by
   have h3:=hcl n h;have hi:=of_decide_eq_true hi;simp only[inR] at hi;have h4:pos=((pos.toNat:Nat):Int):=by omega
   have h5:pos.toNat<(cab c.za (Q1 c.za n) c.za.length).length:=by omega
   have h6:=QxC hK c.za (Q1 c.za n) (pmC c n) hl pos.toNat h5;rw[<- h4] at h6;have h7:(cab c.za (Q1 c.za n) c.za.length).getD pos.toNat 0=(cab c.za (Q1 c.za n) c.za.length)[pos.toNat]:=by grind
   unfold QrE;rw[h7];exact h6) (by kernel_rfl) (fun h hi n _=>by
   have h3:=hcl n h;have hi:=of_decide_eq_true hi;simp only[inR] at hi;have h5:pos.toNat<(cab c.za (Q1 c.za n) c.za.length).length:=by omega
   have h7:(cab c.za (Q1 c.za n) c.za.length).getD pos.toNat 0=(cab c.za (Q1 c.za n) c.za.length)[pos.toNat]:=by grind
   have h8:=QlZ h.za _ (Qbp _ _ h5);unfold QrE;rw[h7];simp only[inR] at h8;omega)
 exact cK (by simpa using hg) (by simp)
theorem Qyr (c:Qf) (pos:Int) (hl:c.za.length<=1000) (hs:c.zg.length<=1000) :
  Gd K 234 [chV c,.int .i64 pos] (.xd [QU (if Xu c (decide (inR pos 0 (Ql c.za-1)))=0 then ZE ((Qn c).map (XC c pos)) else []),.int .i64 (Xu c (decide (inR pos 0 (Ql c.za-1))))]):=by
 refine Qb hK (fk func234 QH9 (by kernel_rfl)) (by simp) ?_;simp;refine cK (by simpa using QjE hK pos) ?_;simp;have hcl:∀ n,OkC c->((cab c.za (Q1 c.za n) c.za.length).length:Int)=Ql c.za:=fun n h=>by
  rw[ZI _ h.za _ (QKJ _) (QKJ _)];rfl
 have hg:=QcE hK c hl hs 270 [.ptr [.int .i64 pos]] (decide (inR pos 0 (Ql c.za-1))) (fun h=>by
   have h2:=h.za.cnt c.za.length (QKJ _) (QKJ _);simpa using Qjp hK (Ql c.za) (Qbv c.za) pos (by unfold Ql;omega)) (by kernel_rfl) 310 [.ptr [.int .i64 pos]] (XC c pos) (fun h hi n _=>by
   have h3:=hcl n h;have hi:=of_decide_eq_true hi;simp only[inR] at hi;have h4:pos=((pos.toNat:Nat):Int):=by omega
   have h5:pos.toNat<(cab c.za (Q1 c.za n) c.za.length).length:=by omega
   have h6:=QxU hK c.za (Q1 c.za n) (pmC c n) hl pos.toNat h5;rw[<- h4] at h6;have h7:(cab c.za (Q1 c.za n) c.za.length).getD pos.toNat 0=(cab c.za (Q1 c.za n) c.za.length)[pos.toNat]:=by grind
   unfold XC;rw[h7];exact h6) (by kernel_rfl) (fun h hi n _=>by
   have h3:=hcl n h;have hi:=of_decide_eq_true hi;simp only[inR] at hi;have h5:pos.toNat<(cab c.za (Q1 c.za n) c.za.length).length:=by omega
   have h7:(cab c.za (Q1 c.za n) c.za.length).getD pos.toNat 0=(cab c.za (Q1 c.za n) c.za.length)[pos.toNat]:=by grind
   have h8:=QlZ h.za _ (Qbp _ _ h5);unfold XC;rw[h7];simp only[inR] at h8;omega)
 exact cK (by simpa using hg) (by simp)
theorem QxV (c:Qf) (hc:OkC c) (link:Int) (n:Nat):Gd K 309 [.agg (YL c.za (Q1 c.za n) (pmC c n)),.ptr [.int .i64 link]] (.int .i64 (VE c link n)):=by
 refine Qb hK (fk func309 QHc (by kernel_rfl)) (by simp) ?_;have h1:=Qe5 c.za (Q1 c.za n) hc.za c.za.length (QKJ _);have h2:=h1.len (.int .i64 link);have h3:=QdR _ h1.1;have h4:=QgY (.int .i64 link) (prf c.za (Q1 c.za n) c.za.length);have h12:=hc.len;have h5:c.za.length*c.za.length<=12*12:=Nat.mul_le_mul h12 h12;unfold VE;simp[pmC];rw[h4];simp[h3]
 try omega
theorem Qys (c:Qf) (link:Int) (hl:c.za.length<=1000) (hs:c.zg.length<=1000) :
  Gd K 233 [chV c,.int .i64 link] (.xd [if Xu c (decide (inR link 0 ((Qbv c.za:Int)-1)))=0 then .agg [.int .i64 (loD ((Qn c).map (VE c link))),.int .i64 (hiD ((Qn c).map (VE c link)))] else .agg [.int .i64 0,.int .i64 0],.int .i64 (Xu c (decide (inR link 0 ((Qbv c.za:Int)-1))))]):=by
 refine Qb hK (fk func233 QIa (by kernel_rfl)) (by simp) ?_;simp;refine cK (by simpa using QpM hK link) ?_;simp;have hal:Qbv c.za<=c.za.length:=QK5 _ _
 have hg:=QcE hK c hl hs 271 [.ptr [.int .i64 link]] (decide (inR link 0 ((Qbv c.za:Int)-1))) (fun h=>by
   simpa using QpD hK (Ql c.za) (Qbv c.za) link (by omega)) (by kernel_rfl) 309 [.ptr [.int .i64 link]] (VE c link) (fun h hi n _=>by
   simpa using QxV hK c h link n) (by kernel_rfl) (fun h hi n _=>by
   have h1:=Qe5 c.za (Q1 c.za n) h.za c.za.length (QKJ _);have h2:=h1.len (.int .i64 link);have h12:=h.len;have h5:c.za.length*c.za.length<=12*12:=Nat.mul_le_mul h12 h12;unfold VE;omega)
 refine cK (by simpa using hg) ?_;by_cases he:Xu c (decide (inR link 0 ((Qbv c.za:Int)-1)))=0;rotate_left
 ·simp[he]
 have hr:Qn c≠[]:=by
  unfold Xu at he;grind
 have hs:=QeS (l:=(Qn c).map (VE c link)) (by simpa using hr);have hl:0<(ZE ((Qn c).map (VE c link))).length:=QLo.2 hs;have hll:(ZE ((Qn c).map (VE c link))).length<=(2 ^ Z2 c.za):=by
  have h1:=qj ((Qn c).map (VE c link));have h2:=QK5 (fun n=>decide ((QN c.za c.zg (Q1 c.za n):Int)<=c.zh)) (List.range (2 ^ Z2 c.za));unfold ZE;unfold Qn at *;simp at h1 h2 |-;omega
 have h12:c.za.length<=12:=by
  unfold Xu at he;have:OkC c:=by grind
  exact this.len
 have hp:=Va (n:=Z2 c.za) (by have:=U6 c.za;omega);simp[he];unfold loD hiD;generalize ZE ((Qn c).map (VE c link))=L at *;have e:(L.length:Int)-1=((L.length-1:Nat):Int):=by omega
 have hl1:L.length-1<L.length:=by omega
 simp[hl,hl1,e]
 try (repeat' first|omega|with_reducible apply And.intro|intro)
 try grind
omit hK
structure Zs where
 zc:Qf
 sea:Sea
 plo:Int
 phi:Int
 flo:Int
 fhi:Int
 rlo:Int
 rhi:Int
 part:Int
 marks:List (Int × Int)
 z5:Int
 pth:Int
 deriving DecidableEq
@[simp] def QBh (l:Zs):List IV:=[ZV l.marks,.int .i64 l.z5,.int .i64 l.pth]
@[simp] def lsC (l:Zs):List IV:=[Qz l.zc.za,Qu l.zc.zg,.int .i64 l.zc.zh,.int .i64 l.sea.thick,.int .i64 l.sea.str,ZV l.sea.waters,.int .i64 l.sea.yh,.int .i64 l.sea.yi,ZV l.sea.voys,ZP l.sea.gauges,.int .i64 l.sea.zh,
 .int .i64 l.plo,.int .i64 l.phi,.int .i64 l.flo,.int .i64 l.fhi,.int .i64 l.rlo,.int .i64 l.rhi,.int .i64 l.part,ZV l.marks,.int .i64 l.z5,.int .i64 l.pth]
@[simp] def lsV (l:Zs):IV:=.agg (lsC l)
def ZX (lo hi most:Int):Prop:=inR lo 0 hi/\hi<=most
instance (lo hi most:Int):Decidable (ZX lo hi most):=by unfold ZX;infer_instance
def Qag (m:Int × Int):Bool:=!decide (inR m.1 (-1) 99)||!decide (inR m.2 (-1) 99)
structure OkL (l:Zs):Prop where
 zc:OkC l.zc
 sea:Qx l.sea
 zq:ZX l.plo l.phi 99999
 flaw:ZX l.flo l.fhi 100
 rated:ZX l.rlo l.rhi 99999
 part:inR l.part 1 100
 mlen:inR (l.marks.length:Int) 1 8
 marks:∀ m∈l.marks,Qag m=false
 z5:inR l.z5 0 ((l.marks.length:Int)-1)
 pth:inR l.pth (-1) 500
 long:(l.marks.length:Int)<=Ql l.zc.za
noncomputable instance (l:Zs):Decidable (OkL l):=Classical.propDecidable _
include hK
theorem Ub (n a b:Int):Gd K 226 [.int .i64 n,.int .i64 a,.int .i64 b] (.bool (decide (inR n a b))):=by
 refine Qb hK (fk func226 QIi (by kernel_rfl)) (by simp) ?_;by_cases h1:a<=n
 ·simp[h1,inR]
 simp[h1,inR]
theorem Qjs (a b m:Int):Gd K 228 [.agg [.int .i64 a,.int .i64 b],.int .i64 m] (.bool (decide (ZX a b m))):=by
 refine Qb hK (fk func228 QIg (by kernel_rfl)) (by simp) ?_;simp;refine cK (Ub hK _ _ _) ?_;by_cases h1:inR a 0 b
 ·simp[h1,ZX]
 simp[h1,ZX]
theorem Qyw (m:Int × Int):Gd K 225 [.agg (spC m)] (.bool (Qag m)):=by
 refine Qb hK (fk func225 QIj (by kernel_rfl)) (by simp) ?_;simp;refine cK (Ub hK _ _ _) ?_;by_cases h1:inR m.1 (-1) 99
 ·simp[h1];exact cK (Ub hK _ _ _) (by simp[Qag,h1])
 ·simp[h1,Qag]
theorem QxX (l:List (Int × Int)) (g:FuncId) (p:Int × Int->Bool) (hg:∀ x,Gd K g [.agg (spC x)] (.bool (p x))) (hc:callee prog g=true) (hl:l.length<=1000):Gd K 305 [ZV l,.fn g] (.int .i64 (fi p l)):=by
 refine Qb hK (fk func305 QHg (by kernel_rfl)) (by simp) ?_;simp;intro _;refine Qi (fun i=>[(0,AV.iv (ZV l)),(1,AV.iv (.fn g)),(7,AV.iv (.int .i64 l.length)),(8,AV.iv (IV.int IntKind.i64 (i:Nat)))]) (fun _=>[]) l.length (fun i=>∀ x∈l.take i,p x=false) (by simp) ?_ ?_
 ·intro h;rw[Qa Qks.eq_1];rw[QK0] at h;simp[YK p l h]
 intro i hi h ih;rw[Qa Qks.eq_1];have hgi:=hg l[i];simp[hi] at ih |-;refine ⟨hc,cK (by simpa using hgi) ?_⟩;by_cases hp:p l[i]=true
 ·simp[hp,QaX p l i hi hp h]
 have hp':p l[i]=false:=by simpa using hp
 simp[hp'];refine ⟨by omega,ih ?_⟩;rw[QKH hi]
 grind
theorem Qyv (l:List (Int × Int)) (g:FuncId) (p:Int × Int->Bool) (hg:∀ x,Gd K g [.agg (spC x)] (.bool (p x))) (hc:callee prog g=true) (hl:l.length<=1000):Gd K 229 [ZV l,.fn g] (.bool (l.any p)):=by
 refine Qb hK (fk func229 QIf (by kernel_rfl)) (by simp) ?_;simp;refine cK (by simpa using QxX hK l g p hg hc hl) ?_;simp[Xs]
theorem Qy5 (l:Zs) (hd:l.zc.za.length<=1000) (hs:l.zc.zg.length<=1000):Gd K 142 [lsV l] (.int .i64 (if OkL l then 0 else 100)):=by
 refine Qb hK (fk func142 QJr (by kernel_rfl)) (by simp) ?_;have no:∀ q:Prop,(OkL l->q)->¬ q->¬ OkL l:=fun q h1 h2 h=>h2 (h1 h);simp;refine cK (by simpa using qV hK l.zc hd hs) ?_;by_cases h1:OkC l.zc;rotate_left
 ·have:=no _ OkL.zc h1;simp[h1,this]
 simp[h1];refine cK (by simpa using QpH hK l.sea) ?_;by_cases h2:Qx l.sea;rotate_left
 ·have:=no _ OkL.sea h2;simp[h2,this]
 simp[h2];refine cK (Qjs hK _ _ _) ?_;by_cases h3:ZX l.plo l.phi 99999;rotate_left
 ·have:=no _ OkL.zq h3;simp[h3,this]
 simp[h3];refine cK (Qjs hK _ _ _) ?_;by_cases h4:ZX l.flo l.fhi 100;rotate_left
 ·have:=no _ OkL.flaw h4;simp[h4,this]
 simp[h4];refine cK (Qjs hK _ _ _) ?_;by_cases h5:ZX l.rlo l.rhi 99999;rotate_left
 ·have:=no _ OkL.rated h5;simp[h5,this]
 simp[h5];refine cK (Ub hK _ _ _) ?_;by_cases h6:inR l.part 1 100;rotate_left
 ·have:=no _ OkL.part h6;simp[h6,this]
 simp[h6];intro _;refine cK (Ub hK _ _ _) ?_;by_cases h7:inR (l.marks.length:Int) 1 8;rotate_left
 ·have:=no _ OkL.mlen h7;simp[h7,this]
 have h7':=h7;simp only[inR] at h7';simp[h7];refine cK (by simpa using Qyv hK l.marks 225 Qag (Qyw hK) (by kernel_rfl) (by omega)) ?_;by_cases h8:l.marks.any Qag=false;rotate_left
 ·have:=no _ OkL.marks (by simpa using h8);have h8':l.marks.any Qag=true:=by simpa using h8
  simp only[h8',this];simp
 simp only[h8];simp
 (repeat' first|omega|with_reducible apply And.intro|intro)
 refine cK (Ub hK _ _ _) ?_;by_cases h9:inR l.z5 0 ((l.marks.length:Int)-1)
 ·simp[h9];refine cK (Ub hK _ _ _) ?_;by_cases h10:inR l.pth (-1) 500
  ·simp[h10];refine cK (by simpa using qU hK l.zc hd hs) ?_;simp[h1];by_cases h11:(l.marks.length:Int)<=Ql l.zc.za
   ·have:OkL l:=⟨h1,h2,h3,h4,h5,h6,h7,by simpa using h8,h9,h10,h11⟩;have h11':¬ Ql l.zc.za<l.marks.length:=by omega
    simp[h11',this]
   have:=no _ OkL.long h11;have h11':Ql l.zc.za<l.marks.length:=by omega
   simp[h11',this]
  have:=no _ OkL.pth h10;simp[h10,this]
 have:=no _ OkL.z5 h9;simp[h9,this]
theorem Qyt (l:List Int) (e:Int) (h:l≠[]):Gd K 232 [QU l,.int .i64 e] (.int .i64 (l.getD 0 0)):=by
 refine Qb hK (fk func232 QIb (by kernel_rfl)) (by simp) ?_;have h0:0<l.length:=QLo.2 h;simp[h0]
end Go.Pf
namespace Go.Pf
open Go Go.Ev Go.Proofs Go.RowKit Go.ChangeShapes Go.WideShapes Go.Proofs.YtenlhiebmnojhaaGreatDoor Go.Proofs.Tryz
theorem own:ownKnob prog.godebug=none:=by kernel_rfl
theorem QoY:laidOutB prog=true:=by kernel_rfl
noncomputable def Qcr (os:Os):World:=World.laidAll prog os Rows.topSpotsRow.laid
theorem QsA (os:Os) (args:Array Value):laidMet prog Rows.topSpotsRow.laid ((Qcr os).forCall (fun _ _=>0) ⟨#[],args,[]⟩).memory :=
 laidMet_laidAll args (by kernel_rfl) (by kernel_rfl)
theorem QFY : "*" ++ "errors.errorString" = "*errors.errorString" := by decide
set_option maxRecDepth 100000 in
theorem Qv2 (u : TypeId) (h : prog.typeName? 3 u = some "*errors.errorString") : u = 485 :=
 typeName_ptr_named (nm := "errors.errorString") (by rw [QFY]; kernel_rfl) (by kernel_rfl) (by decide) u (by rw [QFY]; exact h)
def Qez (es:List Sh) (row:List IV):Prop:=∀ (j:Nat) (s:Sh) (x:IV),es[j]?=some s->row[j]?=some x->Qa1 s x
abbrev shI:Sh:=Sh.int IntKind.i64
theorem Qvu (n:Nat):∀ rows:List (List IV),(∀ row∈rows,row.length=n)->(∀ row∈rows,Qez (List.replicate n shI) row)->∃ fs:List (List Int),rows=fs.map (fun l=>l.map fun x=>.int .i64 x)/\∀ l∈fs,l.length=n
 | [],_,_=>⟨[],rfl,by simp⟩
 | row::rows,hrl,hr=>by
   obtain ⟨fs,hfs,hl⟩:=Qvu n rows (fun r hr'=>hrl r (by simp[hr'])) (fun r hr'=>hr r (by simp[hr']));have h1:=hrl row (by simp);have h2:=hr row (by simp);have key:∀ row:List IV,(∀ x∈row,Qa1 shI x)->∃ l:List Int,row=l.map (fun x=>.int .i64 x)/\l.length=row.length:=fun row=>by
    induction row with
    | nil=>exact fun _=>⟨[],rfl,rfl⟩
    | cons x r ih =>
      intro h;obtain ⟨l,e,hl⟩:=ih fun y hy=>h y (by simp[hy]);have hx:=h x (by simp);cases hx with
      | int _ m _ _=>exact ⟨m::l,by simp[<- e],by simp[hl]⟩
   obtain ⟨l,e,hll⟩:=key row fun x hx=>by
    obtain ⟨k,hk,rfl⟩:=QLh hx;exact h2 k shI row[k] (by simp[<- h1,hk]) (by simp[hk])
   exact ⟨l::fs,by simp[hfs,e],fun x hx=>by
    rcases QKU.1 hx with rfl | hx
    ·omega
    exact hl x hx⟩
theorem QeW {α:Type} {n:Nat} {c:α->List IV} (g:List Int->α) (hg:∀ l:List Int,l.length=n->c (g l)=l.map fun x=>.int .i64 x) {rows:List (List IV)} (h1:∀ row∈rows,row.length=n) (h2:∀ row∈rows,Qez (List.replicate n shI) row):∃ fs:List α,rows=fs.map c:=by
 obtain ⟨fs,rfl,hl⟩:=Qvu n rows h1 h2;refine ⟨fs.map g,?_⟩;rw[List.map_map];exact QMe fun l h=>(hg l (hl l h)).symm
theorem Qnb (rows:List (List IV)):(∀ row∈rows,row.length=5)->(∀ row∈rows,Qez [shI,shI,shI,shI,shI] row)->∃ fs:List Qv,rows=fs.map dC :=
 QeW (n:=5) (fun l=>⟨l.getD 0 0,l.getD 1 0,l.getD 2 0,l.getD 3 0,l.getD 4 0⟩) fun l h=>match l,h with
  | [_,_,_,_,_],_=>rfl
theorem QiE (rows:List (List IV)):(∀ row∈rows,row.length=5)->(∀ row∈rows,Qez [shI,shI,shI,shI,shI] row)->∃ fs:List XB,rows=fs.map sC :=
 QeW (n:=5) (fun l=>⟨l.getD 0 0,l.getD 1 0,l.getD 2 0,l.getD 3 0,l.getD 4 0⟩) fun l h=>match l,h with
  | [_,_,_,_,_],_=>rfl
theorem qD (rows:List (List IV)):(∀ row∈rows,row.length=2)->(∀ row∈rows,Qez [shI,shI] row)->∃ fs:List (Int × Int),rows=fs.map spC :=
 QeW (n:=2) (fun l=>⟨l.getD 0 0,l.getD 1 0⟩) fun l h=>match l,h with
  | [_,_],_=>rfl
theorem QiF (rows:List (List IV)):(∀ row∈rows,row.length=3)->(∀ row∈rows,Qez [shI,shI,shI] row)->∃ fs:List (Int × Int × Int),rows=fs.map gaC :=
 QeW (n:=3) (fun l=>⟨l.getD 0 0,l.getD 1 0,l.getD 2 0⟩) fun l h=>match l,h with
  | [_,_,_],_=>rfl
theorem QEc:shp prog 7 37=some [.sl 40 [shI,shI,shI,shI,shI],.sl 40 [shI,shI,shI,shI,shI],shI,shI,shI,.sl 16 [shI,shI],shI,shI,.sl 16 [shI,shI],.sl 24 [shI,shI,shI],shI,shI,shI,shI,shI,shI,shI,shI,.sl 16 [shI,shI],shI,shI]:=by kernel_rfl
theorem QD6:∃ fs,prog.underlying 37=some (.struct fs):=⟨_,underlying37⟩
set_option maxRecDepth 100000 in
theorem QuZ {x:IV} (h:Qll prog 37 x):∃ l,x=lsV l:=by
 obtain ⟨ss,h1,h2⟩:=h;rw[QEc] at h1;injection h1 with h1;subst h1;obtain ⟨fs',hu⟩:=QD6;rw[hu] at h2;obtain ⟨xs,rfl,hl,hf⟩:=h2
 match xs,hl with
 | [a0,a1,a2,a3,a4,a5,a6,a7,a8,a9,a10,a11,a12,a13,a14,a15,a16,a17,a18,a19,a20],_ =>
   have h0:=hf 0 _ a0 rfl rfl;have h1:=hf 1 _ a1 rfl rfl;have h2:=hf 2 _ a2 rfl rfl;have h3:=hf 3 _ a3 rfl rfl;have h4:=hf 4 _ a4 rfl rfl;have h5:=hf 5 _ a5 rfl rfl;have h6:=hf 6 _ a6 rfl rfl;have h7:=hf 7 _ a7 rfl rfl;have h8:=hf 8 _ a8 rfl rfl;have h9:=hf 9 _ a9 rfl rfl;have h10:=hf 10 _ a10 rfl rfl;have h11:=hf 11 _ a11 rfl rfl;have h12:=hf 12 _ a12 rfl rfl;have h13:=hf 13 _ a13 rfl rfl;have h14:=hf 14 _ a14 rfl rfl;have h15:=hf 15 _ a15 rfl rfl;have h16:=hf 16 _ a16 rfl rfl;have h17:=hf 17 _ a17 rfl rfl;have h18:=hf 18 _ a18 rfl rfl;have h19:=hf 19 _ a19 rfl rfl;have h20:=hf 20 _ a20 rfl rfl;cases h0 with
   | sl _ _ rows0 _ _ hrl0 hr0 =>
   cases h1 with
   | sl _ _ rows1 _ _ hrl1 hr1 =>
   cases h2 with
   | int _ n2 _ _ =>
   cases h3 with
   | int _ n3 _ _ =>
   cases h4 with
   | int _ n4 _ _ =>
   cases h5 with
   | sl _ _ rows5 _ _ hrl5 hr5 =>
   cases h6 with
   | int _ n6 _ _ =>
   cases h7 with
   | int _ n7 _ _ =>
   cases h8 with
   | sl _ _ rows8 _ _ hrl8 hr8 =>
   cases h9 with
   | sl _ _ rows9 _ _ hrl9 hr9 =>
   cases h10 with
   | int _ n10 _ _ =>
   cases h11 with
   | int _ n11 _ _ =>
   cases h12 with
   | int _ n12 _ _ =>
   cases h13 with
   | int _ n13 _ _ =>
   cases h14 with
   | int _ n14 _ _ =>
   cases h15 with
   | int _ n15 _ _ =>
   cases h16 with
   | int _ n16 _ _ =>
   cases h17 with
   | int _ n17 _ _ =>
   cases h18 with
   | sl _ _ rows18 _ _ hrl18 hr18 =>
   cases h19 with
   | int _ n19 _ _ =>
   cases h20 with
   | int _ n20 _ _ =>
   obtain ⟨l0,rfl⟩:=Qnb rows0 hrl0 hr0;obtain ⟨l1,rfl⟩:=QiE rows1 hrl1 hr1;obtain ⟨l5,rfl⟩:=qD rows5 hrl5 hr5;obtain ⟨l8,rfl⟩:=qD rows8 hrl8 hr8;obtain ⟨l9,rfl⟩:=QiF rows9 hrl9 hr9;obtain ⟨l18,rfl⟩:=qD rows18 hrl18 hr18;exact ⟨⟨⟨l0,l1,n2⟩,⟨n3,n4,l5,n6,n7,l8,l9,n10⟩,n11,n12,n13,n14,n15,n16,n17,l18,n19,n20⟩,rfl⟩
theorem QJX:shp prog 7 3=some [shI]:=by kernel_rfl
set_option maxRecDepth 100000 in
theorem QAh {x:IV} (h:Qll prog 3 x):∃ n,x=.int .i64 n:=by
 obtain ⟨ss,h1,h2⟩:=h;rw[QJX] at h1;injection h1 with h1;subst h1;rw[underlying3] at h2;obtain ⟨s,hs,hf⟩:=h2;injection hs with hs _;subst hs;cases hf with
 | int _ n h1 h2=>exact ⟨n,rfl⟩
theorem QEl {W:World} (hL:laidMetH prog Rows.topSpotsRow.laid W) (hsh:W.ShapedOpen prog):KW W:=by
 have hl:laidMet prog Rows.topSpotsRow.laid W:=by
  rw[MakeChecks.laidMetH_plain _ _ _ (by kernel_rfl)] at hL;exact hL
 have h2:=hl.tail.tail;have h4:=h2.tail.tail;have h5:=h4.tail;refine ⟨hsh,?_,?_,?_⟩
 ·exact Lib.tabIs_of_head (n:=20) (rest:=Rows.topSpotsRow.laid.drop 3) (g:=5) (t:=489) (e:=395) (by kernel_rfl) (by kernel_rfl) underlying489 underlying395 (by kernel_rfl) (by kernel_rfl) h2
 ·obtain ⟨a0, s0, hv0, _⟩ := laid_sentinel h5 (show prog.globalNamed "strconv.ErrSyntax" = some 1 by kernel_rfl) (show (prog.globals[1]?).map (·.type) = some 308 by kernel_rfl) underlying308 Qv2 underlying485 underlying487 rfl rfl underlying9 (by kernel_rfl) (by kernel_rfl);exact ⟨_,_,hv0⟩
 obtain ⟨a0, s0, hv0, _⟩ := laid_sentinel h4 (show prog.globalNamed "strconv.ErrRange" = some 2 by kernel_rfl) (show (prog.globals[2]?).map (·.type) = some 308 by kernel_rfl) underlying308 Qv2 underlying485 underlying487 rfl rfl underlying9 (by kernel_rfl) (by kernel_rfl);exact ⟨_,_,hv0⟩
set_option maxRecDepth 100000
theorem Qo2 {P:Program} {f:FuncId} {fn:Func} {s:ChangeSpec} {c:OpenClaim}
  (k1:c.wf (OpenSpec.ofChange s)=true) (k2:laidOutB P=true) (k3:mapsRowed P=true) (k4:fn.params.all (P.readableRec ·)=true) (k5:namedTie P c.named s.vars=true)
  (k6:(c.stops==[])=true) (k7:(P.stops==[])=true) (k8:(c.knobs==[])=true) (k9:(P.stopKnobs==[])=true)
  (k10:(c.inPlace==P.inPlace f)=true) (k11:(c.unfollowed==P.unfollowed f)=true) (k12:(c.recurses==P.recurses f)=true) (k13:(c.named==P.varsNamed f)=true)
  (k14:(c.maps==(fn.params.toList++s.plain.varTypes P).any (P.mapsRec ·))=true) (k15:(c.ifaces==(fn.params.toList++s.plain.varTypes P).any (P.ifacesRec ·))=true) (k16:(c.mapsOut==P.mapsAmong fn.resultTypes.toList)=true)
  (k17:(c.loops==(fn.params.toList++s.plain.varTypes P).any (P.loopsFrom ·))=true) (k17b:(c.wideKeys==(fn.params.toList++s.plain.varTypes P++fn.resultTypes.toList).any (P.wideKeysFrom ·))=true)
  (k18:s.vars.all (P.varReadable ·)=true) (k19:fn.resultTypes.all (fun t=>P.readableRec t&&decide (t<P.types.size))=true) (k20:(c.ifacesOut==fn.resultTypes.toList.any (P.ifacesRec ·))=true) (k21:(c.loopsOut==fn.resultTypes.toList.any (P.loopsFrom ·))=true)
  (k22:(c.plainKeys==P.plainKeys)=true) (k23:c.shortTexts.isNone=true) (k23b:P.stopsHeard=true) (k24:P.mayEnter=true) (k24b:(c.lifted==P.liftsFinal)=true) (k24c:(P.make==some c.make)=true)
  (k25:(c.kinds==(if c.domain.isEmpty then [] else fn.params.toList.map fun t=>match P.underlying t with | some (.int k)=>some k | _=>none))=true) (k26:(c.pinned==c.pinnedBy)=true)
  (k27:(c.veiled==(fn.params.toList++s.plain.varTypes P++fn.resultTypes.toList).any (P.veiledRec ·))=true) (k28:c.veiledFits P fn.params.toList (fn.params.toList++s.plain.varTypes P++fn.resultTypes.toList)=true):joinedFacts P f fn s c=true:=by
 simp only[joinedFacts,QKI];exact ⟨⟨⟨⟨⟨⟨⟨⟨⟨⟨⟨⟨⟨⟨⟨⟨⟨⟨⟨⟨⟨⟨⟨⟨⟨⟨⟨⟨⟨⟨⟨k1,k2⟩,k3⟩,k4⟩,k5⟩,k6⟩,k7⟩,k8⟩,k9⟩,k10⟩,k11⟩,k12⟩,k13⟩,k14⟩,k15⟩,k16⟩,k17⟩,k17b⟩,k18⟩,k19⟩,k20⟩,k21⟩,k22⟩,k23⟩,k23b⟩,k24⟩,k24b⟩,k24c⟩,k25⟩,k26⟩,k27⟩,k28⟩
theorem QEH:mapsRowed prog=true:=by kernel_rfl
theorem QEG:(prog.stops==[])=true:=by kernel_rfl
theorem QEF:(prog.stopKnobs==[])=true:=by kernel_rfl
theorem Qzu:prog.stopsHeard=true:=by kernel_rfl
theorem QCl:prog.mayEnter=true:=by kernel_rfl
theorem QED:(Rows.topSpotsRow.plainKeys==prog.plainKeys)=true:=by kernel_rfl
theorem QEC:(Rows.topSpotsRow.lifted==prog.liftsFinal)=true:=by kernel_rfl
theorem QEB:(prog.make==some Rows.topSpotsRow.make)=true:=by kernel_rfl
theorem QCk:Tryz.pinned.checked.prog.looks []=true:=by kernel_rfl
end Go.Pf
namespace Go.Proofs
open Go.Proofs.Tryz
open Go.Shelf
def Tryz.keys421_ren:Go.Shelf.Ren:=⟨fun | 10=>421 | n=>n,fun | 23=>250 | 26=>3 | 3=>57 | 28=>284 | 0=>0 | 27=>283 | 33=>133 | 4=>4 | n=>n,fun | n=>n⟩
theorem Tryz.keys421:Go.Proofs.SlLaysZI.n10 prog Tryz.keys421_ren:={
 mixed:=by kernel_rfl
 f10:=⟨Tryz.f421.name,by decide,func421.trans (congrArg some (by kernel_rfl))⟩
 t0:=underlying0
 a0:=isAgg0
 z0:=sizeOf0
 v0:=zeroValue0
 t4:=underlying4
 a4:=isAgg4
 z4:=sizeOf4
 v4:=zeroValue4
 t23:=underlying250
 a23:=isAgg250
 z23:=sizeOf250
 v23:=zeroValue250
 t26:=underlying3
 a26:=isAgg3
 z26:=sizeOf3
 v26:=zeroValue3
 t33:=underlying133
 a33:=isAgg133
 z33:=sizeOf133
 v33:=zeroValue133 }
end Go.Proofs
namespace Go.Pf
open Go Go.Ev Go.Proofs Go.RowKit Go.Shelf Go.Proofs.Tryz
set_option maxRecDepth 8000
theorem VO (lb:Array Value) (S:List Int->Prop) (N:Nat) (hN:N<=1000000) (w:World) (hseq:SeqGives Fence.wide 2 prog 421 lb encZ S N w) :
  Calls prog 200 #[.func (.func 421) #[] lb] w fun e w'=>∃ (v:Value) (ss:List Int),e=.returned v/\S ss /\
   w'.ownsRow w.heap.size 3 1 v ss.length ((ss.mergeSort (fun x y=>decide (x<=y))).map encZ)/\(v=.slice none 0 0↔ss=[])/\Below w.heap.size w w':=by
 refine (callsIn_wide (n:=5)).1 ?_;exact AnyZI.sorted_in Tryz.sorted200 Fence.wide 5 trivial trivial trivial trivial rfl (by omega) (Tryz.sorts145 _) (enters_of func145 (by kernel_rfl) rfl) 421 lb trivial (enters_of func421 (by kernel_rfl) rfl) S N (by unfold maxLen;omega) (by omega) w hseq
section
variable {K:World->Prop}
theorem Qth (kvs:List (MK × IV)) (ks:List Int) (hk:kvs.map (·.1)=ks.map (fun x=>MK.int .i64 x)) (hwf:∀ x∈ks,-9223372036854775808<=x/\x<9223372036854775808) (hlen:ks.length<=1000000) :
  Gd K 200 [.clo 421 [] [.ptr [.map kvs]]] (QU (ks.mergeSort fun x y=>decide (x<=y))):=by
 intro w ok vs hK hnew hl hvs;obtain ⟨v0,rfl⟩:∃ v0,vs=[v0]:=by
  match vs,hl with
  | [v],_=>exact ⟨v,rfl⟩
 have hrep:=hvs 0 _ v0 rfl rfl
 have fin:∀ (v:Value) (w':World) (ss:List Int),ss.Perm ks->w'.ownsRow w.heap.size 3 1 v ss.length ((ss.mergeSort (fun x y=>decide (x<=y))).map encZ)->Below w.heap.size w w' ->
   ∃ v1,Ending.returned v=.returned v1/\QF ok w' (QU (ks.mergeSort fun x y=>decide (x<=y))) v1/\Below w.heap.size w w':=fun v w' ss hp ho hb=>by
  refine ⟨v,rfl,?_,hb⟩;have e1:ss.mergeSort (fun x y=>decide (x<=y))=ks.mergeSort fun x y=>decide (x<=y):=mergeSort_of_perm_i hp;rw[e1] at ho;have hl2:ss.length=ks.length:=hp.length_eq;have e3:(ks.mergeSort fun x y=>decide (x<=y)).length=ss.length:=by simp[hl2]
  generalize (ks.mergeSort fun x y=>decide (x<=y))=zs at *
  obtain ⟨h1,h2 | ⟨g,cap,cur,h2,h3,h4,h5,h6,h7,h8⟩⟩:=ho
  ·obtain ⟨rfl,h2⟩:=h2;have:zs=[]:=QKR (by omega);subst this;exact .nils _
  subst h2;rw[<- e3];refine Ux zs g cap (by omega) h6 (hnew g h3) fun j z hj=>?_;have hjl:=(QKG.1 hj).1;have:(cur.toList.take (ss.length*1))[j]?=some (.int .i64 z):=by grind
  rw[QLr,if_pos (by omega)] at this;simp only[World.cell?,h4];simpa using this
 cases hrep with
 | clo _ _ _ us vs' h1 h2 hf hc =>
   obtain rfl:us=[]:=QKR h1;obtain ⟨p,rfl⟩:∃ p,vs'=[p]:=by
    match vs',h2 with
    | [v],_=>exact ⟨v,rfl⟩
   have hp:=hc 0 _ p rfl rfl;cases hp with
   | ptr _ b off u hu hx =>
     have hcell:=(hu 0 (by simp)).2.1;rw[QLX] at hcell;have hbw:b<w.heap.size:=QLA w ⟨b,off,none⟩ hcell;have hm:=hx 0 _ rfl;generalize u 0=u0 at hcell hm;cases hm with
     | mapn =>
       have hk0:ks=[]:=by simpa using hk.symm
       subst hk0;refine (VO _ _ 0 (by omega) w (Ju (ρ:=Tryz.keys421_ren) { Tryz.keys421 with } Fence.wide 2 trivial rfl b off w hbw hcell)).mono ?_;grind
     | map _ r es clock hok hr hmr hd hxx =>
       have hks:kvs.length=ks.length:=by simpa using congrArg List.length hk
       have hkey:∀ (i:Nat) (x:MapEntry),es[i]?=some x->∃ n:Int,ks[i]?=some n/\x.key=.int .i64 n:=fun i x hx=>by
        obtain ⟨k,h3,h4⟩:=hmr.keys i x hx;rw[<- QKN,hk,QKN,QKK] at h3;obtain ⟨n,h5,rfl⟩:=h3;exact ⟨n,h5,h4⟩
       have hrd:∀ (i:Nat) (x:MapEntry),es[i]?=some x->∃ n:Int,ks[i]?=some n/\x.key=.int .i64 n/\WideElems.rd prog 3 Qib x=some (.int .i64 n,.nil):=fun i x hx=>by
        obtain ⟨n,h3,h4⟩:=hkey i x hx;exact ⟨n,h3,h4,Qvy h4 (hwf n (QKW h3))⟩
       have hlist:es.toList.map (fun x=>intOf (WideElems.rg prog 3 Qib x).1)=ks:=by
        refine QMc fun i=>?_;rw[QKN];cases hx:es[i]? with
        | none =>
          have:es.size<=i:=by
           grind
          have hz:=hmr.size;grind
        | some x =>
          obtain ⟨n,h3,h4,h5⟩:=hrd i x hx;rw[QMl,hx,h3];simp[WideElems.rg,h5,intOf]
       have hown:w.ownsMap prog 3 Qib r ks.length (DataW.map ((es.toList.map (WideElems.rg prog 3 Qib)).foldr DataW.insert [])):=by
        refine ⟨es,clock,hr,⟨by have:=hmr.size;unfold maxLen;omega,⟨fun x hx=>?_,?_,?_⟩,fun x hx=>?_⟩,by grind,rfl⟩
        ·obtain ⟨i,hi⟩:=QLj hx;exact hmr.born i x (by simpa using hi)
        ·rw[List.nodup_iff_pairwise_ne] at *
         refine QLG.2 fun i j hi hj hij heq=>?_;simp at hi hj heq;have:=hmr.apart i j es[i] es[j] (by simp[hi]) (by simp[hj]) heq;omega
        ·refine QLG.2 fun i j hi hj hij heq=>?_;simp at hi hj heq;obtain ⟨k1,h3,h4⟩:=hmr.keys i es[i] (by simp[hi]);obtain ⟨k2,h5,h6⟩:=hmr.keys j es[j] (by simp[hj]);rw[QKK] at h3 h5;obtain ⟨p,h7,rfl⟩:=h3;obtain ⟨q,h8,rfl⟩:=h5;rw[h4,h6] at heq;have:p.1=q.1:=by
          have e1:(kvs.map (·.1))[i]?=some p.1:=by simp[h7]
          have e2:(kvs.map (·.1))[j]?=some q.1:=by simp[h8]
          rw[hk,QKN,QKK] at e1 e2;obtain ⟨n1,_,e1⟩:=e1;obtain ⟨n2,_,e2⟩:=e2;rw[<- e1,<- e2] at heq |-;simpa[MK.val] using heq
         grind
        obtain ⟨i,hi⟩:=QLj hx;grind
       have hperm:(intKeys (DataW.map ((es.toList.map (WideElems.rg prog 3 Qib)).foldr DataW.insert []))).Perm ks:=by
        have:=(sorted_perm (es.toList.map (WideElems.rg prog 3 Qib))).map fun p=>intOf p.1;rw[List.map_map] at this;refine this.trans ?_;rw[show es.toList.map ((fun p=>intOf p.1)∘WideElems.rg prog 3 Qib)=ks from hlist]
       have hsz:=hown.size_le;refine (VO _ _ _ (by omega) w (U2 (ρ:=Tryz.keys421_ren) { Tryz.keys421 with } Fence.wide 2 trivial rfl (by omega) b off r _ _ w hbw hcell hown)).mono ?_;grind
end
end Go.Pf
namespace Go.Pf
open Go Go.Ev Go.Proofs Go.RowKit Go.Proofs.Tryz
variable {K:World->Prop} (hK:∀ w w',K w->Below w.heap.size w w'->K w')
set_option maxRecDepth 8000
include hK
theorem Yf (x a b:Int):Gd K 172 [.int .i64 x,.int .i64 a,.int .i64 b] (.bool (decide (inR x a b))):=by
 refine Qb hK (fk func172 QI0 (by kernel_rfl)) (by simp) ?_;by_cases h:a<=x<;>simp[inR,h]
theorem Ua (x a b:Int):Gd K 79 [.int .i64 x,.int .i64 a,.int .i64 b] (.bool (decide (inR x a b))):=by
 refine Qb hK (fk func79 c79 (by kernel_rfl)) (by simp) ?_;simp;exact cK (Yz hK x a b) (by simp)
theorem QyQ (n:Int):Gd K 174 [.int .i64 n] (.bool (decide (n=1\/n=2))):=by
 refine Qb hK (fk func174 QIY (by kernel_rfl)) (by simp) ?_;by_cases h:n=1<;>simp[h]
theorem QBE (n:Int):Gd K 80 [.int .i64 n] (.bool (decide (n=1\/n=2))):=by
 refine Qb hK (fk func80 c80 (by kernel_rfl)) (by simp) ?_;by_cases h:n=1<;>simp[h]
theorem QyS (r:Rod):Gd K 171 [.agg (roC r)] (.bool (decide (V0 r))):=by
 refine Qb hK (fk func171 QI1 (by kernel_rfl)) (by simp) ?_;simp;refine cK (Yf hK _ _ _) ?_;by_cases h1:inR r.long 1 9999
 ·have h1':=h1;simp only[inR] at h1';simp[h1,V0,QdW];refine ⟨by omega,cK (Yf hK _ _ _) ?_⟩;by_cases h2:inR r.z7 0 (min 9 (r.long-1))
  ·simp[h2];exact cK (Yf hK _ _ _) (by simp)
  simp[h2]
 simp[h1,V0]
theorem QyR (p:Zm) (x:Q2) (hl:p.zi.length<=1000):Gd K 173 [.agg (reC x),.ptr (puC p)] (.bool (decide (Yw p.zi.length x))):=by
 refine Qb hK (fk func173 QIZ (by kernel_rfl)) (by simp) ?_;simp;refine cK (QyQ hK _) ?_;by_cases h1:x.yg=1\/x.yg=2;rotate_left
 ·simp[h1,Yw]
 ·simp[h1,Yw];intro _;refine ⟨by omega,cK (Yf hK _ _ _) ?_⟩;by_cases h2:inR x.rod 0 ((p.zi.length:Int)-1);rotate_left
  ·simp[h2]
  ·simp[h2];refine cK (Yf hK _ _ _) ?_;by_cases h3:inR x.count 0 99
   ·simp[h3];refine cK (Yf hK _ _ _) ?_;by_cases h4:inR x.rest 0 9999
    ·simp[h4];refine cK (Yf hK _ _ _) ?_;by_cases h5:inR x.off 0 99
     ·simp[h5];refine cK (Yf hK _ _ _) ?_;by_cases h6:inR x.yh (-50) x.yi
      ·simp[h6]
      simp[h6]
     simp[h5]
    simp[h4]
   ·simp[h3]
theorem Qyd (r:Q2) (g:FuncId) (cs:List IV) (q:Q2->Bool) (hg:Gd K g ([.agg (reC r)]++cs) (.bool (q r))) (hc:callee prog g=true):Gd K 265 [.agg (reC r),.ptr [.clo g [] cs]] (.bool (!q r)):=by
 refine Qb hK (fk func265 QHI (by kernel_rfl)) (by simp) ?_;simp;exact ⟨hc,cK hg (by simp)⟩
theorem Qtf (r:Rod) (g:FuncId) (q:Rod->Bool) (hg:Gd K g [.agg (roC r)] (.bool (q r))) (hc:callee prog g=true):Gd K 263 [.agg (roC r),.ptr [.fn g]] (.bool (!q r)):=by
 refine Qb hK Qz9 (by simp) ?_;simp;exact ⟨hc,cK hg (by simp)⟩
theorem QxN (l:List Rod) (g:FuncId) (cs:List IV) (p:Rod->Bool) (hg:∀ x∈l,Gd K g ([.agg (roC x)]++cs) (.bool (p x))) (hc:callee prog g=true) (hl:l.length<=1000):Gd K 334 [QiG l,.clo g [] cs] (.int .i64 (fi p l)):=by
 refine Qb hK (fk func334 QG0 (by kernel_rfl)) (by simp) ?_;simp;intro _;refine Qi (fun i=>[(0,AV.iv (QiG l)),(1,AV.iv (.clo g [] cs)),(7,AV.iv (.int .i64 l.length)),(8,AV.iv (IV.int IntKind.i64 (i:Nat)))]) (fun _=>[]) l.length (fun i=>∀ x∈l.take i,p x=false) (by simp) ?_ ?_
 ·intro h;rw[Qa Qkk.eq_1];rw[QK0] at h;simp[YK p l h]
 intro i hi h ih;rw[Qa Qkk.eq_1];have hgi:=hg l[i] (QKL hi);simp[hi] at ih |-;refine ⟨hc,cK hgi ?_⟩;by_cases hp:p l[i]=true
 ·simp[hp,QaX p l i hi hp h]
 have hp':p l[i]=false:=by simpa using hp
 simp[hp'];refine ⟨by omega,ih ?_⟩;rw[QKH hi]
 grind
theorem QxM (l:List Q2) (g:FuncId) (cs:List IV) (p:Q2->Bool) (hg:∀ x∈l,Gd K g ([.agg (reC x)]++cs) (.bool (p x))) (hc:callee prog g=true) (hl:l.length<=1000):Gd K 335 [Qay l,.clo g [] cs] (.int .i64 (fi p l)):=by
 refine Qb hK (fk func335 QGZ (by kernel_rfl)) (by simp) ?_;simp;intro _;refine Qi (fun i=>[(0,AV.iv (Qay l)),(1,AV.iv (.clo g [] cs)),(7,AV.iv (.int .i64 l.length)),(8,AV.iv (IV.int IntKind.i64 (i:Nat)))]) (fun _=>[]) l.length (fun i=>∀ x∈l.take i,p x=false) (by simp) ?_ ?_
 ·intro h;rw[Qa Qkj.eq_1];rw[QK0] at h;simp[YK p l h]
 intro i hi h ih;rw[Qa Qkj.eq_1];have hgi:=hg l[i] (QKL hi);simp[hi] at ih |-;refine ⟨hc,cK hgi ?_⟩;by_cases hp:p l[i]=true
 ·simp[hp,QaX p l i hi hp h]
 have hp':p l[i]=false:=by simpa using hp
 simp[hp'];refine ⟨by omega,ih ?_⟩;rw[QKH hi]
 grind
theorem Qyf (l:List Rod) (g:FuncId) (cs:List IV) (p:Rod->Bool) (hg:∀ x∈l,Gd K g ([.agg (roC x)]++cs) (.bool (p x))) (hc:callee prog g=true) (hl:l.length<=1000):Gd K 262 [QiG l,.clo g [] cs] (.bool (l.any p)):=by
 refine Qb hK (fk func262 QHL (by kernel_rfl)) (by simp) ?_;simp;refine cK (QxN hK l g cs p hg hc hl) ?_;simp[Xs]
theorem Qye (l:List Q2) (g:FuncId) (cs:List IV) (p:Q2->Bool) (hg:∀ x∈l,Gd K g ([.agg (reC x)]++cs) (.bool (p x))) (hc:callee prog g=true) (hl:l.length<=1000):Gd K 264 [Qay l,.clo g [] cs] (.bool (l.any p)):=by
 refine Qb hK (fk func264 QHJ (by kernel_rfl)) (by simp) ?_;simp;refine cK (QxM hK l g cs p hg hc hl) ?_;simp[Xs]
theorem QyP (l:List Rod) (g:FuncId) (q:Rod->Bool) (hg:∀ x,Gd K g [.agg (roC x)] (.bool (q x))) (hc:callee prog g=true) (hl:l.length<=1000):Gd K 175 [QiG l,.fn g] (.bool (l.all q)):=by
 refine Qb hK (fk func175 QIX (by kernel_rfl)) (by simp) ?_;simp;refine cK (Qyf hK l 263 [.ptr [.fn g]] (fun x=>!q x) (fun x _=>Qtf hK x g q (hg x) hc) (by kernel_rfl) hl) ?_;simp[List.all_eq_not_any_not]
theorem QyO (l:List Q2) (g:FuncId) (cs:List IV) (q:Q2->Bool) (hg:∀ x,Gd K g ([.agg (reC x)]++cs) (.bool (q x))) (hc:callee prog g=true) (hl:l.length<=1000):Gd K 176 [Qay l,.clo g [] cs] (.bool (l.all q)):=by
 refine Qb hK (fk func176 QIW (by kernel_rfl)) (by simp) ?_;simp;refine cK (Qye hK l 265 [.ptr [.clo g [] cs]] (fun x=>!q x) (fun x _=>Qyd hK x g cs q (hg x) hc) (by kernel_rfl) hl) ?_;simp[List.all_eq_not_any_not]
theorem QvJ (p:Zm) (hl:p.zi.length<=1000) (hx:p.zj.length<=1000):Gd K 83 [puV p] (.int .i64 (if OkU p then 0 else 40)):=by
 refine Qb hK (fk func83 c83 (by kernel_rfl)) (by simp) ?_;have no:∀ q:Prop,(OkU p->q)->¬ q->¬ OkU p:=fun q h1 h2 h=>h2 (h1 h);simp;refine cK (Yf hK _ _ _) ?_;by_cases h1:inR p.yc 0 50;rotate_left
 ·have:=no _ (fun h=>h.yc) h1;simp[h1,this]
 simp[h1];refine cK (Yf hK _ _ _) ?_;by_cases h2:inR p.z8 1 p.z9;rotate_left
 ·have:=no _ (fun h=>h.guess) h2;simp[h2,this]
 simp[h2];by_cases h3:p.z9<=99999;rotate_left
 ·have h3':99999<p.z9:=by omega
  have:=no _ (fun h=>h.most) h3;grind
 have h3':¬ 99999<p.z9:=by omega
 simp[h3'];intro _;refine cK (Yf hK _ _ _) ?_;by_cases h4:inR p.zh 0 8;rotate_left
 ·have:=no _ (fun h=>h.zh) h4;simp[h4,this]
 simp[h4];intro _;by_cases h5:p.zi.length<=4;rotate_left
 ·have h5':(4:Int)<p.zi.length:=by omega
  have:=no _ (fun h=>h.rlen) h5;grind
 have h5':¬ (4:Int)<p.zi.length:=by omega
 simp[h5'];intro _;by_cases h6:p.zj.length<=8;rotate_left
 ·have h6':(8:Int)<p.zj.length:=by omega
  have:=no _ (fun h=>h.xlen) h6;grind
 have h6':¬ (8:Int)<p.zj.length:=by omega
 simp[h6'];intros;refine cK (QyP hK p.zi 171 (fun r=>decide (V0 r)) (QyS hK) (by kernel_rfl) hl) ?_;by_cases h7:∀ r∈p.zi,V0 r
 ·have h7':p.zi.all (fun r=>decide (V0 r))=true:=by simpa using h7
  simp only[h7'];simp;refine cK (QyO hK p.zj 173 [.ptr (puC p)] (fun x=>decide (Yw p.zi.length x)) (fun x=>QyR hK p x hl) (by kernel_rfl) hx) ?_;by_cases h8:∀ x∈p.zj,Yw p.zi.length x
  ·have h8':p.zj.all (fun x=>decide (Yw p.zi.length x))=true:=by simpa using h8
   have hok:OkU p:=⟨h1,h2,h3,h4,h5,h6,h7,h8⟩;simp only[h8'];simp[hok]
  have h8':p.zj.all (fun x=>decide (Yw p.zi.length x))=false:=by simpa using h8
  have:=no _ (fun h=>h.zj) h8;simp only[h8'];simp[this]
 have h7':p.zi.all (fun r=>decide (V0 r))=false:=by simpa using h7
 have:=no _ (fun h=>h.zi) h7;simp only[h7'];simp[this]
omit hK
theorem QdV {a b A B:Int} (h0:0<=a) (h1:a<=A) (h2 : -B<=b) (h3:b<=B) : -(A*B)<=a*b/\a*b<=A*B:=by
 have hB:0<=B:=by omega
 have hA:0<=A:=by omega
 have e1:a*b<=a*B:=QLJ h3 h0;have e2:a*B<=A*B:=QLE h1 hB;have e3:a*(-B)<=a*b:=QLJ h2 h0;grind
theorem Qv1 {p:Zm} {x:Q2} {len rl t:Int} (hp:OkU p) (hx:Yw p.zi.length x) (hlen:0<=len/\len<=99999) (hrl:0<=rl/\rl<=9999) (ht : -50<=t/\t<=50) :
  (0<=x.count*rl/\x.count*rl<=1000000)/\(-2500<=p.yc*t/\p.yc*t<=2500)/\(-2500<=QaV p x*t/\QaV p x*t<=2500) /\
  (-200000000000<=len*(1000000+p.yc*t)/\len*(1000000+p.yc*t)<=200000000000) /\
  (-4000000000000<=(x.count*rl+x.rest)*(1000000+QaV p x*t)/\(x.count*rl+x.rest)*(1000000+QaV p x*t)<=4000000000000)/\(0<=x.off*1000000/\x.off*1000000<=99000000):=by
 obtain ⟨hw,hr,hc,hrest,hoff,hwl,hwh⟩:=hx;have hi:=hp.yc;simp only[inR] at *;have xa:x.rod.toNat<p.zi.length:=by omega
 have hg:0<=QaV p x/\QaV p x<=50:=by
  unfold QaV;rw[List.getD_eq_getElem?_getD,QKF xa];have:=(hp.zi _ (QKL xa)).2.2;simpa[inR] using this
 have b1:=QdV hc.1 hc.2 (b:=rl) (B:=9999) (by omega) (by omega);have b1':=QLC hc.1 hrl.1;have b2:=QdV hi.1 hi.2 (b:=t) (B:=50) (by omega) (by omega);have b3:=QdV hg.1 hg.2 (b:=t) (B:=50) (by omega) (by omega);have b4:=QdV hlen.1 hlen.2 (b:=1000000+p.yc*t) (B:=1002500) (by omega) (by omega);have b5:=QdV (a:=x.count*rl+x.rest) (A:=1000000) (by omega) (by omega) (b:=1000000+QaV p x*t) (B:=1002500) (by omega) (by omega);omega
theorem QsG (p:Zm) (x:Q2) (len rl t:Int):QvI p x len rl t=decide (max (QAx p x len rl t) (-QAx p x len rl t)<=x.off*1000000):=by
 unfold QvI;grind
theorem Qn4 {n:Nat} {x:Q2} (hx:Yw n x):x.yh+Qij x=x.yi+1:=by
 obtain ⟨_,_,_,_,_,h,_⟩:=hx;simp only[inR] at h;unfold Qij;omega
theorem Qop {p:Zm} {x:Q2} {len rl:Int} (h:∀ j:Nat,j<Qij x->QvI p x len rl (x.yh+j)=false):Qaw p x len rl=false:=by
 unfold Qaw;grind
theorem Qoq {p:Zm} {x:Q2} {len rl:Int} (j:Nat) (hj:j<Qij x) (h:QvI p x len rl (x.yh+j)=true):Qaw p x len rl=true :=
 List.any_eq_true.2 ⟨j,QLa.2 hj,h⟩
include hK
theorem QBD (p:Zm) (n:Int) (hl:p.zi.length<=1000):Gd K 81 [puV p,.int .i64 n] (.bool (decide (inR n 0 ((p.zi.length:Int)-1)))):=by
 refine Qb hK (fk func81 c81 (by kernel_rfl)) (by simp) ?_;simp;intro _;refine ⟨by omega,cK (Ua hK _ _ _) ?_⟩;simp
theorem Qxs (p:Zm) (x:Q2) (len rl:Int) (hp:OkU p) (hx:Yw p.zi.length x) (hlen:0<=len/\len<=99999) (hrl:0<=rl/\rl<=9999) :
  Gd K 420 [puV p,.agg (reC x),.int .i64 len,.int .i64 rl] (.bool (Qaw p x len rl)):=by
 refine Qb hK (fk func420 QGt (by kernel_rfl)) (by simp) ?_;have h1:=hx.2.1;have h3:=hx.2.2.2.1;have hwl:=hx.2.2.2.2.2.1;have hwh:=hx.2.2.2.2.2.2;simp only[inR] at h1 h3 hwl;have b0:=(Qv1 hp hx hlen hrl (t:=0) (by omega)).1;have xa:x.rod.toNat<p.zi.length:=by omega
 have hwp:=Qn4 hx;simp;refine ⟨by omega,by omega,?_⟩;have e0:AV.iv (.int .i64 x.yh)=AV.iv (.int .i64 (x.yh+((0:Nat):Int))):=by simp
 rw[e0];refine Qi (fun i=>[(2,AV.iv (.int .i64 len)),(4,AV.iv (.ptr (puC p))),(5,AV.iv (.ptr (reC x))),(9,AV.iv (.int .i64 (x.count*rl+x.rest))),(10,AV.iv (.int .i64 (x.yh+(i:Nat))))]) (fun _=>[]) (Qij x) (fun i=>∀ j:Nat,j<i->QvI p x len rl (x.yh+j)=false) (by simp) ?_ ?_
 ·intro h;have hn:=Qop h;rw[Qa QjU.eq_1];have:¬ x.yh+((Qij x:Nat):Int)<=x.yi:=by omega
  simp[this,hn]
 intro i hi h ih;rw[Qa QjU.eq_1];have hle:x.yh+(i:Int)<=x.yi:=by omega
 obtain ⟨b1,b2,b3,b4,b5,b6⟩:=Qv1 hp hx hlen hrl (t:=x.yh+(i:Int)) (by omega);have hgr:p.zi[x.rod.toNat].grow=QaV p x:=by simp[QaV,xa]
 have hab:=QsG p x len rl (x.yh+(i:Int));have her:QAx p x len rl (x.yh+(i:Int))=len*(1000000+p.yc*(x.yh+i))-(x.count*rl+x.rest)*(1000000+QaV p x*(x.yh+i)):=rfl;generalize hE:QAx p x len rl (x.yh+(i:Int))=E at *;by_cases hh:QvI p x len rl (x.yh+(i:Int))=true
 ·have hr:=Qoq i hi hh;rw[hh] at hab;have hm:(if E < -E then -E else E)<=x.off*1000000:=by
   grind
  simp[hle,xa,hgr,hr];omega
 have hf:QvI p x len rl (x.yh+(i:Int))=false:=by simpa using hh
 rw[hf] at hab;have hm:¬ (if E < -E then -E else E)<=x.off*1000000:=by
  grind
 have ih:=ih (fun j hj=>by
  grind)
 simp at ih;simp[hle,xa,hgr];grind
theorem QBY (p:Zm) (hl:p.zi.length<=1000) (hx:p.zj.length<=1000):Gd K 41 [puV p] (.int .i64 (if OkU p then 0 else 40)):=by
 refine Qb hK (fk func41 c41 (by kernel_rfl)) (by simp) ?_;have no:∀ q:Prop,(OkU p->q)->¬ q->¬ OkU p:=fun q h1 h2 h=>h2 (h1 h);simp;refine cK (Ua hK _ _ _) ?_;by_cases h1:inR p.yc 0 50;rotate_left
 ·have:=no _ (fun h=>h.yc) h1;simp[h1,this]
 ·simp[h1];refine cK (Ua hK _ _ _) ?_;by_cases h2:inR p.z8 1 p.z9;rotate_left
  ·have:=no _ (fun h=>h.guess) h2;simp[h2,this]
  ·simp[h2];by_cases h3:p.z9<=99999;rotate_left
   ·have h3':99999<p.z9:=by omega
    have:=no _ (fun h=>h.most) h3;grind
   ·have h3':¬ 99999<p.z9:=by omega
    simp[h3'];intro _;refine cK (Ua hK _ _ _) ?_;by_cases h4:inR p.zh 0 8;rotate_left
    ·have:=no _ (fun h=>h.zh) h4;simp[h4,this]
    ·simp[h4];intro _;by_cases h5:p.zi.length<=4;rotate_left
     ·have h5':(4:Int)<p.zi.length:=by omega
      have:=no _ (fun h=>h.rlen) h5;grind
     ·have h5':¬ (4:Int)<p.zi.length:=by omega
      simp[h5'];intro _;by_cases h6:p.zj.length<=8;rotate_left
      ·have h6':(8:Int)<p.zj.length:=by omega
       have:=no _ (fun h=>h.xlen) h6;grind
      ·have h6':¬ (8:Int)<p.zj.length:=by omega
       simp[h6'];intros;refine Qi (fun i=>[(1,AV.iv (.ptr (puC p))),(3,AV.iv (IV.int IntKind.i64 (i:Nat)))]) (fun _=>[]) p.zi.length (fun i=>∀ r∈p.zi.take i,V0 r) (by simp) ?_ ?_
       ·intro h7;rw[QK0] at h7;rw[Qa Qra.eq_1];simp;intro _;refine Qi (fun i=>[(1,AV.iv (.ptr (puC p))),(5,AV.iv (IV.int IntKind.i64 (i:Nat)))]) (fun _=>[]) p.zj.length (fun i=>∀ x∈p.zj.take i,Yw p.zi.length x) (by simp) ?_ ?_
        ·intro h8;rw[QK0] at h8;rw[Qa Qq9.eq_1];have hok:OkU p:=⟨h1,h2,h3,h4,h5,h6,h7,h8⟩;simp[hok]
        intro i hi h8 ih;have bad:¬ Yw p.zi.length p.zj[i]->¬ OkU p:=fun hb hh=>hb (hh.zj _ (QKL hi))
        have ih:=fun hr:Yw p.zi.length p.zj[i]=>ih (by
         rw[QKH hi]
         grind)
        rw[Qa Qq9.eq_1];generalize hX:p.zj[i]=X at *;simp[hi,hX] at ih |-;intros;refine cK (QBE hK X.yg) ?_;by_cases k1:X.yg=1\/X.yg=2;rotate_left
        ·simp[k1,bad (fun hh=>k1 hh.1)]
        simp[k1];refine cK (by simpa using QBD hK p X.rod hl) ?_;by_cases k2:inR X.rod 0 ((p.zi.length:Int)-1);rotate_left
        ·simp[k2,bad (fun hh=>k2 hh.2.1)]
        simp[k2];refine cK (Ua hK _ _ _) ?_;by_cases k3:inR X.count 0 99;rotate_left
        ·simp[k3,bad (fun hh=>k3 hh.2.2.1)]
        simp[k3];refine cK (Ua hK _ _ _) ?_;by_cases k4:inR X.rest 0 9999
        ·simp[k4];refine cK (Ua hK _ _ _) ?_;by_cases k5:inR X.off 0 99
         ·simp[k5];refine cK (Ua hK _ _ _) ?_;by_cases k6:inR X.yh (-50) X.yi
          ·simp[k6];by_cases k7:X.yi<=50
           ·have ih:=ih ⟨k1,k2,k3,k4,k5,k6,k7⟩;grind
           have:=bad (fun hh=>k7 hh.2.2.2.2.2.2);grind
          simp[k6,bad (fun hh=>k6 hh.2.2.2.2.2.1)]
         simp[k5,bad (fun hh=>k5 hh.2.2.2.2.1)]
        simp[k4,bad (fun hh=>k4 hh.2.2.2.1)]
       ·intro i hi h7 ih;have bad:¬ V0 p.zi[i]->¬ OkU p:=fun hb hh=>hb (hh.zi _ (QKL hi))
        have ih:=fun hr:V0 p.zi[i]=>ih (by
         rw[QKH hi]
         grind)
        rw[Qa Qra.eq_1];generalize hX:p.zi[i]=X at *;simp[hi,hX] at ih |-;intros;refine cK (Ua hK _ _ _) ?_;by_cases k1:inR X.long 1 9999
        ·have k1':=k1;simp only[inR] at k1';simp[k1];have hmin:(if X.long-1<9 then X.long-1 else 9)=min 9 (X.long-1):=by split<;>omega
         refine ⟨by omega,cK (by simpa[hmin] using Ua hK X.z7 0 (min 9 (X.long-1))) ?_⟩;by_cases k2:inR X.z7 0 (min 9 (X.long-1))
         ·simp[k2];refine cK (Ua hK _ _ _) ?_;by_cases k3:inR X.grow 0 50
          ·have ih:=ih ⟨k1,k2,k3⟩;simp[k3];grind
          simp[k3,bad (fun hh=>k3 hh.2.2)]
         simp[k2,bad (fun hh=>k2 hh.2.1)]
        ·simp[k1,bad (fun hh=>k1 hh.1)]
@[simp] def tuV (t:TrU):List IV:=[.int .i64 t.ya,.int .i64 t.yb,QU t.zi]
omit hK
def QFX (p:Zm) (t:TrU) (x:Q2):Bool:=!Qaw p x (if x.yg=2 then t.yb else t.ya) (t.zi.getD x.rod.toNat 0)
structure QKu (p:Zm) (t:TrU):Prop where
 ya:0<=t.ya/\t.ya<=99999
 yb:0<=t.yb/\t.yb<=99999
 len:t.zi.length=p.zi.length
 zi:∀ r∈t.zi,0<=r/\r<=9999
theorem Qbz {p:Zm} (hp:OkU p) {w:List Int} (hw:w∈Xl p.zi):w.length=p.zi.length/\∀ r∈w,0<=r/\r<=9999:=by
 have hl:=Qgg _ _ hw;refine ⟨hl,fun r hr=>?_⟩;obtain ⟨i,hi,rfl⟩:=QLh hr;have hb:=QeD _ _ hw i (by omega);have hr:=hp.zi _ (QKL (show i<p.zi.length by omega));simp only[V0,inR] at hr;grind
theorem Qzs {p:Zm} (hp:OkU p) {t:TrU} (ht:t∈QAG p):QKu p t:=by
 simp only[QAG,QK6,QKT] at ht;obtain ⟨b,hb,a,ha,w,hw,rfl⟩:=ht;have hb:=JT.1 hb;have ha:=JT.1 ha;have hg:=hp.guess;have hm:=hp.most;simp only[inR] at hg;obtain ⟨h1,h2⟩:=Qbz hp hw;exact ⟨⟨by simp only;omega,by simp only;omega⟩,⟨by simp only;omega,by simp only;omega⟩,h1,h2⟩
include hK
omit hK
theorem Qdx:∀ l:List Rod,(∀ r∈l,V0 r)->(Xl l).length<=10 ^ l.length
 | [],_=>by simp[Xl]
 | r::rs,h=>by
   have ih:=Qdx rs fun x hx=>h x (by simp[hx]);have hr:=(h r (by simp)).2.1;simp only[inR] at hr;simp only[Xl,List.length_flatMap,QKX];have:((UZ (r.long-r.z7) r.long).map fun _=>(Xl rs).length).sum<=10*10 ^ rs.length:=by
    rw[List.map_const',List.sum_replicate_nat];refine Nat.mul_le_mul ?_ ih;simp[UZ];omega
   grind
def QvA (first:List Int) (lo:Int) (rs:List Rod) (i:Nat):List (List Int):=(Xl rs).map fun w=>first++(lo+i)::w
theorem Qig (first:List Int) (r:Rod) (rs:List Rod):(Xl (r::rs)).map (first++·)=acc (QvA first (r.long-r.z7) rs) (r.long-(r.long-r.z7)+1).toNat:=by
 simp only[Xl,UZ,acc,QMg,List.flatMap_map,List.map_map];rfl
include hK
omit hK
def QBC (p:Zm):Nat:=(p.z9-p.z8+1).toNat
def QwT (p:Zm) (b:Int) (j:Nat):List TrU:=(Xl p.zi).map fun w=>⟨b,p.z8+j,w⟩
def QEh (p:Zm) (i:Nat):List TrU:=acc (QwT p (p.z8+i)) (QBC p)
noncomputable def uE (p:Zm) (is:Bool):Int:=if OkU p then (if is=true then (if qx p=[] then 3 else 0) else 1) else 40
def uL (p:Zm) (is:Bool):List TrU:=if OkU p/\is=true then qx p else []
include hK
omit hK
def QBB (part:Int) (t:TrU):Bool:=XI t.ya t.yb part
def Qd9 (T:List TrU) (part:Int):Int:=if T.all (QBB part) then 1 else if T.any (QBB part) then 3 else 2
theorem Qhs (p:Zm) (part:Int) (hp:0<=part):Qd9 (qx p) part=Qd8 p part:=(Qpg p part hp).symm
def QnO (T:List TrU):Option Nat:=(List.range 1001).find? fun i=>decide (Qd9 T (i:Nat)=1)
def QwO (T:List TrU) (rod:Nat):List Int:=T.map fun t=>t.zi.getD rod 0
theorem WF {α:Type} (f:α->Int) (l:List α) (i:Nat) (h:i<l.length):span ((l.take (i+1)).map f)=if i=0 then (f l[i],f l[i]) else (min (span ((l.take i).map f)).1 (f l[i]),max (span ((l.take i).map f)).2 (f l[i])):=by
 rw[QKH h,QK3,QMj,QbM];cases i with
 | zero=>simp
 | succ i =>
   have:¬ (l.take (i+1)).map f=[]:=by
    intro c;have:=congrArg List.length c;grind
   grind
include hK
omit hK in
theorem QD7 {p:Zm} {is:Bool} {t:TrU} (h:t∈uL p is):OkU p/\is=true/\t∈qx p:=by
 unfold uL at h;grind
omit hK in
theorem QAK {p:Zm} {is:Bool} {t:TrU} (h:t∈uL p is):(0<=t.ya/\t.ya<=99999)/\(0<=t.yb/\t.yb<=99999):=by
 obtain ⟨hp,_,ht⟩:=QD7 h;have:=Qzs hp (QK9.1 ht).1;exact ⟨this.ya,this.yb⟩
omit hK in
theorem QeH {p:Zm} {is:Bool} (h:uE p is=0):OkU p/\is=true/\uL p is=qx p/\qx p≠[]:=by
 unfold uE at h;split at h
 ·rename_i hp;cases is
  ·simp at h
  simp only[if_true] at h;split at h
  ·cases h
  rename_i hne;exact ⟨hp,rfl,by simp[uL,hp],hne⟩
 ·cases h
structure QJU (p:Zm):Prop where
 zi:p.zi.length<=1000
 zj:p.zj.length<=1000
 all:OkU p->(QAG p).length<=1000000
def Qe7 (n:Int):Bool:=decide (inR n 0 1000)
def Qvv (p:Zm) (n:Int):Bool:=decide (inR n 0 ((p.zi.length:Int)-1))
noncomputable def QaA (p:Zm) (part:Int):Int:=if uE p (Qe7 part)=0 then Qd9 (qx p) part else 0
noncomputable def Qe4 (p:Zm):Int × Int:=if uE p true=0 then (match QnO (qx p) with | some n=>((n:Int),0) | none=>(0,3)) else (0,uE p true)
noncomputable def Qnf (p:Zm) (rod:Int):List Int:=if uE p (Qvv p rod)=0 then Jw (QwO (qx p) rod.toNat) ((p.zi.getD rod.toNat ⟨0,0,0⟩).long-(p.zi.getD rod.toNat ⟨0,0,0⟩).z7) (p.zi.getD rod.toNat ⟨0,0,0⟩).long else []
omit hK
@[simp] def QiV (w:List Int):List IV:=[.int .i64 (w.getD 0 0),.int .i64 (w.getD 1 0),.int .i64 (w.getD 2 0),.int .i64 (w.getD 3 0)]
def QaJ (w:List Int):List IV:=[.agg (QiV w)]
def QaR {α:Type} (pc:Nat->List α) (i n:Nat):List α:=((List.range n).drop i).flatMap pc
theorem Uw {α:Type} (pc:Nat->List α) {i n:Nat} (h:i<n):QaR pc i n=pc i++QaR pc (i+1) n:=by
 unfold QaR;rw[QLg (by simpa using h),QLx];simp
theorem WN {α:Type} (pc:Nat->List α) (n:Nat):QaR pc n n=[]:=by
 unfold QaR;rw[QLu (by simp)];rfl
theorem Qor {α:Type} (pc:Nat->List α) (n:Nat):QaR pc 0 n=acc pc n:=by simp[QaR,acc]
def QbA (p:Zm) (first:List Int):List (List IV):=((Xl (p.zi.drop first.length)).map (first++·)).map QaJ
theorem QmT {p:Zm} {first:List Int} (h:first.length<p.zi.length):QbA p first=QaR (fun i:Nat=>QbA p (first++[p.zi[first.length].long-p.zi[first.length].z7+i])) 0 (p.zi[first.length].z7+1).toNat:=by
 have e1:p.zi.drop first.length=p.zi[first.length]::p.zi.drop (first.length+1):=QLg h
 have e2:(p.zi[first.length].long-(p.zi[first.length].long-p.zi[first.length].z7)+1).toNat=(p.zi[first.length].z7+1).toNat:=by congr 1;omega
 rw[Qor];unfold QbA;rw[e1,Qig,e2];simp only[acc,QMg,QKP,QKV,QK4,QKY];congr 1;funext i;simp[QvA,Function.comp_def]
include hK
theorem Qo5 (p:Zm) (hp:OkU p):∀ (n:Nat) (first:List Int),first.length+n=p.zi.length->qu prog K 405 [puV p,.int .i64 (first.length:Nat),.agg (QiV first)] [] (QbA p first) (fun b=>.bool b)
 | 0,first,hn=>by
   intro s b s' hf;refine Qy Qrd (by simp) hf.v rfl ?_;have e1:p.zi.drop first.length=[]:=QLu (by omega)
   have e2:first.length=p.zi.length:=by omega
   have hw:QbA p first=[QaJ first]:=by simp[QbA,e1,Xl]
   rw[hw] at hf;simp[e2];intros;cases hf with
   | stop _ _ _ _ hg =>
     refine QR (by simpa[QaJ] using hg) rfl ?_;simp
   | next _ _ _ s1 _ _ hg hr =>
     cases hr;refine QR (by simpa[QaJ] using hg) rfl ?_;simp
 | n+1,first,hn=>by
   intro s b s' hf;refine Qy Qrd (by simp) hf.v rfl ?_;have xa:first.length<p.zi.length:=by omega
   have hne:¬ (first.length:Int)=p.zi.length:=by omega
   have h4:first.length<4:=by have:=hp.rlen;omega
   have hro:=hp.zi _ (QKL xa);obtain ⟨r1,r2,r3⟩:=hro;simp only[inR] at r1 r2 r3;rw[QmT xa] at hf;have ih:∀ i:Nat,qu prog K 405 [puV p,.int .i64 (first.length+1:Nat),.agg (QiV (first++[p.zi[first.length].long-p.zi[first.length].z7+i]))] [] (QbA p (first++[p.zi[first.length].long-p.zi[first.length].z7+i])) (fun b=>.bool b):=fun i=>by
    have:=Qo5 p hp n (first++[p.zi[first.length].long-p.zi[first.length].z7+(i:Int)]) (by simp;omega);simpa using this
   generalize hR:p.zi[first.length]=R at *
   generalize hpc:(fun i:Nat=>QbA p (first++[R.long-R.z7+i]))=pc at *
   have ih:∀ i:Nat,qu prog K 405 [puV p,.int .i64 (first.length+1:Nat),.agg (QiV (first++[R.long-R.z7+i]))] [] (pc i) (fun b=>.bool b):=fun i=>by grind
   obtain ⟨N,hN⟩:∃ N,N=(R.z7+1).toNat:=⟨_,rfl⟩;rw[<- hN] at hf;have hNv:(N:Int)=R.z7+1:=by omega
   clear hpc hn hN
   match first,h4,xa,hne,hR,ih with
   | [],_,xa,hne,hR,ih =>
     have hM:0<p.zi.length:=by simpa using xa
     have hR0:p.zi[0]'hM=R:=hR;have hne':¬ (0:Int)=p.zi.length:=by omega
     simp[hM,hR0,hne']
     (repeat' first|omega|with_reducible apply And.intro|intro)
     refine Xd N (fun k e o=>∃ si,e=[(1,AV.iv (.int .i64 (([]:List Int).length:Nat))),(3,AV.cb 0),(4,AV.iv (.ptr (puC p))),(6,AV.loc 6 0),(9,AV.loc 9 0)] /\
      o=[(0,.ext si),(6,.box ((QiV ([]++[R.long-R.z7+(k:Int)])).map AV.iv)),(9,.box [.iv (.int .i64 R.long),.iv (.int .i64 R.z7),.iv (.int .i64 R.grow)])]/\Q9 prog K (QaR pc k N) si b s') ?_ ?_ _ _ ⟨s,by simp,by simp,by simpa using hf⟩
     ·rintro e o ⟨si,rfl,rfl,hfd⟩;rw[WN] at hfd;cases hfd;have q:¬ R.long-R.z7+(N:Int)<=R.long:=by omega
      rw[Qa Vx.eq_1];simp[q]
      try (intros;omega)
     rintro k e o hk ⟨si,rfl,rfl,hfd⟩ ihl;rw[Uw pc hk] at hfd;have q:R.long-R.z7+(k:Int)<=R.long:=by omega
     have q3:R.long-R.z7+((k:Int)+1)=R.long-R.z7+k+1:=by omega
     rw[Qa Vx.eq_1];simp[q]
     (repeat' first|omega|with_reducible apply And.intro|intro)
     rcases hfd.append with ⟨s1,hf1,hf2⟩ | ⟨rfl,hf1⟩
     ·refine Zg (by simpa using ih k _ _ _ hf1) rfl ?_;cases b
      all_goals
       simp
       (repeat' first|omega|with_reducible apply And.intro|intro)
       exact ihl _ _ ⟨s1,by simp,by simp[q3],by simpa using hf2⟩
     refine Zg (by simpa using ih k _ _ _ hf1) rfl ?_;simp
   | [a],_,xa,hne,hR,ih =>
     have hM:1<p.zi.length:=by simpa using xa
     have hR0:p.zi[1]'hM=R:=hR;have hne':¬ (1:Int)=p.zi.length:=by omega
     simp[hM,hR0,hne']
     (repeat' first|omega|with_reducible apply And.intro|intro)
     refine Xd N (fun k e o=>∃ si,e=[(1,AV.iv (.int .i64 (([a]:List Int).length:Nat))),(3,AV.cb 0),(4,AV.iv (.ptr (puC p))),(6,AV.loc 6 0),(9,AV.loc 9 0)] /\
      o=[(0,.ext si),(6,.box ((QiV ([a]++[R.long-R.z7+(k:Int)])).map AV.iv)),(9,.box [.iv (.int .i64 R.long),.iv (.int .i64 R.z7),.iv (.int .i64 R.grow)])]/\Q9 prog K (QaR pc k N) si b s') ?_ ?_ _ _ ⟨s,by simp,by simp,by simpa using hf⟩
     ·rintro e o ⟨si,rfl,rfl,hfd⟩;rw[WN] at hfd;cases hfd;have q:¬ R.long-R.z7+(N:Int)<=R.long:=by omega
      rw[Qa Vx.eq_1];simp[q]
      try (intros;omega)
     rintro k e o hk ⟨si,rfl,rfl,hfd⟩ ihl;rw[Uw pc hk] at hfd;have q:R.long-R.z7+(k:Int)<=R.long:=by omega
     have q3:R.long-R.z7+((k:Int)+1)=R.long-R.z7+k+1:=by omega
     rw[Qa Vx.eq_1];simp[q]
     (repeat' first|omega|with_reducible apply And.intro|intro)
     rcases hfd.append with ⟨s1,hf1,hf2⟩ | ⟨rfl,hf1⟩
     ·refine Zg (by simpa using ih k _ _ _ hf1) rfl ?_;cases b
      all_goals
       simp
       (repeat' first|omega|with_reducible apply And.intro|intro)
       exact ihl _ _ ⟨s1,by simp,by simp[q3],by simpa using hf2⟩
     refine Zg (by simpa using ih k _ _ _ hf1) rfl ?_;simp
   | [a,a2],_,xa,hne,hR,ih =>
     have hM:2<p.zi.length:=by simpa using xa
     have hR0:p.zi[2]'hM=R:=hR;have hne':¬ (2:Int)=p.zi.length:=by omega
     simp[hM,hR0,hne']
     (repeat' first|omega|with_reducible apply And.intro|intro)
     refine Xd N (fun k e o=>∃ si,e=[(1,AV.iv (.int .i64 (([a,a2]:List Int).length:Nat))),(3,AV.cb 0),(4,AV.iv (.ptr (puC p))),(6,AV.loc 6 0),(9,AV.loc 9 0)] /\
      o=[(0,.ext si),(6,.box ((QiV ([a,a2]++[R.long-R.z7+(k:Int)])).map AV.iv)),(9,.box [.iv (.int .i64 R.long),.iv (.int .i64 R.z7),.iv (.int .i64 R.grow)])]/\Q9 prog K (QaR pc k N) si b s') ?_ ?_ _ _ ⟨s,by simp,by simp,by simpa using hf⟩
     ·rintro e o ⟨si,rfl,rfl,hfd⟩;rw[WN] at hfd;cases hfd;have q:¬ R.long-R.z7+(N:Int)<=R.long:=by omega
      rw[Qa Vx.eq_1];simp[q]
      try (intros;omega)
     rintro k e o hk ⟨si,rfl,rfl,hfd⟩ ihl;rw[Uw pc hk] at hfd;have q:R.long-R.z7+(k:Int)<=R.long:=by omega
     have q3:R.long-R.z7+((k:Int)+1)=R.long-R.z7+k+1:=by omega
     rw[Qa Vx.eq_1];simp[q]
     (repeat' first|omega|with_reducible apply And.intro|intro)
     rcases hfd.append with ⟨s1,hf1,hf2⟩ | ⟨rfl,hf1⟩
     ·refine Zg (by simpa using ih k _ _ _ hf1) rfl ?_;cases b
      all_goals
       simp
       (repeat' first|omega|with_reducible apply And.intro|intro)
       exact ihl _ _ ⟨s1,by simp,by simp[q3],by simpa using hf2⟩
     refine Zg (by simpa using ih k _ _ _ hf1) rfl ?_;simp
   | [a,a2,a3],_,xa,hne,hR,ih =>
     have hM:3<p.zi.length:=by simpa using xa
     have hR0:p.zi[3]'hM=R:=hR;have hne':¬ (3:Int)=p.zi.length:=by omega
     simp[hM,hR0,hne']
     (repeat' first|omega|with_reducible apply And.intro|intro)
     refine Xd N (fun k e o=>∃ si,e=[(1,AV.iv (.int .i64 (([a,a2,a3]:List Int).length:Nat))),(3,AV.cb 0),(4,AV.iv (.ptr (puC p))),(6,AV.loc 6 0),(9,AV.loc 9 0)] /\
      o=[(0,.ext si),(6,.box ((QiV ([a,a2,a3]++[R.long-R.z7+(k:Int)])).map AV.iv)),(9,.box [.iv (.int .i64 R.long),.iv (.int .i64 R.z7),.iv (.int .i64 R.grow)])]/\Q9 prog K (QaR pc k N) si b s') ?_ ?_ _ _ ⟨s,by simp,by simp,by simpa using hf⟩
     ·rintro e o ⟨si,rfl,rfl,hfd⟩;rw[WN] at hfd;cases hfd;have q:¬ R.long-R.z7+(N:Int)<=R.long:=by omega
      rw[Qa Vx.eq_1];simp[q]
      try (intros;omega)
     rintro k e o hk ⟨si,rfl,rfl,hfd⟩ ihl;rw[Uw pc hk] at hfd;have q:R.long-R.z7+(k:Int)<=R.long:=by omega
     have q3:R.long-R.z7+((k:Int)+1)=R.long-R.z7+k+1:=by omega
     rw[Qa Vx.eq_1];simp[q]
     (repeat' first|omega|with_reducible apply And.intro|intro)
     rcases hfd.append with ⟨s1,hf1,hf2⟩ | ⟨rfl,hf1⟩
     ·refine Zg (by simpa using ih k _ _ _ hf1) rfl ?_;cases b
      all_goals
       simp
       (repeat' first|omega|with_reducible apply And.intro|intro)
       exact ihl _ _ ⟨s1,by simp,by simp[q3],by simpa using hf2⟩
     refine Zg (by simpa using ih k _ _ _ hf1) rfl ?_;simp
   | _::_::_::_::_,h4,_,_,_,_=>simp at h4;omega
omit hK
theorem Qhx (x y:Int):∀ l:List (Int × Nat),QcG (Qcy l x) y=QcG l y+(if x=y then 1 else 0)
 | []=>by simp[Qcy,QcG]
 | p::r=>by
   unfold Qcy;by_cases h:p.1=x
   ·simp only[h,if_true,QcG];grind
   simp only[h,if_false,QcG];by_cases h2:p.1=y
   ·grind
   simp[h2,Qhx x y r]
theorem QpW (y:Int):∀ l:List Int,QcG (ZH l) y=l.count y:=by
 refine ZQ (by simp[ZH,QcG]) fun l x ih=>?_;rw[ZK,Qhx,ih,List.count_append,List.count_singleton]
 grind
def Qgu (p:Zm) (wh:Int) (w:List Int) (l:List Int):List Int:=l.flatMap fun len=>List.replicate (wrU p wh w len) len
def Qvr (p:Zm) (wh:Int) (w:List Int):List Int:=Qgu p wh w (X1 p)
theorem Qgt (p:Zm) (wh:Int) (w:List Int) (y:Int):∀ l:List Int,l.Nodup->(Qgu p wh w l).count y=if y∈l then wrU p wh w y else 0
 | [],_=>by simp[Qgu]
 | a::r,h=>by
   rw[QMb] at h;have ih:=Qgt p wh w y r h.2;have e:Qgu p wh w (a::r)=List.replicate (wrU p wh w a) a++Qgu p wh w r:=by simp[Qgu]
   grind
theorem Qr9 {p:Zm} {wh:Int} {w:List Int} {len:Int} (h:len∈X1 p):QcG (ZH (Qvr p wh w)) len=wrU p wh w len:=by
 have hnd:(X1 p).Nodup:=(Wq _ _).imp fun h=>by omega
 rw[QpW,Qvr,Qgt p wh w len _ hnd,if_pos h]
theorem Qmt (w:List Int) (n:Nat) (h:n<4):[IV.int .i64 (w.getD 0 0),.int .i64 (w.getD 1 0),.int .i64 (w.getD 2 0),.int .i64 (w.getD 3 0)].drop n=.int .i64 (w.getD n 0)::[IV.int .i64 (w.getD 0 0),.int .i64 (w.getD 1 0),.int .i64 (w.getD 2 0),.int .i64 (w.getD 3 0)].drop (n+1):=by
 grind
def Wx (x:Bun):List IV:=QiV x.zi++[.int .i64 (x.ya.zh:Nat),QU x.ya.lens,.int .i64 (x.yb.zh:Nat),QU x.yb.lens]
def V7 (x:Bun):List IV:=[.agg (Wx x)]
include hK
theorem Qw7 (p:Zm) (hp:OkU p):qv prog K 385 [puV p] [] (QbA p []):=by
 intro s b s' hf;refine Qy (fk func385 QGC (by kernel_rfl)) (by simp) hf.v rfl ?_;have ih:=Qo5 hK p hp p.zi.length [] (by simp) _ _ _ hf;simp;refine Zg (by simpa using ih) rfl ?_;simp
theorem QxF (x:Bun) (h1:x.ya.zh<=1000) (h2:x.yb.zh<=1000):Gd K 352 [.agg (Wx x)] (.int .i64 ((x.ya.zh+x.yb.zh:Nat):Int)):=by
 refine Qb hK (fk func352 QGN (by kernel_rfl)) (by simp) ?_;simp[Wx];omega
theorem Qxv (p:Zm) (wh:Int) (w:List Int) (hp:OkU p) (hw:w∈Xl p.zi) (hg:p.z9-p.z8<=100000):Gd K 406 [puV p,.int .i64 wh,.agg (QiV w)] (.map (J6 (ZH (Qvr p wh w)))):=by
 refine Qb hK (fk func406 QGy (by kernel_rfl)) (by simp) ?_;have hgu:=hp.guess;have hmo:=hp.most;have hxl:=hp.xlen;simp only[inR] at hgu;obtain ⟨hwl,hwb⟩:=Qbz hp hw;obtain ⟨G,hG⟩:∃ G,G=(p.z9-p.z8+1).toNat:=⟨_,rfl⟩;have hGv:p.z8+(G:Int)=p.z9+1:=by omega
 have hlens:X1 p=(List.range G).map fun (i:Nat)=>p.z8+i:=by rw[hG];rfl
 have hseq:Qvr p wh w=Qgu p wh w ((List.range G).map fun (i:Nat)=>p.z8+i):=by rw[Qvr,hlens]
 rw[hseq];clear hseq hlens hG;simp;have e0:AV.iv (IV.int .i64 p.z8)=AV.iv (.int .i64 (p.z8+((0:Nat):Int))):=by simp
 rw[e0]
 refine Qi (fun i=>[(1,AV.iv (.int .i64 wh)),(3,AV.iv (.ptr (puC p))),(5,AV.iv (.ptr (QiV w))),(7,AV.yk 11),(8,AV.iv (IV.int IntKind.i64 (p.z8+(i:Nat))))])
  (fun i=>[(11,AO.xg (J6 (ZH (Qgu p wh w ((List.range i).map fun (i:Nat)=>p.z8+i)))))]) G (fun i=>True) trivial ?_ ?_
 ·intro _;have q2:¬ p.z9+1<=p.z9:=by omega
  rw[hGv,Qa QjY.eq_1];simp[q2]
 intro i hi _ ih;have q1:p.z8+(i:Int)<=p.z9:=by omega
 have q3:p.z8+((i:Int)+1)=p.z8+i+1:=by omega
 have hS:Qgu p wh w ((List.range (i+1)).map fun (i:Nat)=>p.z8+i)=Qgu p wh w ((List.range i).map fun (i:Nat)=>p.z8+i)++List.replicate (wrU p wh w (p.z8+i)) (p.z8+i):=by
  rw[QLs,QK3];simp[Qgu]
 rw[hS] at ih;have hlS:∀ n:Nat,(Qgu p wh w ((List.range n).map fun (i:Nat)=>p.z8+i)).length<=n*8:=by
  intro n;induction n with
  | zero=>simp[Qgu]
  | succ n ihn =>
    have e:Qgu p wh w ((List.range (n+1)).map fun (i:Nat)=>p.z8+i)=Qgu p wh w ((List.range n).map fun (i:Nat)=>p.z8+i)++List.replicate (wrU p wh w (p.z8+n)) (p.z8+n):=by
     rw[QLs,QK3];simp[Qgu]
    have hwr:=Qgc p wh w (p.z8+n);grind
 have hl1:=hlS i;rw[Qa QjY.eq_1];generalize Qgu p wh w ((List.range i).map fun (i:Nat)=>p.z8+i)=S at *
 have hlen:0<=p.z8+(i:Int)/\p.z8+(i:Int)<=99999:=by omega
 unfold wrU at ih;generalize hL:p.z8+(i:Int)=len at *;simp[q1,q3] at ih |-;intros;have eS:S=S++List.replicate ((p.zj.take 0).countP (QuW p wh w len)) len:=by simp
 rw[eS]
 refine Qi (fun k=>[(1,AV.iv (.int .i64 wh)),(3,AV.iv (.ptr (puC p))),(5,AV.iv (.ptr (QiV w))),(7,AV.yk 11),(8,AV.iv (IV.int IntKind.i64 len)),(26,AV.iv (Qay p.zj)),(27,AV.iv (.int .i64 p.zj.length)),(28,AV.iv (.int .i64 (k:Nat)))])
  (fun k=>[(11,AO.xg (J6 (ZH (S++List.replicate ((p.zj.take k).countP (QuW p wh w len)) len))))]) p.zj.length (fun i=>True) trivial ?_ ?_
 ·intro _;rw[Qa QjZ.eq_1,QK0];simp;grind
 intro k hk _ ih2;have hx:=hp.zj _ (QKL hk);have hcl:(p.zj.take k).countP (QuW p wh w len)<=k:=QLv QLq (by simp;omega);rw[QKH hk,QLD] at ih2;generalize hX:p.zj[k]=X at *;have hr:=hx.2.1;simp only[inR] at hr;have hr4:X.rod.toNat<4:=by have:=hp.rlen;omega
 have hrl:0<=w.getD X.rod.toNat 0/\w.getD X.rod.toNat 0<=9999:=by
  have xa:X.rod.toNat<w.length:=by omega
  have:w.getD X.rod.toNat 0=w[X.rod.toNat]:=by simp[xa]
  rw[this];exact hwb _ (QKL xa)
 have hg:=Qxs hK p X len (w.getD X.rod.toNat 0) hp hx hlen hrl;have hdp:=Qmt w X.rod.toNat hr4;have hb:QuW p wh w len X=(decide (X.yg=wh)&&!Qaw p X len (w.getD X.rod.toNat 0)):=rfl;have hlen2:(S++List.replicate ((p.zj.take k).countP (QuW p wh w len)) len).length<=900000:=by
  simp;omega
 rw[<- List.replicate_append_replicate,<- QK8] at ih2;have hc1:[X].countP (QuW p wh w len)=if QuW p wh w len X then 1 else 0:=by simp
 rw[hc1,hb] at ih2;generalize S++List.replicate ((p.zj.take k).countP (QuW p wh w len)) len=S2 at *;have hle:=qY len S2;have hkk:=XG (ZH S2);have hf:=YA len (ZH S2);have hi2:=Vs len (ZH S2);rw[Qa QjZ.eq_1];have hr1:0<=X.rod/\X.rod<4/\X.rod<=4:=by omega
 simp only[List.getD_eq_getElem?_getD] at hdp hg ih2;generalize w[X.rod.toNat]?.getD 0=ww at *;by_cases hw2:X.yg=wh;rotate_left
 ·simp[hw2] at ih2;simp[hk,hX,hw2];grind
 generalize Qaw p X len ww=rb at *;cases rb
 ·simp[hw2,ZK] at ih2;generalize ZH S2=kv at *;simp[hk,hX,hw2];refine ⟨hr1,?_⟩;simp[hdp,hw2];refine cK (by simpa[hw2] using hg) ?_;simp[hkk,hf,hi2];grind
 simp[hw2] at ih2;simp[hk,hX,hw2];refine ⟨hr1,?_⟩;simp[hdp,hw2];refine cK (by simpa[hw2] using hg) ?_;simp;grind
omit hK
def QCf (f:Int->Nat) (kvs:List (MK × List (List IV))) (x:Int):List (MK × List (List IV)) :=
 zn (.int .i64 (f x:Nat)) (((Qh (.int .i64 (f x:Nat)) kvs).getD [])++[[.int .i64 x]]) kvs
def gby (f:Int->Nat) (l:List Int):List (MK × List (List IV)):=l.foldl (QCf f) []
theorem Qbk (f:Int->Nat) (l:List Int) (x:Int):gby f (l++[x])=QCf f (gby f l) x:=by simp[gby]
theorem Qg6 {α:Type} (k:MK) (v:α):∀ kvs:List (MK × α),(zn k v kvs).map (·.1)=if k∈kvs.map (·.1) then kvs.map (·.1) else kvs.map (·.1)++[k]
 | []=>by simp[zn]
 | p::r=>by
   have ih:=Qg6 k v r;unfold zn;grind
theorem Qhy (f:Int->Nat):∀ l,QP (.int .i64) (gby f l):=by
 refine ZQ trivial fun l x ih=>?_;rw[Qbk];exact JW _ _ _ ih
theorem Qmf (f:Int->Nat) (n:Nat):∀ l,(Qh (.int .i64 (n:Nat)) (gby f l)).getD []=(l.filter fun x=>f x==n).map fun x=>[IV.int .i64 x]:=by
 refine ZQ rfl fun l x ih=>?_;rw[Qbk,QCf,Ue,QMw,QK3]
 grind
theorem Qtl (f:Int->Nat):∀ l,∃ ks:List Nat,(gby f l).map (·.1)=ks.map (fun n:Nat=>MK.int .i64 (n:Int))/\ks.Nodup/\∀ n,n∈ks↔∃ y∈l,f y=n:=by
 refine ZQ ⟨[],rfl,QMa,by simp⟩ fun l x ih=>?_;obtain ⟨ks,h1,h2,h3⟩:=ih;rw[Qbk,QCf,Qg6,h1];have hm:MK.int .i64 ((f x:Nat):Int)∈ks.map (fun n:Nat=>MK.int .i64 (n:Int))↔f x∈ks:=by
  grind
 by_cases h:f x∈ks
 ·grind
 rw[if_neg (fun e=>h (hm.1 e))]
 refine ⟨ks++[f x],by simp,?_,fun n=>?_⟩
 all_goals grind
theorem Qzr (f:Int->Nat) (n:Nat) (l:List Int):((Qh (.int .i64 (n:Nat)) (gby f l)).getD []).length<=l.length:=by
 rw[Qmf]
 grind
theorem Qit (ks cs:List Nat) (h1:ks.Nodup) (h2:cs.Pairwise (·<·)) (h3:∀ n,n∈ks↔n∈cs) :
  (ks.map fun n:Nat=>(n:Int)).mergeSort (fun x y=>decide (x<=y))=cs.map fun n:Nat=>(n:Int):=by
 have hp:ks.Perm cs:=(List.perm_ext_iff_of_nodup h1 (h2.imp fun h=>by omega)).2 h3;rw[mergeSort_of_perm_i (hp.map fun n:Nat=>(n:Int))]
 refine List.mergeSort_of_pairwise ?_;grind
def grC (g:Grp):List IV:=[.int .i64 (g.zh:Nat),QU g.lens]
def UQ (l:List Grp):IV:=.sl 2 (l.map grC)
theorem Qg8 {α β:Type} (g:α->β) (k:MK):∀ l:List (MK × α),Qh k (l.map fun p=>(p.1,g p.2))=(Qh k l).map g
 | []=>rfl
 | p::r=>by
   simp only[QKZ,Qh];split
   ·rfl
   exact Qg8 g k r
theorem Qcv {α β:Type} (kk:KK) (g:α->β):∀ l:List (MK × α),QP kk l->QP kk (l.map fun p=>(p.1,g p.2))
 | [],_=>trivial
 | _::r,h=>⟨h.1,Qcv kk g r h.2⟩
include hK
theorem Qxu (kvs:List (MK × IV)):Gd K 407 [.map kvs] (.clo 421 [] [.ptr [.map kvs]]):=by
 refine Qb hK (fk func407 QGx (by kernel_rfl)) (by simp) ?_;simp
theorem Qps (p:Zm) (wh:Int) (w:List Int) (hp:OkU p) (hw:w∈Xl p.zi) (hg:p.z9-p.z8<=100000):Gd K 386 [puV p,.int .i64 wh,.agg (QiV w)] (UQ (V9 p wh w)):=by
 refine Qb hK (fk func386 QGB (by kernel_rfl)) (by simp) ?_;have hgu:=hp.guess;have hxl:=hp.xlen;have hmo:=hp.most;simp only[inR] at hgu;have h380:=Qxv hK p wh w hp hw hg;have hget:=fun (len:Int) (h:len∈X1 p)=>Qr9 (wh:=wh) (w:=w) h;have hkk:=XG (ZH (Qvr p wh w));have hfind:=fun (x:Int)=>YA x (ZH (Qvr p wh w));obtain ⟨G,hG⟩:∃ G,G=(p.z9-p.z8+1).toNat:=⟨_,rfl⟩;have hGv:p.z8+(G:Int)=p.z9+1:=by omega
 have hlens:X1 p=(List.range G).map fun (i:Nat)=>p.z8+i:=by rw[hG];rfl
 simp;refine cK (by simpa using h380) ?_;generalize J6 (ZH (Qvr p wh w))=cn at *;simp;have e0:AV.iv (IV.int .i64 p.z8)=AV.iv (.int .i64 (p.z8+((0:Nat):Int))):=by simp
 rw[e0]
 refine Qi (fun i=>[(3,AV.iv (.ptr (puC p))),(7,AV.iv (.map cn)),(8,AV.yk 17),(9,AV.iv (IV.int IntKind.i64 (p.z8+(i:Nat))))])
  (fun i=>[(17,AO.yo 3 1 (gby (wrU p wh w) ((List.range i).map fun (i:Nat)=>p.z8+i)) none)]) G (fun i=>True) trivial ?_ ?_
 ·intro _;have q2:¬ p.z9+1<=p.z9:=by omega
  rw[hGv,Qa Qj1.eq_1,<- hlens];simp[q2];refine cK (by simpa using Qxu hK _) ?_;simp;obtain ⟨ks,hk1,hk2,hk3⟩:=Qtl (wrU p wh w) (X1 p);have hkb:∀ n∈ks,n<=8:=fun n hn=>by
   obtain ⟨y,_,e⟩:=(hk3 n).1 hn;have:=Qgc p wh w y;omega
  have hcp:(QaZ p wh w).Pairwise (·<·):=List.pairwise_lt_range.filter _;have hkc:∀ n,n∈ks↔n∈QaZ p wh w:=fun n=>by
   rw[hk3];simp only[QaZ,QK9,QLa];constructor
   ·rintro ⟨y,hy,e⟩;have:=Qgc p wh w y;have h5:y∈Qeb p wh w n:=Ym.2 ⟨hy,e⟩;grind
   rintro ⟨_,h⟩;cases hz:Qeb p wh w n with
   | cons a r =>
     have h5:a∈Qeb p wh w n:=by rw[hz];simp
     exact ⟨a,(Ym.1 h5).1,(Ym.1 h5).2⟩
   | _=>grind
  have hperm:ks.Perm (QaZ p wh w):=(List.perm_ext_iff_of_nodup hk2 (hcp.imp fun h=>by omega)).2 hkc;have hcl:(QaZ p wh w).length<=p.zj.length+1:=by
   have:=QK5 (fun n=>!(Qeb p wh w n).isEmpty) (List.range (p.zj.length+1));simpa[QaZ] using this
  have hkl:=hperm.length_eq;have hsort:=Qit ks _ hk2 hcp hkc
  have h173:=Qth (K:=K) ((gby (wrU p wh w) (X1 p)).map fun p=>(p.1,IV.sl 1 p.2)) (ks.map fun n:Nat=>(n:Int)) (by rw[List.map_map,List.map_map];exact hk1) (fun x hx=>by
   grind) (by simp;omega)
  rw[hsort] at h173;refine cK h173 ?_;have hfnd:∀ n:Nat,n∈QaZ p wh w->(Qh (.int .i64 ((n:Nat):Int)) ((gby (wrU p wh w) (X1 p)).map fun p=>(p.1,IV.sl 1 p.2))).getD (.sl 1 [])=QU (Qeb p wh w n):=fun n hn=>by
   have h5:=Qmf (wrU p wh w) n (X1 p);rw[Qg8];cases hz:Qh (.int .i64 ((n:Nat):Int)) (gby (wrU p wh w) (X1 p)) with
   | none =>
     rw[hz] at h5;simp[QU,Qeb];simpa using h5
   | some v =>
     rw[hz] at h5;simp[QU,Qeb];simpa using h5
  have hkk2:=Qcv (.int .i64) (fun r:List (List IV)=>IV.sl 1 r) _ (Qhy (wrU p wh w) (X1 p));generalize ((gby (wrU p wh w) (X1 p)).map fun p=>(p.1,IV.sl 1 p.2))=mv at *
  simp only[V9];generalize QaZ p wh w=cs at *;simp[-List.map_map];intros
  refine Qi (fun i=>[(8,AV.iv (.map mv)),(10,AV.yl 10 i),(44,.iv (QU (cs.map fun n:Nat=>(n:Int)))),(45,AV.iv (.int .i64 cs.length)),(46,AV.iv (IV.int IntKind.i64 (i:Nat)))])
   (fun i=>[(10,AO.arr 359 2 (emb ((cs.take i).map fun n=>grC ⟨n,Qeb p wh w n⟩)) 0)]) cs.length (fun i=>True) trivial ?_ ?_
  ·intro _;rw[Qa Qj0.eq_1];simp[QKM,UQ,QU]
  intro i hi _ ih2;rw[Qa Qj0.eq_1];rw[QKH hi,QK3] at ih2;have hf1:=hfnd _ (QKL hi);simp[grC,QU] at ih2;simp[hi,QU,hkk2,hf1]
  repeat' first | omega | exact ih2 | apply And.intro
 intro i hi _ ih;have q1:p.z8+(i:Int)<=p.z9:=by omega
 have q3:p.z8+((i:Int)+1)=p.z8+i+1:=by omega
 have hS:((List.range (i+1)).map fun (i:Nat)=>p.z8+(i:Int))=((List.range i).map fun (i:Nat)=>p.z8+(i:Int))++[p.z8+(i:Int)]:=by
  rw[QLs,QK3];rfl
 have hmem:p.z8+(i:Int)∈X1 p:=JT.2 ⟨by omega,by omega⟩;have hgt:=hget _ hmem;have hf1:=hfind (p.z8+(i:Int));rw[hgt] at hf1;rw[hS,Qbk] at ih;have hk1:=Qhy (wrU p wh w) ((List.range i).map fun (i:Nat)=>p.z8+(i:Int));have hl1:=Qzr (wrU p wh w) (wrU p wh w (p.z8+i)) ((List.range i).map fun (i:Nat)=>p.z8+(i:Int));have hwr:=Qgc p wh w (p.z8+i);rw[QKX,List.length_range] at hl1;unfold QCf at ih;generalize gby (wrU p wh w) ((List.range i).map fun (i:Nat)=>p.z8+(i:Int))=kvs at *
 generalize wrU p wh w (p.z8+i)=n at *;have hk2:=JW n (((Qh (.int .i64 ((n:Nat):Int)) kvs).getD [])++[[.int .i64 (p.z8+(i:Int))]]) kvs hk1;have hfm:=Ue (.int .i64 ((n:Nat):Int)) (.int .i64 ((n:Nat):Int)) (((Qh (.int .i64 ((n:Nat):Int)) kvs).getD [])++[[.int .i64 (p.z8+(i:Int))]]) kvs;rw[if_pos rfl] at hfm;rw[Qa Qj1.eq_1];simp[q3] at ih;simp[q1,hkk,hf1,hk1,hk2,hfm];grind
omit hK
def QD2 (p:Zm) (w:List Int):List (List IV):=(V9 p 1 w).flatMap fun g=>(V9 p 2 w).map fun h=>V7 ⟨w,g,h⟩
theorem Qbg (p:Zm) (wh:Int) (w:List Int):(V9 p wh w).length<=p.zj.length+1:=by
 have:=QK5 (fun n=>!(Qeb p wh w n).isEmpty) (List.range (p.zj.length+1));simpa[V9,QaZ] using this
include hK
theorem Qvw (p:Zm) (w:List Int) (hp:OkU p) (hw:w∈Xl p.zi) (hg:p.z9-p.z8<=100000) {ks:Env} (hks:Q5 [2,3] [0,3] ks=[(2,.iv (.ptr (puC p))),(3,.loc 3 0)])
  (s:Ext) (b:Bool) (s1:Ext) (hf:Q9 prog K (QD2 p w) s b s1) :
  Rnd prog K [12] Qbr QfM [2,3] [0,3] (Q5 [2,3] [0,3] ks) (QaJ w) [(0,.ext s),(3,.box [.cb 0])] (if b then .fall else .ret) [(0,.ext s1),(3,.box [.cb 0])]:=by
 have h1:=Qps hK p 1 w hp hw hg;have h2:=Qps hK p 2 w hp hw hg;have hl1:=Qbg p 1 w;have hl2:=Qbg p 2 w;have hxl:=hp.xlen;unfold QD2 at hf;generalize V9 p 1 w=G1 at *;generalize V9 p 2 w=G2 at *;rw[hks];refine ⟨rfl,?_⟩;simp[QaJ,Qbr,QfM];refine cK (by simpa using h2) ?_;simp;refine cK (by simpa using h1) ?_;simp[UQ];intros
 refine Xd G1.length (fun i e o=>∃ si,e=[(2,AV.iv (.ptr (puC p))),(3,AV.loc 3 0),(4,AV.loc 4 0),(5,.iv (UQ G2)),(18,.iv (UQ G1)),(19,.iv (.int .i64 (G1.length:Nat))),(20,.iv (.int .i64 (i:Nat)))] /\
  o=[(0,.ext si),(3,.box [.cb 0]),(4,.box ((QiV w).map AV.iv))]/\Q9 prog K ((G1.drop i).flatMap fun g=>G2.map fun h=>V7 ⟨w,g,h⟩) si b s1) ?_ ?_ _ _ ⟨s,by simp[UQ],by simp,by simpa using hf⟩
 ·rintro e o ⟨si,rfl,rfl,hfd⟩;rw[QLu (QKJ _)] at hfd;cases hfd;rw[Qa Qj6.eq_1];simp[UQ]
 ·rintro i e o hi ⟨si,rfl,rfl,hfd⟩ ih;rw[QLg hi,QLx] at hfd;rw[Qa Qj6.eq_1];generalize hX:G1[i]=X at *;simp[hi,UQ,hX,grC];intros
  refine Xd G2.length (fun k e o=>∃ si,e=[(2,AV.iv (.ptr (puC p))),(3,AV.loc 3 0),(4,AV.loc 4 0),(5,.iv (UQ G2)),(7,AV.loc 7 0),(18,.iv (UQ G1)),(19,.iv (.int .i64 (G1.length:Nat))),(20,.iv (.int .i64 (i:Nat))),(24,.iv (UQ G2)),(25,.iv (.int .i64 (G2.length:Nat))),(26,.iv (.int .i64 (k:Nat)))] /\
   o=[(0,.ext si),(3,.box [.cb 0]),(4,.box ((QiV w).map AV.iv)),(7,.box ((grC X).map AV.iv))]/\Q9 prog K (((G2.drop k).map fun h=>V7 ⟨w,X,h⟩)++(G1.drop (i+1)).flatMap fun g=>G2.map fun h=>V7 ⟨w,g,h⟩) si b s1) ?_ ?_ _ _ ⟨si,by simp[UQ,grC],by simp[grC],by simpa using hfd⟩
  ·rintro e o ⟨si,rfl,rfl,hfd⟩;rw[QLu (QKJ _)] at hfd;rw[Qa Qj7.eq_1];simp[UQ]
   (repeat' first|omega|with_reducible apply And.intro|intro)
   exact ih _ _ ⟨si,by simp[UQ],by simp,by simpa using hfd⟩
  ·rintro k e o hk ⟨si,rfl,rfl,hfd⟩ ih2;rw[QLg hk,QKZ,QLp] at hfd;rw[Qa Qj7.eq_1];generalize hY:G2[k]=Y at *;simp[hk,UQ,hY,grC];have hit:V7 ⟨w,X,Y⟩=[.agg (Wx ⟨w,X,Y⟩)]:=rfl;rw[hit] at hfd;cases hfd with
   | stop _ _ _ _ hg =>
     refine QR (by simpa[Wx] using hg) rfl ?_;simp
   | next _ _ _ s1 _ _ hg hr =>
     refine QR (by simpa[Wx] using hg) rfl ?_;simp
     (repeat' first|omega|with_reducible apply And.intro|intro)
     exact ih2 _ _ ⟨s1,by simp[UQ],by simp[grC],hr⟩
theorem QgK (p:Zm) (hp:OkU p) (hg:p.z9-p.z8<=100000) {ks:Env} (hks:Q5 [2,3] [0,3] ks=[(2,.iv (.ptr (puC p))),(3,.loc 3 0)]) :
  ∀ (Ws:List (List Int)) (hW:∀ w∈Ws,w∈Xl p.zi) (s:Ext) (b:Bool) (s':Ext),Q9 prog K (Ws.flatMap (QD2 p)) s b s' ->
   ∃ wy,(wy=.fall\/wy=.ret)/\VI prog K [12] Qbr QfM [2,3] [0,3] (Q5 [2,3] [0,3] ks) (Ws.map QaJ) [(0,.ext s),(3,.box [.cb 0])] wy [(0,.ext s'),(3,.box [.cb 0])]
 | [],_,s,b,s',h=>by
   cases h;exact ⟨.fall,.inl rfl,.nil _⟩
 | w::Ws,hW,s,b,s',h=>by
   rw[QLx] at h;rcases h.append with ⟨s1,h1,h2⟩ | ⟨rfl,h1⟩
   ·obtain ⟨wy,h3,h4⟩:=QgK p hp hg hks Ws (fun x hx=>hW x (by simp[hx])) s1 b s' h2;exact ⟨wy,h3,.next _ _ _ _ _ _ (Qvw hK p w hp (hW w (by simp)) hg hks s true s1 h1) h4⟩
   exact ⟨.ret,.inr rfl,.stop _ _ _ _ _ (by simp) (Qvw hK p w hp (hW w (by simp)) hg hks s false s' h1)⟩
theorem Qw8 (p:Zm) (hp:OkU p) (hg:p.z9-p.z8<=100000):qv prog K 351 [puV p] [] ((Qdn p).map V7):=by
 intro s b s' hf;refine Qy (fk func351 QGO (by kernel_rfl)) (by simp) hf.v rfl ?_;have hw:QbA p []=(Xl p.zi).map QaJ:=by simp[QbA]
 have hit:=Qw7 hK p hp;rw[hw] at hit;have hb:(Qdn p).map V7=(Xl p.zi).flatMap (QD2 p):=by
  simp[Qdn,QMg,List.map_map,Function.comp_def];rfl
 rw[hb] at hf;simp;obtain ⟨wy,h1,h2⟩:=QgK hK p hp hg (ks:=[(2,.iv (.ptr (puC p))),(3,.loc 3 0)]) rfl (Xl p.zi) (fun _ h=>h) s b s' hf;refine QS (wy:=wy) (o':=[(0,.ext s'),(3,.box [.cb 0])]) rfl (by kernel_rfl) hit ?_ ?_
 ·simpa[Q5,ZR] using h2
 ·rcases h1 with rfl | rfl<;>simp
theorem QbU (p:Zm) (hp:OkU p) {ks:Env} (hks:Q5 [2,3] [0,3] ks=[(2,.iv (.ptr (puC p))),(3,.loc 3 0)]) :
  ∀ (Bs:List Bun) (hB:∀ x∈Bs,x∈Qdn p) (s:Ext) (b:Bool) (s':Ext),Q9 prog K ((Bs.filter fun x=>decide (((x.ya.zh+x.yb.zh:Nat):Int)<=p.zh)).map V7) s b s' ->
   ∃ wy,(wy=.fall\/wy=.ret)/\VI prog K [7] qn QcU [2,3] [0,3] (Q5 [2,3] [0,3] ks) (Bs.map V7) [(0,.ext s),(3,.box [.cb 0])] wy [(0,.ext s'),(3,.box [.cb 0])]
 | [],_,s,b,s',h=>by
   cases h;exact ⟨.fall,.inl rfl,.nil _⟩
 | t::Ls,hB,s,b,s',h=>by
   have hbt:t.ya.zh<=1000/\t.yb.zh<=1000:=by
    have:=hB t (by simp);simp only[Qdn,QK6,QKT] at this;obtain ⟨w,_,g,hg,h,hh,rfl⟩:=this;have hxl:=hp.xlen;simp only[V9,QaZ,QKT,QK9,QLa] at hg hh;grind
   have hw:=QxF hK t hbt.1 hbt.2;by_cases ht:((t.ya.zh+t.yb.zh:Nat):Int)<=p.zh
   ·rw[QLQ (by simpa using ht)] at h;cases h with
    | stop _ _ _ _ hg =>
      refine ⟨.ret,.inr rfl,.stop _ _ _ _ _ (by simp) ?_⟩;rw[hks];refine ⟨rfl,?_⟩;simp[V7,Wx,qn,QcU];refine cK (by simpa[Wx] using hw) ?_;simp at ht;simp[ht];refine QR (by simpa[V7,Wx] using hg) rfl ?_;simp
    | next _ _ _ s1 _ _ hg hr =>
      obtain ⟨wy,h1,h2⟩:=QbU p hp hks Ls (fun x hx=>hB x (by simp[hx])) s1 b s' hr;refine ⟨wy,h1,.next _ _ _ _ _ _ ?_ h2⟩;rw[hks];refine ⟨rfl,?_⟩;simp[V7,Wx,qn,QcU];refine cK (by simpa[Wx] using hw) ?_;simp at ht;simp[ht];refine QR (by simpa[V7,Wx] using hg) rfl ?_;simp
   rw[QLR (by simpa using ht)] at h;obtain ⟨wy,h1,h2⟩:=QbU p hp hks Ls (fun x hx=>hB x (by simp[hx])) s b s' h;refine ⟨wy,h1,.next _ _ _ _ _ _ ?_ h2⟩;rw[hks];refine ⟨rfl,?_⟩;simp[V7,Wx,qn,QcU];refine cK (by simpa[Wx] using hw) ?_;simp at ht;have ht':¬ ((t.ya.zh:Int)+t.yb.zh<=p.zh):=by omega
   simp[ht']
theorem Qxa (p:Zm) (hp:OkU p) (hg:p.z9-p.z8<=100000):qv prog K 287 [puV p] [] ((VA p).map V7):=by
 intro s b s' hf;refine Qy (fk func287 QHr (by kernel_rfl)) (by simp) hf.v rfl ?_;simp;obtain ⟨wy,h1,h2⟩:=QbU hK p hp (ks:=[(2,.iv (.ptr (puC p))),(3,.loc 3 0)]) rfl (Qdn p) (fun _ h=>h) s b s' hf;refine QS (wy:=wy) (o':=[(0,.ext s'),(3,.box [.cb 0])]) rfl (by kernel_rfl) (Qw8 hK p hp hg) ?_ ?_
 ·simpa[Q5,ZR] using h2
 rcases h1 with rfl | rfl<;>simp
omit hK
theorem Ql8 (p:Zm) (wh:Int) (w:List Int) (n:Nat):(Qeb p wh w n).length<=(p.z9-p.z8+1).toNat:=by
 have:=QK5 (fun len=>wrU p wh w len==n) (X1 p);simpa[Qeb,X1,UZ] using this
def Ul (l:List Bun):IV:=.sl 8 (l.map Wx)
include hK
theorem QsM (p:Zm) (hp:OkU p) (hg:p.z9-p.z8<=100000) (hl:(VA p).length<=1000000):Gh K 350 [.ym 8,.iv (.clo 287 [puV p] [])] [] [] (.iv (Ul (VA p))) []:=by
 refine Zp [] [] [] [] (fk func350 QDX (by kernel_rfl)).p (by simp[QDX]) (by simp) ?_ ?_ ?_ ?_
 ·simp
 ·simp[clA]
 ·simp
 have hit:=Qxa hK p hp hg;generalize VA p=B at *;generalize hG:Qic QDX.res [] [] (AV.iv (Ul B)) []=G;simp;refine QS (wy:=.fall) (o':=[(2,.box [.yl 3000 B.length]),(3000,.arr 361 8 (emb (B.map Wx)) 0)]) rfl (by kernel_rfl) hit ?_ ?_
 ·have:=VI.all (P:=prog) (K:=K) (ps:=[7]) (asn:=QfN) (body:=Qj8) (ks:=[2]) (ids:=[2,3000]) (eK:=[(2,.loc 2 0)]) (B.map V7)
   (fun i=>[(2,.box [.yl 3000 i]),(3000,.arr 361 8 (emb ((B.take i).map Wx)) 0)]) fun i x hi=>by
   simp only[QKN,QKK] at hi;obtain ⟨y,hy,rfl⟩:=hi;obtain ⟨xa,hy⟩:=QKG.1 hy;refine ⟨rfl,?_⟩;rw[QKH xa,hy,QK3];simp[V7,Wx,QfN,Qj8];exact ⟨by omega,by simp[emb]⟩
  simpa[QKM,QD] using this
 ·simp[QKM];rw[<- hG];refine ⟨⟨_,rfl,?_⟩,by simp,by simp⟩;have h0:(fun i=>if ([]:List Nat).contains i then none else Qc [(2,AO.box [AV.yl 3000 B.length]),(3000,AO.arr 361 8 (emb (B.map Wx)) 0)] i)=Qc [(2,AO.box [AV.yl 3000 B.length]),(3000,AO.arr 361 8 (emb (B.map Wx)) 0)]:=rfl;rw[Qos,h0];simp[look,Ul,QKM]
  trace_state
theorem Qx5 (p:Zm) (hp:OkU p) (hg:p.z9-p.z8<=100000) (hl:(VA p).length<=1000000):Gd K 286 [.clo 287 [puV p] []] (Ul (VA p)):=by
 refine Qb hK (fk func286 QHs (by kernel_rfl)) (by simp) ?_;simp;refine QH (QsM hK p hp hg hl) rfl ?_ ?_
 ·refine ⟨by simp,by simp[clA],by simp,by simp,by simp⟩
 simp[Ul]
omit hK
theorem Uc {α β:Type} (f:α->List β) (c:Nat):∀ l:List α,(∀ x∈l,(f x).length<=c)->(l.flatMap f).length<=l.length*c
 | [],_=>by simp
 | a::r,h=>by
   have h1:=h a (by simp);have h2:=Uc f c r fun x hx=>h x (by simp[hx]);rw[QLx,QKP,QKV,Nat.succ_mul];omega
theorem QbF {p:Zm} (hp:OkU p):(VA p).length<=1000000:=by
 have hxl:=hp.xlen;have h0:(Qdn p).length<=(Xl p.zi).length*81:=by
  refine Uc _ _ _ fun w _=>?_;have h1:=Qbg p 1 w;have h2:=Uc (fun g=>(V9 p 2 w).map fun h=>(⟨w,g,h⟩:Bun)) 9 (V9 p 1 w) fun g _=>by
   have:=Qbg p 2 w;simp;omega
  omega
 have h1:=QK5 (fun x:Bun=>decide (((x.ya.zh+x.yb.zh:Nat):Int)<=p.zh)) (Qdn p);have h2:=Qdx p.zi hp.zi;have h3:10 ^ p.zi.length<=10 ^ 4:=QLS (by omega) hp.rlen;unfold VA;omega
def uT (p:Zm) (is:Bool):List Bun:=if OkU p/\is=true then VA p else []
theorem Qw4 {p:Zm} {x:Bun} (h:x∈VA p):(∀ n∈x.ya.lens,n∈X1 p)/\(∀ n∈x.yb.lens,n∈X1 p)/\x.ya.lens.length<=100000/\x.yb.lens.length<=100000\/¬ OkU p:=by
 by_cases hp:OkU p
 ·refine .inl ?_;obtain ⟨_,hg,hh,_⟩:=WU.1 h;have h1:=(Yx.1 hg).1;have h2:=(Yx.1 hh).1;have h3:=Ql8 p 1 x.zi x.ya.zh;have h4:=Ql8 p 2 x.zi x.yb.zh;have hgu:=hp.guess;have hmo:=hp.most;simp only[inR] at hgu;rw[h1,h2];exact ⟨fun n hn=>(Ym.1 hn).1,fun n hn=>(Ym.1 hn).1,by omega,by omega⟩
 ·exact .inr hp
theorem Qbj {l:List Int} (h:0<l.length):l[0]=Xr l:=by
 cases l with
 | nil=>cases h
 | cons a r=>rfl
theorem Qbi {l:List Int} (h:l.length-1<l.length):l[l.length-1]=Z7 l:=by
 unfold Z7;grind
structure QFP (x:Bun):Prop where
 bpos:0<x.ya.lens.length
 apos:0<x.yb.lens.length
 blen:x.ya.lens.length<=100000
 alen:x.yb.lens.length<=100000
 bh:0<=Xr x.ya.lens/\Xr x.ya.lens<=99999
 bl:0<=Z7 x.ya.lens/\Z7 x.ya.lens<=99999
 ah:0<=Xr x.yb.lens/\Xr x.yb.lens<=99999
 al:0<=Z7 x.yb.lens/\Z7 x.yb.lens<=99999
theorem QEA {p:Zm} (hp:OkU p) {x:Bun} (h:x∈VA p):QFP x:=by
 obtain ⟨h1,h2,h3,h4⟩:=ZO h;obtain ⟨k1,k2,k3,k4⟩:=(Qw4 h).resolve_right (fun e=>e hp);have e1:=Xj h1 h3;have e2:=Xj h2 h4;have hgu:=hp.guess;have hmo:=hp.most;simp only[inR] at hgu;have hin:∀ n∈X1 p,0<=n/\n<=99999:=fun n hn=>by
  have:=JT.1 hn;omega
 exact ⟨QLo.2 h3,QLo.2 h4,k3,k4,hin _ (k1 _ e1.1),hin _ (k1 _ e1.2.1),hin _ (k2 _ e2.1),hin _ (k2 _ e2.2.1)⟩
include hK
theorem Qfo (p:Zm) (is:Bool) (hl:p.zi.length<=1000) (hx:p.zj.length<=1000) :
  Gd K 217 [puV p,.bool is] (.xd [puV p,Ul (uT p is),.int .i64 (uE p is)]):=by
 refine Qb hK (fk func217 QIo (by kernel_rfl)) (by simp) ?_;simp;refine cK (by simpa using QvJ hK p hl hx) ?_;unfold uE uT;by_cases hp:OkU p
 ·have hgu:=hp.guess;have hmo:=hp.most;simp only[inR] at hgu;cases is
  ·simp[hp,Ul]
  have hln:=QbF hp;simp[hp];refine cK (by simpa using Qx5 hK p hp (by omega) hln) ?_;by_cases hn:qx p=[]
  ·have hb:=Qa5.2 hn;simp[hn,hb,Ul]
  have hb:¬ VA p=[]:=fun e=>hn (Qa5.1 e);simp[hn,hb,Ul]
  try omega
 ·simp[hp,Ul]
theorem QpB (part b a:Int) (hpt:0<=part/\part<=1000) (hb:0<=b/\b<=99999) (ha:0<=a/\a<=99999):Gd K 288 [.int .i64 b,.int .i64 a,.ptr [.int .i64 part]] (.bool (XI b a part)):=by
 refine Qb hK (fk func288 QHq (by kernel_rfl)) (by simp) ?_;have h1:=QdV hpt.1 hpt.2 (show -99999<=b by omega) hb.2;simp[XI];omega
theorem QpJ (T:List Bun) (h:∀ x∈T,QFP x) (hn:T.length<=1000000):Gd K 218 [Ul T] (.agg [.int .i64 (span (T.map loB)).1,.int .i64 (span (T.map hiB)).2]):=by
 refine Qb hK (fk func218 QIn (by kernel_rfl)) (by simp) ?_;simp[Ul];intros
 refine Qi (fun i=>[(2,AV.loc 2 0),(3,AV.loc 3 0),(9,AV.iv (.sl 8 (T.map Wx))),(10,AV.iv (.int .i64 T.length)),(11,AV.iv (.int .i64 (i:Nat)))])
  (fun i=>[(2,AO.box [.iv (.int .i64 0),.iv (.int .i64 0)]),(3,AO.box [.iv (.int .i64 (span ((T.take i).map loB)).1),.iv (.int .i64 (span ((T.take i).map hiB)).2)])]) T.length (fun _=>True) trivial ?_ ?_
 ·intro _;rw[Qa QkM.eq_1,QK0];simp
 ·intro i hi _ ih;have hb:=h _ (QKL hi);rw[WF loB T i hi,WF hiB T i hi] at ih;rw[Qa QkM.eq_1];generalize hX:T[i]=X at *;obtain ⟨b1,b2,b3,b4,b5,b6,b7,b8⟩:=hb;have g1:=Qbj b1;have g2:=Qbj b2;have g3:=Qbi (show X.ya.lens.length-1<X.ya.lens.length by omega);have g4:=Qbi (show X.yb.lens.length-1<X.yb.lens.length by omega);have xb:loB X=Xr X.yb.lens-Z7 X.ya.lens:=rfl;have hhi:hiB X=Z7 X.yb.lens-Xr X.ya.lens:=rfl;have q1:X.ya.lens.length-1<X.ya.lens.length:=by omega
  have q2:X.yb.lens.length-1<X.yb.lens.length:=by omega
  have q3:((X.ya.lens.length:Int)-1).toNat=X.ya.lens.length-1:=by omega
  have q4:((X.yb.lens.length:Int)-1).toNat=X.yb.lens.length-1:=by omega
  by_cases h0:i=0
  ·subst h0;simp[xb,hhi] at ih;simp[hi,hX,Wx,b1,b2,g1,g2,g3,g4,q1,q2,q3,q4];grind
  ·have h0':¬ (i:Int)=0:=by omega
   rw[if_neg h0,if_neg h0] at ih;generalize span ((T.take i).map loB)=S1 at *;generalize span ((T.take i).map hiB)=S2 at *;simp[xb,hhi,QdW,QdX] at ih;simp[hi,hX,Wx,b1,b2,g1,g2,g3,g4,q1,q2,q3,q4,h0,h0',QdW,QdX];grind
theorem QpI (T:List Bun) (part:Int) (h:∀ x∈T,QFP x) (hpt:0<=part/\part<=1000) (hn:T.length<=1000000) :
  Gd K 219 [Ul T,.int .i64 part] (.int .i64 (if T.all fun x=>XI (Xr x.ya.lens) (Z7 x.yb.lens) part then 1 else if T.any fun x=>XI (Z7 x.ya.lens) (Xr x.yb.lens) part then 3 else 2)):=by
 refine Qb hK (fk func219 QIm (by kernel_rfl)) (by simp) ?_;generalize hR:(if T.all fun x=>XI (Xr x.ya.lens) (Z7 x.yb.lens) part then (1:Int) else if T.any fun x=>XI (Z7 x.ya.lens) (Xr x.yb.lens) part then 3 else 2)=R;simp[Ul];intros
 refine Qi (fun i=>[(3,AV.iv (.ptr [.int .i64 part])),(5,AV.iv (.bool ((T.take i).any fun x=>XI (Z7 x.ya.lens) (Xr x.yb.lens) part))),(6,AV.iv (.bool (!(T.take i).all fun x=>XI (Xr x.ya.lens) (Z7 x.yb.lens) part))),(12,AV.iv (.sl 8 (T.map Wx))),(13,AV.iv (.int .i64 T.length)),(14,AV.iv (.int .i64 (i:Nat)))])
  (fun i=>[]) T.length (fun _=>True) trivial ?_ ?_
 ·intro _;rw[Qa QkL.eq_1,QK0];cases hA:(T.all fun x=>XI (Xr x.ya.lens) (Z7 x.yb.lens) part)<;>cases hE:(T.any fun x=>XI (Z7 x.ya.lens) (Xr x.yb.lens) part)<;>simp[hA,hE] at hR<;>simp[hR]
 ·intro i hi _ ih;have hb:=h _ (QKL hi);rw[QKH hi,List.any_append,List.all_append] at ih;rw[Qa QkL.eq_1];generalize hX:T[i]=X at *;obtain ⟨b1,b2,b3,b4,b5,b6,b7,b8⟩:=hb;have g1:=Qbj b1;have g2:=Qbj b2;have g3:=Qbi (show X.ya.lens.length-1<X.ya.lens.length by omega);have g4:=Qbi (show X.yb.lens.length-1<X.yb.lens.length by omega);have q1:X.ya.lens.length-1<X.ya.lens.length:=by omega
  have q2:X.yb.lens.length-1<X.yb.lens.length:=by omega
  have q3:((X.ya.lens.length:Int)-1).toNat=X.ya.lens.length-1:=by omega
  have q4:((X.yb.lens.length:Int)-1).toNat=X.yb.lens.length-1:=by omega
  have w1:=QpB hK part _ _ hpt b6 b7;have w2:=QpB hK part _ _ hpt b5 b8;generalize ((T.take i).any fun x=>XI (Z7 x.ya.lens) (Xr x.yb.lens) part)=e1 at *
  generalize ((T.take i).all fun x=>XI (Xr x.ya.lens) (Z7 x.yb.lens) part)=e2 at *
  have k1:(([X]:List Bun).any fun x=>XI (Z7 x.ya.lens) (Xr x.yb.lens) part)=XI (Z7 X.ya.lens) (Xr X.yb.lens) part:=by simp
  have k2:(([X]:List Bun).all fun x=>XI (Xr x.ya.lens) (Z7 x.yb.lens) part)=XI (Xr X.ya.lens) (Z7 X.yb.lens) part:=by simp
  rw[k1,k2] at ih;generalize XI (Z7 X.ya.lens) (Xr X.yb.lens) part=v1 at *;generalize XI (Xr X.ya.lens) (Z7 X.yb.lens) part=v2 at *;have hcal:callee prog 288=true:=by kernel_rfl
  have o1:(-9223372036854775808<=(X.ya.lens.length:Int)-1/\(X.ya.lens.length:Int)-1<=9223372036854775807)/\1<=(X.ya.lens.length:Int):=by omega
  have o2:(-9223372036854775808<=(X.yb.lens.length:Int)-1/\(X.yb.lens.length:Int)-1<=9223372036854775807)/\1<=(X.yb.lens.length:Int):=by omega
  cases e1<;>cases e2
  ·simp at ih;simp[hi,hX,Wx,b1,b2,g1,g2,g3,g4,q1,q2,q3,q4];intro _;refine ⟨o1.1,o1.2,hcal,cK (by simpa using w1) ?_⟩;simp;grind
  ·simp at ih;simp[hi,hX,Wx,b1,b2,g1,g2,g3,g4,q1,q2,q3,q4];intro _;refine ⟨o1.1,o1.2,hcal,cK (by simpa using w1) ?_⟩;simp[b1,b2,g1,g2,g3,g4,q1,q2,q3,q4];intro _;refine ⟨o2.1,o2.2,hcal,cK (by simpa using w2) ?_⟩;simp;grind
  ·simp at ih;simp[hi,hX,Wx,b1,b2,g1,g2,g3,g4,q1,q2,q3,q4];grind
  ·simp at ih;simp[hi,hX,Wx,b1,b2,g1,g2,g3,g4,q1,q2,q3,q4];intro _;refine ⟨o2.1,o2.2,hcal,cK (by simpa using w2) ?_⟩;simp;grind
theorem Qze (p:Zm) (hl:p.zi.length<=1000) (hx:p.zj.length<=1000):Gd K 130 [puV p] (.xd [.agg [.int .i64 (span ((uL p true).map QaU)).1,.int .i64 (span ((uL p true).map QaU)).2],.int .i64 (uE p true)]):=by
 refine Qb hK (fk func130 QJz (by kernel_rfl)) (by simp) ?_;simp;refine cK (by simpa using Qfo hK p true hl hx) ?_;simp;by_cases hp:OkU p
 ·have hT:uT p true=VA p:=by simp[uT,hp]
  have hL:uL p true=qx p:=by simp[uL,hp]
  have hs:=Qip p;rw[hT,hL,<- hs];refine cK (QpJ hK (VA p) (fun x hx=>QEA hp hx) (QbF hp)) ?_;simp[QeL]
 ·have hT:uT p true=[]:=by simp[uT,hp]
  have hL:uL p true=[]:=by simp[uL,hp]
  rw[hT,hL];refine cK (QpJ hK [] (by simp) (by simp)) ?_;simp
theorem Qzc (p:Zm) (part:Int) (hl:p.zi.length<=1000) (hx:p.zj.length<=1000):Gd K 134 [puV p,.int .i64 part] (.xd [.int .i64 (QaA p part),.int .i64 (uE p (Qe7 part))]):=by
 refine Qb hK (fk func134 QJx (by kernel_rfl)) (by simp) ?_;simp;refine cK (Yf hK _ _ _) ?_;have hpd:decide (inR part 0 1000)=Qe7 part:=rfl;rw[hpd];simp;refine cK (by simpa using Qfo hK p (Qe7 part) hl hx) ?_;unfold QaA;by_cases h0:uE p (Qe7 part)=0
 ·obtain ⟨hp,hb,hL,hne⟩:=QeH h0;have hpt:=of_decide_eq_true hb;simp only[inR] at hpt;have hT:uT p (Qe7 part)=VA p:=by simp[uT,hp,hb]
  have hg:=QpI hK (VA p) part (fun x hx=>QEA hp hx) hpt (QbF hp);have hh:=Qhs p part hpt.1;unfold Qd8 at hh;rw[<- hh] at hg;rw[hT];simp[h0];refine cK (by simpa using hg) ?_;simp
 simp[h0]
theorem Qzd (p:Zm) (hl:p.zi.length<=1000) (hx:p.zj.length<=1000):Gd K 132 [puV p] (.xd [.int .i64 (Qe4 p).1,.int .i64 (Qe4 p).2]):=by
 refine Qb hK (fk func132 QJy (by kernel_rfl)) (by simp) ?_;simp;refine cK (by simpa using Qfo hK p true hl hx) ?_;unfold Qe4;by_cases h0:uE p true=0;rotate_left
 ·simp[h0]
 ·obtain ⟨hp,hb,hL,hne⟩:=QeH h0;have hT:uT p true=VA p:=by simp[uT,hp]
  rw[hT];simp[h0];refine Qi (fun i=>[(5,AV.iv (Ul (VA p))),(17,AV.iv (.int .i64 (i:Nat)))]) (fun _=>[]) 1001 (fun i=>∀ j,j<i->¬ Qd9 (qx p) (j:Nat)=1) (by simp) ?_ ?_
  ·intro h;have hn:QnO (qx p)=none:=by
    unfold QnO;grind
   rw[Qa Qk9.eq_1];simp[hn]
  ·intro i hi h ih;have hg:=QpI hK (VA p) (i:Nat) (fun x hx=>QEA hp hx) (by omega) (QbF hp);have hh0:=Qhs p (i:Nat) (by omega);unfold Qd8 at hh0;rw[<- hh0] at hg;rw[Qa Qk9.eq_1];have hi':(i:Int)<1001:=by omega
   simp[hi,hi'];refine cK (by simpa using hg) ?_;by_cases hh:Qd9 (qx p) (i:Nat)=1
   ·have hs:QnO (qx p)=some i:=by
     unfold QnO;rw[List.find?_eq_some_iff_getElem];exact ⟨by simp[hh],i,by simpa using hi,by simp,fun j hj=>by simpa using h j hj⟩
    simp[hh,hs]
   ·have ih:=ih (fun j hj=>by
     grind)
    simp[hh] at ih |-
    grind
theorem Qx4 (l:List Int) (hw:∀ x∈l,-1000000<=x/\x<=1000000) (hl:l.length<=1000000):Gd K 289 [.map (J6 (ZH l))] (QU (ZE l)):=by
 refine Qb hK (fk func289 QHp (by kernel_rfl)) (by simp) ?_;simp;refine cK (by simpa using Qfp hK (J6 (ZH l))) ?_;simp;refine cK (UH l hw hl) ?_;simp
theorem Qyz (T:List Bun) (rod:Nat) (hr:rod<4) (hw:∀ x∈T,0<=x.zi.getD rod 0/\x.zi.getD rod 0<=9999) (hn:T.length<=1000000):Gd K 220 [Ul T,.int .i64 (rod:Nat)] (QU (ZE (T.map fun x=>x.zi.getD rod 0))):=by
 refine Qb hK (fk func220 QIk (by kernel_rfl)) (by simp) ?_
 have h249:=Qx4 hK (T.map fun x=>x.zi.getD rod 0) (fun x hx=>by
  grind) (by simpa using hn)
 simp[Ul];intros
 refine Qi (fun i=>[(1,AV.iv (.int .i64 (rod:Nat))),(5,AV.yk 8),(9,AV.iv (.sl 8 (T.map Wx))),(10,AV.iv (.int .i64 T.length)),(11,AV.iv (.int .i64 (i:Nat)))])
  (fun i=>[(8,AO.xg (J6 (ZH ((T.take i).map fun x=>x.zi.getD rod 0))))]) T.length (fun _=>True) trivial ?_ ?_
 ·intro _;rw[Qa QkK.eq_1,QK0];simp;refine cK (by simpa using h249) ?_;simp
 ·intro i hi _ ih;have hb:=hw _ (QKL hi);have hdp:=Qmt T[i].zi rod hr;rw[QKH hi,QK3,QMj,ZK] at ih;have hle:=qY (T[i].zi.getD rod 0) ((T.take i).map fun x=>x.zi.getD rod 0);have hkk:=XG (ZH ((T.take i).map fun x=>x.zi.getD rod 0));have hf:=YA (T[i].zi.getD rod 0) (ZH ((T.take i).map fun x=>x.zi.getD rod 0));have hi2:=Vs (T[i].zi.getD rod 0) (ZH ((T.take i).map fun x=>x.zi.getD rod 0));have hlen:((T.take i).map fun x=>x.zi.getD rod 0).length<=1000000:=by simp;omega
  rw[Qa QkK.eq_1];generalize ZH ((T.take i).map fun x=>x.zi.getD rod 0)=kv at *
  generalize hX:T[i]=X at *;simp only[List.getD_eq_getElem?_getD] at hf hi2 hle ih hb;clear hdp;rw[QKX,QMh] at hle;rcases (show rod=0\/rod=1\/rod=2\/rod=3 by omega) with rfl | rfl | rfl | rfl
  all_goals
   simp at ih;simp[hi,hX,Wx,hkk,hf,hi2]
   repeat' first|omega|exact ih|intro _|apply And.intro
theorem Qzb (p:Zm) (rod:Int) (hl:p.zi.length<=1000) (hx:p.zj.length<=1000):Gd K 136 [puV p,.int .i64 rod] (.xd [QU (Qnf p rod),.int .i64 (uE p (Qvv p rod))]):=by
 refine Qb hK (fk func136 QJw (by kernel_rfl)) (by simp) ?_;simp;intro _;refine ⟨by omega,cK (Yf hK _ _ _) ?_⟩;have hpd:decide (inR rod 0 ((p.zi.length:Int)-1))=Qvv p rod:=rfl;rw[hpd];simp;refine cK (by simpa using Qfo hK p (Qvv p rod) hl hx) ?_;unfold Qnf;by_cases h0:uE p (Qvv p rod)=0;rotate_left
 ·simp[h0]
 obtain ⟨hp,hb,hL,hne⟩:=QeH h0;have hpt:=of_decide_eq_true hb;simp only[inR] at hpt;have xa:rod.toNat<p.zi.length:=by omega
 have hT:uT p (Qvv p rod)=VA p:=by simp[uT,hp,hb]
 have hro:((rod.toNat:Nat):Int)=rod:=by omega
 have hgd:p.zi.getD rod.toNat ⟨0,0,0⟩=p.zi[rod.toNat]:=by simp[xa]
 have hbd:∀ w∈Xl p.zi,0<=w.getD rod.toNat 0/\w.getD rod.toNat 0<=9999:=fun w hw=>by
  obtain ⟨h1,h2⟩:=Qbz hp hw;have hl2:rod.toNat<w.length:=by omega
  have:w.getD rod.toNat 0=w[rod.toNat]:=by simp[hl2]
  rw[this];exact h2 _ (QKL hl2)
 have hg:=Qyz hK (VA p) rod.toNat (by have:=hp.rlen;omega) (fun x hx=>hbd _ (WU.1 hx).1) (QbF hp);have he:Jw (QwO (qx p) rod.toNat) (p.zi[rod.toNat].long-p.zi[rod.toNat].z7) p.zi[rod.toNat].long=ZE ((VA p).map fun x=>x.zi.getD rod.toNat 0):=by
  refine QiU (Qap _ _ _) (Ut _) fun x=>?_;have hm:=QoN (p:=p) (rod:=rod.toNat) (n:=x);unfold QwN at hm;rw[hm,Wa];simp only[QwO,QKT];constructor
  ·grind
  rintro ⟨t,ht,rfl⟩;have hw:=(Qfc.1 ht).2.2.1;have:=QeD _ _ hw rod.toNat xa;grind
 rw[hro] at hg;rw[hT,if_pos h0,hgd,he];simp[h0];refine cK (by simpa using hg) ?_;simp
omit hK
def Qfz (c:Qf) (ss:List XB) (i:Nat):Nat:=((List.range i).map fun n=>QN c.za ss (Q1 c.za n)).foldl min ss.length
theorem Qek (c:Qf) (ss:List XB) (i:Nat):Qfz c ss (i+1)=min (Qfz c ss i) (QN c.za ss (Q1 c.za i)):=by
 unfold Qfz;rw[QLs,QK3,QL3];rfl
def QCj (c:Qf) (ss:List XB):Nat:=Qfz c ss (2 ^ Z2 c.za)
theorem Qmk (c:Qf) (ss:List XB):∀ i,Qfz c ss i<=ss.length
 | 0=>QKJ _
 | i+1=>by
   rw[Qek];exact QLv (Nat.min_le_left _ _) (Qmk c ss i)
def Qej (c:Qf):Option Nat:=(List.range c.zg.length).find? fun i=>decide (0<QCj c (c.zg.take (i+1)))
noncomputable def WO (c:Qf):Int × Int:=if OkC c then (match Qej c with | some n=>((n:Int),0) | none=>(0,3)) else (0,20)
include hK
theorem QyJ (c:Qf) (hc:OkC c) (ss:List XB) (hs:∀ s∈ss,ZG s c.za) (hl:ss.length<=1000):Gd K 193 [.agg (Um c),Qu ss] (.int .i64 (QCj c ss:Nat)):=by
 refine Qb hK (fk func193 QIM (by kernel_rfl)) (by simp) ?_;have hit:=Qo8 hK c (pmC c) (by have:=hc.len;have:=U6 c.za;omega) (Qgk hK c hc);have hcl:=hc.len;unfold QCj;generalize 2 ^ Z2 c.za=N at *;simp;intros;refine QS (wy:=.fall) (o':=[(5,.box [.iv (.int .i64 (Qfz c ss N:Nat))])]) rfl (by kernel_rfl) hit ?_ ?_
 ·have:=VI.all (P:=prog) (K:=K) (ps:=[11]) (asn:=QfW) (body:=QkU) (ks:=[3,5]) (ids:=[5]) (eK:=[(3,.iv (.ptr [Qu ss])),(5,.loc 5 0)]) ((List.range N).map (XJ c.za (pmC c)))
   (fun i=>[(5,.box [.iv (.int .i64 (Qfz c ss i:Nat))])]) fun i x hi=>by
   simp only[QKN,QKK] at hi;obtain ⟨y,hy,rfl⟩:=hi;obtain ⟨xa,hy⟩:=QKG.1 hy;rw[List.getElem_range] at hy;subst hy;have hg:=QpC hK c.za (Q1 c.za i) (pmC c i) ss hc.za (by omega) hs hl;have hle:=Qmk c ss i;have hle2:=Qdv c.za ss (Q1 c.za i);refine ⟨rfl,?_⟩;rw[Qek];generalize Qfz c ss i=m at *;simp[XJ,QfW,QkU];refine YQ (by simpa using hg) (.inl rfl) ?_;simp
   try omega
  simpa[Qfz] using this
 ·simp
theorem Qzo (c:Qf) (hl:c.za.length<=1000) (hs:c.zg.length<=1000):Gd K 106 [chV c] (.xd [.int .i64 (WO c).1,.int .i64 (WO c).2]):=by
 refine Qb hK (fk func106 QJM (by kernel_rfl)) (by simp) ?_;simp;refine YQ (by simpa using qV hK c hl hs) (.inl rfl) ?_;unfold WO;by_cases hc:OkC c;rotate_left
 ·simp[hc]
 simp[hc];refine YQ (by simpa using QjC hK c hl) (.inl rfl) ?_;simp;intros
 refine Qi (fun i=>[(1,AV.iv (.ptr [Qz c.za,Qu c.zg,.int .i64 c.zh])),(5,AV.loc 5 0),(16,AV.iv (.int .i64 c.zg.length)),(17,AV.iv (.int .i64 (i:Nat)))])
  (fun _=>[(5,AO.box ((Um c).map AV.iv))]) c.zg.length (fun i=>∀ j,j<i->¬ 0<QCj c (c.zg.take (j+1))) (by simp) ?_ ?_
 ·intro h;have hn:Qej c=none:=by
   unfold Qej;rw[List.find?_eq_none];intro j hj;simpa using h j (by simpa using hj)
  rw[Qa Qle.eq_1];simp[hn]
 intro i hi h ih;have hg:=QyJ hK c hc (c.zg.take (i+1)) (fun s hs=>hc.zg s (QLw hs)) (by simp;omega);rw[Qa Qle.eq_1];simp[hi];refine ⟨by omega,by omega,fun _=>?_⟩;refine YQ (by simpa[Um,QMv] using hg) (.inl rfl) ?_;by_cases hh:0<QCj c (c.zg.take (i+1))
 ·have hs:Qej c=some i:=by
   unfold Qej;rw[List.find?_eq_some_iff_getElem];exact ⟨by simpa using hh,i,by simpa using hi,by simp,fun j hj=>by simpa using h j hj⟩
  simp[hh,hs]
 have ih:=ih (fun j hj=>by
  rcases QMt.1 hj with h5 | h5
  ·exact h j h5
  rw[h5];exact hh)
 simp[hh] at ih |-;exact ⟨by omega,ih⟩
omit hK
def QKn (c:Qf) (ss:List XB) (i:Nat):Nat:=(((Q6 c.za).take i).map fun e=>QN c.za ss (QI e)).foldl min ss.length
def QKy (c:Qf) (ss:List XB):Nat:=((Q6 c.za).map fun e=>QN c.za ss (QI e)).foldl min ss.length
def plB (c:Qf) (n:Int):Bool:=decide (inR n 0 (Ql c.za-1))
noncomputable def Qn2 (c:Qf) (n:Int):List Int:=if Xu c (plB c n)=0 then ZE ((Qn c).map (UT c n)) else []
noncomputable def Qn3 (c:Qf) (n:Int):List Int:=if Xu c (Wl c n)=0 then ZE ((Qn c).map (Qdy c n)) else []
noncomputable def VY (p:Qe) (n:Int):Int × Int:=if kE p (Xn p n)=0 then JR p.zb (tr p n.toNat).zm (tr p n.toNat).zn else (0,0)
noncomputable def QiS (p:Qe) (n:Int):Int:=if kE p (Xn p n)=0 then tE p.zb (qr (tr p n.toNat).zm (tr p n.toNat).zn 0) else kE p (Xn p n)
noncomputable def Jl (p:Qe):Int × Int:=if kE p true=0 then JA p.zb 0 p.zo else (0,kE p true)
noncomputable def J3 (h:Qk) (v:Qf5) (l:List Int):Txt :=
 match v with
 | .who=>X7 (Qn2 h.ze.zc (nI l 0)) (Xu h.ze.zc (plB h.ze.zc (nI l 0)))
 | .wher=>X7 (Qn3 h.ze.zc (nI l 0)) (Xu h.ze.zc (Wl h.ze.zc (nI l 0)))
 | .first=>X7 [(WO h.ze.zc).1] (WO h.ze.zc).2
 | .pulls=>X7 [(JR h.ze.zb (nI l 0) (nI l 1)).1,(JR h.ze.zb (nI l 0) (nI l 1)).2] (tE h.ze.zb (qr (nI l 0) (nI l 1) 0))
 | .z5=>X7 (QaB h.ze (nI l 0)) (kE h.ze (Xn h.ze (nI l 0)))
 | .loads=>X7 [(VY h.ze (nI l 0)).1,(VY h.ze (nI l 0)).2] (QiS h.ze (nI l 0))
 | .y7=>X7 [(rFail h.ze).1,(rFail h.ze).2] (kE h.ze true)
 | .y6=>Qd1 (rCond h.ze) (kE h.ze true)
 | .y8=>Qd1 (rProved h.ze (nI l 0)) (kE h.ze (qN h.ze (nI l 0)))
 | .opn=>X7 (Qe3 h.ze) (kE h.ze true)
 | .good=>Qd1 (rGood h.ze) (kE h.ze true)
 | .worth=>X7 [(VB h.ze).1] (VB h.ze).2
 | .zm=>X7 [(Jl h.ze).1] (Jl h.ze).2
 | .stretch=>X7 [(span ((uL h.zq true).map QaU)).1,(span ((uL h.zq true).map QaU)).2] (uE h.zq true)
 | .best=>X7 [(Qe4 h.zq).1] (Qe4 h.zq).2
 | .holds=>Qd1 (QaA h.zq (nI l 0)) (uE h.zq (Qe7 (nI l 0)))
 | .zi=>X7 (Qnf h.zq (nI l 0)) (uE h.zq (Qvv h.zq (nI l 0)))
 | _=>[]
noncomputable def doV (h:Qk) (v:Qf5) (l:List Int):Txt × Qk :=
 if UF v then (match QfK h v l with
  | some h'=>if okH h' then (Qvj,h') else (tNo,h)
  | none=>(tNo,h))
 else (J3 h v l,h)
def XQ:List Txt->Option (List Int)
 | []=>some []
 | w::r=>match QdU w,XQ r with
   | some x,some l=>some (x::l)
   | _,_=>none
theorem V1:∀ {ws:List Txt} {l:List Int},XQ ws=some l->l.length=ws.length
 | [],l,h=>by simp[XQ] at h;subst h;rfl
 | w::r,l,h=>by
   simp only[XQ] at h;split at h
   ·rename_i x l' _ h2;injection h with h;subst h;simp[V1 h2]
   cases h
def XO (t:Txt):Option (Qf5 × List Int):=match spl t with
 | []=>none
 | w::ws=>match Vz w with
   | none=>none
   | some (n,v)=>if ws.length=n then (XQ ws).map fun l=>(v,l) else none
noncomputable def XA (h:Qk) (t:Txt):Txt × Qk:=match XO t with
 | none=>(Qin,h)
 | some (v,l)=>doV h v l
noncomputable def XK (h:Qk) (s:List Txt) (i:Nat):Qk:=(s.take i).foldl (fun h t=>(XA h t).2) h
noncomputable def Qc5 (h:Qk) (s:List Txt) (i:Nat):List Txt:=(List.range i).map fun j=>(XA (XK h s j) (s.getD j [])).1
theorem YX (h:Qk) (s:List Txt) (i:Nat) (hi:i<s.length):XK h s (i+1)=(XA (XK h s i) s[i]).2:=by
 unfold XK;rw[QKH hi,QL3];rfl
theorem J4 (h:Qk) (s:List Txt) (i:Nat) (hi:i<s.length):Qc5 h s (i+1)=Qc5 h s i++[(XA (XK h s i) s[i]).1]:=by
 unfold Qc5;rw[QLs,QK3,QMj,List.getD_eq_getElem?_getD,QKF hi];rfl
noncomputable def QsF (h:Qk):Int:=if okH h then 0 else 120
noncomputable def Qse (h:Qk) (s:List Txt):Int:=if okH h then (if 40<s.length then 2 else 0) else 120
structure Qds (h:Qk):Prop where
 ze:Few h.ze
 zq:QJU h.zq
theorem QCt {h:Qk} {v:Qf5} {l:List Int} (ho:okH h):okH (doV h v l).2:=by
 unfold doV;grind
theorem Qsy {h:Qk} {t:Txt} (ho:okH h):okH (XA h t).2:=by
 unfold XA;split
 ·exact ho
 exact QCt ho
theorem QbL {h:Qk} {s:List Txt} (ho:okH h):∀ i,okH (XK h s i)
 | 0=>ho
 | i+1=>by
   by_cases hi:i<s.length
   ·rw[YX h s i hi]
    exact Qsy (QbL ho i)
   have:XK h s (i+1)=XK h s i:=by
    unfold XK;rw[QKM (by omega),QKM (by omega)]
   rw[this];exact QbL ho i
set_option maxHeartbeats 10000000
def QaS (neg:Bool) (D:Txt):Option Nat:=if D.length=0\/9<D.length\/(D.head?=some 48/\(neg=true\/1<D.length)) then none else Lib.decFrom 0 D
theorem QoF (w:Txt):QdU w=if w.head?=some 45 then (QaS true (w.drop 1)).map fun (m:Nat) => -(m:Int) else (QaS false w).map fun (m:Nat)=>(m:Int):=by
 unfold QdU;have dn:∀ D:Txt,D≠[]->Lib.decNat D=Lib.decFrom 0 D:=fun D h=>by
  unfold Lib.decNat;grind
 split
 ·generalize w.drop 1=D;unfold QaS;by_cases h0:D=[]
  ·subst h0;simp[Lib.decNat]
  grind
 unfold QaS;by_cases h0:w=[]
 ·subst h0;simp[Lib.decNat]
 grind
theorem Yq:∀ (a b:Txt) (acc:Nat),Lib.decFrom acc (a++b)=(Lib.decFrom acc a).bind fun m=>Lib.decFrom m b
 | [],b,acc=>rfl
 | c::a,b,acc=>by
   simp only[QLp,Lib.decFrom];cases Lib.digitVal c with
   | none=>rfl
   | some d=>exact Yq a b _
theorem Js (c:UInt8):Lib.digitVal c=if 48<=c.toNat/\c.toNat<=57 then some (c.toNat-48) else none:=by
 unfold Lib.digitVal;rfl
theorem decFrom_lt:∀ (l:Txt) (m:Nat) (i:Nat),i<=l.length->Lib.decFrom 0 (l.take i)=some m->m<10 ^ i
 | l,m,0,_,h=>by simp[Lib.decFrom] at h;subst h;simp
 | l,m,i+1,hi,h=>by
   rw[QKH (by omega),Yq] at h;cases hk:Lib.decFrom 0 (l.take i) with
   | some k =>
     have:=decFrom_lt l k i (by omega) hk;rw[hk] at h;simp only[Option.bind_some,Lib.decFrom,Js] at h;grind
   | _=>grind
theorem QmU (w:Txt):(∃ p∈Xm,p.1=w)\/∀ p∈Xm,¬ p.1=w:=by
 grind
theorem Up:∀ p∈Xm,Vz p.1=some p.2:=by decide
theorem QbE {w:Txt} (h:∀ p∈Xm,¬ p.1=w):Vz w=none:=by
 unfold Vz;grind
def ixW (w:Txt):Nat:=(Xm.map (·.1)).idxOf w
theorem QBv (w:Txt):ixW w<=25:=List.idxOf_le_length
theorem Zi {w l:Txt} (k:Nat) (h:(Xm.map (·.1))[k]?=some l) (hd:(Xm.map (·.1)).idxOf l=k):w=l↔ixW w=k:=by
 constructor
 ·intro e;subst e;exact hd
 intro e;unfold ixW at e;grind
theorem Qn5 (w:Txt):Vz w=(Xm[ixW w]?).map (·.2):=by
 by_cases h:∃ p∈Xm,p.1=w
 ·obtain ⟨p,hp,rfl⟩:=h;rw[Up p hp];have xa:ixW p.1<(Xm.map (·.1)).length:=List.idxOf_lt_length_of_mem (QKT.2 ⟨p,hp,rfl⟩);have hlt':ixW p.1<Xm.length:=by simpa using xa
  have h1:=List.getElem_idxOf xa;rw[QKF hlt'];have h2:=Up Xm[ixW p.1] (QKL hlt');have h3:Xm[ixW p.1].1=p.1:=by
   rw[<- List.getElem_map (f:=fun q:Txt × Nat × Qf5=>q.1) (h:=by simpa using xa)]
   exact h1
  rw[h3,Up p hp] at h2;exact h2
 rw[QbE fun p hp e=>h ⟨p,hp,e⟩]
 have:ixW w=(Xm.map (·.1)).length:=List.idxOf_eq_length fun hm=>by
  grind
 grind
theorem ix0 (w:Txt):(w=[119,101,108,100])=(ixW w=0):=propext (Zi 0 rfl rfl)
theorem ix1 (w:Txt):(w=[99,117,116])=(ixW w=1):=propext (Zi 1 rfl rfl)
theorem ix2 (w:Txt):(w=[116,117,114,110])=(ixW w=2):=propext (Zi 2 rfl rfl)
theorem ix3 (w:Txt):(w=[112,114,111,118,101])=(ixW w=3):=propext (Zi 3 rfl rfl)
theorem ix4 (w:Txt):(w=[117,110,100,111])=(ixW w=4):=propext (Zi 4 rfl rfl)
theorem ix5 (w:Txt):(w=[115,101,101])=(ixW w=5):=propext (Zi 5 rfl rfl)
theorem ix6 (w:Txt):(w=[98,97,108,97,110,99,101])=(ixW w=6):=propext (Zi 6 rfl rfl)
theorem ix7 (w:Txt):(w=[114,101,97,100])=(ixW w=7):=propext (Zi 7 rfl rfl)
theorem ix8 (w:Txt):(w=[119,104,111])=(ixW w=8):=propext (Zi 8 rfl rfl)
theorem ix9 (w:Txt):(w=[119,104,101,114,101])=(ixW w=9):=propext (Zi 9 rfl rfl)
theorem QKf (w:Txt):(w=[102,105,114,115,116])=(ixW w=10):=propext (Zi 10 rfl rfl)
theorem QKe (w:Txt):(w=[112,117,108,108,115])=(ixW w=11):=propext (Zi 11 rfl rfl)
theorem QKd (w:Txt):(w=[98,114,111,107,101])=(ixW w=12):=propext (Zi 12 rfl rfl)
theorem QKc (w:Txt):(w=[108,111,97,100,115])=(ixW w=13):=propext (Zi 13 rfl rfl)
theorem QKb (w:Txt):(w=[102,97,105,108,117,114,101,115])=(ixW w=14):=propext (Zi 14 rfl rfl)
theorem QKa (w:Txt):(w=[99,111,110,100,101,109,110,101,100])=(ixW w=15):=propext (Zi 15 rfl rfl)
theorem QJ9 (w:Txt):(w=[112,114,111,118,101,100])=(ixW w=16):=propext (Zi 16 rfl rfl)
theorem QJ8 (w:Txt):(w=[111,112,101,110])=(ixW w=17):=propext (Zi 17 rfl rfl)
theorem QJ7 (w:Txt):(w=[103,111,111,100])=(ixW w=18):=propext (Zi 18 rfl rfl)
theorem QJ6 (w:Txt):(w=[119,111,114,116,104])=(ixW w=19):=propext (Zi 19 rfl rfl)
theorem QJ5 (w:Txt):(w=[119,101,105,103,104,116])=(ixW w=20):=propext (Zi 20 rfl rfl)
theorem QJ4 (w:Txt):(w=[115,116,114,101,116,99,104])=(ixW w=21):=propext (Zi 21 rfl rfl)
theorem QJ3 (w:Txt):(w=[98,101,115,116])=(ixW w=22):=propext (Zi 22 rfl rfl)
theorem QJ2 (w:Txt):(w=[104,111,108,100,115])=(ixW w=23):=propext (Zi 23 rfl rfl)
theorem QJ1 (w:Txt):(w=[114,111,100,115])=(ixW w=24):=propext (Zi 24 rfl rfl)
theorem JI (n:Nat) (h:9<n):Lib.decDigits n=Lib.decDigits (n / 10)++[UInt8.ofNat (48+n % 10)]:=by
 rw[Lib.decDigits,dif_neg (by omega)]
theorem Jc (n:Nat) (h:n<=9):Lib.decDigits n=[UInt8.ofNat (48+n)]:=by
 rw[Lib.decDigits,dif_pos (by omega)]
theorem qh (n:Nat):(Lib.decDigits n).length<=n+1:=by
 induction n using Nat.strongRecOn with
 | ind n ih =>
   by_cases h:n<=9
   ·rw[Jc n h];simp
   rw[JI n (by omega)]
   grind
include hK
theorem Qy8 (s:Txt) (hs:s.length<=1000):Gd K 139 [.str s] (strs (spl s)):=by
 refine Qb hK (fk func139 QJu (by kernel_rfl)) (by simp) ?_;simp
 refine Xd s.length (fun i e o=>∃ mv,mv<=((s.take i).foldl QZ [[]]).length/\0<((s.take i).foldl QZ [[]]).length/\((s.take i).foldl QZ [[]]).length<=i+1/\(∀ x∈(s.take i).foldl QZ [[]],x.length<=i) /\
  e=[(0,AV.iv (IV.str s)),(3,AV.yl 5 ((s.take i).foldl QZ [[]]).length),(4,AV.iv (IV.int IntKind.i64 (i:Nat)))] /\
  o=[(5,AO.arr 9 1 (emb (((s.take i).foldl QZ [[]]).map fun s=>[.str s])) mv)]) ?_ ?_ _ _ ⟨0,by simp,by simp,by simp,by simp,rfl,rfl⟩
 ·rintro e o ⟨mv,h1,h2,h3,_,rfl,rfl⟩;rw[Qa Qk8.eq_1];simp[spl] at h1 h2 h3 |-;simp[h1]
 ·rintro i e o hi ⟨mv,h1,h2,h3,hx,rfl,rfl⟩ ih;have e1:(s.take (i+1)).foldl QZ [[]]=QZ ((s.take i).foldl QZ [[]]) s[i]:=by
   rw[QKH hi,QL3];rfl
  rw[Qa Qk8.eq_1];rw[e1] at ih;generalize (s.take i).foldl QZ [[]]=X at *;have h4:X.length-1<X.length:=by omega
  have h5:((X.length:Int)-1).toNat=X.length-1:=by omega
  have h6:s[i].toNat<256:=s[i].toNat_lt;have h7:s[i]=32↔(s[i].toNat:Int)=32:=by
   rw[<- UInt8.toNat_inj];simp;omega
  have h8':((i:Int)+1).toNat=i+1:=by omega
  by_cases e:(s[i].toNat:Int)=32
  ·simp[hi,e];refine ⟨⟨h1,by omega,by omega⟩,by omega,?_⟩;refine ih _ _ ⟨mv,?_,?_,?_,?_,?_,?_⟩<;>simp[QZ,h7.2 e]
   all_goals grind
  ·have h8:¬ s[i]=32:=fun c=>e (h7.1 c);have h9:=hx _ (QKL h4);have h10:(s.take (i+1)).drop i=[s[i]]:=by
    rw[QKH hi]
    grind
   simp[hi,e,h4,h5,h8',h10];refine ⟨h1,fun _=>⟨by omega,⟨by omega,h1⟩,h1,by omega,by omega,by omega,⟨by omega,h1⟩,h1,by omega,?_⟩⟩;refine ih _ _ ⟨X.length,?_,?_,?_,?_,?_,?_⟩<;>simp[QZ,h8,h2,h4]
   all_goals grind
theorem Qy6 (w:Txt):Gd K 141 [.str w] (.int .i64 (match Vz w with | some p=>(p.1:Int) | none => -1)):=by
 refine Qb hK (fk func141 QJs (by kernel_rfl)) (by simp) ?_;rw[Qn5];have xa:=QBv w;generalize hr:(match (Xm[ixW w]?).map (·.2) with | some p=>(p.1:Int) | none => -1)=r;have key:∀ k,k<=25->ixW w=k->r=([4,2,0,3,0,5,4,7,1,1,0,2,1,1,0,0,1,0,0,0,0,0,0,1,1,-1]:List Int).getD k 0:=fun k hk e=>by
  rw[<- hr,e];have:∀ k≤25,(match (Xm[k]?).map (·.2) with | some p=>(p.1:Int) | none => -1)=([4,2,0,3,0,5,4,7,1,1,0,2,1,1,0,0,1,0,0,0,0,0,0,1,1,-1]:List Int).getD k 0:=by decide
  exact this k hk
 clear hr;simp (config:={ maxSteps:=10000000 }) [ix0,ix1,ix2,ix3,ix4,ix5,ix6,ix7,ix8,ix9,QKf,QKe,QKd,QKc,QKb,QKa,QJ9,QJ8,QJ7,QJ6,QJ5,QJ4,QJ3,QJ2,QJ1];generalize ixW w=n at *;have k0:=key 0 (by omega);have k1:=key 1 (by omega);have k2:=key 2 (by omega);have k3:=key 3 (by omega);have k4:=key 4 (by omega);have k5:=key 5 (by omega);have k6:=key 6 (by omega);have k7:=key 7 (by omega);have k8:=key 8 (by omega);have k9:=key 9 (by omega);have k10:=key 10 (by omega);have k11:=key 11 (by omega);have k12:=key 12 (by omega);have k13:=key 13 (by omega);have k14:=key 14 (by omega);have k15:=key 15 (by omega);have k16:=key 16 (by omega);have k17:=key 17 (by omega);have k18:=key 18 (by omega);have k19:=key 19 (by omega);have k20:=key 20 (by omega);have k21:=key 21 (by omega);have k22:=key 22 (by omega);have k23:=key 23 (by omega);have k24:=key 24 (by omega);have k25:=key 25 (by omega);simp only[List.getD_cons_zero,List.getD_cons_succ] at *;clear key
 repeat' first | apply And.intro | intro _
 all_goals omega
theorem QpT (n:Nat) (hn:n<10 ^ 18):Gd K 13 [.int .i64 n] (.str (Lib.decDigits n)):=by
 refine Qb hK Qv3 (by simp) ?_;have hneg:¬ (n:Int)<0:=by omega
 have hm:∀ m:Nat,((m:Int).tmod 10)=(m:Int) % 10:=fun m=>Int.tmod_eq_emod_of_nonneg (by omega);have hw:∀ m:Nat,IntKind.wrap .i32 (48+(m:Int) % 10)=48+(m:Int) % 10:=fun m=>WB (by simp only[IntKind.inR];exact ⟨by simp;omega,by simp;omega⟩);have hd:∀ m:Nat,((48:Int)+(m:Int) % 10).toNat=48+m % 10:=fun m=>by omega
 have hq:∀ m:Nat,((m:Int).tdiv 10)=(m:Int) / 10:=fun m=>QLe (by omega);have hd2:∀ m:Nat,((48:Int)+(m:Int) / 10 % 10).toNat=48+m / 10 % 10:=fun m=>by omega
 have hm2:∀ m:Nat,(((m:Int) / 10).tmod 10)=(m:Int) / 10 % 10:=fun m=>Int.tmod_eq_emod_of_nonneg (by omega);have hw2:∀ m:Nat,IntKind.wrap .i32 (48+(m:Int) / 10 % 10)=48+(m:Int) / 10 % 10:=fun m=>WB (by simp only[IntKind.inR];exact ⟨by simp;omega,by simp;omega⟩);have hln:=qh n;simp[hneg,hm,hw,hd];refine ⟨by omega,by omega,?_⟩;refine QvF (S:=Nat × Txt) (fun s=>[(0,AV.iv (.int .i64 s.1)),(3,AV.iv (.str s.2))]) (fun _=>[]) (fun s=>s.1<=n/\∃ rest,s.2=UInt8.ofNat (48+s.1 % 10)::rest/\Lib.decDigits s.1++rest=Lib.decDigits n) (fun s=>s.1) ?_ (n,_) ⟨QKJ _,[],by simp,by simp⟩;rintro ⟨m,out⟩ ⟨h1,rest,h2,h3⟩ ih;simp only at h1 h2 h3 ih |-;have hl:=congrArg List.length h3;simp only[QKP] at hl;rw[Qa Qv4.eq_1];by_cases h9:9<m
 ·have h9':(9:Int)<(m:Int):=by omega
  have ih:=ih (m / 10,UInt8.ofNat (48+m / 10 % 10)::out) ⟨by simp only;omega,out,rfl,by
   rw[h2,<- h3,JI m h9];simp⟩ (by simp only;omega)
  simp[h9',hq,hm2,hw2,hd2];refine ⟨by omega,by omega,⟨by omega,by omega⟩,by grind,?_⟩;simpa using ih
 ·have h9':¬ (9:Int)<(m:Int):=by omega
  have:Lib.decDigits n=out:=by
   rw[<- h3,Jc m (by omega),h2]
   have:m % 10=m:=by omega
   grind
  simp[h9',this]
theorem QpU (n:Int) (h : -1000000000000000<=n/\n<=1000000000000000):Gd K 13 [.int .i64 n] (.str (Lib.itoa n)):=by
 by_cases hn:n<0
 ·have hg:=QpT hK n.natAbs (by omega);have e1:Lib.itoa n=45::Lib.decDigits n.natAbs:=by
   unfold Lib.itoa;rw[if_pos hn]
  have e2:((n.natAbs:Nat):Int)=0-n:=by omega
  have hl:=qh n.natAbs;refine Qb hK Qv3 (by simp) ?_;have m1:(if (1:Int) < -n then -n else 1)=((n.natAbs:Nat):Int):=by split<;>omega
  rw[e1];simp[hn,m1];refine ⟨by omega,cK (by simpa using hg) ?_⟩;simp;omega
 have e1:Lib.itoa n=Lib.decDigits n.toNat:=by
  unfold Lib.itoa;rw[if_neg hn]
 have hg:=QpT hK n.toNat (by omega);grind
omit hK
def Qbx (l:List Int):Prop:=l.length<=1000000/\∀ n∈l,-1000000000000000<=n/\n<=1000000000000000
theorem YI {n:Int} (h : -1000000000000000<=n/\n<=1000000000000000):Qbx [n]:=⟨by simp,by simpa using h⟩
theorem Qe9 {a b:Int} (h : -1000000000000000<=a/\a<=1000000000000000) (h' : -1000000000000000<=b/\b<=1000000000000000):Qbx [a,b]:=⟨by simp,by
 grind⟩
theorem Qfa:Qbx []:=⟨by simp,by simp⟩
theorem QhQ (n:Nat):∀ k,n<10 ^ k->0<k->(Lib.decDigits n).length<=k:=by
 induction n using Nat.strongRecOn with
 | ind n ih =>
   intro k hk h0;by_cases h:n<=9
   ·rw[Jc n h];simp;omega
   rw[JI n (by omega)]
   obtain ⟨j,rfl⟩:∃ j,k=j+1:=⟨k-1,by omega⟩;have hj:0<j:=by
    grind
   have:=ih (n / 10) (by omega) j (by omega) hj;simp;omega
theorem Ql3 {n:Int} (h : -1000000000000000<=n/\n<=1000000000000000):(Lib.itoa n).length<=20:=by
 unfold Lib.itoa;split
 ·have:=QhQ n.natAbs 16 (by omega) (by omega);simp;omega
 have:=QhQ n.toNat 16 (by omega) (by omega);omega
theorem Qd4:∀ (l:List Txt) (x:Txt),l≠[]->YO (l++[x])=YO l++(32::x)
 | [],_,h=>absurd rfl h
 | [y],x,_=>rfl
 | y::z::r,x,_=>by
   have:=Qd4 (z::r) x (by simp);simp only[QLp] at this |-;rw[YO,this,YO];simp
theorem Qhk:∀ (l:List Txt) (c:Nat),(∀ x∈l,x.length<=c)->(YO l).length<=(c+1)*l.length
 | [],_,_=>by simp[YO]
 | [x],c,h=>by
   have:=h x (by simp);simp[YO];omega
 | x::y::r,c,h=>by
   have h1:=h x (by simp);have h2:=Qhk (y::r) c fun z hz=>h z (by simp[hz]);simp only[YO,QKP,QKV] at h2 |-
   grind
theorem Qd3 {l:List Int} (h:Qbx l) (i:Nat):(YO ((l.take i).map Lib.itoa)).length<=21000000:=by
 have h1:=Qhk ((l.take i).map Lib.itoa) 20 fun x hx=>by
  obtain ⟨n,hn,rfl⟩:=QKT.1 hx;exact Ql3 (h.2 n (QLw hn))
 have h2:((l.take i).map Lib.itoa).length<=1000000:=by
  have:=h.1;simp;omega
 omega
theorem Qmu {D:Txt} {i:Nat} (hi:i<D.length) (h:Lib.digitVal D[i]=none):Lib.decFrom 0 D=none:=by
 have e:D=D.take i++D[i]::D.drop (i+1):=by simp
 rw[e,Yq];cases Lib.decFrom 0 (D.take i) with
 | none=>rfl
 | some m=>simp[Lib.decFrom,h]
theorem Quj {D:Txt} {i m:Nat} (hi:i<D.length) (hm:Lib.decFrom 0 (D.take i)=some m) (h:48<=D[i].toNat/\D[i].toNat<=57):Lib.decFrom 0 (D.take (i+1))=some (m*10+(D[i].toNat-48)):=by
 rw[QKH hi,Yq,hm];simp[Lib.decFrom,Js,h]
@[simp] abbrev QGa:AC:=.seq (.ops [⟨some 65,none,.xf (.t 4)⟩,⟨some 66,none,.xf (.t 6)⟩,⟨some 67,none,.bin .mul (.t 65) (.t 66)⟩,⟨some 2,none,.xf (.t 67)⟩,⟨some 3,none,.xf (.bool true)⟩] false) .ret
theorem QoQ {K:World->Prop} (sg:Int) (hsg:sg=1\/sg = -1) (D:Txt) (hD:D.length<=9) (r:Int) (b:Bool) (hs:∀ m,Lib.decFrom 0 D=some m->r=sg*m/\b=true) (hn:Lib.decFrom 0 D=none->r=0/\b=false) :
  Xa prog K (FnF (QnU [Qdt.tmp 2,Qdt.tmp 3] (.xd [.int .i64 r,.bool b]))) QcZ [4,5,6,7] [] [AI.inBlock 0,AI.code QGa] [(4,.iv (.int .i64 sg)),(5,.iv (.str D)),(6,.iv (.int .i64 0)),(7,.iv (.int .i64 0))] []:=by
 refine Qi (fun i=>[(4,AV.iv (.int .i64 sg)),(5,AV.iv (.str D)),(6,AV.iv (.int .i64 (((Lib.decFrom 0 (D.take i)).getD 0:Nat):Int))),(7,AV.iv (.int .i64 (i:Nat)))]) (fun _=>[]) D.length (fun i=>(Lib.decFrom 0 (D.take i)).isSome=true) (by simp[Lib.decFrom]) ?_ ?_
 ·intro h;rw[QK0] at h;obtain ⟨m,hm⟩:=QLf.1 h;obtain ⟨rfl,rfl⟩:=hs m hm;have xa:=decFrom_lt D m D.length (QKJ _) (by grind);have hb:(10:Nat) ^ D.length<=10 ^ 9:=QLS (by omega) hD;rw[Qa QcZ.eq_1];simp[hm];grind
 ·intro i hi h ih;obtain ⟨m,hm⟩:=QLf.1 h;have xa:=decFrom_lt D m i (by omega) hm;have hb:(10:Nat) ^ i<=10 ^ 9:=QLS (by omega) (by omega);have hc:D[i].toNat<256:=D[i].toNat_lt;rw[Qa QcZ.eq_1];by_cases h1:D[i].toNat<48
  ·obtain ⟨rfl,rfl⟩:=hn (Qmu hi (by rw[Js,if_neg (by omega)]));have h1':(D[i].toNat:Int)<48:=by omega
   simp[hi,h1',hm]
  ·have h1':¬ (D[i].toNat:Int)<48:=by omega
   by_cases h2:57<D[i].toNat
   ·obtain ⟨rfl,rfl⟩:=hn (Qmu hi (by rw[Js,if_neg (by omega)]));have h2':(57:Int)<(D[i].toNat:Int):=by omega
    simp[hi,h1',h2',hm]
   ·have h2':¬ (57:Int)<(D[i].toNat:Int):=by omega
    have hstep:=Quj hi hm (by omega);have ih:=ih (by rw[hstep];rfl);rw[hstep] at ih;have hw:IntKind.wrap .i64 ((D[i].toNat:Int)-48)=(D[i].toNat:Int)-48:=wrap_i64 (by omega) (by omega);have e2:(10:Int)*m+((D[i].toNat:Int)-48)=((m*10+(D[i].toNat-48):Nat):Int):=by omega
    simp only[QLB] at ih;rw[<- e2] at ih;simp[hi,h1',h2',hm,hw] at ih |-
    grind
theorem QaE (ws:List Txt) (w:Txt):XQ (ws++[w])=match XQ ws,QdU w with | some l,some n=>some (l++[n]) | _,_=>none:=by
 induction ws with
 | nil=>simp only[QLm,XQ];grind
 | cons x r ih =>
   simp only[QLp,XQ,ih];grind
def WR (t:Txt):Txt × List Int × Bool:=match spl t with
 | []=>([],[],false)
 | w::ws=>match XQ ws with
   | none=>([],[],false)
   | some l=>(w,l,decide ((l.length:Int)=match Vz w with | some p=>(p.1:Int) | none => -1))
theorem Qcf:∀ {ws:List Txt} {l:List Int},XQ ws=some l->∀ w∈ws,(QdU w).isSome=true
 | [],_,_,w,hw=>by simp at hw
 | x::r,l,h,w,hw=>by
   simp only[XQ] at h;split at h
   ·rename_i n l' h1 h2;rcases QKU.1 hw with rfl | hw
    ·rw[h1];rfl
    exact Qcf h2 w hw
   cases h
include hK
theorem QCc (l:List Int) (h:Qbx l):Gd K 12 [QU l] (.str (YN l)):=by
 refine Qb hK (fk func12 c12 (by kernel_rfl)) (by simp) ?_;unfold YN;cases l with
 | nil=>simp[Qgl]
 | cons x r =>
   have hx:=QpU hK x (h.2 x (by simp));have hl:=h.1;simp at hl;have hne:¬ (r.length:Int)+1=0:=by omega
   simp[hne];intro _;refine cK (by simpa using hx) ?_;simp;refine Qi (fun i=>[(0,AV.iv (QU (x::r))),(3,AV.iv (.str (YO (((x::r).take (i+1)).map Lib.itoa)))),(4,AV.iv (.int .i64 ((i+1:Nat):Int)))]) (fun _=>[]) r.length (fun _=>True) trivial ?_ ?_
   ·intro _;rw[Qa Qry.eq_1];simp[QKM]
   intro i hi _ ih;have e1:(x::r).take (i+1+1)=(x::r).take (i+1)++[r[i]]:=by
    rw[QKH (by simp;omega)]
    simp
   have h1:=Qd3 h (i+1);have h2:=h.2 r[i] (by simp);have h3:=Ql3 h2;have hg:=QpU hK r[i] h2;rw[e1,QK3,QMj,Qd4 _ _ (by simp)] at ih;generalize YO (((x::r).take (i+1)).map Lib.itoa)=X at *;rw[Qa Qry.eq_1];have hi2:((i:Int)+1)<(r.length:Int)+1:=by omega
   have hi3:((i:Int)+1).toNat=i+1:=by omega
   simp[hi,hi2,hi3];intro _;refine ⟨by omega,cK (by simpa using hg) ?_⟩;simp at ih |-
   grind
theorem Qy7 (w:Txt) (hw:w.length<=1000):Gd K 140 [.str w] (.xd [.int .i64 ((QdU w).getD 0),.bool (QdU w).isSome]):=by
 refine Qb hK (fk func140 QJt (by kernel_rfl)) (by simp) ?_;rw[QoF]
 have head_of:∀ (D:Txt) (h:0<D.length),(D.head?=some 48↔((D[0]'h).toNat:Int)=48):=fun D h=>by
  cases D with
  | nil=>simp at h
  | cons d r =>
    simp only[List.head?_cons,Option.some.injEq,QLF];rw[<- UInt8.toNat_inj];simp;omega
 by_cases h45:w.head?=some 45
 ·obtain ⟨D,hwD⟩:∃ D,w=45::D:=by
   cases w with
   | _=>grind
  have f5:0<w.length:=by rw[hwD];simp
  have f1:(0:Int)<w.length:=by omega
  have f2:((w[0]'f5).toNat:Int)=45:=by subst hwD;rfl
  have f3:w.tail=D:=by rw[hwD];rfl
  have f4:(1:Int)<=w.length:=by omega
  rw[if_pos h45,List.drop_one,f3];clear hwD;by_cases c1:D.length=0
  ·have hD:=QKR c1;have n1:QaS true D=none:=by simp[QaS,c1]
   subst hD;simp[f1,f2,f3,f4,f5,n1]
  have c1':¬ (D.length:Int)=0:=by omega
  have c0:0<D.length:=by omega
  by_cases c2:9<D.length
  ·have n1:QaS true D=none:=by simp[QaS,c2]
   have c2':(9:Int)<D.length:=by omega
   simp[f1,f2,f3,f4,f5,n1,c1',c2',c0]
  have c2':¬ (9:Int)<D.length:=by omega
  have hh:=head_of D c0;by_cases c3:((D[0]'c0).toNat:Int)=48
  ·have n1:QaS true D=none:=by simp[QaS,hh.2 c3]
   simp[f1,f2,f3,f4,f5,n1,c1',c2',c0,c3]
  have n1:QaS true D=Lib.decFrom 0 D:=by simp[QaS,c1,c2,mt hh.1 c3]
  rw[n1];have lp:=QoQ (K:=K) (-1) (.inr rfl) D (by omega) (((Lib.decFrom 0 D).map fun (m:Nat) => -(m:Int)).getD 0) ((Lib.decFrom 0 D).map fun (m:Nat) => -(m:Int)).isSome (fun m h=>by simp[h]) (fun h=>by simp[h]);simp at lp;have ne:¬ D=[]:=fun e=>c1 (by rw[e];rfl);simp[f1,f2,f3,f4,f5,c1',c2',c0,c3,ne];exact lp
 ·rw[if_neg h45]
  by_cases c1:w.length=0
  ·have hD:=QKR c1;have n1:QaS false w=none:=by simp[QaS,c1]
   subst hD;simp[n1]
  have f1:(0:Int)<w.length:=by omega
  have f5:0<w.length:=by omega
  have f2:¬ ((w[0]'f5).toNat:Int)=45:=by
   cases w with
   | nil=>simp at c1
   | cons d r =>
     simp only[List.head?_cons,Option.some.injEq] at h45;rw[<- UInt8.toNat_inj] at h45;grind
  have c1':¬ (w.length:Int)=0:=by omega
  have ne:¬ w=[]:=fun e=>c1 (by rw[e];rfl);by_cases c2:9<w.length
  ·have n1:QaS false w=none:=by simp[QaS,c2]
   have c2':(9:Int)<w.length:=by omega
   simp[f1,f2,f5,n1,c1',c2']
  have c2':¬ (9:Int)<w.length:=by omega
  have hh:=head_of w f5;have fin:QaS false w=Lib.decFrom 0 w->Xa prog K (FnF (QnU [Qdt.tmp 2,Qdt.tmp 3] (.xd [.int .i64 (((QaS false w).map fun (m:Nat)=>(m:Int)).getD 0),.bool ((QaS false w).map fun (m:Nat)=>(m:Int)).isSome]))) QcZ [4,5,6,7] [] [AI.inBlock 0,AI.code QGa] [(4,.iv (.int .i64 1)),(5,.iv (.str w)),(6,.iv (.int .i64 0)),(7,.iv (.int .i64 0))] []:=fun n1=>by
   rw[n1];exact QoQ (K:=K) 1 (.inl rfl) w (by omega) _ _ (fun m h=>by simp[h]) (fun h=>by simp[h])
  by_cases c3:((w[0]'f5).toNat:Int)=48
  ·by_cases c4:1<w.length
   ·have n1:QaS false w=none:=by simp[QaS,c4,hh.2 c3]
    have c4':(1:Int)<w.length:=by omega
    simp[f1,f2,f5,n1,c1',c2',c3,c4']
   have n1:QaS false w=Lib.decFrom 0 w:=by simp[QaS,c1,c2,c4]
   have c4':¬ (1:Int)<w.length:=by omega
   have lp:=fin n1;simp at lp;simp[f1,f2,f5,c1',c2',c3,c4',ne];exact lp
  ·have n1:QaS false w=Lib.decFrom 0 w:=by simp[QaS,c1,c2,mt hh.1 c3]
   have lp:=fin n1;simp at lp;simp[f1,f2,f5,c1',c2',c3,ne];exact lp
theorem QBW (t:Txt) (ht:t.length<=1000):Gd K 46 [.str t] (.xd [.str (WR t).1,QU (WR t).2.1,.bool (WR t).2.2]):=by
 refine Qb hK (fk func46 c46 (by kernel_rfl)) (by simp) ?_;have hsl:=QeO t;have hwl:=Qan t;have hg:=Qy8 hK t ht;unfold WR;cases hs:spl t with
 | nil=>exact absurd hs (Qoc t [])
 | cons w ws =>
   rw[hs] at hg hsl hwl;simp at hsl;simp;refine cK (by simpa using hg) ?_;simp;refine Qi (fun i=>[(3,AV.yl 3 ((XQ (ws.take i)).getD []).length),(5,AV.iv (strs (w::ws))),(6,AV.iv (.int .i64 ((i+1:Nat):Int)))]) (fun i=>[(3,.arr 3 1 (emb (((XQ (ws.take i)).getD []).map fun n=>[.int .i64 n])) 0)]) ws.length (fun i=>(XQ (ws.take i)).isSome=true) (by simp[XQ]) ?_ ?_
   ·intro h;rw[QK0] at h;obtain ⟨l,hl⟩:=QLf.1 h;have hll:=V1 hl;have hn:=Qy6 hK w;rw[Qa Qq7.eq_1];simp[hl];intro _ _;refine cK (by simpa using hn) ?_;simp
    try exact Iff.rfl
   intro i hi h ih;obtain ⟨l,hl⟩:=QLf.1 h;have hll:=V1 hl;simp at hll;have hg2:=Qy7 hK ws[i] (by grind);have e1:ws.take (i+1)=ws.take i++[ws[i]]:=QKH hi;rw[Qa Qq7.eq_1];have hi2:((i:Int)+1)<(ws.length:Int)+1:=by omega
   have hi3:((i:Int)+1).toNat=i+1:=by omega
   cases hv:QdU ws[i] with
   | none =>
     have hn:XQ ws=none:=by
      cases hq:XQ ws with
      | none=>rfl
      | some l' =>
        have:=Qcf hq ws[i] (by simp);grind
     rw[hv] at hg2;simp[hi,hi2,hi3,hl];intro _;refine ⟨by omega,cK (by simpa using hg2) ?_⟩;simp[hn]
   | some n =>
     rw[hv] at hg2;have e2:XQ (ws.take (i+1))=some (l++[n]):=by rw[e1,QaE,hl,hv]
     have ih:=ih (by rw[e2];rfl);rw[e2] at ih;simp[hi,hi2,hi3,hl] at ih |-;intro _;refine ⟨by omega,cK (by simpa using hg2) ?_⟩;simp;grind
omit hK
def X3 (n:Int):Prop := -1<=n/\n<=99
theorem WS {n:Int} (h:X3 n):QdU (Lib.itoa n)=some n/\(32:UInt8) ∉ Lib.itoa n/\(Lib.itoa n).length<=3:=by
 have all:∀ k∈List.range 101,QdU (Lib.itoa ((k:Nat)-1:Int))=some ((k:Nat)-1:Int)/\(32:UInt8) ∉ Lib.itoa ((k:Nat)-1:Int)/\(Lib.itoa ((k:Nat)-1:Int)).length<=3:=by decide +kernel
 unfold X3 at h;have:=all (n+1).toNat (QLa.2 (by omega));have e:(((n+1).toNat:Nat):Int)-1=n:=by omega
 rw[e] at this;exact this
theorem Qa7:∀ l:List Int,l≠[]->(∀ n∈l,X3 n)->spl (YO (l.map Lib.itoa))=l.map Lib.itoa
 | [],h,_=>absurd rfl h
 | [a],_,h=>by
   simp only[QKZ,QL8,YO];exact Uq _ (WS (h a (by simp))).2.1
 | a::b::r,_,h=>by
   have ih:=Qa7 (b::r) (by simp) fun n hn=>h n (by simp[hn]);simp only[QKZ,YO] at ih |-;rw[VM,Uq _ (WS (h a (by simp))).2.1,ih];rfl
theorem UA:∀ l:List Int,(∀ n∈l,X3 n)->XQ (l.map Lib.itoa)=some l
 | [],_=>rfl
 | a::r,h=>by
   have ih:=UA r fun n hn=>h n (by simp[hn]);simp only[QKZ,XQ,(WS (h a (by simp))).1,ih]
theorem W0:∀ l:List Int,(∀ n∈l,X3 n)->(YO (l.map Lib.itoa)).length<=4*l.length
 | [],_=>by simp[YO]
 | [a],h=>by
   have:=(WS (h a (by simp))).2.2;simp[YO];omega
 | a::b::r,h=>by
   have ih:=W0 (b::r) fun n hn=>h n (by simp[hn]);have:=(WS (h a (by simp))).2.2;simp only[QKZ,YO,QKP,QKV] at ih |-;omega
theorem Vh {l:List Int} (h:l≠[]):YN l=YO (l.map Lib.itoa):=by simp[YN,h]
theorem QoB (l:List Int) (hl:l.length=5) (h:∀ n∈l,X3 n):XO ([115,101,101,32]++YN l)=some (.see,l):=by
 have hne:l≠[]:=by
  intro e;subst e;simp at hl
 have e:([115,101,101,32]++YN l:Txt)=[115,101,101]++32::YN l:=rfl;unfold XO;rw[e,VM,Uq [115,101,101] (by decide),Vh hne,Qa7 l hne h];have hv:Vz [115,101,101]=some (5,.see):=by decide +kernel
 simp only[QLp,QLm,hv,QKX,hl,if_true,UA l h,QLO]
theorem QoA {n:Int} (h:X3 n):XO ([119,104,111,32]++Lib.itoa n)=some (.who,[n]):=by
 have e:([119,104,111,32]++Lib.itoa n:Txt)=[119,104,111]++32::Lib.itoa n:=rfl;have hv:Vz [119,104,111]=some (1,.who):=by decide +kernel
 unfold XO;rw[e,VM,Uq [119,104,111] (by decide),Uq _ (WS h).2.1];simp only[QLp,QLm,hv,QKV,QK4,QKY,if_true,XQ,(WS h).1,QLO]
theorem Qni (l:List Int) (hne:l≠[]) (h:∀ n∈l,X3 n):(WR ([119,104,111,32]++YN l)).2.1=l:=by
 have e:([119,104,111,32]++YN l:Txt)=[119,104,111]++32::YN l:=rfl;unfold WR;rw[e,VM,Uq [119,104,111] (by decide),Vh hne,Qa7 l hne h];simp only[QLp,QLm,UA l h]
theorem Qnp {l:List Int} (hne:l≠[]) (h:∀ n∈l,X3 n):YN l≠Qgl:=by
 intro e;rw[Vh hne] at e;have h1:=UA l h;rw[<- Qa7 l hne h,e] at h1;rw[show XQ (spl Qgl)=none by decide +kernel] at h1;cases h1
structure QrU (c:Qf):Prop where
 ok:OkC c
 two:Z2 c.za=0
 right:Qn c≠[]
theorem QrU.right0 {c:Qf} (h:QrU c):Qn c=[0]:=by
 have h1:=h.right;unfold Qn at h1 |-;rw[h.two] at h1 |-;simp only[Nat.pow_zero,List.range_one] at h1 |-;rw[List.filter_cons] at h1 |-;split at h1
 ·rename_i h2;simp[h2]
 simp at h1
theorem QrU.ask {c:Qf} (h:QrU c) {p:Prop} [Decidable p] (hp:p):Xu c (decide p)=0:=by
 unfold Xu;simp[h.ok,hp,h.right]
def Qnj (c:Qf) (pos:Int) (m:Int × Int):Bool :=
 decide (inR pos 0 (Ql c.za-1))&&(decide (m.1<0)||decide (m.1=QrE c pos 0))&&(decide (m.2<0)||decide (m.2=XC c pos 0))
def Ud (c:Qf) (ms:List (Int × Int)) (at_ way:Int):Prop:=∀ i (h:i<ms.length),Qnj c (at_+way*i) ms[i]=true
noncomputable instance (c:Qf) (ms:List (Int × Int)) (at_ way:Int):Decidable (Ud c ms at_ way):=Classical.propDecidable _
include hK
theorem QBi (c:Qf) (hc:QrU c) (pos:Int) (hp:inR pos 0 (Ql c.za-1)):Gd K 308 [chV c,.int .i64 pos] (.xd [QU [QrE c pos 0],.int .i64 0]):=by
 have h:=QxW hK c pos (by have:=hc.ok.len;omega) (by have:=hc.ok.slen;omega);rw[hc.ask hp,hc.right0] at h;simpa[JO] using h
theorem QoC (c:Qf) (hc:QrU c) (pos:Int) (hp:inR pos 0 (Ql c.za-1)):Gd K 234 [chV c,.int .i64 pos] (.xd [QU [XC c pos 0],.int .i64 0]):=by
 have h:=Qyr hK c pos (by have:=hc.ok.len;omega) (by have:=hc.ok.slen;omega);rw[hc.ask hp,hc.right0] at h;simpa[JO] using h
theorem QvC (c:Qf) (hc:QrU c) (pos:Int) (hp:inR pos 0 (Ql c.za-1)):Gd K 101 [chV c,.int .i64 pos] (.xd [QU [UT c pos 0],.int .i64 0]):=by
 have h:=Qfv hK c pos (by have:=hc.ok.len;omega) (by have:=hc.ok.slen;omega);rw[hc.ask hp,hc.right0] at h;simpa[JO] using h
theorem Qce (x e:Int):Gd K 232 [QU [x],.int .i64 e] (.int .i64 x):=by
 simpa using Qyt hK [x] e (by simp)
theorem Qfn (c:Qf) (l:Zs) (at_ way:Int) (hc:QrU c) (hm:l.marks.length<=8) (ha : -1000<=at_/\at_<=1000) (hw:way=1\/way = -1) :
  Gd K 231 [chV c,.agg (QBh l),.int .i64 at_,.int .i64 way] (.bool (decide (Ud c l.marks at_ way))):=by
 refine Qb hK (fk func231 QIc (by kernel_rfl)) (by simp) ?_;have h12:=hc.ok.len;have hlb:=hc.ok.za.cnt c.za.length (QKJ _) (QKJ _);have hlb':0<=Ql c.za/\Ql c.za<=12:=by unfold Ql;omega
 have no:∀ q:Prop,(Ud c l.marks at_ way->q)->¬ q->¬ Ud c l.marks at_ way:=fun q h1 h2 h=>h2 (h1 h);simp;refine cK (by simpa using qU hK c (by omega) (by have:=hc.ok.slen;omega)) ?_;simp[hc.ok]
 (repeat' first|omega|with_reducible apply And.intro|intro)
 refine Qi (fun i=>[(2,AV.iv (.int .i64 at_)),(3,AV.iv (.int .i64 way)),(4,AV.iv (.ptr [Qz c.za,Qu c.zg,.int .i64 c.zh])),(9,AV.iv (.int .i64 (Ql c.za))),(20,AV.iv (ZV l.marks)),(21,AV.iv (.int .i64 l.marks.length)),(22,AV.iv (IV.int IntKind.i64 (i:Nat)))])
  (fun _=>[]) l.marks.length (fun i=>∀ k (h:k<l.marks.length),k<i->Qnj c (at_+way*k) l.marks[k]=true) (fun k h hk=>by omega) ?_ ?_
 ·intro h;have:Ud c l.marks at_ way:=fun i hi=>h i hi hi;rw[Qa QkJ.eq_1];simp[this]
 intro i hi h ih;have hwi : -8<=way*(i:Int)/\way*(i:Int)<=8:=by rcases hw with rfl | rfl<;>omega
 have hn:Qnj c (at_+way*i) l.marks[i]=false->¬ Ud c l.marks at_ way:=fun h1=>no _ (fun h2=>h2 i hi) (by simp[h1]);have hy:Qnj c (at_+way*i) l.marks[i]=true->∀ k (h:k<l.marks.length),k<i+1->Qnj c (at_+way*k) l.marks[k]=true:=fun h1 k hk hki=>by
  rcases QMt.1 hki with h2 | h2
  ·exact h k hk h2
  subst h2;exact h1
 rw[Qa QkJ.eq_1];simp[hi] at ih |-;generalize hmk:l.marks[i]=m at *;generalize way*(i:Int)=W at *;refine ⟨by omega,by omega,by omega,?_⟩;refine cK (Ub hK _ _ _) ?_;by_cases hin:inR (at_+W) 0 (Ql c.za-1);rotate_left
 ·have:=hn (by simp[Qnj,hin]);simp[hin,this]
 have hok:Qnj c (at_+W) m=true↔(m.1<0\/m.1=QrE c (at_+W) 0)/\(m.2<0\/m.2=XC c (at_+W) 0):=by simp[Qnj,hin]
 have hn':¬ ((m.1<0\/m.1=QrE c (at_+W) 0)/\(m.2<0\/m.2=XC c (at_+W) 0))->¬ Ud c l.marks at_ way:=fun h1=>hn (by
  rw[Bool.eq_false_iff];exact fun h2=>h1 (hok.1 h2))
 have hB:=QBi hK c hc _ hin;have hS:=QoC hK c hc _ hin;simp[hin];by_cases a1:0<=m.1
 ·have a1':¬ m.1<0:=by omega
  simp[a1,a1'];refine cK (by simpa using hB) ?_;simp;refine cK (by simpa using Qce hK (QrE c (at_+W) 0) 0) ?_;by_cases b1:m.1=QrE c (at_+W) 0;rotate_left
  ·have:=hn' (by omega);simp[b1,this]
  simp[b1];by_cases a2:0<=m.2
  ·have a2':¬ m.2<0:=by omega
   simp[a2,a2'];refine cK (by simpa using hS) ?_;simp;refine cK (by simpa using Qce hK (XC c (at_+W) 0) 0) ?_;by_cases b2:m.2=XC c (at_+W) 0
   ·simp[b2]
    (repeat' first|omega|with_reducible apply And.intro|intro)
    exact ih (hy (hok.2 ⟨.inr b1,.inr b2⟩))
   have:=hn' (by omega);simp[b2,this]
  have a2':m.2<0:=by omega
  simp[a2,a2']
  (repeat' first|omega|with_reducible apply And.intro|intro)
  exact ih (hy (hok.2 ⟨.inr b1,.inl a2'⟩))
 have a1':m.1<0:=by omega
 simp[a1,a1'];by_cases a2:0<=m.2
 ·have a2':¬ m.2<0:=by omega
  simp[a2,a2'];refine cK (by simpa using hS) ?_;simp;refine cK (by simpa using Qce hK (XC c (at_+W) 0) 0) ?_;by_cases b2:m.2=XC c (at_+W) 0
  ·simp[b2]
   (repeat' first|omega|with_reducible apply And.intro|intro)
   exact ih (hy (hok.2 ⟨.inl a1',.inr b2⟩))
  have:=hn' (by omega);simp[b2,this]
 have a2':m.2<0:=by omega
 simp[a2,a2']
 (repeat' first|omega|with_reducible apply And.intro|intro)
 exact ih (hy (hok.2 ⟨.inl a1',.inl a2'⟩))
theorem Qje:∀ (n:Nat) (c:Qf),Z2 c.za=n->c.za.length<=1000->c.zg.length<=1000->qu prog K 307 [chV c] [] ((QL c).map UP) (fun b=>.bool b)
 | 0,c,hn,hl,hs=>by
   intro s b s' hf;refine Qy Qrk (by simp) hf.v rfl ?_;have hfi:=QoH _ hn;rw[Qct c hn] at hf;simp
   (repeat' first|omega|with_reducible apply And.intro|intro)
   refine Qi (fun i=>[(1,AV.cb 0),(2,AV.iv (.ptr [Qz c.za,Qu c.zg,.int .i64 c.zh])),(12,AV.iv (Qz c.za)),(13,AV.iv (.int .i64 c.za.length)),(14,AV.iv (IV.int IntKind.i64 (i:Nat)))]) (fun _=>[(0,.ext s)]) c.za.length (fun _=>True) trivial ?_ ?_
   ·intro _;rw[Qa QfQ.eq_1];simp;refine cK (by simpa using Qpt hK c (pmC c) (Qgk hK c) hl hs) ?_;by_cases h1:Xu c true=0
    ·simp[h1] at hf |-
     cases hf with
     | stop _ _ _ _ hg =>
       refine QR (by simpa[UP] using hg) rfl ?_;simp
     | next _ _ _ s1 _ _ hg hr =>
       cases hr;refine QR (by simpa[UP] using hg) rfl ?_;simp
    simp[h1] at hf |-;cases hf;grind
   intro i hi _ ih;have h2:=hfi _ (QKL hi);have h2':¬ c.za[i].z2=2:=by simpa[ZF] using h2
   rw[Qa QfQ.eq_1];simp[hi,h2'] at ih |-
   grind
 | n+1,c,hn,hl,hs=>by
   intro s b s' hf;refine Qy Qrk (by simp) hf.v rfl ?_;obtain ⟨i,h1,h2,h3,h4,h5⟩:=QjN c.za (by omega);have hne:c.za≠[]:=fun e=>by grind
   have hgc:=clone84 (K:=K) c.za hl hne;have ih0:=Qje n { c with za:=c.za.set i (VP c.za[i] 0) } (by grind) (by simpa using hl) hs;have ih1:=Qje n { c with za:=c.za.set i (VP c.za[i] 1) } (by grind) (by simpa using hl) hs;have hkn:QL c=QL { c with za:=c.za.set i (VP c.za[i] 0) }++QL { c with za:=c.za.set i (VP c.za[i] 1) }:=by
    unfold QL;grind
   rw[hkn,QK3] at hf;generalize hL0:QL { c with za:=c.za.set i (VP c.za[i] 0) }=L0 at *
   generalize hL1:QL { c with za:=c.za.set i (VP c.za[i] 1) }=L1 at *
   simp
   (repeat' first|omega|with_reducible apply And.intro|intro)
   refine Qi (fun k=>[(1,AV.cb 0),(2,AV.iv (.ptr [Qz c.za,Qu c.zg,.int .i64 c.zh])),(12,AV.iv (Qz c.za)),(13,AV.iv (.int .i64 c.za.length)),(14,AV.iv (IV.int IntKind.i64 (k:Nat)))]) (fun _=>[(0,.ext s)]) c.za.length (fun k=>k<=i) (by omega) ?_ ?_
   ·intro h;omega
   ·intro q hq hqi ih;rw[Qa QfQ.eq_1];by_cases hqe:q=i;rotate_left
    ·have xa:q<i:=by omega
     have h6:=h1 c.za[q] (by
      rw[List.mem_take_iff_getElem];exact ⟨q,by omega,rfl⟩)
     have h6':¬ c.za[q].z2=2:=by simpa[ZF] using h6
     simp[hq,h6'] at ih |-;refine ⟨by omega,ih (by omega)⟩
    ·subst hqe;clear ih;simp[hq,h3]
     refine Xd 2 (fun k e o=>∃ si,e=[(1,AV.cb 0),(2,AV.iv (.ptr [Qz c.za,Qu c.zg,.int .i64 c.zh])),(5,AV.iv (.int .i64 (q:Nat))),(22,AV.iv (.int .i64 (k:Nat)))]/\o=[(0,.ext si)] /\
      Q9 prog K (if k=0 then L0.map UP++L1.map UP else if k=1 then L1.map UP else []) si b s') ?_ ?_ _ _ ⟨s,by simp,by simp,by simpa using hf⟩
     ·rintro e o ⟨si,rfl,rfl,hfd⟩;cases hfd;rw[Qa Qkr.eq_1];simp
     ·rintro k e o hk ⟨si,rfl,rfl,hfd⟩ ih;have hk2:k=0\/k=1:=by omega
      rw[Qa Qkr.eq_1]
      have hset:∀ x:Int,(List.map (List.map AV.iv∘dC) c.za).set q [AV.iv (.int .i64 c.za[q].zp),AV.iv (.int .i64 c.za[q].pos),AV.iv (.int .i64 x),AV.iv (.int .i64 c.za[q].bar),AV.iv (.int .i64 c.za[q].z1)]=emb ((c.za.set q (VP c.za[q] x)).map dC):=fun x=>by
       simp[emb,List.map_set,VP]
      rcases hk2 with rfl | rfl
      ·simp only[if_true] at hfd;simp;refine Z9 hgc (by simp) ?_;simp[h2,hset,QKM];rcases hfd.append with ⟨s1,hf1,hf2⟩ | ⟨rfl,hf1⟩
       ·refine Zg (by simpa[QKM] using ih0 _ _ _ hf1) rfl ?_;simp;exact ih _ _ ⟨s1,by simp,by simp,by simpa using hf2⟩
       refine Zg (by simpa[QKM] using ih0 _ _ _ hf1) rfl ?_;simp
      ·simp only[if_true] at hfd;simp at hfd;simp;refine Z9 hgc (by simp) ?_;simp[h2,hset,QKM];refine Zg (by simpa[QKM] using ih1 _ _ _ hfd) rfl ?_;cases b
       ·simp
       ·simp;exact ih _ _ ⟨s',by simp,by simp,by simpa using Q9.nil _⟩
theorem Qw9 (c:Qf) (hl:c.za.length<=1000) (hs:c.zg.length<=1000):∀ s b s',Q9 prog K ((QL c).map UP) s b s'->Qh6 prog K 306 [] [.ptr [Qz c.za,Qu c.zg,.int .i64 c.zh]] s (.xd []) s':=by
 intro s b s' hf;refine Qy (fk func306 QHf (by kernel_rfl)) (by simp) hf.v rfl ?_;have h:=Qje hK (Z2 c.za) c rfl hl hs s b s' hf;simp;refine Zg (by simpa using h) rfl ?_;simp
theorem Qyu (c:Qf):Gd K 230 [chV c] (.clo 306 [] [.ptr [Qz c.za,Qu c.zg,.int .i64 c.zh]]):=by
 refine Qb hK (fk func230 QId (by kernel_rfl)) (by simp) ?_;simp
end Go.Pf
